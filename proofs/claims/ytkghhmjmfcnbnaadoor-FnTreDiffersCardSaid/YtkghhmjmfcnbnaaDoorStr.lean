/- Strings held equal or not, in the walk's own spelling. No program stands in it. -/
import Derived.WalkKit
namespace Go.Proofs.YtkghhmjmfcnbnaaDoor
open Go.RowKit
theorem bytes_ext {a b : ByteArray} (h : a.toList = b.toList) : a = b := by
  rw [ByteArray.toList_eq, ByteArray.toList_eq] at h
  cases a; cases b
  simp only at h
  congr 1
  exact Array.toList_inj.1 h
theorem beq_of_eq {a b : ByteArray} (h : a = b) : (a.toList == b.toList) = true := by rw [h]; simp
theorem beq_of_ne {a b : ByteArray} (h : ¬ a = b) : (a.toList == b.toList) = false := by
  rw [beq_eq_false_iff_ne]
  exact fun e => h (bytes_ext e)
end Go.Proofs.YtkghhmjmfcnbnaaDoor
