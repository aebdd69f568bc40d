/- Rows of strings: equality, marks. -/
import Derived.Test.YtfiempmdmkoagaaDoorMem
import Derived.Test.YtfiempmdmkoagaaDoorMark
import Derived.Test.YtfiempmdmkoagaaDoorStr
import Derived.Test.YtfiempmdmkoagaaDoorBel
import Derived.BigQuiet
import Derived.Deep.QuietTactic
namespace Go.Proofs.YtfiempmdmkoagaaDoor
open Go.RowKit

/-- the cells of a string -/
def strC (x : ByteArray) : List Value := [.string x]
theorem strC_len (x : ByteArray) : (strC x).length = 1 := rfl
theorem strC_flat (xs : List ByteArray) : xs.flatMap strC = xs.map Value.string := by
  induction xs with
  | nil => rfl
  | cons x xs ih => simp [List.flatMap_cons, strC, ih]
theorem Tryd.infoStr : (Tryd.prog.info? 9).map (fun i => (i.zero, i.size, i.bytes)) = some (some (.string ByteArray.empty), 1, 16) := by kernel_rfl
theorem str_at {w : World} {v : Value} {zs : List ByteArray} (h : Sl 1 strC w v zs) : ∃ A c, v = .slice A zs.length c ∧ c ≤ maxLen ∧ zs.length ≤ c ∧
    ∀ k, k < zs.length → ∃ (x : ByteArray) (b off : Nat), zs[k]? = some x ∧ A = some ⟨b, off, none⟩ ∧ b < w.heap.size ∧ w.cell? ⟨b, off + k, none⟩ = some (.string x) := by
  obtain ⟨A, c, rfl, h1, h2, h3⟩ := h
  refine ⟨A, c, rfl, h2, h1, fun k hk => ?_⟩
  obtain ⟨b, off, rfl, hb, hat⟩ := h3 k _ (List.getElem?_eq_getElem hk)
  refine ⟨zs[k], b, off, List.getElem?_eq_getElem hk, rfl, hb, ?_⟩
  have := hat 0 _ rfl
  rw [Nat.mul_one] at this
  exact this

/-- the texts that a call of markStringS writes, from number k on -/
def strMark (k n : Nat) : List ByteArray := (List.range n).map fun i => mt (k + i)
theorem strMark_len (k n : Nat) : (strMark k n).length = n := by simp [strMark]
theorem strMark_get {k n i : Nat} (h : i < n) : (strMark k n)[i]? = some (mt (k + i)) := by simp [strMark, h]
theorem strMark_step {zs : List ByteArray} {k i : Nat} (h : i < zs.length) : ((strMark k i ++ zs.drop i).set i (mt (k + i))) = strMark k (i + 1) ++ zs.drop (i + 1) := by
  rw [List.set_append_right _ _ (by rw [strMark_len]; omega), strMark_len, Nat.sub_self, List.drop_eq_getElem_cons h, List.set_cons_zero]
  simp [strMark, List.range_succ]

end Go.Proofs.YtfiempmdmkoagaaDoor
