/- Sums over lists, and what is left of a number. No program stands in it. -/
import Derived.WalkKit
namespace Go.Proofs.YtkghhmjmfcnbnaaDoor
open Go.RowKit

/-- a sum over a list -/
def wsum {α : Type} (f : α → Nat) (zs : List α) : Nat := (zs.map f).sum
section
variable {α : Type} {f : α → Nat} {zs : List α} {k : Nat} {a : α}
theorem wsum_step (h : zs[k]? = some a) : wsum f (zs.take (k + 1)) = wsum f (zs.take k) + f a := by
  obtain ⟨hlt, hv⟩ := List.getElem?_eq_some_iff.1 h
  unfold wsum
  rw [List.take_succ_eq_append_getElem hlt, List.map_append, List.sum_append, hv]
  simp
theorem wsum_split (k : Nat) : wsum f zs = wsum f (zs.take k) + wsum f (zs.drop k) := by
  unfold wsum
  rw [← List.sum_append, ← List.map_append, List.take_append_drop]
theorem wsum_le (k : Nat) : wsum f (zs.take k) ≤ wsum f zs := by rw [wsum_split (f := f) (zs := zs) k]; omega
theorem wsum_all (h : ¬ k < zs.length) : wsum f (zs.take k) = wsum f zs := by rw [List.take_of_length_le (by omega)]
theorem wsum_mem {x : α} (h : x ∈ zs) : f x ≤ wsum f zs := by
  unfold wsum
  induction zs with
  | nil => cases h
  | cons y ys ih =>
    simp only [List.map_cons, List.sum_cons]
    rcases List.mem_cons.1 h with rfl | h
    · omega
    · have := ih h; omega
end
theorem ret_i {k : IntKind} {a b : Int} (h : a = b) : Ending.returned (.int k a) = .returned (.int k b) := by rw [h]
/-- what is left of L behind the weight W, -1 if it does not suffice -/
def szR (L : Int) (W : Nat) : Int := if L < W then -1 else L - W
theorem szR_no {L : Int} {W : Nat} (h : L < W) : szR L W = -1 := if_pos h
theorem szR_yes {L : Int} {W : Nat} (h : (W : Int) ≤ L) : szR L W = L - W := if_neg (by omega)

end Go.Proofs.YtkghhmjmfcnbnaaDoor
