/- spec's functions of paths, each by a plain one. No condition but a string's own size. -/
import Derived.Test.YtkghhmjmfcnbnaaPth
import Derived.Test.YtkghhmjmfcnbnaaNam
import Derived.Test.YtkghhmjmfcnbnaaStrH
namespace Go.Proofs.Ytkghhmjmfcnbnaa
open Go.RowKit

theorem namB_S (s : ByteArray) : namB s = namS s := by
  unfold namB namS namL
  rw [toL_len]; rfl
theorem byteB (c : UInt8) : strOfNums [(c.toNat : Int)] = mkB [c] := by simp [strOfNums, mkB]
theorem take_B (s : ByteArray) (k : Nat) (h : k < s.size) : (toL s).take (k + 1) = (toL s).take k ++ [s[k]] := take_snoc s k h
theorem u8_eq {c d : UInt8} (h : c = d) : ((c.toNat : Int) == (d.toNat : Int)) = true := by rw [h]; simp
theorem u8_ne {c d : UInt8} (h : ¬ c = d) : ((c.toNat : Int) == (d.toNat : Int)) = false :=
  beq_eq_false_iff_ne.2 fun e => h (UInt8.toNat_inj.1 (by omega))
theorem cutL_piece (l : By) : ∀ x ∈ cutL l, x.length ≤ l.length := by
  intro x hx
  have h := cutL_sum l
  have : x.length ≤ ((cutL l).map List.length).sum := by
    generalize cutL l = L at hx
    induction L with
    | nil => cases hx
    | cons y L ih =>
      simp only [List.map_cons, List.sum_cons]
      rcases List.mem_cons.1 hx with rfl | hx
      · omega
      · have := ih hx; omega
  have h1 : 1 ≤ (cutL l).length := by have := cutL_ne l; cases h : cutL l <;> simp_all
  omega
theorem cutB_piece {s x : ByteArray} (h : x ∈ cutB s) : x.size ≤ s.size := by
  obtain ⟨y, hy, rfl⟩ := List.mem_map.1 h
  have := cutL_piece _ y hy
  rw [toL_len] at this
  rw [mkB_size]; exact this
theorem cutB_of {s : ByteArray} {L : List ByteArray} {y : ByteArray} (h : cutL (toL s) = L.map toL ++ [toL y]) : cutB s = L ++ [y] := by
  unfold cutB
  rw [h, List.map_append, map_mkB]
  simp [mkB_toL]
theorem empty_yes {s : ByteArray} (h : toL s = []) : s.toList.isEmpty = true := by rw [isEmpty_toL, h]; rfl
theorem empty_no {s : ByteArray} (h : ¬ toL s = []) : s.toList.isEmpty = false := by
  rw [isEmpty_toL]
  cases e : toL s with
  | nil => exact absurd e h
  | cons _ _ => rfl

/-- the first k pieces are names -/
def AllNam (s : ByteArray) (k : Nat) : Prop := ∀ x ∈ (cutB s).take k, namS x = true
theorem allNam_step {s x : ByteArray} {k : Nat} (hz : (cutB s)[k]? = some x) (h : namS x = true) (hall : AllNam s k) : AllNam s (k + 1) := by
  unfold AllNam
  rw [take_one hz]
  intro y hy
  rcases List.mem_append.1 hy with h1 | h1
  · exact hall y h1
  · simp at h1; subst h1; exact h
theorem pthB_bad {s x : ByteArray} {k : Nat} (hz : (cutB s)[k]? = some x) (h : namS x = false) (h0 : ¬ toL s = []) : pthB s = false := pthL_bad (cutB_get hz) h h0
theorem pthB_end {s : ByteArray} {k : Nat} (h : ¬ k < (cutB s).length) (h0 : ¬ toL s = []) (hall : AllNam s k) : pthB s = decide ((cutB s).length ≤ 3) := by
  unfold AllNam at hall
  rw [List.take_of_length_le (by omega)] at hall
  have e : (cutB s).length = (cutL (toL s)).length := by simp [cutB]
  rw [e]
  refine pthL_end h0 fun x hx => ?_
  have := hall (mkB x) (List.mem_map.2 ⟨x, hx, rfl⟩)
  simpa [namS, toL_mkB] using this
theorem pthB_nil {s : ByteArray} (h : toL s = []) : pthB s = true := by unfold pthB; rw [h]; rfl

end Go.Proofs.Ytkghhmjmfcnbnaa
