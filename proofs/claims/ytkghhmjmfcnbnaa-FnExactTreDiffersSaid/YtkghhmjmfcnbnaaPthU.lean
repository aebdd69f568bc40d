/- spec's PthUnder, PthFirst, PthRest, PthJoin, PthParts, each by a plain function. -/
import Derived.Test.YtkghhmjmfcnbnaaPthS
import Derived.Test.YtkghhmjmfcnbnaaPthV
namespace Go.Proofs.Ytkghhmjmfcnbnaa
open Go.RowKit

theorem ret_str {a b : ByteArray} (h : a = b) : Ending.returned (.string a) = .returned (.string b) := by rw [h]
theorem str_beq_yes {a b : ByteArray} (h : toL a = toL b) : (a.toList == b.toList) = true := by rw [beq_toL, h]; simp
theorem str_beq_no {a b : ByteArray} (h : ¬ toL a = toL b) : (a.toList == b.toList) = false := by rw [beq_toL]; simpa using h

theorem first_get (s : ByteArray) : 0 < (cutB s).length ∧ (cutB s)[0]? = some (mkB (headL (toL s))) := by
  obtain ⟨x, r, e⟩ := cutL_cons (toL s)
  unfold cutB headL
  rw [e]
  exact ⟨by simp, rfl⟩
theorem join_no1 {a b : ByteArray} (h : pthB a = false) : joinB a b = ByteArray.empty := by rw [joinB_eq, h]; rfl
theorem join_no2 {a b : ByteArray} (h : pthB a = true) (k : pthB b = false) : joinB a b = ByteArray.empty := by rw [joinB_eq, h, k]; rfl
theorem join_no3 {a b : ByteArray} (h : pthB a = true) (k : pthB b = true) (l : pthB (ontoB a b) = false) : joinB a b = ByteArray.empty := by rw [joinB_eq, h, k, l]; rfl
theorem join_yes {a b : ByteArray} (h : pthB a = true) (k : pthB b = true) (l : pthB (ontoB a b) = true) : joinB a b = ontoB a b := by rw [joinB_eq, h, k, l]; rfl
theorem onto_1 {a b : ByteArray} (h : toL a = []) : ontoB a b = b := if_pos h
theorem onto_2 {a b : ByteArray} (h : ¬ toL a = []) (k : toL b = []) : ontoB a b = a := by unfold ontoB; rw [if_neg h, if_pos k]
theorem onto_3 {a b : ByteArray} (h : ¬ toL a = []) (k : ¬ toL b = []) : ontoB a b = a ++ ⟨#[47]⟩ ++ b := by unfold ontoB; rw [if_neg h, if_neg k]
theorem onto_size (a b : ByteArray) : (ontoB a b).size ≤ a.size + b.size + 1 := by
  unfold ontoB
  split
  · omega
  · split
    · omega
    · rw [ByteArray.size_append, ByteArray.size_append]
      have : (⟨#[47]⟩ : ByteArray).size = 1 := rfl
      omega
/-- what PthJoin tests, the joined text at hand -/
def JoinPost (a b : ByteArray) (w : World) (e : Ending) (w' : World) : Prop := e = .returned (.string (joinB a b)) ∧ Below w.heap.size w w'

theorem parts_nil {s : ByteArray} (h : toL s = []) : partsB s = [] := by unfold partsB; rw [h]; simp
theorem parts_no {s : ByteArray} (h : pthB s = false) : partsB s = [] := by unfold partsB; rw [h]; rfl
theorem parts_yes {s : ByteArray} (h0 : ¬ toL s = []) (h : pthB s = true) : partsB s = cutB s := by
  unfold partsB
  have : (toL s).isEmpty = false := by rw [← isEmpty_toL]; exact empty_no h0
  rw [h, this]; rfl
theorem parts_len (s : ByteArray) : (partsB s).length ≤ 3 := by
  by_cases h0 : toL s = []
  · rw [parts_nil h0]; simp
  · cases h : pthB s
    · rw [parts_no h]; simp
    · rw [parts_yes h0 h]
      have := ((pthL_iff h0).1 h).2
      unfold cutB
      rw [List.length_map]; exact this
theorem own_empty (w : World) : Own 1 strC 9 w.heap.size (w.alloc (.cells #[] 9)) (.slice (some ⟨w.heap.size, 0, none⟩) 0 0) ([] : List ByteArray) := World.ownsRow_lit w #[] 0 (Nat.le_refl _) (by simp [maxLen]) rfl
theorem own_empty2 {W w : World} (hb : Below W.heap.size W w) : Own 1 strC 9 W.heap.size (w.alloc (.cells #[] 9)) (.slice (some ⟨w.heap.size, 0, none⟩) 0 0) ([] : List ByteArray) := World.ownsRow_lit w #[] 0 hb.size (by simp [maxLen]) rfl
end Go.Proofs.Ytkghhmjmfcnbnaa
