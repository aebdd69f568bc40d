/- What the walks of PthUnder, PthRest and PthJoin ask of texts. No program stands in it. -/
import Derived.Test.YtkghhmjmfcnbnaaDoorPth
namespace Go.Proofs.YtkghhmjmfcnbnaaDoor
open Go.RowKit

/-- is b a text that goes on behind a with a stroke -/
def onB (a b : ByteArray) : Bool := (toL a ++ [47]).isPrefixOf (toL b)
theorem onB_iff {a b : ByteArray} : onB a b = true ↔ ∃ t, toL b = toL a ++ 47 :: t := by
  unfold onB
  rw [List.isPrefixOf_iff_prefix]
  constructor
  · rintro ⟨t, h⟩; exact ⟨t, by rw [← h]; simp⟩
  · rintro ⟨t, h⟩; exact ⟨t, by rw [h]; simp⟩
theorem undB_no1 {a b : ByteArray} (h : pthB a = false) : undB a b = false := by
  have h' : pthL (toL a) = false := h
  simp [undB, undL, h']
theorem undB_no2 {a b : ByteArray} (h : pthB b = false) : undB a b = false := by
  have h' : pthL (toL b) = false := h
  simp [undB, undL, h']
theorem undB_eq {a b : ByteArray} (h : pthB a = true) (k : pthB b = true) : undB a b = ((toL a).isEmpty || toL a == toL b || onB a b) := by
  have h' : pthL (toL a) = true := h
  have k' : pthL (toL b) = true := k
  simp [undB, undL, h', k', onB]
theorem get_B (s : ByteArray) (k : Nat) (h : k < s.size) : (toL s)[k]? = some s[k] := by
  have : k < (toL s).length := by rw [toL_len]; exact h
  rw [List.getElem?_eq_getElem this]; rfl
theorem onB_short {a b : ByteArray} (h : ¬ a.size < b.size) : onB a b = false := by
  rw [Bool.eq_false_iff]
  intro k
  obtain ⟨t, e⟩ := onB_iff.1 k
  have := congrArg List.length e
  simp only [toL_len, List.length_append, List.length_cons] at this
  omega
theorem onB_other {a b : ByteArray} (h : ¬ toL (b.extract 0 a.size) = toL a) : onB a b = false := by
  rw [Bool.eq_false_iff]
  intro k
  obtain ⟨t, e⟩ := onB_iff.1 k
  refine h ?_
  rw [toL_ext, e, ← toL_len a]
  simp
theorem onB_sign {a b : ByteArray} (hl : a.size < b.size) (h : ¬ b[a.size] = 47) : onB a b = false := by
  rw [Bool.eq_false_iff]
  intro k
  obtain ⟨t, e⟩ := onB_iff.1 k
  refine h ?_
  have h1 := get_B b a.size hl
  generalize b[a.size] = c at h1 ⊢
  rw [e, ← toL_len a] at h1
  simp only [List.getElem?_append_right (Nat.le_refl _), Nat.sub_self, List.getElem?_cons_zero, Option.some.injEq] at h1
  exact h1.symm
theorem onB_yes {a b : ByteArray} (hl : a.size < b.size) (he : toL (b.extract 0 a.size) = toL a) (h : b[a.size] = 47) : onB a b = true := by
  rw [onB_iff]
  refine ⟨(toL b).drop (a.size + 1), ?_⟩
  have h1 := get_B b a.size hl
  rw [h] at h1
  rw [toL_ext] at he
  have h2 : (toL b).take a.size = toL a := by simpa using he
  have hlt : a.size < (toL b).length := by rw [toL_len]; exact hl
  have h3 : (toL b)[a.size] = 47 := by rw [List.getElem?_eq_getElem hlt] at h1; simpa using h1
  calc toL b = (toL b).take a.size ++ (toL b).drop a.size := (List.take_append_drop _ _).symm
    _ = toL a ++ 47 :: (toL b).drop (a.size + 1) := by rw [h2, List.drop_eq_getElem_cons hlt, h3]
/-- no stroke in the first k bytes -/
def NoStroke (s : ByteArray) (k : Nat) : Prop := (47 : UInt8) ∉ (toL s).take k
theorem noStroke_step {s : ByteArray} {k : Nat} (h : k < s.size) (hb : ¬ s[k] = 47) (hn : NoStroke s k) : NoStroke s (k + 1) := by
  unfold NoStroke at hn ⊢
  have hlt : k < (toL s).length := by rw [toL_len]; exact h
  rw [List.take_succ_eq_append_getElem hlt]
  intro hm
  rcases List.mem_append.1 hm with hm | hm
  · exact hn hm
  · simp only [List.mem_singleton] at hm
    exact hb hm.symm
theorem after_hit {s : ByteArray} {k : Nat} (h : k < s.size) (hb : s[k] = 47) (hn : NoStroke s k) : mkB (afterL (toL s)) = s.extract (k + 1) s.size := by
  apply toL_inj
  have hlt : k < (toL s).length := by rw [toL_len]; exact h
  have h3 : (toL s)[k] = 47 := hb
  rw [toL_mkB, afterL_skip _ k hn, List.drop_eq_getElem_cons hlt, h3, toL_ext]
  simp only [afterL, if_true, List.extract_eq_take_drop]
  rw [List.take_of_length_le (by simp [toL_len])]
theorem after_none {s : ByteArray} {k : Nat} (h : ¬ k < s.size) (hn : NoStroke s k) : afterL (toL s) = [] := by
  unfold NoStroke at hn
  rw [List.take_of_length_le (by rw [toL_len]; omega)] at hn
  exact afterL_none hn
/-- one text behind another, a stroke between -/
def ontoB (a b : ByteArray) : ByteArray := if toL a = [] then b else if toL b = [] then a else a ++ ⟨#[47]⟩ ++ b
theorem ontoB_toL (a b : ByteArray) : toL (ontoB a b) = ontoL (toL a) (toL b) := by
  unfold ontoB ontoL
  split
  · rfl
  · split
    · rfl
    · rw [toL_app, toL_app]
      show toL a ++ [47] ++ toL b = _
      simp
theorem joinB_eq (a b : ByteArray) : joinB a b = if pthB a && pthB b && pthB (ontoB a b) then ontoB a b else ByteArray.empty := by
  apply toL_inj
  have e : pthL (ontoL (toL a) (toL b)) = pthB (ontoB a b) := by unfold pthB; rw [ontoB_toL]
  unfold joinB joinL
  rw [toL_mkB, e]
  show (if pthB a && pthB b && pthB (ontoB a b) then _ else _) = _
  split
  · rw [ontoB_toL]
  · rfl
end Go.Proofs.YtkghhmjmfcnbnaaDoor
