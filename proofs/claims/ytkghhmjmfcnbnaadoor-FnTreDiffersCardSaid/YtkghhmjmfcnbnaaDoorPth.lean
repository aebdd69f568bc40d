/- Paths as lists of bytes: cut at strokes, ok, under, first, rest, join. No program stands in it. -/
import Derived.WalkKit
import Derived.Lib.SplitLaws
import Derived.Test.YtkghhmjmfcnbnaaDoorStr
namespace Go.Proofs.YtkghhmjmfcnbnaaDoor
open Go.RowKit

abbrev By := List UInt8
def toL (s : ByteArray) : By := s.data.toList
def mkB (l : By) : ByteArray := ⟨l.toArray⟩
theorem mkB_toL (s : ByteArray) : mkB (toL s) = s := by cases s; rfl
theorem toL_mkB (l : By) : toL (mkB l) = l := rfl
theorem toL_inj {a b : ByteArray} (h : toL a = toL b) : a = b := by rw [← mkB_toL a, h, mkB_toL]
theorem mkB_inj {a b : By} (h : mkB a = mkB b) : a = b := by rw [← toL_mkB a, h, toL_mkB]
theorem toL_len (s : ByteArray) : (toL s).length = s.size := by simp [toL]
theorem mkB_size (l : By) : (mkB l).size = l.length := by simp [mkB, ByteArray.size]
theorem toL_app (a b : ByteArray) : toL (a ++ b) = toL a ++ toL b := by simp [toL]
theorem toL_toList (s : ByteArray) : s.toList = toL s := by rw [ByteArray.toList_eq]; rfl
theorem toL_ext (s : ByteArray) (a b : Nat) : toL (s.extract a b) = (toL s).extract a b := by simp [toL]

/-- a small letter -/
def low (c : UInt8) : Bool := decide (97 ≤ c.toNat) && decide (c.toNat ≤ 122)
/-- a name -/
def namL (l : By) : Bool := decide (1 ≤ l.length) && decide (l.length ≤ 3) && l.all low
theorem namL_len {l : By} (h : namL l = true) : 1 ≤ l.length ∧ l.length ≤ 3 := by simp [namL] at h; omega
theorem namL_stroke {l : By} (h : namL l = true) : (47 : UInt8) ∉ l := by
  intro hm
  simp only [namL, Bool.and_eq_true, List.all_eq_true] at h
  have := h.2 47 hm
  simp [low] at this

/-- cut at the strokes -/
def cutL : By → List By
  | [] => [[]]
  | c :: t => if c = 47 then [] :: cutL t else match cutL t with | [] => [[c]] | h :: r => (c :: h) :: r
theorem cutL_ne (l : By) : cutL l ≠ [] := by
  cases l with
  | nil => simp [cutL]
  | cons c t =>
    unfold cutL
    split
    · simp
    · split <;> simp
theorem cutL_stroke (t : By) : cutL (47 :: t) = [] :: cutL t := by simp [cutL]
theorem cutL_other {c : UInt8} {t x : By} {r : List By} (hc : c ≠ 47) (e : cutL t = x :: r) : cutL (c :: t) = (c :: x) :: r := by simp [cutL, hc, e]
theorem cutL_cons (l : By) : ∃ x r, cutL l = x :: r := by
  cases h : cutL l with
  | nil => exact absurd h (cutL_ne l)
  | cons x r => exact ⟨x, r, rfl⟩
theorem cutL_last (l : By) : ∃ out w, cutL l = out ++ [w] := ⟨(cutL l).dropLast, (cutL l).getLast (cutL_ne l), (List.dropLast_concat_getLast _).symm⟩
theorem snoc_inj {α : Type} {a b : List α} {x y : α} (h : a ++ [x] = b ++ [y]) : a = b ∧ x = y := by
  have := List.append_inj' h rfl
  simpa using this
theorem cutL_snoc (c : UInt8) : ∀ (l : By) (out : List By) (w : By), cutL l = out ++ [w] → cutL (l ++ [c]) = if c = 47 then out ++ [w] ++ [[]] else out ++ [w ++ [c]]
  | [], out, w, h => by
    obtain ⟨rfl, rfl⟩ := snoc_inj (a := []) (x := []) (by simpa [cutL] using h)
    by_cases hc : c = 47
    · subst hc; simp [cutL]
    · simp [cutL, hc]
  | d :: t, out, w, h => by
    obtain ⟨out', w', e⟩ := cutL_last t
    have ih := cutL_snoc c t out' w' e
    by_cases hd : d = 47
    · subst hd
      rw [cutL_stroke, e, ← List.cons_append] at h
      obtain ⟨rfl, rfl⟩ := snoc_inj h
      rw [List.cons_append, cutL_stroke, ih]
      split <;> simp
    · cases out' with
      | nil =>
        rw [List.nil_append] at e ih
        rw [cutL_other hd e] at h
        obtain ⟨rfl, rfl⟩ := snoc_inj (a := []) (by simpa using h)
        rw [List.cons_append]
        split
        · rename_i hc; rw [if_pos hc] at ih; rw [cutL_other hd ih]; simp
        · rename_i hc; rw [if_neg hc] at ih; rw [cutL_other hd ih]; simp
      | cons x xs =>
        rw [List.cons_append] at e
        rw [cutL_other hd e, ← List.cons_append] at h
        obtain ⟨rfl, rfl⟩ := snoc_inj h
        rw [List.cons_append]
        split
        · rename_i hc; rw [if_pos hc] at ih; simp only [List.cons_append, List.append_assoc] at ih; rw [cutL_other hd ih]; simp
        · rename_i hc; rw [if_neg hc] at ih; simp only [List.cons_append] at ih; rw [cutL_other hd ih]; simp
theorem cutL_app_stroke : ∀ (a b : By), cutL (a ++ 47 :: b) = cutL a ++ cutL b
  | [], b => by simp [cutL]
  | c :: a, b => by
    have ih := cutL_app_stroke a b
    by_cases hc : c = 47
    · subst hc; rw [List.cons_append, cutL_stroke, ih, cutL_stroke]; rfl
    · obtain ⟨x, r, e⟩ := cutL_cons a
      rw [e] at ih
      rw [List.cons_append, cutL_other hc ih, cutL_other hc e]; rfl
theorem cutL_plain : ∀ {l : By}, (47 : UInt8) ∉ l → cutL l = [l]
  | [], _ => rfl
  | c :: t, h => by
    have hc : c ≠ 47 := fun e => h (by simp [e])
    have := cutL_plain (l := t) (fun e => h (by simp [e]))
    exact cutL_other hc this
theorem cutL_parts : ∀ (l : By), ∀ x ∈ cutL l, (47 : UInt8) ∉ x
  | [], x, h => by simp [cutL] at h; subst h; simp
  | c :: t, x, h => by
    have ih := cutL_parts t
    by_cases hc : c = 47
    · subst hc; rw [cutL_stroke] at h
      rcases List.mem_cons.1 h with rfl | h
      · simp
      · exact ih x h
    · obtain ⟨y, r, e⟩ := cutL_cons t
      rw [cutL_other hc e] at h
      rw [e] at ih
      rcases List.mem_cons.1 h with rfl | h
      · intro hm
        rcases List.mem_cons.1 hm with he | hm
        · exact hc he.symm
        · exact ih y (by simp) hm
      · exact ih x (by simp [h])
theorem cutL_sum : ∀ (l : By), ((cutL l).map List.length).sum + (cutL l).length = l.length + 1
  | [] => by simp [cutL]
  | c :: t => by
    have ih := cutL_sum t
    by_cases hc : c = 47
    · subst hc; rw [cutL_stroke]; simp; omega
    · obtain ⟨y, r, e⟩ := cutL_cons t
      rw [cutL_other hc e]; rw [e] at ih
      simp at ih ⊢; omega
theorem sum_le3 : ∀ (L : List By), (∀ x ∈ L, x.length ≤ 3) → (L.map List.length).sum ≤ 3 * L.length
  | [], _ => by simp
  | x :: L, h => by
    have := sum_le3 L (fun y hy => h y (by simp [hy]))
    have := h x (by simp)
    simp; omega

/-- a path -/
def pthL (l : By) : Bool := l.isEmpty || ((cutL l).all namL && decide ((cutL l).length ≤ 3))
theorem pthL_nil : pthL [] = true := rfl
theorem pthL_long {l : By} (h : 12 < l.length) : pthL l = false := by
  rw [Bool.eq_false_iff]
  intro hp
  have hne : l.isEmpty = false := by cases l <;> simp at h ⊢
  simp only [pthL, hne, Bool.false_or, Bool.and_eq_true, List.all_eq_true, decide_eq_true_eq] at hp
  have h1 := cutL_sum l
  have h2 := sum_le3 (cutL l) (fun x hx => (namL_len (hp.1 x hx)).2)
  omega
theorem pthL_short {l : By} (h : pthL l = true) : l.length ≤ 11 := by
  by_cases hl : l = []
  · subst hl; simp
  · have hne : l.isEmpty = false := by cases l <;> simp at hl ⊢
    simp only [pthL, hne, Bool.false_or, Bool.and_eq_true, List.all_eq_true, decide_eq_true_eq] at h
    have h1 := cutL_sum l
    have h2 := sum_le3 (cutL l) (fun x hx => (namL_len (h.1 x hx)).2)
    omega
theorem pthL_iff {l : By} (hl : l ≠ []) : pthL l = true ↔ (∀ x ∈ cutL l, namL x = true) ∧ (cutL l).length ≤ 3 := by
  have hne : l.isEmpty = false := by cases l <;> simp at hl ⊢
  simp only [pthL, hne, Bool.false_or, Bool.and_eq_true, List.all_eq_true, decide_eq_true_eq]
theorem pthL_bad {l x : By} (hx : x ∈ cutL l) (h : namL x = false) (hl : l ≠ []) : pthL l = false := by
  rw [Bool.eq_false_iff]
  intro hp
  have := ((pthL_iff hl).1 hp).1 x hx
  rw [h] at this; cases this
theorem pthL_end {l : By} (hl : l ≠ []) (h : ∀ x ∈ cutL l, namL x = true) : pthL l = decide ((cutL l).length ≤ 3) := by
  have hne : l.isEmpty = false := by cases l <;> simp at hl ⊢
  have : (cutL l).all namL = true := List.all_eq_true.2 h
  simp [pthL, hne, this]

/-- what stands behind the first stroke -/
def afterL : By → By
  | [] => []
  | c :: t => if c = 47 then t else afterL t
/-- the first name -/
def headL (l : By) : By := (cutL l).headD []
theorem afterL_skip : ∀ (l : By) (k : Nat), (47 : UInt8) ∉ l.take k → afterL l = afterL (l.drop k)
  | l, 0, _ => by simp
  | [], k + 1, _ => by simp
  | c :: t, k + 1, h => by
    have hc : c ≠ 47 := fun e => h (by simp [e])
    rw [List.drop_succ_cons, ← afterL_skip t k (fun e => h (by simp [e]))]
    simp [afterL, hc]
theorem afterL_len : ∀ (l : By), (afterL l).length ≤ l.length
  | [] => by simp [afterL]
  | c :: t => by
    unfold afterL
    split
    · simp
    · have := afterL_len t; simp; omega
theorem cut_index (b : UInt8) (t : By) (hb : b ≠ 47) : Lib.index (b :: t) [47] = if Lib.index t [47] == -1 then -1 else Lib.index t [47] + 1 := by
  have hp : ([47] : By).isPrefixOf (b :: t) = false := by simp [List.isPrefixOf, Ne.symm hb]
  rw [Lib.index, hp]; simp
theorem cut_index_hit (t : By) : Lib.index (47 :: t) [47] = 0 := by rw [Lib.index]; simp [List.isPrefixOf]
theorem cut_head : ∀ (l : By), (Lib.cut l [47]).1 = headL l ∧ (Lib.cut l [47]).2.1 = afterL l
  | [] => by simp [Lib.cut, Lib.index, headL, cutL, afterL]
  | b :: t => by
    have ih := cut_head t
    by_cases hb : b = 47
    · subst hb
      simp [Lib.cut, cut_index_hit, headL, cutL_stroke, afterL]
    · obtain ⟨y, r, e⟩ := cutL_cons t
      have hh : headL (b :: t) = b :: headL t := by simp [headL, cutL_other hb e, e]
      have ha : afterL (b :: t) = afterL t := by simp [afterL, hb]
      rw [hh, ha, ← ih.1, ← ih.2]
      have hix := cut_index b t hb
      have hge := Lib.index_ge t [47]
      by_cases hm : Lib.index t [47] = -1
      · rw [if_pos (by rw [hm]; rfl)] at hix
        simp [Lib.cut, hix, hm]
      · obtain ⟨j, hj⟩ : ∃ j : Nat, Lib.index t [47] = j := ⟨(Lib.index t [47]).toNat, by omega⟩
        rw [if_neg (by simpa using hm), hj] at hix
        have h1 : (0 : Int) ≤ (j : Int) + 1 := by omega
        have h2 : ((j : Int) + 1).toNat = j + 1 := by omega
        simp [Lib.cut, hix, hj, h1, h2]
theorem splitK_cut : ∀ (l : By) (k : Nat), Lib.count l [47] = k → Lib.splitK [47] 0 k l = cutL l
  | [], k, h => by
    have : k = 0 := by rw [← h, Lib.count_one]; rfl
    subst this; rfl
  | b :: t, k, h => by
    by_cases hb : b = 47
    · subst hb
      rw [Lib.count_cons_eq] at h
      obtain ⟨j, rfl⟩ : ∃ j, k = j + 1 := ⟨k - 1, by omega⟩
      have ih := splitK_cut t j (by omega)
      rw [Lib.splitK, cut_index_hit]
      simp [cutL_stroke, ih]
    · rw [Lib.count_cons_ne b 47 t hb] at h
      have ih := splitK_cut t k h
      have hix := cut_index b t hb
      cases k with
      | zero =>
        have e : cutL t = [t] := by rw [← ih]; rfl
        rw [cutL_other hb e]; rfl
      | succ k =>
        by_cases hm : Lib.index t [47] = -1
        · rw [Lib.count_miss hm] at h; omega
        · have hge := Lib.index_ge t [47]
          obtain ⟨j, hj⟩ : ∃ j : Nat, Lib.index t [47] = j := ⟨(Lib.index t [47]).toNat, by omega⟩
          rw [if_neg (by simpa using hm), hj] at hix
          have n1 : ¬ ((j : Int) == -1) = true := fun e => by have := beq_iff_eq.1 e; omega
          have n2 : ¬ ((j : Int) + 1 == -1) = true := fun e => by have := beq_iff_eq.1 e; omega
          rw [Lib.splitK, hj, if_neg n1] at ih
          rw [Lib.splitK, hix, if_neg n2, cutL_other hb ih.symm, show ((j : Int) + 1).toNat = j + 1 by omega]
          simp [Nat.add_comm, Nat.add_left_comm]
/-- the pieces as strings -/
def cutB (s : ByteArray) : List ByteArray := (cutL (toL s)).map mkB
theorem map_mkB (L : List ByteArray) : (L.map toL).map mkB = L := by
  rw [List.map_map]
  exact (List.map_congr_left fun s _ => mkB_toL s).trans (List.map_id _)
theorem splitB_cut (s : ByteArray) : Lib.splitB ⟨#[47]⟩ 0 (Lib.countB s ⟨#[47]⟩) s = cutB s := by
  have h := Lib.splitB_data ⟨#[47]⟩ 0 (Lib.countB s ⟨#[47]⟩) s
  have h2 := splitK_cut (toL s) (Lib.countB s ⟨#[47]⟩) rfl
  unfold cutB
  rw [← h2]
  show _ = (Lib.splitK (ByteArray.mk #[47]).data.toList 0 _ s.data.toList).map mkB
  rw [← h]
  exact (map_mkB _).symm
theorem countB_cut (s : ByteArray) : Lib.countB s ⟨#[47]⟩ + 1 = (cutB s).length := by
  rw [← splitB_cut, Lib.splitB_all ⟨#[47]⟩ (by decide) 0 _ s rfl]
theorem cutB_len (s : ByteArray) : (cutB s).length ≤ s.size + 1 := by
  have h := cutL_sum (toL s)
  rw [toL_len] at h
  unfold cutB
  rw [List.length_map]; omega
theorem cutB_get {s : ByteArray} {k : Nat} {x : ByteArray} (h : (cutB s)[k]? = some x) : toL x ∈ cutL (toL s) := by
  unfold cutB at h
  rw [List.getElem?_map] at h
  cases e : (cutL (toL s))[k]? with
  | none => rw [e] at h; cases h
  | some y =>
    rw [e] at h
    simp only [Option.map_some, Option.some.injEq] at h
    subst h
    rw [toL_mkB]
    exact List.mem_of_getElem? e

/-! ### under, joined -/
/-- is the path b at a or under it -/
def undL (a b : By) : Bool := pthL a && pthL b && (a.isEmpty || a == b || (a ++ [47]).isPrefixOf b)
theorem undL_iff {a b : By} : undL a b = true ↔ pthL a = true ∧ pthL b = true ∧ (a = [] ∨ a = b ∨ ∃ t, b = a ++ 47 :: t) := by
  simp only [undL, Bool.and_eq_true, Bool.or_eq_true, List.isEmpty_iff, beq_iff_eq, List.isPrefixOf_iff_prefix]
  constructor
  · rintro ⟨⟨h1, h2⟩, h⟩
    refine ⟨h1, h2, ?_⟩
    rcases h with (h | h) | ⟨t, h⟩
    · exact .inl h
    · exact .inr (.inl h)
    · exact .inr (.inr ⟨t, by rw [← h]; simp⟩)
  · rintro ⟨h1, h2, h⟩
    refine ⟨⟨h1, h2⟩, ?_⟩
    rcases h with h | h | ⟨t, h⟩
    · exact .inl (.inl h)
    · exact .inl (.inr h)
    · exact .inr ⟨t, by rw [h]; simp⟩
theorem undL_refl (a : By) : undL a a = pthL a := by
  rw [Bool.eq_iff_iff, undL_iff]
  exact ⟨fun h => h.1, fun h => ⟨h, h, .inr (.inl rfl)⟩⟩
theorem undL_root (a : By) : undL [] a = pthL a := by
  rw [Bool.eq_iff_iff, undL_iff]
  exact ⟨fun h => h.2.1, fun h => ⟨rfl, h, .inl rfl⟩⟩
theorem undL_trans {a b c : By} (h : undL a b = true) (k : undL b c = true) : undL a c = true := by
  rw [undL_iff] at h k ⊢
  obtain ⟨h1, h2, h3⟩ := h
  obtain ⟨k1, k2, k3⟩ := k
  refine ⟨h1, k2, ?_⟩
  rcases h3 with rfl | rfl | ⟨t, rfl⟩
  · exact .inl rfl
  · exact k3
  · rcases k3 with e | rfl | ⟨u, rfl⟩
    · simp at e
    · exact .inr (.inr ⟨t, rfl⟩)
    · exact .inr (.inr ⟨t ++ 47 :: u, by simp⟩)
theorem undL_anti {a b : By} (h : undL a b = true) (k : undL b a = true) : a = b := by
  rw [undL_iff] at h k
  obtain ⟨-, -, h3⟩ := h
  obtain ⟨-, -, k3⟩ := k
  rcases h3 with rfl | rfl | ⟨t, rfl⟩
  · rcases k3 with rfl | rfl | ⟨u, e⟩
    · rfl
    · rfl
    · simp at e
  · rfl
  · rcases k3 with e | e | ⟨u, e⟩
    · simp at e
    · exact e.symm
    · have := congrArg List.length e; simp only [List.length_append, List.length_cons] at this; omega
/-- a text behind another one, a stroke between -/
def ontoL (a b : By) : By := if a = [] then b else if b = [] then a else a ++ 47 :: b
/-- one path behind another one -/
def joinL (a b : By) : By := if pthL a && pthL b && pthL (ontoL a b) then ontoL a b else []
theorem joinL_len (a b : By) : (joinL a b).length ≤ 11 := by
  unfold joinL
  split
  · rename_i h
    simp only [Bool.and_eq_true] at h
    exact pthL_short h.2
  · simp
theorem joinL_ok (a b : By) : pthL (joinL a b) = true := by
  unfold joinL
  split
  · rename_i h
    simp only [Bool.and_eq_true] at h
    exact h.2
  · rfl
theorem joinL_und {a b : By} (h : joinL a b ≠ []) : undL a (joinL a b) = true := by
  unfold joinL at h ⊢
  split at h
  · rename_i hc
    rw [if_pos hc]
    simp only [Bool.and_eq_true] at hc
    rw [undL_iff]
    refine ⟨hc.1.1, hc.2, ?_⟩
    unfold ontoL
    split
    · exact .inl ‹_›
    · split
      · exact .inr (.inl rfl)
      · exact .inr (.inr ⟨b, rfl⟩)
  · exact absurd rfl h
/-- how many names a path has -/
def partsN (a : By) : Nat := if a = [] then 0 else (cutL a).length
theorem pthL_onto {a b : By} (ha : pthL a = true) (hb : pthL b = true) : pthL (ontoL a b) = decide (partsN a + partsN b ≤ 3) := by
  unfold ontoL partsN
  by_cases h1 : a = []
  · rw [if_pos h1, if_pos h1, hb]
    by_cases h2 : b = []
    · simp [h2]
    · have := ((pthL_iff h2).1 hb).2
      rw [if_neg h2]; simp; omega
  · rw [if_neg h1, if_neg h1]
    by_cases h2 : b = []
    · have := ((pthL_iff h1).1 ha).2
      rw [if_pos h2, if_pos h2, ha]; simp; omega
    · rw [if_neg h2, if_neg h2]
      have e := cutL_app_stroke a b
      have hall : ∀ x ∈ cutL (a ++ 47 :: b), namL x = true := by
        rw [e]
        intro x hx
        rcases List.mem_append.1 hx with hx | hx
        · exact ((pthL_iff h1).1 ha).1 x hx
        · exact ((pthL_iff h2).1 hb).1 x hx
      rw [pthL_end (by simp) hall, e, List.length_append]
theorem partsN_onto (a b : By) : partsN (ontoL a b) = partsN a + partsN b := by
  unfold ontoL partsN
  by_cases h1 : a = []
  · simp [h1]
  · by_cases h2 : b = []
    · simp [h1, h2]
    · simp [h1, h2, cutL_app_stroke]
theorem ontoL_assoc (a b c : By) : ontoL (ontoL a b) c = ontoL a (ontoL b c) := by
  unfold ontoL
  by_cases h1 : a = []
  · simp [h1]
  · by_cases h2 : b = []
    · simp [h1, h2]
    · by_cases h3 : c = []
      · simp [h1, h2, h3]
      · simp [h1, h2, h3]
theorem joinL_assoc {a b c : By} (ha : pthL a = true) (hb : pthL b = true) (hc : pthL c = true) (h : partsN a + partsN b + partsN c ≤ 3) : joinL (joinL a b) c = joinL a (joinL b c) := by
  have h1 : pthL (ontoL a b) = true := by rw [pthL_onto ha hb]; simp; omega
  have h2 : pthL (ontoL b c) = true := by rw [pthL_onto hb hc]; simp; omega
  have h3 : pthL (ontoL (ontoL a b) c) = true := by rw [pthL_onto h1 hc, partsN_onto]; simp; omega
  have h4 : pthL (ontoL a (ontoL b c)) = true := by rw [← ontoL_assoc]; exact h3
  have e1 : joinL a b = ontoL a b := by simp [joinL, ha, hb, h1]
  have e2 : joinL b c = ontoL b c := by simp [joinL, hb, hc, h2]
  rw [e1, e2]
  unfold joinL
  rw [h1, hc, h3, ha, h2, h4, ontoL_assoc]

/-! ### a path out of its names -/
/-- names, strokes between -/
def nameL : List By → By
  | [] => []
  | [x] => x
  | x :: y :: r => x ++ 47 :: nameL (y :: r)
theorem nameL_cons (x : By) {r : List By} (h : r ≠ []) : nameL (x :: r) = x ++ 47 :: nameL r := by
  cases r with
  | nil => exact absurd rfl h
  | cons y r => rfl
theorem nameL_cut : ∀ (l : By), nameL (cutL l) = l
  | [] => rfl
  | c :: t => by
    have ih := nameL_cut t
    by_cases hc : c = 47
    · subst hc
      rw [cutL_stroke, nameL_cons _ (cutL_ne t), ih]; rfl
    · obtain ⟨y, r, e⟩ := cutL_cons t
      rw [cutL_other hc e]
      rw [e] at ih
      cases r with
      | nil => simp [nameL] at ih ⊢; exact ih
      | cons z r => simp [nameL] at ih ⊢; exact ih
theorem cutL_name : ∀ {L : List By}, L ≠ [] → (∀ x ∈ L, namL x = true) → cutL (nameL L) = L
  | [], h, _ => absurd rfl h
  | [x], _, h => cutL_plain (namL_stroke (h x (by simp)))
  | x :: y :: r, _, h => by
    rw [nameL_cons x (by simp), cutL_app_stroke, cutL_plain (namL_stroke (h x (by simp))), cutL_name (L := y :: r) (by simp) (fun z hz => h z (List.mem_cons_of_mem _ hz))]
    rfl
theorem nameL_snoc (x : By) : ∀ {L : List By}, L ≠ [] → nameL (L ++ [x]) = nameL L ++ 47 :: x
  | [], h => absurd rfl h
  | [y], _ => rfl
  | y :: z :: r, _ => by
    have ih := nameL_snoc x (L := z :: r) (by simp)
    rw [List.cons_append, nameL_cons y (by simp), ih, nameL_cons y (by simp)]
    simp
theorem nameL_ne {L : List By} (h : L ≠ []) (hn : ∀ x ∈ L, namL x = true) : nameL L ≠ [] := by
  cases L with
  | nil => exact absurd rfl h
  | cons x r =>
    have hx := namL_len (hn x (by simp))
    cases r with
    | nil => intro e; simp [nameL] at e; subst e; simp at hx
    | cons y r => intro e; simp [nameL] at e
theorem pthL_name {L : List By} (hn : ∀ x ∈ L, namL x = true) (h3 : L.length ≤ 3) : pthL (nameL L) = true := by
  by_cases h : L = []
  · subst h; rfl
  · rw [pthL_iff (nameL_ne h hn), cutL_name h hn]; exact ⟨hn, h3⟩
theorem pthL_one {x : By} (h : namL x = true) : pthL x = true := pthL_name (L := [x]) (by simpa using h) (by simp)
/-- one name more -/
theorem joinL_name {L : List By} {x : By} (hn : ∀ y ∈ L ++ [x], namL y = true) (h3 : L.length < 3) : joinL (nameL L) x = nameL (L ++ [x]) := by
  have hx : namL x = true := hn x (by simp)
  have hxn : x ≠ [] := by intro e; subst e; simp [namL] at hx
  have hL : ∀ y ∈ L, namL y = true := fun y hy => hn y (by simp [hy])
  have e : ontoL (nameL L) x = nameL (L ++ [x]) := by
    unfold ontoL
    by_cases h : L = []
    · subst h; rfl
    · rw [if_neg (nameL_ne h hL), if_neg hxn, nameL_snoc x h]
  unfold joinL
  rw [e, pthL_name hL (by omega), pthL_one hx, pthL_name hn (by simp; omega)]
  rfl
theorem headL_name {x : By} {r : List By} (h : ∀ y ∈ x :: r, namL y = true) : headL (nameL (x :: r)) = x := by
  unfold headL
  rw [cutL_name (by simp) h]; rfl
theorem afterL_plain : ∀ {x : By} (t : By), (47 : UInt8) ∉ x → afterL (x ++ 47 :: t) = t
  | [], t, _ => by simp [afterL]
  | c :: x, t, h => by
    have hc : c ≠ 47 := fun e => h (by simp [e])
    rw [List.cons_append]
    simp only [afterL, hc, if_false]
    exact afterL_plain t (fun e => h (by simp [e]))
theorem afterL_none : ∀ {x : By}, (47 : UInt8) ∉ x → afterL x = []
  | [], _ => rfl
  | c :: x, h => by
    have hc : c ≠ 47 := fun e => h (by simp [e])
    simp only [afterL, hc, if_false]
    exact afterL_none (fun e => h (by simp [e]))
theorem afterL_name {x : By} {r : List By} (h : ∀ y ∈ x :: r, namL y = true) : afterL (nameL (x :: r)) = nameL r := by
  have hx := namL_stroke (h x (by simp))
  cases r with
  | nil => exact afterL_none hx
  | cons y r => exact afterL_plain _ hx

/-! ### as strings -/
def namS (s : ByteArray) : Bool := namL (toL s)
def pthB (s : ByteArray) : Bool := pthL (toL s)
def undB (a b : ByteArray) : Bool := undL (toL a) (toL b)
def firstB (s : ByteArray) : ByteArray := if pthB s then mkB (headL (toL s)) else ByteArray.empty
def restB (s : ByteArray) : ByteArray := if pthB s then mkB (afterL (toL s)) else ByteArray.empty
def joinB (a b : ByteArray) : ByteArray := mkB (joinL (toL a) (toL b))
def partsB (s : ByteArray) : List ByteArray := if pthB s && !(toL s).isEmpty then cutB s else []
theorem pthB_short {s : ByteArray} (h : pthB s = true) : s.size ≤ 11 := by rw [← toL_len]; exact pthL_short h
theorem pthB_long {s : ByteArray} (h : 12 < s.size) : pthB s = false := pthL_long (by rw [toL_len]; exact h)
theorem empty_toL : toL ByteArray.empty = [] := rfl
theorem toL_nil {s : ByteArray} (h : toL s = []) : s = ByteArray.empty := toL_inj h
theorem size_toL {s : ByteArray} : s.size = 0 ↔ toL s = [] := by rw [← toL_len, List.length_eq_zero_iff]
theorem joinB_size (a b : ByteArray) : (joinB a b).size ≤ 11 := by unfold joinB; rw [mkB_size]; exact joinL_len _ _
theorem headL_len (l : By) : (headL l).length ≤ l.length := by
  have h := cutL_sum l
  obtain ⟨x, r, e⟩ := cutL_cons l
  unfold headL
  rw [e] at h ⊢
  simp at h ⊢; omega
theorem firstB_size (s : ByteArray) : (firstB s).size ≤ 11 := by
  unfold firstB
  split
  · have := pthB_short ‹_›; have := headL_len (toL s); rw [toL_len] at this; rw [mkB_size]; omega
  · decide
theorem restB_size (s : ByteArray) : (restB s).size ≤ 11 := by
  unfold restB
  split
  · have := pthB_short ‹_›; have := afterL_len (toL s); rw [toL_len] at this; rw [mkB_size]; omega
  · decide
theorem isEmpty_toL (s : ByteArray) : s.toList.isEmpty = (toL s).isEmpty := by rw [toL_toList]
theorem beq_toL (a b : ByteArray) : (a.toList == b.toList) = (toL a == toL b) := by rw [toL_toList, toL_toList]
end Go.Proofs.YtkghhmjmfcnbnaaDoor
