/- The order of texts; rows of texts that rise; a text put among others. No program stands in it. -/
import Derived.Test.YtkghhmjmfcnbnaaDoorPth
namespace Go.Proofs.YtkghhmjmfcnbnaaDoor
open Go.RowKit

abbrev bl (a b : By) : Bool := Op.bytesLess a b
theorem bl_nil (a : By) : bl a [] = false := by cases a <;> rfl
theorem bl_cons (a b : UInt8) (x y : By) : bl (a :: x) (b :: y) = (decide (a < b) || (a == b && bl x y)) := rfl
theorem bl_cons_iff {a b : UInt8} {x y : By} : bl (a :: x) (b :: y) = true ↔ a < b ∨ (a = b ∧ bl x y = true) := by
  rw [bl_cons]; simp
theorem bl_irr : ∀ a : By, bl a a = false
  | [] => rfl
  | a :: x => by
    rw [Bool.eq_false_iff]
    intro h
    rw [bl_cons_iff] at h
    rcases h with h | ⟨_, h⟩
    · exact absurd h (UInt8.lt_irrefl a)
    · rw [bl_irr x] at h; cases h
theorem bl_tri : ∀ a b : By, bl a b = true ∨ a = b ∨ bl b a = true
  | [], [] => .inr (.inl rfl)
  | [], b :: y => .inl rfl
  | a :: x, [] => .inr (.inr rfl)
  | a :: x, b :: y => by
    rcases bl_tri x y with h | h | h
    · by_cases e : a = b
      · exact .inl (bl_cons_iff.2 (.inr ⟨e, h⟩))
      · rcases Nat.lt_or_gt_of_ne (fun k => e (UInt8.toNat_inj.1 k)) with k | k
        · exact .inl (bl_cons_iff.2 (.inl (UInt8.lt_iff_toNat_lt.2 k)))
        · exact .inr (.inr (bl_cons_iff.2 (.inl (UInt8.lt_iff_toNat_lt.2 k))))
    · by_cases e : a = b
      · exact .inr (.inl (by rw [e, h]))
      · rcases Nat.lt_or_gt_of_ne (fun k => e (UInt8.toNat_inj.1 k)) with k | k
        · exact .inl (bl_cons_iff.2 (.inl (UInt8.lt_iff_toNat_lt.2 k)))
        · exact .inr (.inr (bl_cons_iff.2 (.inl (UInt8.lt_iff_toNat_lt.2 k))))
    · by_cases e : a = b
      · exact .inr (.inr (bl_cons_iff.2 (.inr ⟨e.symm, h⟩)))
      · rcases Nat.lt_or_gt_of_ne (fun k => e (UInt8.toNat_inj.1 k)) with k | k
        · exact .inl (bl_cons_iff.2 (.inl (UInt8.lt_iff_toNat_lt.2 k)))
        · exact .inr (.inr (bl_cons_iff.2 (.inl (UInt8.lt_iff_toNat_lt.2 k))))
theorem bl_trans : ∀ {a b c : By}, bl a b = true → bl b c = true → bl a c = true
  | a, b, [], _, h => by rw [bl_nil] at h; cases h
  | a, [], c :: z, h, _ => by rw [bl_nil] at h; cases h
  | [], b :: y, c :: z, _, _ => rfl
  | a :: x, b :: y, c :: z, h, k => by
    rw [bl_cons_iff] at h k ⊢
    rcases h with h | ⟨rfl, h⟩
    · rcases k with k | ⟨rfl, k⟩
      · exact .inl (UInt8.lt_trans h k)
      · exact .inl h
    · rcases k with k | ⟨rfl, k⟩
      · exact .inl k
      · exact .inr ⟨rfl, bl_trans h k⟩
theorem bl_asymm {a b : By} (h : bl a b = true) : bl b a = false := by
  rw [Bool.eq_false_iff]
  intro k
  have := bl_trans h k
  rw [bl_irr] at this; cases this
theorem bl_ne {a b : By} (h : bl a b = true) : a ≠ b := by rintro rfl; rw [bl_irr] at h; cases h

/-! ### what lies between a path and one under it lies under it -/
theorem pthL_chars {l : By} (h : pthL l = true) : ∀ c ∈ l, 47 ≤ c.toNat := by
  have key : ∀ (l : By) (c : UInt8), c ∈ l → c = 47 ∨ ∃ x ∈ cutL l, c ∈ x := by
    intro l
    induction l with
    | nil => intro c hc; cases hc
    | cons d t ih =>
      intro c hc
      by_cases hd : d = 47
      · subst hd
        rcases List.mem_cons.1 hc with rfl | hc
        · exact .inl rfl
        · rcases ih c hc with h | ⟨x, hx, hcx⟩
          · exact .inl h
          · exact .inr ⟨x, by rw [cutL_stroke]; exact List.mem_cons_of_mem _ hx, hcx⟩
      · obtain ⟨y, r, e⟩ := cutL_cons t
        rw [cutL_other hd e]
        rcases List.mem_cons.1 hc with rfl | hc
        · exact .inr ⟨c :: y, by simp, by simp⟩
        · rcases ih c hc with h | ⟨x, hx, hcx⟩
          · exact .inl h
          · rw [e] at hx
            rcases List.mem_cons.1 hx with rfl | hx
            · exact .inr ⟨d :: x, by simp, by simp [hcx]⟩
            · exact .inr ⟨x, by simp [hx], hcx⟩
  intro c hc
  have hl : l ≠ [] := by rintro rfl; cases hc
  rcases key l c hc with rfl | ⟨x, hx, hcx⟩
  · decide
  · have hn := ((pthL_iff hl).1 h).1 x hx
    simp only [namL, Bool.and_eq_true, List.all_eq_true] at hn
    have := hn.2 c hcx
    simp [low] at this
    omega
theorem between : ∀ {a x t : By}, (∀ c ∈ x, 47 ≤ c.toNat) → bl a x = true → (x = a ++ 47 :: t ∨ bl x (a ++ 47 :: t) = true) → ∃ u, x = a ++ 47 :: u
  | a, [], t, _, h, _ => by rw [bl_nil] at h; cases h
  | [], c :: x, t, hx, _, h => by
    rcases h with h | h
    · exact ⟨t, h⟩
    · rw [List.nil_append, bl_cons_iff] at h
      have h47 := hx c (by simp)
      rcases h with h | ⟨rfl, _⟩
      · rw [UInt8.lt_iff_toNat_lt] at h
        have : (47 : UInt8).toNat = 47 := rfl
        omega
      · exact ⟨x, rfl⟩
  | d :: a, c :: x, t, hx, h, k => by
    rw [bl_cons_iff] at h
    have hc : d = c ∧ bl a x = true := by
      rcases h with h | h
      · rcases k with k | k
        · rw [List.cons_append] at k
          injection k with k1 _
          rw [k1] at h
          exact absurd h (UInt8.lt_irrefl _)
        · rw [List.cons_append, bl_cons_iff] at k
          rcases k with k | ⟨k1, _⟩
          · exact absurd (UInt8.lt_trans h k) (UInt8.lt_irrefl _)
          · rw [k1] at h
            exact absurd h (UInt8.lt_irrefl _)
      · exact h
    obtain ⟨rfl, ha⟩ := hc
    have k2 : x = a ++ 47 :: t ∨ bl x (a ++ 47 :: t) = true := by
      rcases k with k | k
      · rw [List.cons_append] at k
        injection k with _ k2
        exact .inl k2
      · rw [List.cons_append, bl_cons_iff] at k
        rcases k with k | ⟨_, k⟩
        · exact absurd k (UInt8.lt_irrefl _)
        · exact .inr k
    obtain ⟨u, hu⟩ := between (fun c hc => hx c (by simp [hc])) ha k2
    exact ⟨u, by rw [hu]; rfl⟩
theorem und_between {g x f : By} (hg : g ≠ []) (hx : pthL x = true) (h : undL g f = true) (h1 : bl g x = true) (h2 : x = f ∨ bl x f = true) : undL g x = true := by
  rw [undL_iff] at h ⊢
  obtain ⟨hp, _, h⟩ := h
  refine ⟨hp, hx, ?_⟩
  rcases h with h | rfl | ⟨t, rfl⟩
  · exact absurd h hg
  · rcases h2 with rfl | h2
    · exact .inr (.inl rfl)
    · have := bl_trans h1 h2
      rw [bl_irr] at this; cases this
  · exact .inr (.inr (between (pthL_chars hx) h1 h2))

/-! ### texts that rise -/
/-- each text is less than all behind it -/
def Rise (L : List By) : Prop := L.Pairwise fun a b => bl a b = true
theorem rise_eq : ∀ {L M : List By}, Rise L → Rise M → (∀ x, x ∈ L ↔ x ∈ M) → L = M
  | [], [], _, _, _ => rfl
  | [], y :: M, _, _, h => by have := (h y).2 (by simp); cases this
  | x :: L, [], _, _, h => by have := (h x).1 (by simp); cases this
  | x :: L, y :: M, hl, hm, h => by
    unfold Rise at hl hm
    rw [List.pairwise_cons] at hl hm
    have hxy : x = y := by
      rcases List.mem_cons.1 ((h x).1 (by simp)) with e | e
      · exact e
      · rcases List.mem_cons.1 ((h y).2 (by simp)) with e' | e'
        · exact e'.symm
        · have a := hm.1 x e
          have b := hl.1 y e'
          rw [bl_asymm a] at b; cases b
    subst hxy
    rw [rise_eq hl.2 hm.2 fun z => ?_]
    constructor
    · intro hz
      rcases List.mem_cons.1 ((h z).1 (List.mem_cons_of_mem _ hz)) with rfl | e
      · exact absurd rfl (bl_ne (hl.1 z hz))
      · exact e
    · intro hz
      rcases List.mem_cons.1 ((h z).2 (List.mem_cons_of_mem _ hz)) with rfl | e
      · exact absurd rfl (bl_ne (hm.1 z hz))
      · exact e
/-- s ahead of the first that is greater -/
def insB (s : By) : List By → List By
  | [] => [s]
  | x :: r => if bl s x = true then s :: x :: r else x :: insB s r
/-- s put among texts, if it does not stand there -/
def nameF (L : List By) (s : By) : List By := if s ∈ L then L else insB s L
/-- what l4Name holds behind some rounds -/
def insP (s : By) (L : List By) : List By := if L.any (fun x => bl s x) = true then insB s L else L
theorem insB_none {s : By} : ∀ {L : List By}, L.any (fun x => bl s x) = false → insB s L = L ++ [s]
  | [], _ => rfl
  | x :: r, h => by
    simp only [List.any_cons, Bool.or_eq_false_iff] at h
    rw [insB, if_neg (by rw [h.1]; simp), insB_none h.2]; rfl
theorem insB_snoc_some {s x : By} : ∀ {L : List By}, L.any (fun x => bl s x) = true → insB s (L ++ [x]) = insB s L ++ [x]
  | [], h => by simp at h
  | y :: r, h => by
    by_cases hy : bl s y = true
    · rw [List.cons_append, insB, if_pos hy, insB, if_pos hy]; rfl
    · have hr : r.any (fun x => bl s x) = true := by
        rw [List.any_cons] at h
        have hy' : bl s y = false := by simpa using hy
        rw [hy', Bool.false_or] at h; exact h
      rw [List.cons_append, insB, if_neg hy, insB, if_neg hy, insB_snoc_some hr]; rfl
theorem insB_snoc_none {s x : By} (hx : bl s x = true) : ∀ {L : List By}, L.any (fun x => bl s x) = false → insB s (L ++ [x]) = L ++ [s, x]
  | [], _ => by rw [List.nil_append, insB, if_pos hx]; rfl
  | y :: r, h => by
    simp only [List.any_cons, Bool.or_eq_false_iff] at h
    rw [List.cons_append, insB, if_neg (by rw [h.1]; simp), insB_snoc_none hx h.2]; rfl
theorem insP_some {s x : By} {L : List By} (h : L.any (fun x => bl s x) = true) : insP s (L ++ [x]) = insP s L ++ [x] := by
  rw [insP, if_pos (by rw [List.any_append, h]; rfl), insP, if_pos h, insB_snoc_some h]
theorem insP_first {s x : By} {L : List By} (h : L.any (fun x => bl s x) = false) (hx : bl s x = true) : insP s (L ++ [x]) = insP s L ++ [s] ++ [x] := by
  rw [insP, if_pos (by simp [List.any_append, hx]), insP, if_neg (by rw [h]; simp), insB_snoc_none hx h]; simp
theorem insP_none {s x : By} {L : List By} (h : L.any (fun x => bl s x) = false) (hx : bl s x = false) : insP s (L ++ [x]) = insP s L ++ [x] := by
  have h2 : (L ++ [x]).any (fun x => bl s x) = false := by rw [List.any_append, h]; simp [hx]
  rw [insP, if_neg (by rw [h2]; simp), insP, if_neg (by rw [h]; simp)]
theorem mem_insB {s x : By} : ∀ {L : List By}, x ∈ insB s L ↔ x = s ∨ x ∈ L
  | [] => by simp [insB]
  | y :: r => by
    rw [insB]
    split
    · simp
    · simp only [List.mem_cons, mem_insB (L := r)]
      constructor
      · rintro (h | h | h)
        · exact .inr (.inl h)
        · exact .inl h
        · exact .inr (.inr h)
      · rintro (h | h | h)
        · exact .inr (.inl h)
        · exact .inl h
        · exact .inr (.inr h)
theorem mem_nameF {s x : By} {L : List By} : x ∈ nameF L s ↔ x = s ∨ x ∈ L := by
  unfold nameF
  split
  · constructor
    · exact .inr
    · rintro (rfl | h)
      · assumption
      · exact h
  · exact mem_insB
theorem rise_insB {s : By} : ∀ {L : List By}, Rise L → s ∉ L → Rise (insB s L)
  | [], _, _ => by simp [insB, Rise]
  | y :: r, h, hs => by
    unfold Rise at h
    rw [List.pairwise_cons] at h
    unfold Rise
    rw [insB]
    split
    · rename_i hy
      rw [List.pairwise_cons, List.pairwise_cons]
      refine ⟨fun z hz => ?_, h⟩
      rcases List.mem_cons.1 hz with rfl | hz
      · exact hy
      · exact bl_trans hy (h.1 z hz)
    · rename_i hy
      rw [List.pairwise_cons]
      refine ⟨fun z hz => ?_, rise_insB h.2 (fun e => hs (List.mem_cons_of_mem _ e))⟩
      rcases mem_insB.1 hz with rfl | hz
      · rcases bl_tri y z with k | k | k
        · exact k
        · exact absurd (by simp [k]) hs
        · exact absurd k hy
      · exact h.1 z hz
theorem rise_nameF {s : By} {L : List By} (h : Rise L) : Rise (nameF L s) := by
  unfold nameF
  split
  · exact h
  · exact rise_insB h ‹_›
/-- all the texts of a list, each once, rising -/
def setF (L : List By) : List By := L.foldl nameF []
theorem setF_snoc (L : List By) (s : By) : setF (L ++ [s]) = nameF (setF L) s := by simp [setF]
theorem setF_ok : ∀ (L M : List By), Rise M → Rise (L.foldl nameF M) ∧ ∀ x, x ∈ L.foldl nameF M ↔ x ∈ L ∨ x ∈ M
  | [], M, h => ⟨h, fun x => by simp⟩
  | s :: L, M, h => by
    have := setF_ok L (nameF M s) (rise_nameF h)
    refine ⟨this.1, fun x => ?_⟩
    rw [List.foldl_cons, this.2, mem_nameF, List.mem_cons]
    constructor
    · rintro (h | h | h)
      · exact .inl (.inr h)
      · exact .inl (.inl h)
      · exact .inr h
    · rintro ((h | h) | h)
      · exact .inr (.inl h)
      · exact .inl h
      · exact .inr (.inr h)
theorem setF_rise (L : List By) : Rise (setF L) := (setF_ok L [] List.Pairwise.nil).1
theorem setF_mem (L : List By) (x : By) : x ∈ setF L ↔ x ∈ L := by
  rw [setF, (setF_ok L [] List.Pairwise.nil).2]; simp
theorem setF_of {L M : List By} (h : Rise M) (hm : ∀ x, x ∈ M ↔ x ∈ L) : M = setF L :=
  rise_eq h (setF_rise L) fun x => by rw [hm, setF_mem]
theorem setF_len : ∀ (L : List By), (setF L).length ≤ L.length := by
  have key : ∀ (L M : List By), (L.foldl nameF M).length ≤ L.length + M.length := by
    intro L
    induction L with
    | nil => intro M; simp
    | cons s L ih =>
      intro M
      have h1 := ih (nameF M s)
      have h2 : (nameF M s).length ≤ M.length + 1 := by
        unfold nameF
        split
        · omega
        · have : ∀ (K : List By), (insB s K).length = K.length + 1 := by
            intro K
            induction K with
            | nil => rfl
            | cons y r ih => rw [insB]; split <;> simp [ih]
          rw [this]
          exact Nat.le_refl _
      simp only [List.foldl_cons, List.length_cons]
      omega
  intro L
  have := key L []
  simpa [setF] using this
end Go.Proofs.YtkghhmjmfcnbnaaDoor
