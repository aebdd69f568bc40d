/- Edits of a tree: plain functions and what they do to the files. No walk stands in it. -/
import Derived.Test.YtkghhmjmfcnbnaaDoorTreL
import Derived.Test.YtkghhmjmfcnbnaaDoorFindF
import Derived.Test.YtkghhmjmfcnbnaaDoorEditH
namespace Go.Proofs.YtkghhmjmfcnbnaaDoor
open Go.RowKit

/-- files whose paths rise -/
def RiseT (L : List TFile) : Prop := L.Pairwise fun a b => bl (toL a.path) (toL b.path) = true
theorem RiseT.nil : RiseT [] := List.Pairwise.nil
theorem treB_rise {L : List TFile} (h : treB L = true) : RiseT L := by
  unfold treB at h
  simp only [Bool.and_eq_true] at h
  exact (goodT_all h.1.2).2
theorem treB_file {L : List TFile} (h : treB L = true) : ∀ z ∈ L, fileB z = true := by
  unfold treB at h
  simp only [Bool.and_eq_true] at h
  exact (goodT_all h.1.2).1
theorem treB_len {L : List TFile} (h : treB L = true) : L.length ≤ 60 := by
  unfold treB at h
  simp only [Bool.and_eq_true, decide_eq_true_eq] at h
  exact h.1.1
theorem bl_path {a b : TFile} (h : bl (toL a.path) (toL b.path) = true) : a.path ≠ b.path := fun e => bl_ne h (by rw [e])
/-- e ahead of the first that does not stand ahead of it -/
def insT (e : TFile) : List TFile → List TFile
  | [] => [e]
  | x :: r => if bl (toL x.path) (toL e.path) = true then x :: insT e r else e :: x :: r
theorem mem_insT {e x : TFile} : ∀ {L : List TFile}, x ∈ insT e L ↔ x = e ∨ x ∈ L
  | [] => by simp [insT]
  | y :: r => by
    rw [insT]
    split
    · simp only [List.mem_cons, mem_insT (L := r)]
      constructor
      · rintro (h | h | h)
        · exact .inr (.inl h)
        · exact .inl h
        · exact .inr (.inr h)
      · rintro (h | h | h)
        · exact .inr (.inl h)
        · exact .inl h
        · exact .inr (.inr h)
    · simp
theorem rise_insT {e : TFile} : ∀ {L : List TFile}, RiseT L → (∀ x ∈ L, x.path ≠ e.path) → RiseT (insT e L)
  | [], _, _ => by simp [insT, RiseT]
  | y :: r, h, hs => by
    unfold RiseT at h
    rw [List.pairwise_cons] at h
    unfold RiseT
    rw [insT]
    split
    · rename_i hy
      rw [List.pairwise_cons]
      refine ⟨fun z hz => ?_, rise_insT h.2 fun x hx => hs x (List.mem_cons_of_mem _ hx)⟩
      rcases mem_insT.1 hz with rfl | hz
      · exact hy
      · exact h.1 z hz
    · rename_i hy
      have hey : bl (toL e.path) (toL y.path) = true := by
        rcases bl_tri (toL e.path) (toL y.path) with k | k | k
        · exact k
        · exact absurd (toL_inj k).symm (hs y (by simp))
        · exact absurd k hy
      rw [List.pairwise_cons, List.pairwise_cons]
      refine ⟨fun z hz => ?_, h⟩
      rcases List.mem_cons.1 hz with rfl | hz
      · exact hey
      · exact bl_trans hey (h.1 z hz)
theorem insT_len (e : TFile) : ∀ L : List TFile, (insT e L).length = L.length + 1
  | [] => rfl
  | y :: r => by
    rw [insT]
    split
    · rw [List.length_cons, insT_len e r]; rfl
    · rfl
/-- the first k stand ahead of e -/
def AheadT (e : TFile) (L : List TFile) (k : Nat) : Prop := ∀ x ∈ L.take k, bl (toL x.path) (toL e.path) = true
theorem aheadT_zero (e : TFile) (L : List TFile) : AheadT e L 0 := fun x hx => by simp at hx
theorem aheadT_step {e x : TFile} {L : List TFile} {k : Nat} (hx : L[k]? = some x) (h : bl (toL x.path) (toL e.path) = true) (ha : AheadT e L k) : AheadT e L (k + 1) := by
  unfold AheadT
  rw [take_one hx]
  intro y hy
  rcases List.mem_append.1 hy with h1 | h1
  · exact ha y h1
  · simp at h1; subst h1; exact h
theorem insT_at {e : TFile} : ∀ {L : List TFile} {k : Nat}, AheadT e L k → (∀ y, L[k]? = some y → bl (toL y.path) (toL e.path) = false) → insT e L = L.take k ++ e :: L.drop k
  | [], k, _, _ => by simp [insT]
  | x :: r, 0, _, h => by
    have := h x rfl
    rw [insT, if_neg (by rw [this]; simp)]; rfl
  | x :: r, k + 1, ha, h => by
    have hx : bl (toL x.path) (toL e.path) = true := ha x (by simp)
    rw [insT, if_pos hx, insT_at (L := r) (k := k) (fun y hy => ha y (by simp [hy])) (fun y hy => h y hy)]; rfl
theorem insT_end {e : TFile} {L : List TFile} (h : ∀ x ∈ L, bl (toL x.path) (toL e.path) = true) : insT e L = L ++ [e] := by
  have := insT_at (e := e) (L := L) (k := L.length) (fun x hx => h x (List.mem_of_mem_take hx)) (fun y hy => by rw [List.getElem?_eq_none (Nat.le_refl _)] at hy; cases hy)
  rw [this]; simp
/-- files put in order, one behind the other -/
def sortT (L : List TFile) : List TFile := L.foldl (fun out f => insT f out) []
theorem sortT_snoc (L : List TFile) (e : TFile) : sortT (L ++ [e]) = insT e (sortT L) := by simp [sortT]
theorem sortT_len (L : List TFile) : (sortT L).length = L.length := by
  have key : ∀ (L M : List TFile), (L.foldl (fun out f => insT f out) M).length = M.length + L.length := by
    intro L
    induction L with
    | nil => intro M; rfl
    | cons x r ih => intro M; rw [List.foldl_cons, ih, insT_len, List.length_cons]; omega
  unfold sortT
  rw [key]; simp
theorem sortT_rise {L : List TFile} (h : RiseT L) : sortT L = L := by
  have key : ∀ (L M : List TFile), RiseT (M ++ L) → L.foldl (fun out f => insT f out) M = M ++ L := by
    intro L
    induction L with
    | nil => intro M _; simp
    | cons x r ih =>
      intro M hM
      have hx : ∀ y ∈ M, bl (toL y.path) (toL x.path) = true := by
        unfold RiseT at hM
        rw [List.pairwise_append] at hM
        exact fun y hy => hM.2.2 y hy x (by simp)
      rw [List.foldl_cons, insT_end hx, ih (M ++ [x]) (by simpa using hM)]; simp
  exact key L [] (by simpa using h)
theorem sortT_take {L : List TFile} {f : TFile} {k : Nat} (hz : L[k]? = some f) : sortT (L.take (k + 1)) = insT f (sortT (L.take k)) := by rw [take_one hz, sortT_snoc]
/-- rising files with the same members are the same -/
theorem riseT_eq : ∀ {L M : List TFile}, RiseT L → RiseT M → (∀ x, x ∈ L ↔ x ∈ M) → L = M
  | [], [], _, _, _ => rfl
  | [], y :: M, _, _, h => by have := (h y).2 (by simp); cases this
  | x :: L, [], _, _, h => by have := (h x).1 (by simp); cases this
  | x :: L, y :: M, hl, hm, h => by
    unfold RiseT at hl hm
    rw [List.pairwise_cons] at hl hm
    have hxy : x = y := by
      rcases List.mem_cons.1 ((h x).1 (by simp)) with e | e
      · exact e
      · rcases List.mem_cons.1 ((h y).2 (by simp)) with e' | e'
        · exact e'.symm
        · have a := hm.1 x e
          have b := hl.1 y e'
          rw [bl_asymm a] at b; cases b
    subst hxy
    rw [riseT_eq hl.2 hm.2 fun z => ?_]
    constructor
    · intro hz
      rcases List.mem_cons.1 ((h z).1 (List.mem_cons_of_mem _ hz)) with rfl | e
      · exact absurd rfl (bl_path (hl.1 z hz))
      · exact e
    · intro hz
      rcases List.mem_cons.1 ((h z).2 (List.mem_cons_of_mem _ hz)) with rfl | e
      · exact absurd rfl (bl_path (hm.1 z hz))
      · exact e
theorem rise_same {L : List TFile} (h : RiseT L) {x y : TFile} (hx : x ∈ L) (hy : y ∈ L) (e : x.path = y.path) : x = y := by
  obtain ⟨i, hi, rfl⟩ := List.mem_iff_getElem.1 hx
  obtain ⟨j, hj, rfl⟩ := List.mem_iff_getElem.1 hy
  unfold RiseT at h
  rw [List.pairwise_iff_getElem] at h
  rcases Nat.lt_trichotomy i j with k | k | k
  · exact absurd e (bl_path (h i j hi hj k))
  · subst k; rfl
  · exact absurd e.symm (bl_path (h j i hj hi k))
theorem rise_mid {A B : List TFile} {f : TFile} (h : RiseT (A ++ f :: B)) : RiseT (A ++ B) ∧ (∀ x ∈ A ++ B, x.path ≠ f.path) ∧ ∀ g : TFile, g.path = f.path → RiseT (A ++ g :: B) := by
  unfold RiseT at *
  rw [List.pairwise_append, List.pairwise_cons] at h
  obtain ⟨h1, ⟨h2, h3⟩, h4⟩ := h
  refine ⟨?_, ?_, fun g hg => ?_⟩
  · rw [List.pairwise_append]
    exact ⟨h1, h3, fun a ha b hb => h4 a ha b (List.mem_cons_of_mem _ hb)⟩
  · intro x hx
    rcases List.mem_append.1 hx with hx | hx
    · exact bl_path (h4 x hx f (by simp))
    · exact (bl_path (h2 x hx)).symm
  · rw [List.pairwise_append, List.pairwise_cons]
    refine ⟨h1, ⟨fun b hb => by rw [hg]; exact h2 b hb, h3⟩, fun a ha b hb => ?_⟩
    rcases List.mem_cons.1 hb with rfl | hb
    · rw [hg]; exact h4 a ha f (by simp)
    · exact h4 a ha b (List.mem_cons_of_mem _ hb)
theorem split_at {α : Type} {L : List α} {k : Nat} {f : α} (h : L[k]? = some f) : ∃ A B, L = A ++ f :: B ∧ A.length = k := by
  obtain ⟨hk, rfl⟩ := List.getElem?_eq_some_iff.1 h
  refine ⟨L.take k, L.drop (k + 1), ?_, by rw [List.length_take]; omega⟩
  rw [← List.drop_eq_getElem_cons hk, List.take_append_drop]
theorem findI_spec (zs : List TFile) (q : ByteArray) : (findI zs q = -1 ∧ ∀ z ∈ zs, z.path ≠ q) ∨ ∃ k f, zs[k]? = some f ∧ findI zs q = (k : Nat) ∧ f.path = q := by
  unfold findI
  cases h : zs.findIdx? (fun z => decide (z.path = q)) with
  | none =>
    left
    rw [List.findIdx?_eq_none_iff] at h
    exact ⟨rfl, fun z hz => by simpa using h z hz⟩
  | some k =>
    right
    obtain ⟨hlt, hp, _⟩ := List.findIdx?_eq_some_iff_getElem.1 h
    exact ⟨k, zs[k], List.getElem?_eq_getElem hlt, rfl, by simpa using hp⟩
theorem fget_mem {L : List TFile} (h : RiseT L) {x : TFile} (hx : x ∈ L) : fgetF L x.path = (x.bytes, true) := by
  rcases findI_cases L x.path with ⟨h1, _⟩ | ⟨k, f, hz, h1, h2⟩
  · rcases findI_spec L x.path with ⟨_, h3⟩ | ⟨k, f, _, h3, _⟩
    · exact absurd rfl (h3 x hx)
    · rw [h1] at h3; omega
  · rcases findI_spec L x.path with ⟨h3, _⟩ | ⟨k', f', hz', h3, h4⟩
    · rw [h1] at h3; omega
    · have e : k = k' := by rw [h1] at h3; omega
      subst e
      rw [hz] at hz'
      simp only [Option.some.injEq] at hz'
      subst hz'
      rw [h2, rise_same h (List.mem_of_getElem? hz) hx h4]
theorem fget_no {L : List TFile} {q : ByteArray} (h : ∀ z ∈ L, z.path ≠ q) : fgetF L q = (ByteArray.empty, false) := by
  unfold fgetF
  have : L.find? (fun z => decide (z.path = q)) = none := by
    rw [List.find?_eq_none]
    intro z hz
    simpa using h z hz
  rw [this]

/-! ### edits -/
/-- what one edit makes of files; none, if it does not fit -/
def turn1 (L : List TFile) (e : TEdit) : Option (List TFile) :=
  if e.gone = true then (if findI L e.path < 0 ∨ ¬ toL e.bytes = [] then none else some (L.take (findI L e.path).toNat ++ L.drop ((findI L e.path).toNat + 1)))
  else if findI L e.path < 0 then some (insT ⟨e.path, e.bytes⟩ L) else some (L.set (findI L e.path).toNat ⟨e.path, e.bytes⟩)
theorem turn1_ok {L L' : List TFile} {e : TEdit} (h : RiseT L) (ht : turn1 L e = some L') :
    RiseT L' ∧ (∀ x, x ∈ L' ↔ (x ∈ L ∧ x.path ≠ e.path) ∨ (e.gone = false ∧ x = ⟨e.path, e.bytes⟩)) ∧ L'.length ≤ L.length + 1 ∧ (e.gone = true → toL e.bytes = []) := by
  unfold turn1 at ht
  rcases findI_spec L e.path with ⟨h1, h2⟩ | ⟨k, f, hz, h1, h2⟩
  · rw [h1] at ht
    cases hg : e.gone
    · rw [hg] at ht
      simp only [Bool.false_eq_true, if_false, show (-1 : Int) < 0 by decide, if_true, Option.some.injEq] at ht
      subst ht
      refine ⟨rise_insT h h2, fun x => ?_, by rw [insT_len]; exact Nat.le_refl _, fun e => by cases e⟩
      rw [mem_insT]
      constructor
      · rintro (hx | hx)
        · exact .inr ⟨rfl, hx⟩
        · exact .inl ⟨hx, h2 x hx⟩
      · rintro (⟨hx, _⟩ | ⟨_, hx⟩)
        · exact .inr hx
        · exact .inl hx
    · rw [hg] at ht
      simp at ht
  · have hk := (List.getElem?_eq_some_iff.1 hz).1
    obtain ⟨A, B, rfl, hA⟩ := split_at hz
    obtain ⟨r1, r2, r3⟩ := rise_mid h
    rw [h1] at ht
    have hneg : ¬ (k : Int) < 0 := by omega
    cases hg : e.gone
    · rw [hg] at ht
      simp only [Bool.false_eq_true, if_false, hneg, Int.toNat_natCast, Option.some.injEq] at ht
      rw [List.set_append_right _ _ (by omega), hA, Nat.sub_self, List.set_cons_zero] at ht
      subst ht
      refine ⟨r3 _ h2.symm, fun x => ?_, by simp, fun e => by cases e⟩
      simp only [List.mem_append, List.mem_cons]
      constructor
      · rintro (hx | hx | hx)
        · exact .inl ⟨.inl hx, by rw [← h2]; exact r2 x (List.mem_append.2 (.inl hx))⟩
        · exact .inr ⟨trivial, hx⟩
        · exact .inl ⟨.inr (.inr hx), by rw [← h2]; exact r2 x (List.mem_append.2 (.inr hx))⟩
      · rintro (⟨hx | hx | hx, hp⟩ | ⟨_, hx⟩)
        · exact .inl hx
        · exact absurd (by rw [hx, h2]) hp
        · exact .inr (.inr hx)
        · exact .inr (.inl hx)
    · rw [hg] at ht
      by_cases hb : toL e.bytes = []
      · simp only [if_true, hneg, hb, not_true, or_self, if_false, Int.toNat_natCast, Option.some.injEq] at ht
        rw [List.take_append_of_le_length (by omega), List.take_of_length_le (by omega), show k + 1 = A.length + 1 by omega, List.drop_append, List.drop_of_length_le (by omega), show A.length + 1 - A.length = 1 by omega, List.nil_append, List.drop_one, List.tail_cons] at ht
        subst ht
        refine ⟨r1, fun x => ?_, by simp; omega, fun _ => hb⟩
        simp only [List.mem_append, List.mem_cons]
        constructor
        · rintro (hx | hx)
          · exact .inl ⟨.inl hx, by rw [← h2]; exact r2 x (List.mem_append.2 (.inl hx))⟩
          · exact .inl ⟨.inr (.inr hx), by rw [← h2]; exact r2 x (List.mem_append.2 (.inr hx))⟩
        · rintro (⟨hx | hx | hx, hp⟩ | ⟨he, _⟩)
          · exact .inl hx
          · exact absurd (by rw [hx, h2]) hp
          · exact .inr hx
          · cases he
      · simp [hb] at ht
/-- what edits make of files, one behind the other -/
def turnL : List TFile → List TEdit → Option (List TFile)
  | L, [] => some L
  | L, e :: es => (turn1 L e).bind fun M => turnL M es
theorem turnL_snoc (L : List TFile) (es : List TEdit) (e : TEdit) : turnL L (es ++ [e]) = (turnL L es).bind fun M => turn1 M e := by
  induction es generalizing L with
  | nil =>
    simp only [List.nil_append, turnL, Option.bind_some]
    cases turn1 L e <;> rfl
  | cons x r ih =>
    simp only [List.cons_append, turnL]
    cases turn1 L x with
    | none => rfl
    | some M => simp only [Option.bind_some]; exact ih M
theorem turnL_app (L : List TFile) (es fs : List TEdit) : turnL L (es ++ fs) = (turnL L es).bind fun M => turnL M fs := by
  induction es generalizing L with
  | nil => simp [turnL]
  | cons x r ih =>
    simp only [List.cons_append, turnL]
    cases turn1 L x with
    | none => rfl
    | some M => simp only [Option.bind_some]; exact ih M
theorem turnL_step {L M : List TFile} {es : List TEdit} {e : TEdit} {k : Nat} (hz : es[k]? = some e) (h : turnL L (es.take k) = some M) : turnL L (es.take (k + 1)) = turn1 M e := by
  rw [take_one hz, turnL_snoc, h]; rfl
theorem turnL_stop {L M : List TFile} {es : List TEdit} {e : TEdit} {k : Nat} (hz : es[k]? = some e) (h : turnL L (es.take k) = some M) (ht : turn1 M e = none) : turnL L es = none := by
  obtain ⟨A, B, rfl, hA⟩ := split_at hz
  rw [List.take_append_of_le_length (by omega), List.take_of_length_le (by omega)] at h
  rw [turnL_app, h]
  simp [turnL, ht]
theorem turnL_rise : ∀ {es : List TEdit} {L L' : List TFile}, RiseT L → turnL L es = some L' → RiseT L' ∧ L'.length ≤ L.length + es.length
  | [], L, L', h, ht => by
    simp only [turnL, Option.some.injEq] at ht
    subst ht
    exact ⟨h, Nat.le_refl _⟩
  | e :: es, L, L', h, ht => by
    simp only [turnL] at ht
    cases h1 : turn1 L e with
    | none => rw [h1] at ht; cases ht
    | some M =>
      rw [h1] at ht
      obtain ⟨a, _, c, _⟩ := turn1_ok h h1
      obtain ⟨p, q⟩ := turnL_rise a ht
      exact ⟨p, by rw [List.length_cons]; omega⟩
/-- a file that stands there behind the edits stood there, or is an edit's -/
theorem turnL_mem : ∀ {es : List TEdit} {L L' : List TFile}, RiseT L → turnL L es = some L' → ∀ x ∈ L', x ∈ L ∨ ∃ e ∈ es, e.gone = false ∧ x = ⟨e.path, e.bytes⟩
  | [], L, L', h, ht => fun x hx => by
    simp only [turnL, Option.some.injEq] at ht
    subst ht
    exact .inl hx
  | e :: es, L, L', h, ht => fun x hx => by
    simp only [turnL] at ht
    cases h1 : turn1 L e with
    | none => rw [h1] at ht; cases ht
    | some M =>
      rw [h1] at ht
      obtain ⟨a, b, _, _⟩ := turn1_ok h h1
      rcases turnL_mem a ht x hx with hm | ⟨f, hf, hg⟩
      · rcases (b x).1 hm with ⟨hl, _⟩ | hl
        · exact .inl hl
        · exact .inr ⟨e, by simp, hl⟩
      · exact .inr ⟨f, List.mem_cons_of_mem _ hf, hg⟩
/-- a file at a path that no edit names stays -/
theorem turnL_keep : ∀ {es : List TEdit} {L L' : List TFile}, RiseT L → turnL L es = some L' → ∀ x : TFile, (∀ e ∈ es, e.path ≠ x.path) → (x ∈ L' ↔ x ∈ L)
  | [], L, L', h, ht => fun x hx => by
    simp only [turnL, Option.some.injEq] at ht
    subst ht
    exact Iff.rfl
  | e :: es, L, L', h, ht => fun x hx => by
    simp only [turnL] at ht
    cases h1 : turn1 L e with
    | none => rw [h1] at ht; cases ht
    | some M =>
      rw [h1] at ht
      obtain ⟨a, b, _, _⟩ := turn1_ok h h1
      rw [turnL_keep a ht x (fun f hf => hx f (List.mem_cons_of_mem _ hf)), b x]
      constructor
      · rintro (⟨hl, _⟩ | ⟨_, hl⟩)
        · exact hl
        · exact absurd (by rw [hl]) (hx e (by simp))
      · exact fun hl => .inl ⟨hl, (hx e (by simp)).symm⟩
/-- at the last edit of a path it is as that says -/
theorem turnL_last {es : List TEdit} {L L' : List TFile} {e : TEdit} {k : Nat} (h : RiseT L) (ht : turnL L es = some L') (hz : es[k]? = some e) (hl : ∀ f ∈ es.drop (k + 1), f.path ≠ e.path) :
    fgetF L' e.path = (e.bytes, !e.gone) := by
  obtain ⟨A, B, rfl, hA⟩ := split_at hz
  have hB : (A ++ e :: B).drop (k + 1) = B := by
    rw [show k + 1 = A.length + 1 by omega, List.drop_append, List.drop_of_length_le (by omega), show A.length + 1 - A.length = 1 by omega, List.nil_append, List.drop_one, List.tail_cons]
  rw [hB] at hl
  rw [turnL_app] at ht
  cases hM : turnL L A with
  | none => rw [hM] at ht; cases ht
  | some M =>
    rw [hM] at ht
    simp only [Option.bind_some, turnL] at ht
    obtain ⟨rM, _⟩ := turnL_rise h hM
    cases hN : turn1 M e with
    | none => rw [hN] at ht; cases ht
    | some K =>
      rw [hN] at ht
      simp only [Option.bind_some] at ht
      obtain ⟨a, b, _, d⟩ := turn1_ok rM hN
      obtain ⟨rL, _⟩ := turnL_rise a ht
      cases hg : e.gone
      · have hin : (⟨e.path, e.bytes⟩ : TFile) ∈ L' := (turnL_keep a ht ⟨e.path, e.bytes⟩ hl).2 ((b _).2 (.inr ⟨hg, rfl⟩))
        exact fget_mem rL hin
      · have he : e.bytes = ByteArray.empty := toL_inj (by rw [d hg]; rfl)
        rw [fget_no, he]
        · rfl
        · intro z hz' hp
          have hK : z ∈ K := (turnL_keep a ht z (fun f hf => by rw [hp]; exact hl f hf)).1 hz'
          rcases (b z).1 hK with ⟨_, h2⟩ | ⟨h2, _⟩
          · exact h2 hp
          · rw [hg] at h2; cases h2
/-- what TreTurn makes of files -/
def turnT (L : List TFile) (es : List TEdit) : Option (List TFile) :=
  if treB L = true ∧ es.length ≤ 4 then (match turnL L es with | some M => if treB M = true then some M else none | none => none) else none
theorem turnT_no1 {L : List TFile} {es : List TEdit} (h : treB L = false) : turnT L es = none := by unfold turnT; rw [if_neg (by rw [h]; simp)]
theorem turnT_no2 {L : List TFile} {es : List TEdit} (h : ¬ es.length ≤ 4) : turnT L es = none := by unfold turnT; rw [if_neg (fun k => h k.2)]
theorem turnT_no3 {L : List TFile} {es : List TEdit} (h : turnL L es = none) : turnT L es = none := by unfold turnT; rw [h]; split <;> rfl
theorem turnT_no4 {L M : List TFile} {es : List TEdit} (h : turnL L es = some M) (k : treB M = false) : turnT L es = none := by
  unfold turnT
  rw [h]
  simp [k]
theorem turnT_yes {L M : List TFile} {es : List TEdit} (h1 : treB L = true) (h2 : es.length ≤ 4) (h : turnL L es = some M) (k : treB M = true) : turnT L es = some M := by
  unfold turnT
  rw [if_pos ⟨h1, h2⟩, h]
  simp [k]
theorem turnT_inv {L M : List TFile} {es : List TEdit} (h : turnT L es = some M) : treB L = true ∧ es.length ≤ 4 ∧ turnL L es = some M ∧ treB M = true := by
  unfold turnT at h
  split at h
  · rename_i h1
    split at h
    · rename_i K hK
      split at h
      · rename_i h3
        simp only [Option.some.injEq] at h
        subst h
        exact ⟨h1.1, h1.2, hK, h3⟩
      · cases h
    · cases h
  · cases h
end Go.Proofs.YtkghhmjmfcnbnaaDoor
