/- Files that are a tree: plain functions. No walk stands in it. -/
import Derived.Test.YtkghhmjmfcnbnaaDoorFileH
import Derived.Test.YtkghhmjmfcnbnaaDoorOrd
namespace Go.Proofs.YtkghhmjmfcnbnaaDoor
open Go.RowKit

/-- a file that may stand in a tree -/
def fileB (f : TFile) : Bool := !(toL f.path).isEmpty && pthB f.path && decide (f.bytes.size ≤ 6)
/-- the file at place i, if there is one ahead of it, stands behind that one -/
def prevB (zs : List TFile) (i : Nat) (z : TFile) : Bool := match i with | 0 => true | j + 1 => match zs[j]? with | some y => bl (toL y.path) (toL z.path) | none => true
/-- the first k files are fine and rise -/
def goodT (zs : List TFile) (k : Nat) : Bool := (List.range k).all fun i => match zs[i]? with | some z => fileB z && prevB zs i z | none => false
/-- of the first k files none lies under the one right ahead of it -/
def adjT (zs : List TFile) (k : Nat) : Bool := (List.range k).all fun i => match i with | 0 => true | j + 1 => match zs[j]?, zs[j + 1]? with | some y, some z => !undB y.path z.path | _, _ => true
/-- of the first k files none lies under one ahead of it -/
def farT (zs : List TFile) (k : Nat) : Bool := (List.range k).all fun i => match zs[i]? with | some z => !(zs.take i).any (fun g => undB g.path z.path) | none => true
/-- the first k files are fine, rise, and none lies under one ahead of it -/
def allT (zs : List TFile) (k : Nat) : Bool := (List.range k).all fun i => match zs[i]? with | some z => (fileB z && prevB zs i z) && !(zs.take i).any (fun g => undB g.path z.path) | none => false
def treB (zs : List TFile) : Bool := decide (zs.length ≤ 60) && goodT zs zs.length && adjT zs zs.length

theorem all_less {p : Nat → Bool} {k n : Nat} (h : k ≤ n) (hg : (List.range k).all p = false) : (List.range n).all p = false := by
  rw [Bool.eq_false_iff]
  intro ht
  rw [Bool.eq_false_iff] at hg
  refine hg ?_
  rw [List.all_eq_true] at ht ⊢
  intro i hi
  exact ht i (by simp only [List.mem_range] at hi ⊢; omega)
theorem goodT_step {zs : List TFile} {z : TFile} {k : Nat} (hz : zs[k]? = some z) : goodT zs (k + 1) = (goodT zs k && (fileB z && prevB zs k z)) := by
  simp [goodT, List.range_succ, hz]
theorem allT_step {zs : List TFile} {z : TFile} {k : Nat} (hz : zs[k]? = some z) : allT zs (k + 1) = (allT zs k && ((fileB z && prevB zs k z) && !(zs.take k).any (fun g => undB g.path z.path))) := by
  simp [allT, List.range_succ, hz]
theorem adjT_step {zs : List TFile} {y z : TFile} {k : Nat} (hy : zs[k]? = some y) (hz : zs[k + 1]? = some z) : adjT zs (k + 2) = (adjT zs (k + 1) && !undB y.path z.path) := by
  simp [adjT, List.range_succ, hy, hz, Bool.and_assoc]
theorem adjT_one (zs : List TFile) : adjT zs 1 = true := by simp [adjT, List.range_succ]
theorem adjT_zero (zs : List TFile) : adjT zs 0 = true := rfl
theorem allT_parts (zs : List TFile) : allT zs zs.length = (goodT zs zs.length && farT zs zs.length) := by
  rw [Bool.eq_iff_iff, Bool.and_eq_true]
  unfold allT goodT farT
  simp only [List.all_eq_true, List.mem_range]
  constructor
  · intro h
    refine ⟨fun i hi => ?_, fun i hi => ?_⟩
    · have := h i hi
      rw [List.getElem?_eq_getElem hi] at this ⊢
      simp only [Bool.and_eq_true] at this ⊢
      exact this.1
    · have := h i hi
      rw [List.getElem?_eq_getElem hi] at this ⊢
      simp only [Bool.and_eq_true] at this
      exact this.2
  · rintro ⟨h1, h2⟩ i hi
    have a := h1 i hi
    have b := h2 i hi
    rw [List.getElem?_eq_getElem hi] at a b ⊢
    simp only [Bool.and_eq_true] at a ⊢
    exact ⟨a, b⟩
/-- what goodT says -/
theorem goodT_all {zs : List TFile} (h : goodT zs zs.length = true) : (∀ z ∈ zs, fileB z = true) ∧ zs.Pairwise fun a b => bl (toL a.path) (toL b.path) = true := by
  unfold goodT at h
  rw [List.all_eq_true] at h
  have hf : ∀ i (hi : i < zs.length), fileB zs[i] = true ∧ prevB zs i zs[i] = true := fun i hi => by
    have := h i (by simpa using hi)
    rw [List.getElem?_eq_getElem hi] at this
    simpa using this
  have hstep : ∀ i (hi : i + 1 < zs.length), bl (toL zs[i].path) (toL zs[i + 1].path) = true := fun i hi => by
    have := (hf (i + 1) hi).2
    simp only [prevB] at this
    rw [List.getElem?_eq_getElem (by omega)] at this
    exact this
  refine ⟨fun z hz => ?_, ?_⟩
  · obtain ⟨i, hi, rfl⟩ := List.mem_iff_getElem.1 hz
    exact (hf i hi).1
  · rw [List.pairwise_iff_getElem]
    intro i j hi hj hij
    obtain ⟨d, rfl⟩ : ∃ d, j = i + 1 + d := ⟨j - i - 1, by omega⟩
    induction d with
    | zero => exact hstep i hj
    | succ d ih => exact bl_trans (ih (by omega) (by omega)) (hstep (i + 1 + d) hj)
theorem fileB_path {f : TFile} (h : fileB f = true) : toL f.path ≠ [] ∧ pthB f.path = true ∧ f.bytes.size ≤ 6 := by
  simp only [fileB, Bool.and_eq_true, decide_eq_true_eq, Bool.not_eq_true', List.isEmpty_eq_false_iff] at h
  exact ⟨h.1.1, h.1.2, h.2⟩
theorem far_of_adj {zs : List TFile} (hg : goodT zs zs.length = true) (ha : adjT zs zs.length = true) : farT zs zs.length = true := by
  obtain ⟨hf, hp⟩ := goodT_all hg
  rw [List.pairwise_iff_getElem] at hp
  unfold adjT at ha
  rw [List.all_eq_true] at ha
  unfold farT
  rw [List.all_eq_true]
  intro i hi
  have hi' : i < zs.length := by simpa using hi
  rw [List.getElem?_eq_getElem hi']
  simp only [Bool.not_eq_true', List.any_eq_false]
  intro g hgm hu
  obtain ⟨j, hj, rfl⟩ := List.mem_take_iff_getElem.1 hgm
  have hji : j < i := by omega
  have hj1 : j + 1 < zs.length := by omega
  have hgp := fileB_path (hf _ (List.getElem_mem (show j < zs.length by omega)))
  have hxp := fileB_path (hf _ (List.getElem_mem hj1))
  have hb : undL (toL zs[j].path) (toL zs[j + 1].path) = true := by
    refine und_between hgp.1 hxp.2.1 hu (hp j (j + 1) (by omega) hj1 (by omega)) ?_
    by_cases e : j + 1 = i
    · subst e; exact .inl rfl
    · exact .inr (hp (j + 1) i hj1 hi' (by omega))
  have := ha (j + 1) (by simp; omega)
  simp only at this
  rw [List.getElem?_eq_getElem (by omega), List.getElem?_eq_getElem hj1] at this
  simp only [Bool.not_eq_true'] at this
  have hb' : undB zs[j].path zs[j + 1].path = true := hb
  rw [hb'] at this; cases this
theorem adj_of_far {zs : List TFile} (hf : farT zs zs.length = true) : adjT zs zs.length = true := by
  unfold farT at hf
  rw [List.all_eq_true] at hf
  unfold adjT
  rw [List.all_eq_true]
  intro i hi
  have hi' : i < zs.length := by simpa using hi
  cases i with
  | zero => rfl
  | succ j =>
    have := hf (j + 1) hi
    rw [List.getElem?_eq_getElem hi'] at this
    simp only [Bool.not_eq_true', List.any_eq_false] at this
    have h2 := this zs[j] (List.mem_take_iff_getElem.2 ⟨j, by omega, rfl⟩)
    simp only
    rw [List.getElem?_eq_getElem (by omega), List.getElem?_eq_getElem hi']
    simp only [Bool.not_eq_true']
    simpa using h2
theorem treB_all (zs : List TFile) : treB zs = (decide (zs.length ≤ 60) && allT zs zs.length) := by
  rw [allT_parts]
  unfold treB
  by_cases hg : goodT zs zs.length = true
  · have : adjT zs zs.length = farT zs zs.length := by
      rw [Bool.eq_iff_iff]
      exact ⟨far_of_adj hg, adj_of_far⟩
    rw [this, hg, Bool.and_true, Bool.true_and]
  · have hg' : goodT zs zs.length = false := by simpa using hg
    rw [hg']; simp
theorem treB_bad {zs : List TFile} {z : TFile} {k : Nat} (hz : zs[k]? = some z) (h : ((fileB z && prevB zs k z) && !(zs.take k).any (fun g => undB g.path z.path)) = false) : treB zs = false := by
  have hk := (List.getElem?_eq_some_iff.1 hz).1
  have : allT zs zs.length = false := all_less (k := k + 1) (by omega) (by have := allT_step hz; rw [h, Bool.and_false] at this; exact this)
  rw [treB_all, this, Bool.and_false]
theorem treB_bad1 {zs : List TFile} {z : TFile} {k : Nat} (hz : zs[k]? = some z) (h : (fileB z && prevB zs k z) = false) : treB zs = false := treB_bad hz (by rw [h]; rfl)
theorem any_hitT {zs : List TFile} {p : TFile → Bool} {g : TFile} {j : Nat} (hg : zs[j]? = some g) (h : p g = true) : zs.any p = true := List.any_eq_true.2 ⟨g, List.mem_of_getElem? hg, h⟩
theorem treB_bad2 {zs : List TFile} {z g : TFile} {k j : Nat} (hz : zs[k]? = some z) (hg : (zs.take k)[j]? = some g) (h : undB g.path z.path = true) : treB zs = false :=
  treB_bad hz (by rw [any_hitT hg h]; simp)
theorem treB_bad3 {zs : List TFile} {y z : TFile} {k : Nat} (hy : zs[k]? = some y) (hz : zs[k + 1]? = some z) (h : undB y.path z.path = true) : treB zs = false := by
  have hk := (List.getElem?_eq_some_iff.1 hz).1
  have : adjT zs zs.length = false := all_less (k := k + 2) (by omega) (by have := adjT_step hy hz; rw [h] at this; simpa [adjT] using this)
  rw [treB, this, Bool.and_false]
theorem treB_long {zs : List TFile} (h : ¬ zs.length ≤ 60) : treB zs = false := by simp [treB, h]
end Go.Proofs.YtkghhmjmfcnbnaaDoor
