/- The files under a path: plain laws. No walk stands in it. -/
import Derived.Test.YtkghhmjmfcnbnaaDoorTurnL
import Derived.Test.YtkghhmjmfcnbnaaDoorDifL
import Derived.Test.YtkghhmjmfcnbnaaDoorTreU
import Derived.Test.YtkghhmjmfcnbnaaDoorPthV
namespace Go.Proofs.YtkghhmjmfcnbnaaDoor
open Go.RowKit

/-- what a tree is, in words -/
theorem treB_iff {L : List TFile} : treB L = true ↔ L.length ≤ 60 ∧ (∀ z ∈ L, fileB z = true) ∧ RiseT L ∧ L.Pairwise (fun a b => undB a.path b.path = false) := by
  constructor
  · intro h
    refine ⟨treB_len h, treB_file h, treB_rise h, ?_⟩
    rw [treB_all, Bool.and_eq_true, allT_parts, Bool.and_eq_true] at h
    have hf := h.2.2
    unfold farT at hf
    rw [List.all_eq_true] at hf
    rw [List.pairwise_iff_getElem]
    intro i j hi hj hij
    have := hf j (by simpa using hj)
    rw [List.getElem?_eq_getElem hj] at this
    simp only [Bool.not_eq_true', List.any_eq_false] at this
    have h2 := this L[i] (List.mem_take_iff_getElem.2 ⟨i, by omega, rfl⟩)
    simpa using h2
  · rintro ⟨h1, h2, h3, h4⟩
    unfold RiseT at h3
    rw [List.pairwise_iff_getElem] at h3 h4
    rw [treB_all, Bool.and_eq_true, decide_eq_true_eq, allT_parts, Bool.and_eq_true]
    refine ⟨h1, ?_, ?_⟩
    · unfold goodT
      rw [List.all_eq_true]
      intro i hi
      have hi' : i < L.length := by simpa using hi
      rw [List.getElem?_eq_getElem hi']
      simp only [Bool.and_eq_true]
      refine ⟨h2 _ (List.getElem_mem hi'), ?_⟩
      cases i with
      | zero => rfl
      | succ j =>
        simp only [prevB]
        rw [List.getElem?_eq_getElem (by omega)]
        exact h3 j (j + 1) (by omega) hi' (by omega)
    · unfold farT
      rw [List.all_eq_true]
      intro i hi
      have hi' : i < L.length := by simpa using hi
      rw [List.getElem?_eq_getElem hi']
      simp only [Bool.not_eq_true', List.any_eq_false]
      intro g hg
      obtain ⟨j, hj, rfl⟩ := List.mem_take_iff_getElem.1 hg
      rw [h4 j i (by omega) hi' (by omega)]
      simp
theorem under_tree {zs : List TFile} (q : ByteArray) (h : treB zs = true) : treB (underF q zs) = true := by
  rw [treB_iff] at h ⊢
  obtain ⟨h1, h2, h3, h4⟩ := h
  have hs : (underF q zs).Sublist zs := List.filter_sublist
  exact ⟨Nat.le_trans (underF_len q zs) h1, fun z hz => h2 z (List.mem_filter.1 hz).1, h3.sublist hs, h4.sublist hs⟩
theorem under_all {zs : List TFile} (h : treB zs = true) : underF ByteArray.empty zs = zs := by
  have hf := treB_file h
  unfold underF
  rw [List.filter_eq_self]
  intro z hz
  have hp : pthL (toL z.path) = true := (fileB_path (hf z hz)).2.1
  show undL (toL ByteArray.empty) (toL z.path) = true
  rw [empty_toL, undL_root, hp]
theorem under_twice (q : ByteArray) (zs : List TFile) : underF q (underF q zs) = underF q zs := by
  unfold underF
  rw [List.filter_eq_self]
  intro z hz
  exact (List.mem_filter.1 hz).2
theorem fget_true {zs : List TFile} {q s : ByteArray} (h : fgetF zs q = (s, true)) : ∃ z ∈ zs, z.path = q := by
  unfold fgetF at h
  cases e : zs.find? (fun z => decide (z.path = q)) with
  | none => rw [e] at h; simp at h
  | some f =>
    have h1 := List.find?_some e
    exact ⟨f, List.mem_of_find?_eq_some e, by simpa using h1⟩
theorem fget_false {zs : List TFile} {q s : ByteArray} (h : fgetF zs q = (s, false)) : ∀ z ∈ zs, z.path ≠ q := by
  unfold fgetF at h
  cases e : zs.find? (fun z => decide (z.path = q)) with
  | none =>
    rw [List.find?_eq_none] at e
    intro z hz
    simpa using e z hz
  | some f => rw [e] at h; simp at h
/-- a tree with a file at q has no other one under q -/
theorem under_own {zs : List TFile} {z y : TFile} (h : treB zs = true) (hz : z ∈ zs) (hy : y ∈ zs) (hu : undB z.path y.path = true) : y = z := by
  obtain ⟨-, h2, h3, h4⟩ := treB_iff.1 h
  obtain ⟨i, hi, rfl⟩ := List.mem_iff_getElem.1 hz
  obtain ⟨j, hj, rfl⟩ := List.mem_iff_getElem.1 hy
  unfold RiseT at h3
  rw [List.pairwise_iff_getElem] at h3 h4
  rcases Nat.lt_trichotomy i j with k | k | k
  · rw [h4 i j hi hj k] at hu; cases hu
  · subst k; rfl
  · have hb := h3 j i hj hi k
    have hg := (fileB_path (h2 _ (List.getElem_mem hi))).1
    by_cases e : zs[i].path = zs[j].path
    · exact absurd e.symm (bl_path hb)
    · obtain ⟨t, et⟩ := und_form hu hg e
      rw [et] at hb
      have key : ∀ (a : By) (t : By), bl (a ++ t) a = false := by
        intro a
        induction a with
        | nil => intro t; exact bl_nil _
        | cons c a ih => intro t; rw [List.cons_append, bl_cons, ih]; simp
      rw [key] at hb; cases hb
theorem rise_sole {L : List TFile} {z : TFile} (h : RiseT L) (hz : z ∈ L) (ha : ∀ y ∈ L, y = z) : L.length = 1 := by
  cases L with
  | nil => cases hz
  | cons x r =>
    cases r with
    | nil => rfl
    | cons y r =>
      unfold RiseT at h
      rw [List.pairwise_cons] at h
      have e1 := ha x (by simp)
      have e2 := ha y (by simp)
      exact absurd (by rw [e1, e2]) (bl_path (h.1 y (by simp)))
theorem und_here {zs : List TFile} {q s : ByteArray} (h : treB zs = true) (hg : fgetF zs q = (s, true)) : (underF q zs).length = 1 ∧ namesB q zs = [] := by
  obtain ⟨z, hz, rfl⟩ := fget_true hg
  have hzp : pthL (toL z.path) = true := (fileB_path (treB_file h z hz)).2.1
  have hs : (underF z.path zs).Sublist zs := List.filter_sublist
  constructor
  · refine rise_sole (z := z) ((treB_rise h).sublist hs) ?_ ?_
    · unfold underF
      rw [List.mem_filter]
      refine ⟨hz, ?_⟩
      show undL (toL z.path) (toL z.path) = true
      rw [undL_refl, hzp]
    · intro y hy
      unfold underF at hy
      rw [List.mem_filter] at hy
      exact under_own h hz hy.1 hy.2
  · have : namesL z.path zs = [] := by
      unfold namesL selL
      rw [List.map_eq_nil_iff, List.filter_eq_nil_iff]
      intro y hy hb
      unfold behF at hb
      simp only [Bool.and_eq_true, Bool.not_eq_true', decide_eq_false_iff_not] at hb
      have := under_own h hz hy hb.1
      subst this
      exact hb.2 rfl
    unfold namesB
    rw [this, setB_nil]

/-! ### what is under a name -/
/-- how many files are under each of the names -/
def undS (q : ByteArray) (zs : List TFile) (L : List ByteArray) : Nat := (L.map fun n => (underF (joinB q n) zs).length).sum
theorem undS_nil (q : ByteArray) (zs : List TFile) : undS q zs [] = 0 := rfl
theorem undS_zero (q : ByteArray) (zs : List TFile) (L : List ByteArray) : undS q zs (L.take 0) = 0 := rfl
theorem undS_step {q x : ByteArray} {zs : List TFile} {L : List ByteArray} {k : Nat} (hz : L[k]? = some x) : undS q zs (L.take (k + 1)) = undS q zs (L.take k) + (underF (joinB q x) zs).length := by
  rw [take_one hz, undS, List.map_append, List.sum_append]
  simp [undS]
theorem undS_le (q : ByteArray) (zs : List TFile) : ∀ (L : List ByteArray), undS q zs L ≤ L.length * zs.length
  | [] => by simp [undS]
  | x :: L => by
    have ih := undS_le q zs L
    have h1 := underF_len (joinB q x) zs
    have e : undS q zs (x :: L) = (underF (joinB q x) zs).length + undS q zs L := by simp [undS]
    rw [e, List.length_cons, Nat.add_mul]
    omega
theorem headL_iff {p n : By} (hn : (47 : UInt8) ∉ n) : headL p = n ↔ p = n ∨ ∃ t, p = n ++ 47 :: t := by
  constructor
  · intro h
    obtain ⟨x, r, e⟩ := cutL_cons p
    have hx : x = n := by rw [← h]; unfold headL; rw [e]; rfl
    subst hx
    have e2 := nameL_cut p
    rw [e] at e2
    cases r with
    | nil => exact .inl e2.symm
    | cons y r => exact .inr ⟨nameL (y :: r), by rw [← e2, nameL_cons _ (by simp)]⟩
  · rintro (rfl | ⟨t, rfl⟩)
    · unfold headL; rw [cutL_plain hn]; rfl
    · unfold headL; rw [cutL_app_stroke, cutL_plain hn]; rfl
/-- what is behind q of a path, as bytes -/
theorem restF_root {q p : ByteArray} (h : toL q = []) : toL (restF q p) = toL p := by rw [restF_nil h]
theorem restF_form {q p : ByteArray} {u : By} (h : ¬ toL q = []) (e : toL p = toL q ++ 47 :: u) : toL (restF q p) = u := by
  rw [restF_yes h, toL_ext, e, ← toL_len q, ← toL_len p, e, List.extract_eq_take_drop]
  have h1 : (toL q ++ 47 :: u).drop ((toL q).length + 1) = u := by
    rw [List.drop_append]
    simp
  rw [h1, List.take_of_length_le (by simp; omega)]
/-- the name behind q of a path under it, not at it: it can be joined, and tells what is under it -/
theorem name_behind {q p : ByteArray} (hp0 : ¬ toL p = []) (hu : undB q p = true) (hq : q ≠ p) :
    (47 : UInt8) ∉ toL (firstB (restF q p)) ∧ toL (joinB q (firstB (restF q p))) = ontoL (toL q) (toL (firstB (restF q p))) ∧ ¬ toL (firstB (restF q p)) = [] ∧ toL (firstB (restF q p)) = headL (toL (restF q p)) := by
  have hu' : undL (toL q) (toL p) = true := hu
  obtain ⟨hpq, hpp, -⟩ := undL_iff.1 hu'
  obtain ⟨r, hr⟩ : ∃ r, toL (restF q p) = r := ⟨_, rfl⟩
  have key : r ≠ [] ∧ pthL r = true ∧ toL p = ontoL (toL q) r := by
    by_cases h0 : toL q = []
    · rw [restF_root h0] at hr
      subst hr
      refine ⟨hp0, hpp, ?_⟩
      unfold ontoL; rw [if_pos h0]
    · obtain ⟨u, e⟩ := und_form hu h0 hq
      rw [restF_form h0 e] at hr
      subst hr
      have hne : toL p ≠ [] := by rw [e]; simp
      have hall := (pthL_iff hne).1 hpp
      rw [e, cutL_app_stroke, List.length_append] at hall
      have hun : u ≠ [] := by
        rintro rfl
        have := hall.1 [] (by simp [cutL])
        simp [namL] at this
      refine ⟨hun, (pthL_iff hun).2 ⟨fun x hx => hall.1 x (by simp [hx]), by omega⟩, ?_⟩
      unfold ontoL; rw [if_neg h0, if_neg hun]; exact e
  obtain ⟨k1, k2, k3⟩ := key
  have hfb : toL (firstB (restF q p)) = headL r := by
    unfold firstB pthB
    rw [hr, if_pos k2, toL_mkB]
  have hcut := (pthL_iff k1).1 k2
  obtain ⟨x, l, e⟩ := cutL_cons r
  have hh : headL r = x := by unfold headL; rw [e]; rfl
  have hnam : namL x = true := hcut.1 x (by rw [e]; simp)
  have hxn : x ≠ [] := by rintro rfl; simp [namL] at hnam
  have hpn : partsN (toL q) + partsN x ≤ 3 := by
    have h3 := k3 ▸ hpp
    rw [pthL_onto hpq k2, decide_eq_true_eq] at h3
    have hp1 : partsN x = 1 := by unfold partsN; rw [if_neg hxn, cutL_plain (namL_stroke hnam)]; rfl
    have hp2 : 1 ≤ partsN r := by unfold partsN; rw [if_neg k1, e]; simp
    omega
  rw [hfb, hh, hr]
  refine ⟨namL_stroke hnam, ?_, hxn, hh.symm⟩
  unfold joinB
  rw [hfb, hh, toL_mkB]
  unfold joinL
  rw [hpq, pthL_one hnam, pthL_onto hpq (pthL_one hnam), decide_eq_true hpn]
  rfl
/-- under the joined name is what is under q and has that name behind it -/
theorem und_name {q p n : ByteArray} (hp : pthB p = true) (hp0 : ¬ toL p = []) (hpq : pthB q = true) (hq : q ≠ p) (hn : (47 : UInt8) ∉ toL n) (hn0 : ¬ toL n = [])
    (hj : toL (joinB q n) = ontoL (toL q) (toL n)) : undB (joinB q n) p = true ↔ undB q p = true ∧ firstB (restF q p) = n := by
  have hjo : pthL (toL (joinB q n)) = true := by unfold joinB; rw [toL_mkB]; exact joinL_ok _ _
  have hpp : pthL (toL p) = true := hp
  have hqq : pthL (toL q) = true := hpq
  have hqp : ¬ toL q = toL p := fun e => hq (toL_inj e)
  have h1 : undB (joinB q n) p = true ↔ (ontoL (toL q) (toL n) = toL p ∨ ∃ t, toL p = ontoL (toL q) (toL n) ++ 47 :: t) := by
    show undL _ _ = true ↔ _
    rw [undL_iff, hj]
    have hne : ontoL (toL q) (toL n) ≠ [] := by
      unfold ontoL
      by_cases h0 : toL q = []
      · rw [if_pos h0]; exact hn0
      · rw [if_neg h0, if_neg hn0]; simp
    rw [hj] at hjo
    constructor
    · rintro ⟨-, -, h | h⟩
      · exact absurd h hne
      · exact h
    · intro h
      exact ⟨hjo, hpp, .inr h⟩
  rw [h1]
  by_cases h0 : toL q = []
  · have h2 : undB q p = true := by show undL _ _ = true; rw [h0, undL_root, hpp]
    have hb := (name_behind hp0 h2 hq).2.2.2
    rw [restF_root h0] at hb
    have h3 : firstB (restF q p) = n ↔ headL (toL p) = toL n := by
      rw [← hb]
      exact ⟨fun e => by rw [e], fun e => toL_inj e⟩
    rw [h2, h3, headL_iff hn]
    unfold ontoL
    rw [if_pos h0]
    constructor
    · rintro (h | h)
      · exact ⟨rfl, .inl h.symm⟩
      · exact ⟨rfl, .inr h⟩
    · rintro ⟨-, h | h⟩
      · exact .inl h.symm
      · exact .inr h
  · unfold ontoL
    rw [if_neg h0, if_neg hn0]
    constructor
    · intro h
      obtain ⟨u, hu1, hu2⟩ : ∃ u, toL p = toL q ++ 47 :: u ∧ (u = toL n ∨ ∃ t, u = toL n ++ 47 :: t) := by
        rcases h with h | ⟨t, h⟩
        · exact ⟨toL n, h.symm, .inl rfl⟩
        · exact ⟨toL n ++ 47 :: t, by rw [h]; simp, .inr ⟨t, rfl⟩⟩
      have h2 : undB q p = true := by show undL _ _ = true; rw [undL_iff]; exact ⟨hqq, hpp, .inr (.inr ⟨u, hu1⟩)⟩
      refine ⟨h2, toL_inj ?_⟩
      have hb := (name_behind hp0 h2 hq).2.2.2
      rw [hb, restF_form h0 hu1]
      exact (headL_iff hn).2 hu2
    · rintro ⟨h2, h3⟩
      obtain ⟨u, e⟩ := und_form h2 h0 hq
      have hb := (name_behind hp0 h2 hq).2.2.2
      rw [h3, restF_form h0 e] at hb
      rcases (headL_iff hn).1 hb.symm with h | ⟨t, h⟩
      · exact .inl (by rw [e, h])
      · exact .inr ⟨t, by rw [e, h]; simp⟩
/-- each of a list stands under just one of its keys -/
theorem count_keys {α β : Type} [DecidableEq β] (f : α → β) : ∀ (N : List β) (L : List α), N.Nodup → (∀ x ∈ L, f x ∈ N) → (N.map fun n => (L.filter fun x => decide (f x = n)).length).sum = L.length
  | [], L, _, h => by
    cases L with
    | nil => rfl
    | cons x L => have := h x (by simp); cases this
  | n :: N, L, hn, h => by
    rw [List.nodup_cons] at hn
    have ih := count_keys f N (L.filter fun x => decide (f x ≠ n)) hn.2 (fun x hx => by
      rw [List.mem_filter] at hx
      have h2 : f x ≠ n := by simpa using hx.2
      rcases List.mem_cons.1 (h x hx.1) with e | e
      · exact absurd e h2
      · exact e)
    have e : (N.map fun m => ((L.filter fun x => decide (f x ≠ n)).filter fun x => decide (f x = m)).length) = N.map fun m => (L.filter fun x => decide (f x = m)).length := by
      apply List.map_congr_left
      intro m hm
      rw [List.filter_filter]
      congr 1
      apply List.filter_congr
      intro x _
      by_cases h1 : f x = m
      · have : f x ≠ n := by rw [h1]; rintro rfl; exact hn.1 hm
        simp [h1]
        rw [← h1]; exact this
      · simp [h1]
    rw [e] at ih
    rw [List.map_cons, List.sum_cons, ih]
    have key : ∀ (K : List α), (K.filter fun x => decide (f x = n)).length + (K.filter fun x => decide (f x ≠ n)).length = K.length := by
      intro K
      induction K with
      | nil => rfl
      | cons x K ih =>
        by_cases hx : f x = n
        · simp [hx] at ih ⊢; omega
        · simp [hx] at ih ⊢; omega
    exact key L
theorem und_gone {zs : List TFile} {q s : ByteArray} (h : treB zs = true) (hq : pthB q = true) (hg : fgetF zs q = (s, false)) : undS q zs (namesB q zs) = (underF q zs).length := by
  have hno := fget_false hg
  have hf := treB_file h
  have hnod : (namesB q zs).Nodup := (setB_rise (namesL q zs)).imp fun hb e => by subst e; rw [bl_irr] at hb; cases hb
  rw [← count_keys (fun z : TFile => firstB (restF q z.path)) (namesB q zs) (underF q zs) hnod]
  · unfold undS
    congr 1
    apply List.map_congr_left
    intro n hn
    congr 1
    unfold underF
    rw [List.filter_filter]
    apply List.filter_congr
    intro z hz
    unfold namesB at hn
    rw [setB_mem] at hn
    unfold namesL selL at hn
    rw [List.mem_map] at hn
    obtain ⟨y, hy, rfl⟩ := hn
    rw [List.mem_filter] at hy
    have hyb := hy.2
    unfold behF at hyb
    simp only [Bool.and_eq_true, Bool.not_eq_true', decide_eq_false_iff_not] at hyb
    have hnb := name_behind (fileB_path (hf y hy.1)).1 hyb.1 hyb.2
    have := und_name (p := z.path) (fileB_path (hf z hz)).2.1 (fileB_path (hf z hz)).1 hq (hno z hz).symm hnb.1 hnb.2.2.1 hnb.2.1
    rw [Bool.eq_iff_iff, this, Bool.and_eq_true, decide_eq_true_eq]
    exact And.comm
  · intro z hz
    unfold underF at hz
    rw [List.mem_filter] at hz
    unfold namesB
    rw [setB_mem]
    unfold namesL selL
    rw [List.mem_map]
    refine ⟨z, ?_, rfl⟩
    rw [List.mem_filter]
    exact ⟨hz.1, behF_yes hz.2 (hno z hz.1).symm⟩
theorem names_size {q n : ByteArray} {zs : List TFile} (h : n ∈ namesB q zs) : n.size ≤ 1048576 := by
  unfold namesB at h
  rw [setB_mem] at h
  unfold namesL selL at h
  rw [List.mem_map] at h
  obtain ⟨y, -, rfl⟩ := h
  have := firstB_size (restF q y.path)
  omega
theorem names_less {q x y : ByteArray} {zs : List TFile} {k : Nat} (hk : 0 < k) (hy : (namesB q zs)[k - 1]? = some y) (hz : (namesB q zs)[k]? = some x) : Op.bytesLess y.toList x.toList = true := by
  have hr := setB_rise (namesL q zs)
  rw [List.pairwise_iff_getElem] at hr
  obtain ⟨h1, rfl⟩ := List.getElem?_eq_some_iff.1 hy
  obtain ⟨h2, rfl⟩ := List.getElem?_eq_some_iff.1 hz
  rw [toL_toList, toL_toList]
  exact hr (k - 1) k h1 h2 (by omega)
theorem undS_few {q : ByteArray} {zs : List TFile} (h : zs.length ≤ 60) (k : Nat) : undS q zs ((namesB q zs).take k) ≤ 3600 := by
  have h1 := undS_le q zs ((namesB q zs).take k)
  have h2 : ((namesB q zs).take k).length ≤ 60 := by
    have := namesB_len q zs
    rw [List.length_take]; omega
  exact Nat.le_trans h1 (Nat.le_trans (Nat.mul_le_mul h2 h) (by decide))
end Go.Proofs.YtkghhmjmfcnbnaaDoor
