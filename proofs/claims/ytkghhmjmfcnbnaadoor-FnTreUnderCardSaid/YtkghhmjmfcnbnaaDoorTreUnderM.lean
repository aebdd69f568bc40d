/- FnTreUnder returns true for every code; the tables that its row lists are tied to the program. No condition. -/
import Derived.Test.YtkghhmjmfcnbnaaDoorStrH
import Derived.Test.YtkghhmjmfcnbnaaDoorStr
import Derived.BigQuiet
import Derived.Deep.QuietTactic
import Derived.Test.YtkghhmjmfcnbnaaDoorTurnL
import Derived.Test.YtkghhmjmfcnbnaaDoorDifL
import Derived.Test.YtkghhmjmfcnbnaaDoorTreU
import Derived.Test.YtkghhmjmfcnbnaaDoorPthV
import Derived.Test.YtkghhmjmfcnbnaaDoorFileH
import Derived.Test.YtkghhmjmfcnbnaaDoorTreS
import Derived.StillTailTactics
import Derived.Test.YtkghhmjmfcnbnaaDoorDrawTT
import Derived.Test.YtkghhmjmfcnbnaaDoorNmsI
import Derived.Test.YtkghhmjmfcnbnaaDoorPthOrderH
import Derived.Test.YtkghhmjmfcnbnaaDoorLaidW
namespace Go.Proofs.YtkghhmjmfcnbnaaDoor
open Go.ChangeShapes Go.WideShapes Go.ChangeAt Go.RowKit


theorem chTexts_calls (u v : Value) (zs : List ByteArray) (w : World) (hu : Sl 1 strC w u zs) (hv : Sl 1 strC w v zs) :
    Calls Tryd.prog 21 #[u, v] w fun e w' => e = .returned (.bool true) ∧ Below w.heap.size w w' := by
  obtain ⟨A, c, rfl, hc, hlc, hat⟩ := str_at hu
  obtain ⟨A', c', rfl, hc', hlc', hat'⟩ := str_at hv
  unfold maxLen at hc hc'
  go_enter Tryd.func21, Tryd.ntmps21
  go_wp2
  go_loopw [5] (fun i wr => ∃ k : Nat, k ≤ zs.length ∧ i = .int .i64 k ∧ Below w.heap.size w wr) (fun i _ => zs.length - (intOf i).toNat)
  case atStart => exact ⟨0, Nat.zero_le _, rfl, Below.refl _ _⟩
  case round =>
    obtain ⟨k, hk, rfl, hnx⟩ := hrel
    by_cases hlt : k < zs.length
    · obtain ⟨x, b, off, hz, rfl, hb, c0⟩ := hat k hlt
      obtain ⟨x', b', off', hz', rfl, hb', c0'⟩ := hat' k hlt
      rw [hz] at hz'
      simp only [Option.some.injEq] at hz'
      subst hz'
      have d0 := (hnx.cell (p := ⟨b, off + k, none⟩) hb).trans c0
      have d0' := (hnx.cell (p := ⟨b', off' + k, none⟩) hb').trans c0'
      clear hat hat' c0 c0' hz
      have h0 : (0 : Int) ≤ (k : Int) := Int.natCast_nonneg _
      have hl : (k : Int) < (zs.length : Int) := by omega
      go_wp2_with fail
      go_quiet (fail)
      have hnx2 := below_drewN hnx nq
      clear hnx
      go_wp2
      go_roundw
      case rel => exact ⟨k + 1, by omega, by go_num, hnx2⟩
      case measure => simp [intOf]; omega
    · go_wp2
      go_ret
      exact ⟨rfl, hnx⟩


/-- what a tree is, in words -/
theorem treB_iff {L : List TFile} : treB L = true ↔ L.length ≤ 60 ∧ (∀ z ∈ L, fileB z = true) ∧ RiseT L ∧ L.Pairwise (fun a b => undB a.path b.path = false) := by
  constructor
  · intro h
    refine ⟨treB_len h, treB_file h, treB_rise h, ?_⟩
    rw [treB_all, Bool.and_eq_true, allT_parts, Bool.and_eq_true] at h
    have hf := h.2.2
    unfold farT at hf
    rw [List.all_eq_true] at hf
    rw [List.pairwise_iff_getElem]
    intro i j hi hj hij
    have := hf j (by simpa using hj)
    rw [List.getElem?_eq_getElem hj] at this
    simp only [Bool.not_eq_true', List.any_eq_false] at this
    have h2 := this L[i] (List.mem_take_iff_getElem.2 ⟨i, by omega, rfl⟩)
    simpa using h2
  · rintro ⟨h1, h2, h3, h4⟩
    unfold RiseT at h3
    rw [List.pairwise_iff_getElem] at h3 h4
    rw [treB_all, Bool.and_eq_true, decide_eq_true_eq, allT_parts, Bool.and_eq_true]
    refine ⟨h1, ?_, ?_⟩
    · unfold goodT
      rw [List.all_eq_true]
      intro i hi
      have hi' : i < L.length := by simpa using hi
      rw [List.getElem?_eq_getElem hi']
      simp only [Bool.and_eq_true]
      refine ⟨h2 _ (List.getElem_mem hi'), ?_⟩
      cases i with
      | zero => rfl
      | succ j =>
        simp only [prevB]
        rw [List.getElem?_eq_getElem (by omega)]
        exact h3 j (j + 1) (by omega) hi' (by omega)
    · unfold farT
      rw [List.all_eq_true]
      intro i hi
      have hi' : i < L.length := by simpa using hi
      rw [List.getElem?_eq_getElem hi']
      simp only [Bool.not_eq_true', List.any_eq_false]
      intro g hg
      obtain ⟨j, hj, rfl⟩ := List.mem_take_iff_getElem.1 hg
      rw [h4 j i (by omega) hi' (by omega)]
      simp
theorem under_tree {zs : List TFile} (q : ByteArray) (h : treB zs = true) : treB (underF q zs) = true := by
  rw [treB_iff] at h ⊢
  obtain ⟨h1, h2, h3, h4⟩ := h
  have hs : (underF q zs).Sublist zs := List.filter_sublist
  exact ⟨Nat.le_trans (underF_len q zs) h1, fun z hz => h2 z (List.mem_filter.1 hz).1, h3.sublist hs, h4.sublist hs⟩
theorem under_all {zs : List TFile} (h : treB zs = true) : underF ByteArray.empty zs = zs := by
  have hf := treB_file h
  unfold underF
  rw [List.filter_eq_self]
  intro z hz
  have hp : pthL (toL z.path) = true := (fileB_path (hf z hz)).2.1
  show undL (toL ByteArray.empty) (toL z.path) = true
  rw [empty_toL, undL_root, hp]
theorem under_twice (q : ByteArray) (zs : List TFile) : underF q (underF q zs) = underF q zs := by
  unfold underF
  rw [List.filter_eq_self]
  intro z hz
  exact (List.mem_filter.1 hz).2
theorem fget_true {zs : List TFile} {q s : ByteArray} (h : fgetF zs q = (s, true)) : ∃ z ∈ zs, z.path = q := by
  unfold fgetF at h
  cases e : zs.find? (fun z => decide (z.path = q)) with
  | none => rw [e] at h; simp at h
  | some f =>
    have h1 := List.find?_some e
    exact ⟨f, List.mem_of_find?_eq_some e, by simpa using h1⟩
theorem fget_false {zs : List TFile} {q s : ByteArray} (h : fgetF zs q = (s, false)) : ∀ z ∈ zs, z.path ≠ q := by
  unfold fgetF at h
  cases e : zs.find? (fun z => decide (z.path = q)) with
  | none =>
    rw [List.find?_eq_none] at e
    intro z hz
    simpa using e z hz
  | some f => rw [e] at h; simp at h
/-- a tree with a file at q has no other one under q -/
theorem under_own {zs : List TFile} {z y : TFile} (h : treB zs = true) (hz : z ∈ zs) (hy : y ∈ zs) (hu : undB z.path y.path = true) : y = z := by
  obtain ⟨-, h2, h3, h4⟩ := treB_iff.1 h
  obtain ⟨i, hi, rfl⟩ := List.mem_iff_getElem.1 hz
  obtain ⟨j, hj, rfl⟩ := List.mem_iff_getElem.1 hy
  unfold RiseT at h3
  rw [List.pairwise_iff_getElem] at h3 h4
  rcases Nat.lt_trichotomy i j with k | k | k
  · rw [h4 i j hi hj k] at hu; cases hu
  · subst k; rfl
  · have hb := h3 j i hj hi k
    have hg := (fileB_path (h2 _ (List.getElem_mem hi))).1
    by_cases e : zs[i].path = zs[j].path
    · exact absurd e.symm (bl_path hb)
    · obtain ⟨t, et⟩ := und_form hu hg e
      rw [et] at hb
      have key : ∀ (a : By) (t : By), bl (a ++ t) a = false := by
        intro a
        induction a with
        | nil => intro t; exact bl_nil _
        | cons c a ih => intro t; rw [List.cons_append, bl_cons, ih]; simp
      rw [key] at hb; cases hb
theorem rise_sole {L : List TFile} {z : TFile} (h : RiseT L) (hz : z ∈ L) (ha : ∀ y ∈ L, y = z) : L.length = 1 := by
  cases L with
  | nil => cases hz
  | cons x r =>
    cases r with
    | nil => rfl
    | cons y r =>
      unfold RiseT at h
      rw [List.pairwise_cons] at h
      have e1 := ha x (by simp)
      have e2 := ha y (by simp)
      exact absurd (by rw [e1, e2]) (bl_path (h.1 y (by simp)))
theorem und_here {zs : List TFile} {q s : ByteArray} (h : treB zs = true) (hg : fgetF zs q = (s, true)) : (underF q zs).length = 1 ∧ namesB q zs = [] := by
  obtain ⟨z, hz, rfl⟩ := fget_true hg
  have hzp : pthL (toL z.path) = true := (fileB_path (treB_file h z hz)).2.1
  have hs : (underF z.path zs).Sublist zs := List.filter_sublist
  constructor
  · refine rise_sole (z := z) ((treB_rise h).sublist hs) ?_ ?_
    · unfold underF
      rw [List.mem_filter]
      refine ⟨hz, ?_⟩
      show undL (toL z.path) (toL z.path) = true
      rw [undL_refl, hzp]
    · intro y hy
      unfold underF at hy
      rw [List.mem_filter] at hy
      exact under_own h hz hy.1 hy.2
  · have : namesL z.path zs = [] := by
      unfold namesL selL
      rw [List.map_eq_nil_iff, List.filter_eq_nil_iff]
      intro y hy hb
      unfold behF at hb
      simp only [Bool.and_eq_true, Bool.not_eq_true', decide_eq_false_iff_not] at hb
      have := under_own h hz hy hb.1
      subst this
      exact hb.2 rfl
    unfold namesB
    rw [this, setB_nil]

/-! ### what is under a name -/
/-- how many files are under each of the names -/
def undS (q : ByteArray) (zs : List TFile) (L : List ByteArray) : Nat := (L.map fun n => (underF (joinB q n) zs).length).sum
theorem undS_nil (q : ByteArray) (zs : List TFile) : undS q zs [] = 0 := rfl
theorem undS_zero (q : ByteArray) (zs : List TFile) (L : List ByteArray) : undS q zs (L.take 0) = 0 := rfl
theorem undS_step {q x : ByteArray} {zs : List TFile} {L : List ByteArray} {k : Nat} (hz : L[k]? = some x) : undS q zs (L.take (k + 1)) = undS q zs (L.take k) + (underF (joinB q x) zs).length := by
  rw [take_one hz, undS, List.map_append, List.sum_append]
  simp [undS]
theorem undS_le (q : ByteArray) (zs : List TFile) : ∀ (L : List ByteArray), undS q zs L ≤ L.length * zs.length
  | [] => by simp [undS]
  | x :: L => by
    have ih := undS_le q zs L
    have h1 := underF_len (joinB q x) zs
    have e : undS q zs (x :: L) = (underF (joinB q x) zs).length + undS q zs L := by simp [undS]
    rw [e, List.length_cons, Nat.add_mul]
    omega
theorem headL_iff {p n : By} (hn : (47 : UInt8) ∉ n) : headL p = n ↔ p = n ∨ ∃ t, p = n ++ 47 :: t := by
  constructor
  · intro h
    obtain ⟨x, r, e⟩ := cutL_cons p
    have hx : x = n := by rw [← h]; unfold headL; rw [e]; rfl
    subst hx
    have e2 := nameL_cut p
    rw [e] at e2
    cases r with
    | nil => exact .inl e2.symm
    | cons y r => exact .inr ⟨nameL (y :: r), by rw [← e2, nameL_cons _ (by simp)]⟩
  · rintro (rfl | ⟨t, rfl⟩)
    · unfold headL; rw [cutL_plain hn]; rfl
    · unfold headL; rw [cutL_app_stroke, cutL_plain hn]; rfl
/-- what is behind q of a path, as bytes -/
theorem restF_root {q p : ByteArray} (h : toL q = []) : toL (restF q p) = toL p := by rw [restF_nil h]
theorem restF_form {q p : ByteArray} {u : By} (h : ¬ toL q = []) (e : toL p = toL q ++ 47 :: u) : toL (restF q p) = u := by
  rw [restF_yes h, toL_ext, e, ← toL_len q, ← toL_len p, e, List.extract_eq_take_drop]
  have h1 : (toL q ++ 47 :: u).drop ((toL q).length + 1) = u := by
    rw [List.drop_append]
    simp
  rw [h1, List.take_of_length_le (by simp; omega)]
/-- the name behind q of a path under it, not at it: it can be joined, and tells what is under it -/
theorem name_behind {q p : ByteArray} (hp0 : ¬ toL p = []) (hu : undB q p = true) (hq : q ≠ p) :
    (47 : UInt8) ∉ toL (firstB (restF q p)) ∧ toL (joinB q (firstB (restF q p))) = ontoL (toL q) (toL (firstB (restF q p))) ∧ ¬ toL (firstB (restF q p)) = [] ∧ toL (firstB (restF q p)) = headL (toL (restF q p)) := by
  have hu' : undL (toL q) (toL p) = true := hu
  obtain ⟨hpq, hpp, -⟩ := undL_iff.1 hu'
  obtain ⟨r, hr⟩ : ∃ r, toL (restF q p) = r := ⟨_, rfl⟩
  have key : r ≠ [] ∧ pthL r = true ∧ toL p = ontoL (toL q) r := by
    by_cases h0 : toL q = []
    · rw [restF_root h0] at hr
      subst hr
      refine ⟨hp0, hpp, ?_⟩
      unfold ontoL; rw [if_pos h0]
    · obtain ⟨u, e⟩ := und_form hu h0 hq
      rw [restF_form h0 e] at hr
      subst hr
      have hne : toL p ≠ [] := by rw [e]; simp
      have hall := (pthL_iff hne).1 hpp
      rw [e, cutL_app_stroke, List.length_append] at hall
      have hun : u ≠ [] := by
        rintro rfl
        have := hall.1 [] (by simp [cutL])
        simp [namL] at this
      refine ⟨hun, (pthL_iff hun).2 ⟨fun x hx => hall.1 x (by simp [hx]), by omega⟩, ?_⟩
      unfold ontoL; rw [if_neg h0, if_neg hun]; exact e
  obtain ⟨k1, k2, k3⟩ := key
  have hfb : toL (firstB (restF q p)) = headL r := by
    unfold firstB pthB
    rw [hr, if_pos k2, toL_mkB]
  have hcut := (pthL_iff k1).1 k2
  obtain ⟨x, l, e⟩ := cutL_cons r
  have hh : headL r = x := by unfold headL; rw [e]; rfl
  have hnam : namL x = true := hcut.1 x (by rw [e]; simp)
  have hxn : x ≠ [] := by rintro rfl; simp [namL] at hnam
  have hpn : partsN (toL q) + partsN x ≤ 3 := by
    have h3 := k3 ▸ hpp
    rw [pthL_onto hpq k2, decide_eq_true_eq] at h3
    have hp1 : partsN x = 1 := by unfold partsN; rw [if_neg hxn, cutL_plain (namL_stroke hnam)]; rfl
    have hp2 : 1 ≤ partsN r := by unfold partsN; rw [if_neg k1, e]; simp
    omega
  rw [hfb, hh, hr]
  refine ⟨namL_stroke hnam, ?_, hxn, hh.symm⟩
  unfold joinB
  rw [hfb, hh, toL_mkB]
  unfold joinL
  rw [hpq, pthL_one hnam, pthL_onto hpq (pthL_one hnam), decide_eq_true hpn]
  rfl
/-- under the joined name is what is under q and has that name behind it -/
theorem und_name {q p n : ByteArray} (hp : pthB p = true) (hp0 : ¬ toL p = []) (hpq : pthB q = true) (hq : q ≠ p) (hn : (47 : UInt8) ∉ toL n) (hn0 : ¬ toL n = [])
    (hj : toL (joinB q n) = ontoL (toL q) (toL n)) : undB (joinB q n) p = true ↔ undB q p = true ∧ firstB (restF q p) = n := by
  have hjo : pthL (toL (joinB q n)) = true := by unfold joinB; rw [toL_mkB]; exact joinL_ok _ _
  have hpp : pthL (toL p) = true := hp
  have hqq : pthL (toL q) = true := hpq
  have hqp : ¬ toL q = toL p := fun e => hq (toL_inj e)
  have h1 : undB (joinB q n) p = true ↔ (ontoL (toL q) (toL n) = toL p ∨ ∃ t, toL p = ontoL (toL q) (toL n) ++ 47 :: t) := by
    show undL _ _ = true ↔ _
    rw [undL_iff, hj]
    have hne : ontoL (toL q) (toL n) ≠ [] := by
      unfold ontoL
      by_cases h0 : toL q = []
      · rw [if_pos h0]; exact hn0
      · rw [if_neg h0, if_neg hn0]; simp
    rw [hj] at hjo
    constructor
    · rintro ⟨-, -, h | h⟩
      · exact absurd h hne
      · exact h
    · intro h
      exact ⟨hjo, hpp, .inr h⟩
  rw [h1]
  by_cases h0 : toL q = []
  · have h2 : undB q p = true := by show undL _ _ = true; rw [h0, undL_root, hpp]
    have hb := (name_behind hp0 h2 hq).2.2.2
    rw [restF_root h0] at hb
    have h3 : firstB (restF q p) = n ↔ headL (toL p) = toL n := by
      rw [← hb]
      exact ⟨fun e => by rw [e], fun e => toL_inj e⟩
    rw [h2, h3, headL_iff hn]
    unfold ontoL
    rw [if_pos h0]
    constructor
    · rintro (h | h)
      · exact ⟨rfl, .inl h.symm⟩
      · exact ⟨rfl, .inr h⟩
    · rintro ⟨-, h | h⟩
      · exact .inl h.symm
      · exact .inr h
  · unfold ontoL
    rw [if_neg h0, if_neg hn0]
    constructor
    · intro h
      obtain ⟨u, hu1, hu2⟩ : ∃ u, toL p = toL q ++ 47 :: u ∧ (u = toL n ∨ ∃ t, u = toL n ++ 47 :: t) := by
        rcases h with h | ⟨t, h⟩
        · exact ⟨toL n, h.symm, .inl rfl⟩
        · exact ⟨toL n ++ 47 :: t, by rw [h]; simp, .inr ⟨t, rfl⟩⟩
      have h2 : undB q p = true := by show undL _ _ = true; rw [undL_iff]; exact ⟨hqq, hpp, .inr (.inr ⟨u, hu1⟩)⟩
      refine ⟨h2, toL_inj ?_⟩
      have hb := (name_behind hp0 h2 hq).2.2.2
      rw [hb, restF_form h0 hu1]
      exact (headL_iff hn).2 hu2
    · rintro ⟨h2, h3⟩
      obtain ⟨u, e⟩ := und_form h2 h0 hq
      have hb := (name_behind hp0 h2 hq).2.2.2
      rw [h3, restF_form h0 e] at hb
      rcases (headL_iff hn).1 hb.symm with h | ⟨t, h⟩
      · exact .inl (by rw [e, h])
      · exact .inr ⟨t, by rw [e, h]; simp⟩
/-- each of a list stands under just one of its keys -/
theorem count_keys {α β : Type} [DecidableEq β] (f : α → β) : ∀ (N : List β) (L : List α), N.Nodup → (∀ x ∈ L, f x ∈ N) → (N.map fun n => (L.filter fun x => decide (f x = n)).length).sum = L.length
  | [], L, _, h => by
    cases L with
    | nil => rfl
    | cons x L => have := h x (by simp); cases this
  | n :: N, L, hn, h => by
    rw [List.nodup_cons] at hn
    have ih := count_keys f N (L.filter fun x => decide (f x ≠ n)) hn.2 (fun x hx => by
      rw [List.mem_filter] at hx
      have h2 : f x ≠ n := by simpa using hx.2
      rcases List.mem_cons.1 (h x hx.1) with e | e
      · exact absurd e h2
      · exact e)
    have e : (N.map fun m => ((L.filter fun x => decide (f x ≠ n)).filter fun x => decide (f x = m)).length) = N.map fun m => (L.filter fun x => decide (f x = m)).length := by
      apply List.map_congr_left
      intro m hm
      rw [List.filter_filter]
      congr 1
      apply List.filter_congr
      intro x _
      by_cases h1 : f x = m
      · have : f x ≠ n := by rw [h1]; rintro rfl; exact hn.1 hm
        simp [h1]
        rw [← h1]; exact this
      · simp [h1]
    rw [e] at ih
    rw [List.map_cons, List.sum_cons, ih]
    have key : ∀ (K : List α), (K.filter fun x => decide (f x = n)).length + (K.filter fun x => decide (f x ≠ n)).length = K.length := by
      intro K
      induction K with
      | nil => rfl
      | cons x K ih =>
        by_cases hx : f x = n
        · simp [hx] at ih ⊢; omega
        · simp [hx] at ih ⊢; omega
    exact key L
theorem und_gone {zs : List TFile} {q s : ByteArray} (h : treB zs = true) (hq : pthB q = true) (hg : fgetF zs q = (s, false)) : undS q zs (namesB q zs) = (underF q zs).length := by
  have hno := fget_false hg
  have hf := treB_file h
  have hnod : (namesB q zs).Nodup := (setB_rise (namesL q zs)).imp fun hb e => by subst e; rw [bl_irr] at hb; cases hb
  rw [← count_keys (fun z : TFile => firstB (restF q z.path)) (namesB q zs) (underF q zs) hnod]
  · unfold undS
    congr 1
    apply List.map_congr_left
    intro n hn
    congr 1
    unfold underF
    rw [List.filter_filter]
    apply List.filter_congr
    intro z hz
    unfold namesB at hn
    rw [setB_mem] at hn
    unfold namesL selL at hn
    rw [List.mem_map] at hn
    obtain ⟨y, hy, rfl⟩ := hn
    rw [List.mem_filter] at hy
    have hyb := hy.2
    unfold behF at hyb
    simp only [Bool.and_eq_true, Bool.not_eq_true', decide_eq_false_iff_not] at hyb
    have hnb := name_behind (fileB_path (hf y hy.1)).1 hyb.1 hyb.2
    have := und_name (p := z.path) (fileB_path (hf z hz)).2.1 (fileB_path (hf z hz)).1 hq (hno z hz).symm hnb.1 hnb.2.2.1 hnb.2.1
    rw [Bool.eq_iff_iff, this, Bool.and_eq_true, decide_eq_true_eq]
    exact And.comm
  · intro z hz
    unfold underF at hz
    rw [List.mem_filter] at hz
    unfold namesB
    rw [setB_mem]
    unfold namesL selL
    rw [List.mem_map]
    refine ⟨z, ?_, rfl⟩
    rw [List.mem_filter]
    exact ⟨hz.1, behF_yes hz.2 (hno z hz.1).symm⟩
theorem names_size {q n : ByteArray} {zs : List TFile} (h : n ∈ namesB q zs) : n.size ≤ 1048576 := by
  unfold namesB at h
  rw [setB_mem] at h
  unfold namesL selL at h
  rw [List.mem_map] at h
  obtain ⟨y, -, rfl⟩ := h
  have := firstB_size (restF q y.path)
  omega
theorem names_less {q x y : ByteArray} {zs : List TFile} {k : Nat} (hk : 0 < k) (hy : (namesB q zs)[k - 1]? = some y) (hz : (namesB q zs)[k]? = some x) : Op.bytesLess y.toList x.toList = true := by
  have hr := setB_rise (namesL q zs)
  rw [List.pairwise_iff_getElem] at hr
  obtain ⟨h1, rfl⟩ := List.getElem?_eq_some_iff.1 hy
  obtain ⟨h2, rfl⟩ := List.getElem?_eq_some_iff.1 hz
  rw [toL_toList, toL_toList]
  exact hr (k - 1) k h1 h2 (by omega)
theorem undS_few {q : ByteArray} {zs : List TFile} (h : zs.length ≤ 60) (k : Nat) : undS q zs ((namesB q zs).take k) ≤ 3600 := by
  have h1 := undS_le q zs ((namesB q zs).take k)
  have h2 : ((namesB q zs).take k).length ≤ 60 := by
    have := namesB_len q zs
    rw [List.length_take]; omega
  exact Nat.le_trans h1 (Nat.le_trans (Nat.mul_le_mul h2 h) (by decide))


set_option maxRecDepth 100000 in
theorem chFiles_calls (u v : Value) (zs : List TFile) (w : World) (hu : Sl 2 fileC w u zs) (hv : Sl 2 fileC w v zs) :
    Calls Tryd.prog 19 #[u, v] w fun e w' => e = .returned (.bool true) ∧ Below w.heap.size w w' := by
  obtain ⟨A, c, rfl, hc, hlc, hat⟩ := file_z hu
  obtain ⟨A', c', rfl, hc', hlc', hat'⟩ := file_z hv
  unfold maxLen at hc hc'
  go_enter Tryd.func19, Tryd.ntmps19
  go_wp2
  go_loopw [5] (fun i wr => ∃ k : Nat, k ≤ zs.length ∧ i = .int .i64 k ∧ Below w.heap.size w wr) (fun i _ => zs.length - (intOf i).toNat)
  case atStart => exact ⟨0, Nat.zero_le _, rfl, Below.refl _ _⟩
  case round =>
    obtain ⟨k, hk, rfl, hnx⟩ := hrel
    by_cases hlt : k < zs.length
    · obtain ⟨x, b, off, hz, rfl, hb, c0, c1⟩ := hat k hlt
      obtain ⟨x', b', off', hz', rfl, hb', c0', c1'⟩ := hat' k hlt
      rw [hz] at hz'
      simp only [Option.some.injEq] at hz'
      subst hz'
      have d0 := (hnx.cell (p := ⟨b, off + k * 2, none⟩) hb).trans c0
      have d1 := (hnx.cell (p := ⟨b, off + k * 2 + 1, none⟩) hb).trans c1
      have d0' := (hnx.cell (p := ⟨b', off' + k * 2, none⟩) hb').trans c0'
      have d1' := (hnx.cell (p := ⟨b', off' + k * 2 + 1, none⟩) hb').trans c1'
      clear hat hat' c0 c0' c1 c1' hz
      have h0 : (0 : Int) ≤ (k : Int) := Int.natCast_nonneg _
      have hl : (k : Int) < (zs.length : Int) := by omega
      go_wp2_with fail
      go_quiet (fail)
      have hnx2 := below_drewN hnx nq
      clear hnx
      go_wp2
      go_roundw
      case rel => exact ⟨k + 1, by omega, by go_num, hnx2⟩
      case measure => simp [intOf]; omega
    · go_wp2
      go_ret
      exact ⟨rfl, hnx⟩


set_option maxRecDepth 100000 in
set_option maxHeartbeats 8000000 in
theorem treUnderL_calls (W : World) (hsh : W.ShapedOpen Tryd.prog) (v : Value) (bs : List UInt8) (hs : Sl 1 byteC W v bs) :
    Calls Tryd.prog 4 #[v] W fun e w' => e = .returned (.bool true) ∧ Below W.heap.size W w' := by
  have hm0 := maxOk_of hsh
  clear hsh
  obtain ⟨A, c, rfl, hlc, hc, -⟩ := id hs
  unfold maxLen at hc
  by_cases hL : (1048576 : Int) < (bs.length : Nat)
  · go_enter Tryd.func4, Tryd.ntmps4
    go_wp2
    go_ret
    exact ⟨rfl, below0 W⟩
  · go_enter Tryd.func4, Tryd.ntmps4
    go_wp2_with fail
    refine (drawTreUnder_calls _ bs _ hs).mono ?_
    rintro e w1 ⟨u, zs, q, hzl, hsz, hq, rfl, su, b1⟩
    have m1 := Lib.hid (hm0.below b1)
    have hf := trShort_fine hsz
    obtain ⟨Az, cz, rfl, hcz, hlcz, -⟩ := file_z su
    unfold maxLen at hcz
    go_wp2_with fail
    refine (under_impl _ zs q _ m1.out su hf (by omega) (by omega)).mono ?_
    rintro e w2 ⟨x, rfl, ox, b2⟩
    have B2 := below_up b1 b2
    have m2 := Lib.hid (m1.out.below b2)
    have su2 := su.below b2
    go_wp2_with fail
    refine (names_impl _ zs q _ m2.out su2 hf (by omega) (by omega)).mono ?_
    rintro e w3 ⟨n, rfl, on, b3⟩
    have B3 := below_up B2 b3
    have m3 := Lib.hid (m2.out.below b3)
    have su3 := su2.below b3
    have sx3 := (ox.below b3).sl fileC_len
    go_wp2_with fail
    refine (under_spec _ zs q _ su3 hf (by omega) (by omega)).mono ?_
    rintro e w4 ⟨y, rfl, oy, b4⟩
    have B4 := below_up B3 b4
    have m4 := Lib.hid (m3.out.below b4)
    have su4 := su3.below b4
    have sx4 := sx3.below b4
    have sn4 := (on.below b4).sl strC_len
    go_wp2_with fail
    refine (chFiles_calls x y _ _ sx4 (oy.sl fileC_len)).mono ?_
    rintro e w5 ⟨rfl, b5⟩
    have B5 := below_up B4 b5
    have m5 := Lib.hid (m4.out.below b5)
    have su5 := su4.below b5
    have sx5 := sx4.below b5
    have sn5 := sn4.below b5
    clear b1 b2 b3 b4 b5 B2 B3 B4 m1 m2 m3 m4 su su2 su3 su4 ox on oy sx3 sx4 sn4 hs hm0
    go_wp2_with fail
    refine (names_spec _ zs q _ su5 hf (by omega) (by omega)).mono ?_
    rintro e w6 ⟨y6, rfl, oy6, b6⟩
    have B6 := below_up B5 b6
    have m6 := Lib.hid (m5.out.below b6)
    have su6 := su5.below b6
    have sx6 := sx5.below b6
    have sn6 := sn5.below b6
    go_wp2_with fail
    refine (chTexts_calls n y6 _ _ sn6 (oy6.sl strC_len)).mono ?_
    rintro e w7 ⟨rfl, b7⟩
    have B7 := below_up B6 b7
    have m7 := Lib.hid (m6.out.below b7)
    have su7 := su6.below b7
    have sx7 := sx6.below b7
    have sn7 := sn6.below b7
    clear b6 b7 B5 B6 m5 m6 su5 su6 sx5 sx6 sn5 sn6 oy6
    go_wp2_with fail
    refine (tre_spec _ zs _ su7 hf).mono ?_
    rintro e w8 ⟨rfl, b8⟩
    have B8 := below_up B7 b8
    have m8 := Lib.hid (m7.out.below b8)
    have su8 := su7.below b8
    have sx8 := sx7.below b8
    have sn8 := sn7.below b8
    clear b8 B7 m7 su7 sx7 sn7
    cases ht : treB zs
    · go_wp2_with fail
      refine (tre_impl _ zs _ m8.out su8 hf).mono ?_
      rintro e w9 ⟨rfl, b9⟩
      have B9 := below_up B8 b9
      have su9 := su8.below b9
      clear b9 B8 su8 sx8 sn8
      go_wp2_with fail
      refine (tre_spec _ zs _ su9 hf).mono ?_
      rintro e w10 ⟨rfl, b10⟩
      have B10 := below_up B9 b10
      rw [ht]
      go_wp2_with fail
      refine (chOk_calls _).mono ?_
      rintro e w11 ⟨rfl, b11⟩
      go_wp2
      go_ret
      exact ⟨rfl, below_up B10 b11⟩
    · go_wp2_with fail
      refine (pth_spec q (by omega) _).mono ?_
      rintro e w9 ⟨rfl, b9⟩
      have B9 := below_up B8 b9
      have m9 := Lib.hid (m8.out.below b9)
      have su9 := su8.below b9
      have sx9 := sx8.below b9
      have sn9 := sn8.below b9
      clear b9 B8 m8 su8 sx8 sn8
      cases hpq : pthB q
      · go_wp2_with fail
        refine (tre_impl _ zs _ m9.out su9 hf).mono ?_
        rintro e w10 ⟨rfl, b10⟩
        have B10 := below_up B9 b10
        have su10 := su9.below b10
        clear b10 B9 su9 sx9 sn9
        go_wp2_with fail
        refine (tre_spec _ zs _ su10 hf).mono ?_
        rintro e w11 ⟨rfl, b11⟩
        have B11 := below_up B10 b11
        rw [ht]
        go_wp2_with fail
        refine (chOk_calls _).mono ?_
        rintro e w12 ⟨rfl, b12⟩
        go_wp2
        go_ret
        exact ⟨rfl, below_up B11 b12⟩
      · have hzl2 := treB_len ht
        have hnl := namesB_len q zs
        obtain ⟨An, cn, rfl, hcn, hlcn, hatn⟩ := str_at sn9
        unfold maxLen at hcn
        have HAn := Lib.hid hatn
        clear hatn
        have HT := Lib.hid ht
        have HJ := Lib.hid (fun (n : ByteArray) (hn : n.size ≤ 1048576) W hm => join_impl q n (by omega) hn W hm)
        have HNS := Lib.hid (fun (n : ByteArray) (hn : n ∈ namesB q zs) => names_size hn)
        have hq1 : q.size ≤ 1048576 := by omega
        clear ht
        have SU := Lib.hid su9
        have SX := Lib.hid sx9
        clear su9 sx9
        go_wp2
        go_loopw [7, 8] (fun n i wr => ∃ k : Nat, k ≤ (namesB q zs).length ∧ i = .int .i64 k ∧ n = .int .i64 (undS q zs ((namesB q zs).take k) : Nat) ∧ Below w9.heap.size w9 wr) (fun _ i _ => (namesB q zs).length - (intOf i).toNat)
        case atStart => exact ⟨0, Nat.zero_le _, rfl, rfl, below0 _⟩
        case round =>
          obtain ⟨k, hk, rfl, rfl, hnx⟩ := hrel
          by_cases hlt : k < (namesB q zs).length
          · obtain ⟨x, b, off, hz, rfl, hb, c0⟩ := HAn.out k hlt
            have d0 := (hnx.cell (p := ⟨b, off + k, none⟩) hb).trans c0
            have hli : (k : Int) < ((namesB q zs).length : Int) := by omega
            have hxs := HNS.out x (List.mem_of_getElem? hz)
            have HZ := Lib.hid hz
            have hw2 := undS_few (q := q) hzl2 k
            have hw3 := Nat.le_trans (underF_len (joinB q x) zs) hzl2
            have HW := Lib.hid (undS_step (q := q) (zs := zs) hz)
            have C0 := Lib.hid c0
            clear c0
            by_cases e4 : 0 < k
            · obtain ⟨y, b', off', hy, e5, -, f0⟩ := HAn.out (k - 1) (by omega)
              simp only [Option.some.injEq, Addr.mk.injEq, and_true] at e5
              obtain ⟨rfl, rfl⟩ := e5
              have g0 := (hnx.cell (p := ⟨b, off + (k - 1), none⟩) hb).trans f0
              have i4 : (0 : Int) < (k : Int) := by omega
              have i9 : decide ((0 : Int) < (k : Int)) = true := decide_eq_true i4
              have i5 : (0 : Int) ≤ (k : Int) - 1 := by omega
              have i6 : (k : Int) - 1 < ((namesB q zs).length : Int) := by omega
              have i7 : IntKind.i64.wrap ((k : Int) - 1) = (k : Int) - 1 := IntWalk.i64_in _ (by omega)
              have i8 : ((k : Int) - 1).toNat = k - 1 := by omega
              have e6 := names_less e4 hy hz
              clear hz hy f0
              go_wp2_with fail
              go_quiet (fail)
              have hq := below_up hnx (below_drewN (below0 wr) nq)
              generalize wr.drewN nq = w10 at hq ⊢
              have r0 := (hq.cell (p := ⟨b, off + k, none⟩) hb).trans C0.out
              go_wp2_with fail
              refine (HJ.out x hxs _ (m9.out.below hq)).mono ?_
              rintro e w11 ⟨rfl, b11⟩
              have hq2 := below_up hq b11
              clear b11 hq r0
              go_wp2_with fail
              refine (under_impl _ zs (joinB q x) _ (m9.out.below hq2) (SU.out.below hq2) hf (by omega) (by have := joinB_size q x; omega)).mono ?_
              rintro e w12 ⟨v, rfl, ov, b12⟩
              have hq3 := below_up hq2 b12
              obtain ⟨Av, cv, rfl, -, -, -⟩ := file_z ((ov.below (below0 _)).sl fileC_len)
              clear b12 hq2 ov
              have h0 : (0 : Int) ≤ (undS q zs ((namesB q zs).take k) : Int) := Int.natCast_nonneg _
              have hwr : IntKind.i64.wrap ((undS q zs ((namesB q zs).take k) : Int) + ((underF (joinB q x) zs).length : Int)) = (undS q zs ((namesB q zs).take k) : Int) + ((underF (joinB q x) zs).length : Int) := IntWalk.i64_in _ (by omega)
              go_wp2
              go_roundw
              case rel => exact ⟨k + 1, by omega, by go_num, by rw [HW.out]; go_num, hq3⟩
              case measure => simp [intOf]; omega
            · have i9 : decide ((0 : Int) < (k : Int)) = false := decide_eq_false (by omega)
              clear hz
              go_wp2_with fail
              go_quiet (fail)
              have hq := below_up hnx (below_drewN (below0 wr) nq)
              generalize wr.drewN nq = w10 at hq ⊢
              have r0 := (hq.cell (p := ⟨b, off + k, none⟩) hb).trans C0.out
              go_wp2_with fail
              refine (HJ.out x hxs _ (m9.out.below hq)).mono ?_
              rintro e w11 ⟨rfl, b11⟩
              have hq2 := below_up hq b11
              clear b11 hq r0
              go_wp2_with fail
              refine (under_impl _ zs (joinB q x) _ (m9.out.below hq2) (SU.out.below hq2) hf (by omega) (by have := joinB_size q x; omega)).mono ?_
              rintro e w12 ⟨v, rfl, ov, b12⟩
              have hq3 := below_up hq2 b12
              obtain ⟨Av, cv, rfl, -, -, -⟩ := file_z ((ov.below (below0 _)).sl fileC_len)
              clear b12 hq2 ov
              have h0 : (0 : Int) ≤ (undS q zs ((namesB q zs).take k) : Int) := Int.natCast_nonneg _
              have hwr : IntKind.i64.wrap ((undS q zs ((namesB q zs).take k) : Int) + ((underF (joinB q x) zs).length : Int)) = (undS q zs ((namesB q zs).take k) : Int) + ((underF (joinB q x) zs).length : Int) := IntWalk.i64_in _ (by omega)
              go_wp2
              go_roundw
              case rel => exact ⟨k + 1, by omega, by go_num, by rw [HW.out]; go_num, hq3⟩
              case measure => simp [intOf]; omega
          · have hli : ¬ (k : Int) < ((namesB q zs).length : Int) := by omega
            obtain rfl : k = (namesB q zs).length := by omega
            rw [List.take_length] at *
            have m10 := Lib.hid (m9.out.below hnx)
            have su := SU.out.below hnx
            have sx := SX.out.below hnx
            have B10 := below_up B9 hnx
            clear hnx HAn SU SX m9 B9
            go_wp2_with fail
            refine (treFind_impl_calls _ zs q _ su (by omega)).mono ?_
            rintro e w11 ⟨rfl, b11⟩
            have B11 := below_up B10 b11
            have m11 := Lib.hid (m10.out.below b11)
            have su11 := su.below b11
            have sx11 := sx.below b11
            clear b11 B10 m10 su sx
            have HO := tre_impl _ (underF q zs) _ m11.out sx11 (underF_fine hf)
            rw [under_tree q HT.out] at HO
            have HO := Lib.hid HO
            obtain ⟨Ax, cx, rfl, -, -, -⟩ := file_z sx11
            go_wp2_with fail
            refine HO.out.mono ?_
            rintro e w12 ⟨rfl, b12⟩
            have B12 := below_up B11 b12
            have m12 := Lib.hid (m11.out.below b12)
            have su12 := su11.below b12
            have sx12 := sx11.below b12
            clear b12 B11 m11 su11 sx11 HO
            have HO := under_impl _ zs ByteArray.empty _ m12.out su12 hf (by omega) (by decide)
            rw [under_all HT.out] at HO
            have HO := Lib.hid HO
            go_wp2_with fail
            refine HO.out.mono ?_
            rintro e w13 ⟨v13, rfl, o13, b13⟩
            have B13 := below_up B12 b13
            have m13 := Lib.hid (m12.out.below b13)
            have su13 := su12.below b13
            have sx13 := sx12.below b13
            clear b13 B12 m12 su12 sx12 HO
            have HO := Lib.hid (chFiles_calls v13 _ zs _ ((o13.below (below0 _)).sl fileC_len) su13)
            clear o13
            go_wp2_with fail
            refine HO.out.mono ?_
            rintro e w14 ⟨rfl, b14⟩
            have B14 := below_up B13 b14
            have m14 := Lib.hid (m13.out.below b14)
            have sx14 := sx13.below b14
            clear b14 B13 m13 su13 sx13 HO
            have HO := under_impl _ (underF q zs) q _ m14.out sx14 (underF_fine hf) (by have := underF_len q zs; omega) hq1
            rw [under_twice] at HO
            have HO := Lib.hid HO
            have hul := underF_len q zs
            cases hfg : fgetF zs q with
            | mk s' t' =>
              cases t' with
              | true =>
                obtain ⟨hx1, hn0⟩ := und_here HT.out hfg
                have hn1 : undS q zs (namesB q zs) = 0 := by rw [hn0]; rfl
                have k1 : (((underF q zs).length : Int) == 1) = true := by rw [hx1]; rfl
                have k2 : (((undS q zs (namesB q zs) : Nat) : Int) == 0) = true := by rw [hn1]; rfl
                clear hx1 hn0 hn1
                go_wp2_with fail
                refine HO.out.mono ?_
                rintro e w15 ⟨v15, rfl, o15, b15⟩
                have B15 := below_up B14 b15
                have HC := Lib.hid (chFiles_calls v15 _ (underF q zs) _ ((o15.below (below0 _)).sl fileC_len) (sx14.below b15))
                clear o15 b15
                go_wp2_with fail
                refine HC.out.mono ?_
                rintro e w16 ⟨rfl, b16⟩
                go_wp2
                go_ret
                exact ⟨rfl, below_up B15 b16⟩
              | false =>
                have hn1 := und_gone HT.out hpq hfg
                have k1 : (((undS q zs (namesB q zs) : Nat) : Int) == ((underF q zs).length : Int)) = true := by rw [hn1]; simp
                clear hn1
                go_wp2_with fail
                refine HO.out.mono ?_
                rintro e w15 ⟨v15, rfl, o15, b15⟩
                have B15 := below_up B14 b15
                have HC := Lib.hid (chFiles_calls v15 _ (underF q zs) _ ((o15.below (below0 _)).sl fileC_len) (sx14.below b15))
                clear o15 b15
                go_wp2_with fail
                refine HC.out.mono ?_
                rintro e w16 ⟨rfl, b16⟩
                go_wp2
                go_ret
                exact ⟨rfl, below_up B15 b16⟩
set_option maxRecDepth 100000 in
theorem treUnderL_lifted (os : Os) (started : os.Started) (H : Type) (enc : TypeId × Value → H) (F : Stop.Interp) :
    ReturnsInHanded {} Tryd.checked os 4 .any ((OpenSpec.ofChange Rows.fnTreUnderSpec).preRow enc Tryd.prog Tryd.f4 Rows.fnTreUnderRow.domain false Rows.fnTreUnderRow.laid) (((OpenSpec.ofChange Rows.fnTreUnderSpec).at F).post enc Tryd.prog Tryd.f4 false true false false) := by
  obtain ⟨places, hx⟩ := (show ∃ places, DataW.whole enc Tryd.prog ((laidWorld os).forCall (fun _ _ => 0) ⟨#[], #[.slice none 0 0], []⟩).memory Tryd.f4.params.toList Rows.fnTreUnderSpec.vars false (#[.slice none 0 0] : Array Value).toList 8 = some ([.nil], [], places) from ⟨[], by kernel_rfl⟩)
  have hmet : laidMet Tryd.prog Rows.fnTreUnderRow.laid ((laidWorld os).forCall (fun _ _ => 0) ⟨#[], #[.slice none 0 0], []⟩).memory := laidMet_of_run' 8 (by kernel_rfl) (by kernel_rfl)
  refine returnsInHanded_of_row (C := Tryd.checked) (s := OpenSpec.ofChange Rows.fnTreUnderSpec) Tryd.own started (by kernel_rfl) Tryd.func4
    (witness_row_at (enc := enc) (C := Tryd.checked) false (laidWorld os) #[.slice none 0 0] rfl (by kernel_rfl) (by kernel_rfl) (by kernel_rfl)
      (OpenSpec.preRow_of_cond 8 hx (by kernel_rfl) (fun k hk => by cases hk) (by kernel_rfl) hmet)) ?_
  intro W base args ds gs before hval0 hW _ _ _ _ hsh _
  show Calls Tryd.prog 4 args W fun e W2 => ∃ v, e = .returned v ∧ Rows.fnTreUnderSpec.post enc Tryd.prog Tryd.f4 false true false false W args v W2
  have hval : ∀ (j : Nat) t v, Tryd.f4.params[j]? = some t → args[j]? = some v → Value.okWide Tryd.prog W .any base t v := hval0
  have hW1 : DataW.Whole enc Tryd.prog Tryd.f4.params.toList Rows.fnTreUnderSpec.vars false W args.toList ds gs before := hW
  have hW2 := hW1
  obtain ⟨p, q, hA0, hV, rfl, _, _⟩ := hW1
  have hA : DataW.TrodAll enc Tryd.prog W 0 (fun _ => true) true Tryd.f4.params.toList args.toList ds p := hA0
  rw [Tryd.params4] at hA hval
  obtain ⟨v0, d0, rfl, rfl, h0⟩ := trodAll_one hA
  obtain ⟨rfl, rfl⟩ := trodVars_none hV
  clear hA0 hval0 hW
  simp only [List.append_nil] at hW2
  have lt0 : ∀ x ∈ p, x.block < W.heap.size := fun x hx => hW2.lt x (by simp [hx])
  have k0 := fun W2 (hb : Below W.heap.size W W2) => Below.trod Tryd.laidOut (by kernel_rfl) (of_decide_eq_true (by kernel_rfl)) h0 hb lt0
  obtain ⟨x0, wf0⟩ := open_bytes (hval 0 33 v0 rfl rfl) h0 lt0
  refine (treUnderL_calls W hsh v0 x0 wf0).mono fun e W2 ⟨he, hb⟩ => ?_
  subst he
  exact ⟨_, rfl, _, _, _, [], _, [], hW2, trodAll_mk1 (shut_bool Tryd.underlying4 true), trodAll_mk1 (k0 W2 hb), rfl, hb.frame _, fun h => by cases h⟩

theorem treUnderL_said : Rows.FnTreUnderSaid :=
  OpenClaim.holds_of_cond 4 Tryd.f4 rfl rfl rfl rfl rfl rfl rfl ⟨rfl, rfl, rfl, rfl, rfl⟩ rfl rfl rfl rfl rfl (by kernel_rfl) Tryd.func4 (by kernel_rfl)
    (of_decide_eq_true (by kernel_rfl)) (by unfold Func.isWrapper; first | (rw [if_pos (by decide +kernel)]; kernel_rfl) | (rw [if_neg (by decide +kernel)]; exact ⟨rfl, rfl⟩))
    (fun os started H enc _ F => by rw [OpenClaim.pre_eq_preRow]; exact treUnderL_lifted os started H enc F)
theorem treUnderL_plain (f : FuncId) (fn : Func) (hf : Tryd.pinned.checked.prog.funcNamed "loop.example/chartulary/laws.FnTreUnder" = some f) (hfn : Tryd.pinned.checked.prog.funcs[f]? = some fn) :
    false = Tryd.pinned.checked.prog.looks [] ∧ ∀ (j : Nat) t, fn.params[j]? = some t → Tryd.pinned.checked.prog.wantsStandIn t = false := by
  obtain rfl : f = 4 := Option.some.inj ((show Tryd.prog.funcNamed "loop.example/chartulary/laws.FnTreUnder" = some 4 by kernel_rfl).symm.trans hf) |>.symm
  obtain rfl : fn = Tryd.f4 := (Option.some.inj (Tryd.func4.symm.trans hfn)).symm
  refine ⟨by kernel_rfl, fun j t ht => ?_⟩
  rw [Tryd.params4] at ht
  have hm := Array.mem_of_getElem? ht
  simp only [List.mem_toArray, List.mem_cons, List.not_mem_nil, or_false] at hm
  subst hm
  exact (show Tryd.prog.wantsStandIn 33 = false by kernel_rfl)

theorem treUnderL_holds : Rows.FnTreUnderCardSaid :=
  Claim7.holds_tied_plain_at .later [] _ _ _ _ treUnderL_said (fun _ h => by cases h) (by kernel_rfl) (fun _ h => by cases h) fnTreUnder_row_tie rfl ⟨rfl, rfl⟩ (by kernel_rfl) rfl treUnderL_plain (by kernel_rfl)
end Go.Proofs.YtkghhmjmfcnbnaaDoor
