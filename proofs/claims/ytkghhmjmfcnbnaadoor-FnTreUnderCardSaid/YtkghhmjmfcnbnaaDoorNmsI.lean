/- impl's TreNames. -/
import Derived.Test.YtkghhmjmfcnbnaaDoorOrdI
import Derived.Test.YtkghhmjmfcnbnaaDoorNmsS
import Derived.Test.YtkghhmjmfcnbnaaDoorTreU
import Derived.Test.YtkghhmjmfcnbnaaDoorPthJ
namespace Go.Proofs.YtkghhmjmfcnbnaaDoor
open Go.RowKit

theorem names_under (q : ByteArray) (zs : List TFile) : selL (fun z => !decide (z.path = q)) (fun z => firstB (restF q z.path)) (underF q zs) = namesL q zs := by
  unfold namesL selL underF
  rw [List.filter_filter]
  congr 1
  refine List.filter_congr fun z _ => ?_
  unfold behF
  rw [Bool.and_comm]
  congr 2
  exact decide_eq_decide.2 eq_comm
theorem pth_no_stroke {p : By} (h : pthL p = true) : ¬ ∃ t, p = 47 :: t := by
  rintro ⟨t, rfl⟩
  have h1 := ((pthL_iff (by simp)).1 h).1 [] (by rw [cutL_stroke]; simp)
  have := namL_len h1
  simp at this
theorem und_size {q p : ByteArray} (h : undB q p = true) : q.size ≤ p.size := by
  by_cases h0 : toL q = []
  · have := congrArg List.length h0
    rw [toL_len, List.length_nil] at this
    omega
  · by_cases hn : q = p
    · rw [hn]; exact Nat.le_refl _
    · have := und_long h h0 hn; omega
theorem trim_rest {q p : ByteArray} (h : undB q p = true) (hn : ¬ q = p) : (⟨(Lib.trimPrefix (p.extract q.size p.size).data.toList [47]).toArray⟩ : ByteArray) = restF q p := by
  refine toL_inj ?_
  have e1 : (p.extract q.size p.size).data.toList = (toL p).extract q.size p.size := toL_ext p q.size p.size
  rw [e1]
  show Lib.trimPrefix ((toL p).extract q.size p.size) [47] = _
  have e2 : (toL p).extract q.size p.size = (toL p).drop q.size := by
    rw [List.extract_eq_take_drop]
    exact List.take_of_length_le (by rw [List.length_drop, toL_len]; omega)
  rw [e2]
  by_cases h0 : toL q = []
  · have hq : q.size = 0 := by rw [← toL_len, h0]; rfl
    rw [restF_nil h0, hq, List.drop_zero]
    have hp : pthL (toL p) = true := by
      have h' : undL (toL q) (toL p) = true := h
      rw [undL_iff] at h'
      exact h'.2.1
    have hs := pth_no_stroke hp
    unfold Lib.trimPrefix
    rw [if_neg]
    intro hh
    apply hs
    cases e : toL p with
    | nil => rw [e] at hh; simp [Lib.hasPrefix] at hh
    | cons x t =>
      rw [e] at hh
      simp [Lib.hasPrefix] at hh
      exact ⟨t, by rw [← hh]⟩
  · obtain ⟨t, e⟩ := und_form h h0 hn
    rw [restF_yes h0, toL_ext, List.extract_eq_take_drop]
    have e3 : (toL p).drop (q.size + 1) = t := by rw [e, ← toL_len, List.drop_append, List.drop_of_length_le (by omega)]; simp
    have e4 : (toL p).drop q.size = 47 :: t := by rw [e, ← toL_len, List.drop_left]
    rw [e3, e4, List.take_of_length_le (by have := congrArg List.length e; rw [List.length_append, toL_len, toL_len, List.length_cons] at this; omega)]
    simp [Lib.trimPrefix, Lib.hasPrefix]

set_option maxRecDepth 100000 in
set_option maxHeartbeats 4000000 in
theorem names_impl (u : Value) (zs : List TFile) (q : ByteArray) (w : World) (hm : MaxOk w) (hu : Sl 2 fileC w u zs) (hf : fileFine zs) (hn : zs.length ≤ 1048576) (hq : q.size ≤ 1048576) :
    Calls Tryd.prog 11 #[u, .string q] w (RetOwn 1 strC 9 (namesB q zs) w) := by
  obtain ⟨i0, hi, hz0, hz1, hz2⟩ := info_parts Tryd.infoStr
  have HS := Lib.hid (under_impl u zs q w hm hu hf hn hq)
  obtain ⟨A', c', rfl, hc', hlc', -⟩ := file_z hu
  have hul := underF_len q zs
  clear hu
  go_enter Tryd.func11, Tryd.ntmps11
  go_wp2_with fail
  refine HS.out.mono ?_
  rintro e w1 ⟨v1, rfl, own1, b1⟩
  obtain ⟨A, c, rfl, hc, hlc, hat⟩ := file_z (own1.sl fileC_len)
  unfold maxLen at hc hc'
  have hzs : ∀ z ∈ underF q zs, undB q z.path = true := fun z hz => (List.mem_filter.1 hz).2
  have hfu := underF_fine (q := q) hf
  have HF := Lib.hid (names_under q zs)
  have hb1 := b1.size
  have m1 := Lib.hid (hm.below b1)
  have HB1 := Lib.hid b1
  clear own1 hm HS b1
  generalize underF q zs = U at *
  go_wp2
  go_loopw [5, 13] (fun o i wr => ∃ k : Nat, k ≤ U.length ∧ i = .int .i64 k ∧ Own 1 strC 9 w1.heap.size wr o (selL (fun z => !decide (z.path = q)) (fun z => firstB (restF q z.path)) (U.take k)) ∧ Below w1.heap.size w1 wr) (fun _ i _ => U.length - (intOf i).toNat)
  case atStart => exact ⟨0, Nat.zero_le _, rfl, World.ownsRow_nil _ _ _ _, below0 _⟩
  case round =>
    obtain ⟨k, hk, rfl, hown, hnx⟩ := hrel
    have hpl := selL_take (fun z => !decide (z.path = q)) (fun z => firstB (restF q z.path)) U k
    by_cases hlt : k < U.length
    · obtain ⟨z, bb, off, hz, rfl, hbl, c0, c1⟩ := hat k hlt
      have d0 := (hnx.cell (p := ⟨bb, off + k * 2, none⟩) hbl).trans c0
      have d1 := (hnx.cell (p := ⟨bb, off + k * 2 + 1, none⟩) hbl).trans c1
      obtain ⟨hp1, -⟩ := fileFine_get hfu hz
      have hxz := hzs z (List.mem_of_getElem? hz)
      have hsz := und_size hxz
      have hsi : (q.size : Int) ≤ (z.path.size : Int) := by omega
      have HO := Lib.hid hown
      have hB := al (below0 wr) (.cells #[.string z.path, .string z.bytes] 55)
      clear hown
      by_cases hy : z.path = q
      · have HZ := Lib.hid (selL_drop (p := fun z => !decide (z.path = q)) (f := fun z => firstB (restF q z.path)) hz (by simp [hy]))
        have hbq := beq_of_eq hy
        clear hat c0 c1 hz hy hxz
        go_wp2
        go_roundw
        case rel => exact ⟨k + 1, by omega, by go_num, by rw [HZ.out]; exact HO.out.below hB, below_up hnx hB⟩
        case measure => simp [intOf]; omega
      · have HZ := Lib.hid (selL_keep (p := fun z => !decide (z.path = q)) (f := fun z => firstB (restF q z.path)) hz (by simp [hy]))
        have hbq := beq_of_ne hy
        have HT := (Go.Proofs.Tryd.strings_TrimPrefix (z.path.extract q.size z.path.size) ⟨#[47]⟩ (wr.alloc (.cells #[.string z.path, .string z.bytes] 55)))
        have HT2 := trim_rest hxz (fun e => hy e.symm)
        rw [show (⟨#[47]⟩ : ByteArray).data.toList = [47] from rfl, HT2] at HT
        have HT := Lib.hid HT
        have HFi := Lib.hid (fun W hm => first_impl (restF q z.path) (by have := restF_size q z.path; omega) W hm)
        have mr := Lib.hid ((m1.out.below hnx).below hB)
        clear hat c0 c1 hz hy hxz HT2
        go_wp2_with fail
        refine HT.out.mono ?_
        rintro e w2 ⟨rfl, rfl⟩
        go_wp2_with fail
        refine (HFi.out _ mr.out).mono ?_
        rintro e w3 ⟨rfl, b3⟩
        have hq3 := below_up hB b3
        have own3 := HO.out.below hq3
        unfold Own at own3
        have hn3 := below_up hnx hq3
        have hs3 := hn3.size
        generalize firstB (restF q z.path) = x at HZ ⊢
        go_wp2_with (at_builtin; refine wpList_append_own _ rfl _ _ 24 rfl w1.heap.size 9 i0 _ 1 16 Tryd.underlying24 hi hz0 hz1 hz2 rfl (by decide) _ _ _ rfl (own3.alloc _) ⟨w3.heap.size, 0, none⟩ 1 1 [.string x] rfl rfl (news_new _ #[.string x] _ _ (by simp)) (by intro u hu; simp at hu; subst hu; rfl) (by unfold maxLen; omega) (by omega) (by have := hn3.size; simp; omega) ?_; intro v4 w4 own4 hg4 _)
        have hb4 := app_step hn3 own3 (al (below0 _) _) hg4
        clear hg4 own3
        go_wp2
        go_roundw
        case rel => exact ⟨k + 1, by omega, by go_num, by rw [HZ.out]; unfold Own; simpa [strC] using own4, hb4⟩
        case measure => simp [intOf]; omega
    · obtain rfl : k = U.length := by omega
      rw [List.take_length] at hown
      have HO2 := Lib.hid (ordered_calls _ _ w1.heap.size _ hown (by have := selL_len (fun z => !decide (z.path = q)) (fun z => firstB (restF q z.path)) U; omega))
      have HO := Lib.hid hown
      have hnH := Lib.hid hnx
      clear hown hat
      go_wp2_with fail
      refine HO2.out.mono ?_
      rintro e w2 ⟨v2, rfl, own2, hg2⟩
      go_wp2
      go_ret
      have hbw := below_up HB1.out hnH.out
      refine ⟨_, rfl, ?_, below_mark hbw HO.out hb1 hg2⟩
      have h5 := own2.mono hbw.size
      rw [HF.out] at h5
      exact h5
end Go.Proofs.YtkghhmjmfcnbnaaDoor
