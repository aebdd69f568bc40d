/- Rules: spec's RulPut, by a plain function. -/
import Derived.Test.YtfiempmdmkoagaaDoorRulP
namespace Go.Proofs.YtfiempmdmkoagaaDoor
open Go.RowKit

theorem putB_no1 {zs : List TRule} {r : TRule} (h : listB zs = false) : putB zs r = false := by unfold putB; rw [h]; rfl
theorem putB_no2 {zs : List TRule} {r : TRule} (h : rokB r = false) : putB zs r = false := by unfold putB; rw [h]; simp
theorem putB_no3 {zs : List TRule} {r : TRule} (h : (zs.length == 6) = true) : putB zs r = false := by unfold putB; rw [h]; simp
theorem putB_no4 {zs : List TRule} {r : TRule} (h : hasB zs r = true) : putB zs r = false := by unfold putB; rw [h]; simp
theorem putB_yes {zs : List TRule} {r : TRule} (h1 : listB zs = true) (h2 : rokB r = true) (h3 : (zs.length == 6) = false) (h4 : hasB zs r = false) : putB zs r = true := by unfold putB; rw [h1, h2, h3, h4]; rfl
theorem putL_no {zs : List TRule} {r : TRule} (h : putB zs r = false) : putL zs r = zs := by unfold putL; rw [h]; rfl
theorem putL_yes {zs : List TRule} {r : TRule} (h : putB zs r = true) : putL zs r = zs ++ [r] := by unfold putL; rw [h]; rfl
/-- a call of RulPut -/
def PutPost (zs : List TRule) (r : TRule) (w : World) (e : Ending) (w' : World) : Prop := ∃ v, e = .returned (.tuple #[v, .bool (putB zs r)]) ∧ Own 4 ruleC 40 w.heap.size w' v (putL zs r) ∧ Below w.heap.size w w'

theorem RBox.grownQ {w w' : World} {g : Nat} {row : Option Nat} {r : TRule} (h : RBox w g r) (hg : w.grownBy w' row) (hn : some g ≠ row) : RBox w' g r := by
  have hc : ∀ o, w'.cell? ⟨g, o, none⟩ = w.cell? ⟨g, o, none⟩ := fun o => World.cell?_of_block (hg.block g h.1 hn)
  exact ⟨Nat.lt_of_lt_of_le h.1 hg.size, (hc 0).trans h.2.1, (hc 1).trans h.2.2.1, (hc 2).trans h.2.2.2.1, (hc 3).trans h.2.2.2.2⟩
set_option maxRecDepth 100000 in
set_option maxHeartbeats 2000000 in
theorem put_spec (u : Value) (zs : List TRule) (r : TRule) (w : World) (hu : Sl 4 ruleC w u zs) (hf : ruleFine zs) (hn : zs.length ≤ 1048576) (hr : r.ref.size ≤ maxLen) (hp : r.path.size ≤ 2097160) :
    Calls Tryd.prog 69 #[u, .agg #[.int .i64 r.user, .string r.ref, .string r.path, .bool r.write]] w (PutPost zs r w) := by
  obtain ⟨i0, hi, hz0, hz1, hz2⟩ := info_parts Tryd.infoRule
  obtain ⟨A, c, rfl, hc, hlc, hat⟩ := rule_z hu
  unfold maxLen at hc
  have hB0 := al (below0 w) (.cells #[.int .i64 r.user, .string r.ref, .string r.path, .bool r.write] 40)
  have hK := rbox_new w r 40
  have hBe := al hB0 (.cells #[] 40)
  have hOe : Own 4 ruleC 40 w.heap.size ((w.alloc (.cells #[.int .i64 r.user, .string r.ref, .string r.path, .bool r.write] 40)).alloc (.cells #[] 40)) (.slice (some ⟨w.heap.size + 1, 0, none⟩) 0 0) [] := by
    have := World.ownsRow_lit (base := w.heap.size) (w.alloc (.cells #[.int .i64 r.user, .string r.ref, .string r.path, .bool r.write] 40)) #[] 0 (e := 40) (size := 4) (by simp) (by simp [maxLen]) rfl
    simpa [Own] using this
  have hKe := hK.below (al (below0 _) (.cells #[] 40))
  have hue := hu.below hBe
  cases A with
  | none =>
    have : zs = [] := by
      cases zs with
      | nil => rfl
      | cons z zs => obtain ⟨_, _, _, _, h, _⟩ := hat 0 (by simp); cases h
    subst this
    clear hat
    have own1 : Hid (((w.alloc (.cells #[.int .i64 r.user, .string r.ref, .string r.path, .bool r.write] 40)).alloc (.cells #[] 40)).ownsRow w.heap.size 40 4 (.slice (some ⟨w.heap.size + 1, 0, none⟩) 0 0) ([] : List TRule).length (([] : List TRule).flatMap ruleC)) := hOe
    have K1 := Lib.hid hKe
    have s1 := hue
    have B1 := hBe
    clear hKe hue hBe hOe hK hB0 hu
    go_enter Tryd.func69, Tryd.ntmps69
    go_wp2_with fail
    have hfin : ([] : List TRule).length ≤ 1048576 := hn
    cases hl : listB ([] : List TRule)
    · have hP := putB_no1 (r := r) hl
      have HL := Lib.hid (putL_no hP)
      have HP := Lib.hid hP
      clear hP
      obtain ⟨-, q0, q1, q2, q3⟩ := K1.out
      go_wp2_with fail
      refine (list_spec _ ([] : List TRule) _ s1 hf).mono ?_
      rintro e v0 ⟨rfl, c0⟩
      rw [hl]
      have Bx := c0
      clear q0 q1 q2 q3
      have own2 := Lib.hid (own1.out.kept (grown_of_below Bx none) (Classical.em _))
      have B2 := below_up B1 Bx
      have K2 := Lib.hid (K1.out.below Bx)
      go_wp2
      all_goals (
        go_ret2
        refine ⟨_, by rw [HP.out]; rfl, ?_, B2⟩
        rw [HL.out]
        exact own2.out)
    · cases hk : rokB r
      · have hP := putB_no2 (zs := ([] : List TRule)) hk
        have HL := Lib.hid (putL_no hP)
        have HP := Lib.hid hP
        clear hP
        obtain ⟨-, q0, q1, q2, q3⟩ := K1.out
        go_wp2_with fail
        refine (list_spec _ ([] : List TRule) _ s1 hf).mono ?_
        rintro e v0 ⟨rfl, c0⟩
        rw [hl]
        have Bx := c0
        clear q0 q1 q2 q3
        obtain ⟨-, q0, q1, q2, q3⟩ := K1.out.below Bx
        go_wp2_with fail
        refine (rok_spec r hr hp _).mono ?_
        rintro e v1 ⟨rfl, c1⟩
        rw [hk]
        have Bx := below_up Bx c1
        clear q0 q1 q2 q3
        have own2 := Lib.hid (own1.out.kept (grown_of_below Bx none) (Classical.em _))
        have B2 := below_up B1 Bx
        have K2 := Lib.hid (K1.out.below Bx)
        go_wp2
        all_goals (
          go_ret2
          refine ⟨_, by rw [HP.out]; rfl, ?_, B2⟩
          rw [HL.out]
          exact own2.out)
      · by_cases h6 : ([] : List TRule).length = 6
        · have hP := putB_no3 (r := r) (beq_iff_eq.2 h6)
          have HL := Lib.hid (putL_no hP)
          have HP := Lib.hid hP
          have e6 : ((([] : List TRule).length : Int) == 6) = true := beq_iff_eq.2 (by omega)
          clear hP h6
          obtain ⟨-, q0, q1, q2, q3⟩ := K1.out
          go_wp2_with fail
          refine (list_spec _ ([] : List TRule) _ s1 hf).mono ?_
          rintro e v0 ⟨rfl, c0⟩
          rw [hl]
          have Bx := c0
          clear q0 q1 q2 q3
          obtain ⟨-, q0, q1, q2, q3⟩ := K1.out.below Bx
          go_wp2_with fail
          refine (rok_spec r hr hp _).mono ?_
          rintro e v1 ⟨rfl, c1⟩
          rw [hk]
          have Bx := below_up Bx c1
          clear q0 q1 q2 q3
          have own2 := Lib.hid (own1.out.kept (grown_of_below Bx none) (Classical.em _))
          have B2 := below_up B1 Bx
          have K2 := Lib.hid (K1.out.below Bx)
          go_wp2
          all_goals (
            go_ret2
            refine ⟨_, by rw [HP.out]; rfl, ?_, B2⟩
            rw [HL.out]
            exact own2.out)
        · have e6 : ((([] : List TRule).length : Int) == 6) = false := beq_eq_false_iff_ne.2 (by omega)
          cases hh : hasB ([] : List TRule) r
          · have hP := putB_yes hl hk (beq_eq_false_iff_ne.2 h6) hh
            have HL := Lib.hid (putL_yes hP)
            have HP := Lib.hid hP
            clear hP h6
            obtain ⟨-, q0, q1, q2, q3⟩ := K1.out
            go_wp2_with fail
            refine (list_spec _ ([] : List TRule) _ s1 hf).mono ?_
            rintro e v0 ⟨rfl, c0⟩
            rw [hl]
            have Bx := c0
            clear q0 q1 q2 q3
            obtain ⟨-, q0, q1, q2, q3⟩ := K1.out.below Bx
            go_wp2_with fail
            refine (rok_spec r hr hp _).mono ?_
            rintro e v1 ⟨rfl, c1⟩
            rw [hk]
            have Bx := below_up Bx c1
            clear q0 q1 q2 q3
            obtain ⟨-, q0, q1, q2, q3⟩ := K1.out.below Bx
            go_wp2_with fail
            refine (same_spec _ ([] : List TRule) r _ (s1.below Bx)).mono ?_
            rintro e v2 ⟨rfl, c2⟩
            rw [hh]
            have Bx := below_up Bx c2
            clear q0 q1 q2 q3
            have own2 := Lib.hid (own1.out.kept (grown_of_below Bx none) (Classical.em _))
            have B2 := below_up B1 Bx
            have K2 := Lib.hid (K1.out.below Bx)
            obtain ⟨-, p0, p1, p2, p3⟩ := K2.out
            have hl6 : ([] : List TRule).length ≤ 6 := listB_len hl
            have own2o := own2.out
            clear own2
            go_wp2_with (at_builtin; refine wpList_append_own _ rfl _ _ 36 rfl w.heap.size 40 i0 _ 4 48 Tryd.underlying36 hi hz0 hz1 hz2 rfl (by decide) _ _ _ rfl (own2o.alloc _) ⟨v2.heap.size, 0, none⟩ 1 1 [.int .i64 r.user, .string r.ref, .string r.path, .bool r.write] rfl rfl (news_new _ #[.int .i64 r.user, .string r.ref, .string r.path, .bool r.write] _ _ (by simp)) (by intro u hu; simp at hu; rcases hu with rfl | rfl | rfl | rfl <;> rfl) (by unfold maxLen; omega) (by omega) (by have := B2.size; simp; omega) ?_; intro v3 w3 own3 g3 _)
            have B3 := app_step B2 own2o (al (below0 _) _) g3
            clear g3 own2o
            go_ret2
            refine ⟨_, by rw [HP.out]; rfl, ?_, B3⟩
            rw [HL.out]
            unfold Own
            simpa [ruleC] using own3
          · have hP := putB_no4 hh
            have HL := Lib.hid (putL_no hP)
            have HP := Lib.hid hP
            clear hP h6
            obtain ⟨-, q0, q1, q2, q3⟩ := K1.out
            go_wp2_with fail
            refine (list_spec _ ([] : List TRule) _ s1 hf).mono ?_
            rintro e v0 ⟨rfl, c0⟩
            rw [hl]
            have Bx := c0
            clear q0 q1 q2 q3
            obtain ⟨-, q0, q1, q2, q3⟩ := K1.out.below Bx
            go_wp2_with fail
            refine (rok_spec r hr hp _).mono ?_
            rintro e v1 ⟨rfl, c1⟩
            rw [hk]
            have Bx := below_up Bx c1
            clear q0 q1 q2 q3
            obtain ⟨-, q0, q1, q2, q3⟩ := K1.out.below Bx
            go_wp2_with fail
            refine (same_spec _ ([] : List TRule) r _ (s1.below Bx)).mono ?_
            rintro e v2 ⟨rfl, c2⟩
            rw [hh]
            have Bx := below_up Bx c2
            clear q0 q1 q2 q3
            have own2 := Lib.hid (own1.out.kept (grown_of_below Bx none) (Classical.em _))
            have B2 := below_up B1 Bx
            have K2 := Lib.hid (K1.out.below Bx)
            go_wp2
            all_goals (
              go_ret2
              refine ⟨_, by rw [HP.out]; rfl, ?_, B2⟩
              rw [HL.out]
              exact own2.out)
  | some ad =>
    have hnew := sl_news ruleC_len (by omega) hue
    clear hat
    go_enter Tryd.func69, Tryd.ntmps69
    go_wp2_with (at_builtin; refine wpList_append_own _ rfl _ _ 36 rfl w.heap.size 40 i0 _ 4 48 Tryd.underlying36 hi hz0 hz1 hz2 rfl (by decide) _ _ _ rfl hOe ad zs.length c (zs.flatMap ruleC) rfl (flat_len ruleC_len zs) hnew (one_rule zs) (by simp only [List.length_nil]; unfold maxLen; omega) (by simp only [List.length_nil]; omega) (by simp; omega) ?_; intro v1 w1 hown1 hgrow1 _)
    have B1 : Below w.heap.size w w1 := hBe.grown hgrow1 hBe.size (fun k hk => by have h : w.heap.size + 1 = k := Option.some.inj hk; omega)
    have K1 := Lib.hid (RBox.grownQ hKe hgrow1 (fun e => by have h : w.heap.size = w.heap.size + 1 := Option.some.inj e; omega))
    have s1 : Sl 4 ruleC w1 (.slice (some ad) zs.length c) zs := hu.below B1
    have own1 : Hid (w1.ownsRow w.heap.size 40 4 v1 zs.length (zs.flatMap ruleC)) := Lib.hid (by simpa using hown1)
    clear hgrow1 hown1 hKe hue hBe hOe hK hB0 hu hnew
    have hfin : zs.length ≤ 1048576 := hn
    cases hl : listB zs
    · have hP := putB_no1 (r := r) hl
      have HL := Lib.hid (putL_no hP)
      have HP := Lib.hid hP
      clear hP
      obtain ⟨-, q0, q1, q2, q3⟩ := K1.out
      go_wp2_with fail
      refine (list_spec _ zs _ s1 hf).mono ?_
      rintro e v0 ⟨rfl, c0⟩
      rw [hl]
      have Bx := c0
      clear q0 q1 q2 q3
      have own2 := Lib.hid (own1.out.kept (grown_of_below Bx none) (Classical.em _))
      have B2 := below_up B1 Bx
      have K2 := Lib.hid (K1.out.below Bx)
      go_wp2
      all_goals (
        go_ret2
        refine ⟨_, by rw [HP.out]; rfl, ?_, B2⟩
        rw [HL.out]
        exact own2.out)
    · cases hk : rokB r
      · have hP := putB_no2 (zs := zs) hk
        have HL := Lib.hid (putL_no hP)
        have HP := Lib.hid hP
        clear hP
        obtain ⟨-, q0, q1, q2, q3⟩ := K1.out
        go_wp2_with fail
        refine (list_spec _ zs _ s1 hf).mono ?_
        rintro e v0 ⟨rfl, c0⟩
        rw [hl]
        have Bx := c0
        clear q0 q1 q2 q3
        obtain ⟨-, q0, q1, q2, q3⟩ := K1.out.below Bx
        go_wp2_with fail
        refine (rok_spec r hr hp _).mono ?_
        rintro e v1 ⟨rfl, c1⟩
        rw [hk]
        have Bx := below_up Bx c1
        clear q0 q1 q2 q3
        have own2 := Lib.hid (own1.out.kept (grown_of_below Bx none) (Classical.em _))
        have B2 := below_up B1 Bx
        have K2 := Lib.hid (K1.out.below Bx)
        go_wp2
        all_goals (
          go_ret2
          refine ⟨_, by rw [HP.out]; rfl, ?_, B2⟩
          rw [HL.out]
          exact own2.out)
      · by_cases h6 : zs.length = 6
        · have hP := putB_no3 (r := r) (beq_iff_eq.2 h6)
          have HL := Lib.hid (putL_no hP)
          have HP := Lib.hid hP
          have e6 : ((zs.length : Int) == 6) = true := beq_iff_eq.2 (by omega)
          clear hP h6
          obtain ⟨-, q0, q1, q2, q3⟩ := K1.out
          go_wp2_with fail
          refine (list_spec _ zs _ s1 hf).mono ?_
          rintro e v0 ⟨rfl, c0⟩
          rw [hl]
          have Bx := c0
          clear q0 q1 q2 q3
          obtain ⟨-, q0, q1, q2, q3⟩ := K1.out.below Bx
          go_wp2_with fail
          refine (rok_spec r hr hp _).mono ?_
          rintro e v1 ⟨rfl, c1⟩
          rw [hk]
          have Bx := below_up Bx c1
          clear q0 q1 q2 q3
          have own2 := Lib.hid (own1.out.kept (grown_of_below Bx none) (Classical.em _))
          have B2 := below_up B1 Bx
          have K2 := Lib.hid (K1.out.below Bx)
          go_wp2
          all_goals (
            go_ret2
            refine ⟨_, by rw [HP.out]; rfl, ?_, B2⟩
            rw [HL.out]
            exact own2.out)
        · have e6 : ((zs.length : Int) == 6) = false := beq_eq_false_iff_ne.2 (by omega)
          cases hh : hasB zs r
          · have hP := putB_yes hl hk (beq_eq_false_iff_ne.2 h6) hh
            have HL := Lib.hid (putL_yes hP)
            have HP := Lib.hid hP
            clear hP h6
            obtain ⟨-, q0, q1, q2, q3⟩ := K1.out
            go_wp2_with fail
            refine (list_spec _ zs _ s1 hf).mono ?_
            rintro e v0 ⟨rfl, c0⟩
            rw [hl]
            have Bx := c0
            clear q0 q1 q2 q3
            obtain ⟨-, q0, q1, q2, q3⟩ := K1.out.below Bx
            go_wp2_with fail
            refine (rok_spec r hr hp _).mono ?_
            rintro e v1 ⟨rfl, c1⟩
            rw [hk]
            have Bx := below_up Bx c1
            clear q0 q1 q2 q3
            obtain ⟨-, q0, q1, q2, q3⟩ := K1.out.below Bx
            go_wp2_with fail
            refine (same_spec _ zs r _ (s1.below Bx)).mono ?_
            rintro e v2 ⟨rfl, c2⟩
            rw [hh]
            have Bx := below_up Bx c2
            clear q0 q1 q2 q3
            have own2 := Lib.hid (own1.out.kept (grown_of_below Bx none) (Classical.em _))
            have B2 := below_up B1 Bx
            have K2 := Lib.hid (K1.out.below Bx)
            obtain ⟨-, p0, p1, p2, p3⟩ := K2.out
            have hl6 : zs.length ≤ 6 := listB_len hl
            have own2o := own2.out
            clear own2
            go_wp2_with (at_builtin; refine wpList_append_own _ rfl _ _ 36 rfl w.heap.size 40 i0 _ 4 48 Tryd.underlying36 hi hz0 hz1 hz2 rfl (by decide) _ _ _ rfl (own2o.alloc _) ⟨v2.heap.size, 0, none⟩ 1 1 [.int .i64 r.user, .string r.ref, .string r.path, .bool r.write] rfl rfl (news_new _ #[.int .i64 r.user, .string r.ref, .string r.path, .bool r.write] _ _ (by simp)) (by intro u hu; simp at hu; rcases hu with rfl | rfl | rfl | rfl <;> rfl) (by unfold maxLen; omega) (by omega) (by have := B2.size; simp; omega) ?_; intro v3 w3 own3 g3 _)
            have B3 := app_step B2 own2o (al (below0 _) _) g3
            clear g3 own2o
            go_ret2
            refine ⟨_, by rw [HP.out]; rfl, ?_, B3⟩
            rw [HL.out]
            unfold Own
            simpa [ruleC] using own3
          · have hP := putB_no4 hh
            have HL := Lib.hid (putL_no hP)
            have HP := Lib.hid hP
            clear hP h6
            obtain ⟨-, q0, q1, q2, q3⟩ := K1.out
            go_wp2_with fail
            refine (list_spec _ zs _ s1 hf).mono ?_
            rintro e v0 ⟨rfl, c0⟩
            rw [hl]
            have Bx := c0
            clear q0 q1 q2 q3
            obtain ⟨-, q0, q1, q2, q3⟩ := K1.out.below Bx
            go_wp2_with fail
            refine (rok_spec r hr hp _).mono ?_
            rintro e v1 ⟨rfl, c1⟩
            rw [hk]
            have Bx := below_up Bx c1
            clear q0 q1 q2 q3
            obtain ⟨-, q0, q1, q2, q3⟩ := K1.out.below Bx
            go_wp2_with fail
            refine (same_spec _ zs r _ (s1.below Bx)).mono ?_
            rintro e v2 ⟨rfl, c2⟩
            rw [hh]
            have Bx := below_up Bx c2
            clear q0 q1 q2 q3
            have own2 := Lib.hid (own1.out.kept (grown_of_below Bx none) (Classical.em _))
            have B2 := below_up B1 Bx
            have K2 := Lib.hid (K1.out.below Bx)
            go_wp2
            all_goals (
              go_ret2
              refine ⟨_, by rw [HP.out]; rfl, ?_, B2⟩
              rw [HL.out]
              exact own2.out)
end Go.Proofs.YtfiempmdmkoagaaDoor
