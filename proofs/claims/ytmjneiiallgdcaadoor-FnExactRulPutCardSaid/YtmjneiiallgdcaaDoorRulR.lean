/- Rules: impl's RulPut, by a plain function. -/
import Derived.Test.YtmjneiiallgdcaaDoorRulK
import Derived.Test.YtmjneiiallgdcaaDoorRulQ
namespace Go.Proofs.YtmjneiiallgdcaaDoor
open Go.RowKit

set_option maxRecDepth 100000 in
set_option maxHeartbeats 2000000 in
theorem put_impl (u : Value) (zs : List TRule) (r : TRule) (w : World) (hm : MaxOk w) (hu : Sl 4 ruleC w u zs) (hf : ruleFine zs) (hn : zs.length ≤ 1048576) (hr : r.ref.size ≤ maxLen) (hp : r.path.size ≤ 2097160) :
    Calls Tryd.prog 43 #[u, .agg #[.int .i64 r.user, .string r.ref, .string r.path, .bool r.write]] w (PutPost zs r w) := by
  obtain ⟨i0, hi, hz0, hz1, hz2⟩ := info_parts Tryd.infoRule
  obtain ⟨A, c, rfl, hc, hlc, -⟩ := rule_z hu
  unfold maxLen at hc
  have hB0 := al (below0 w) (.cells #[.int .i64 r.user, .string r.ref, .string r.path, .bool r.write] 34)
  have hK := rbox_new w r 34
  have hu0 := hu.below hB0
  have hm0 := hm.below hB0
  go_enter Tryd.func43, Tryd.ntmps43
  go_wp2_with fail
  refine (cloneRules_calls _ zs _ hu0 hn).mono ?_
  rintro e w1 ⟨v1, rfl, o1, b1⟩
  have K1 := Lib.hid (hK.below b1)
  have s1 := hu0.below b1
  have m1 := Lib.hid (hm0.below b1)
  have B1 := below_up hB0 b1
  have own1 : Hid (w1.ownsRow w.heap.size 34 4 v1 zs.length (zs.flatMap ruleC)) := Lib.hid (o1.mono hB0.size)
  clear o1 hu0 hu hm0 hm hK
  have hfin : zs.length ≤ 1048576 := hn
  cases hl : listB zs
  · have hP := putB_no1 (r := r) hl
    have HL := Lib.hid (putL_no hP)
    have HP := Lib.hid hP
    clear hP
    obtain ⟨-, q0, q1, q2, q3⟩ := K1.out
    go_wp2_with fail
    refine (list_impl _ zs _ m1.out s1 hf).mono ?_
    rintro e v0 ⟨rfl, c0⟩
    rw [hl]
    have Bx := c0
    clear q0 q1 q2 q3
    have own2 := Lib.hid (own1.out.kept (grown_of_below Bx none) (Classical.em _))
    have B2 := below_up B1 Bx
    have K2 := Lib.hid (K1.out.below Bx)
    go_wp2
    all_goals (
      go_ret2
      refine ⟨_, by rw [HP.out]; rfl, ?_, B2⟩
      rw [HL.out]
      exact own2.out)
  · cases hk : rokB r
    · have hP := putB_no2 (zs := zs) hk
      have HL := Lib.hid (putL_no hP)
      have HP := Lib.hid hP
      clear hP
      obtain ⟨-, q0, q1, q2, q3⟩ := K1.out
      go_wp2_with fail
      refine (list_impl _ zs _ m1.out s1 hf).mono ?_
      rintro e v0 ⟨rfl, c0⟩
      rw [hl]
      have Bx := c0
      clear q0 q1 q2 q3
      obtain ⟨-, q0, q1, q2, q3⟩ := K1.out.below Bx
      go_wp2_with fail
      refine (rok_impl r hr hp _ (m1.out.below Bx)).mono ?_
      rintro e v1 ⟨rfl, c1⟩
      rw [hk]
      have Bx := below_up Bx c1
      clear q0 q1 q2 q3
      have own2 := Lib.hid (own1.out.kept (grown_of_below Bx none) (Classical.em _))
      have B2 := below_up B1 Bx
      have K2 := Lib.hid (K1.out.below Bx)
      go_wp2
      all_goals (
        go_ret2
        refine ⟨_, by rw [HP.out]; rfl, ?_, B2⟩
        rw [HL.out]
        exact own2.out)
    · by_cases h6 : zs.length = 6
      · have hP := putB_no3 (r := r) (beq_iff_eq.2 h6)
        have HL := Lib.hid (putL_no hP)
        have HP := Lib.hid hP
        have e6 : ((zs.length : Int) == 6) = true := beq_iff_eq.2 (by omega)
        clear hP h6
        obtain ⟨-, q0, q1, q2, q3⟩ := K1.out
        go_wp2_with fail
        refine (list_impl _ zs _ m1.out s1 hf).mono ?_
        rintro e v0 ⟨rfl, c0⟩
        rw [hl]
        have Bx := c0
        clear q0 q1 q2 q3
        obtain ⟨-, q0, q1, q2, q3⟩ := K1.out.below Bx
        go_wp2_with fail
        refine (rok_impl r hr hp _ (m1.out.below Bx)).mono ?_
        rintro e v1 ⟨rfl, c1⟩
        rw [hk]
        have Bx := below_up Bx c1
        clear q0 q1 q2 q3
        have own2 := Lib.hid (own1.out.kept (grown_of_below Bx none) (Classical.em _))
        have B2 := below_up B1 Bx
        have K2 := Lib.hid (K1.out.below Bx)
        go_wp2
        all_goals (
          go_ret2
          refine ⟨_, by rw [HP.out]; rfl, ?_, B2⟩
          rw [HL.out]
          exact own2.out)
      · have e6 : ((zs.length : Int) == 6) = false := beq_eq_false_iff_ne.2 (by omega)
        cases hh : hasB zs r
        · have hP := putB_yes hl hk (beq_eq_false_iff_ne.2 h6) hh
          have HL := Lib.hid (putL_yes hP)
          have HP := Lib.hid hP
          clear hP h6
          obtain ⟨-, q0, q1, q2, q3⟩ := K1.out
          go_wp2_with fail
          refine (list_impl _ zs _ m1.out s1 hf).mono ?_
          rintro e v0 ⟨rfl, c0⟩
          rw [hl]
          have Bx := c0
          clear q0 q1 q2 q3
          obtain ⟨-, q0, q1, q2, q3⟩ := K1.out.below Bx
          go_wp2_with fail
          refine (rok_impl r hr hp _ (m1.out.below Bx)).mono ?_
          rintro e v1 ⟨rfl, c1⟩
          rw [hk]
          have Bx := below_up Bx c1
          clear q0 q1 q2 q3
          obtain ⟨-, q0, q1, q2, q3⟩ := K1.out.below Bx
          go_wp2_with fail
          refine (has_impl _ zs r _ (s1.below Bx)).mono ?_
          rintro e v2 ⟨rfl, c2⟩
          rw [hh]
          have Bx := below_up Bx c2
          clear q0 q1 q2 q3
          have own2 := Lib.hid (own1.out.kept (grown_of_below Bx none) (Classical.em _))
          have B2 := below_up B1 Bx
          have K2 := Lib.hid (K1.out.below Bx)
          obtain ⟨-, p0, p1, p2, p3⟩ := K2.out
          have hl6 : zs.length ≤ 6 := listB_len hl
          have own2o := own2.out
          clear own2
          go_wp2_with (at_builtin; refine wpList_append_own _ rfl _ _ 40 rfl w.heap.size 34 i0 _ 4 48 Tryd.underlying40 hi hz0 hz1 hz2 rfl (by decide) _ _ _ rfl (own2o.alloc _) ⟨v2.heap.size, 0, none⟩ 1 1 [.int .i64 r.user, .string r.ref, .string r.path, .bool r.write] rfl rfl (news_new _ #[.int .i64 r.user, .string r.ref, .string r.path, .bool r.write] _ _ (by simp)) (by intro u hu; simp at hu; rcases hu with rfl | rfl | rfl | rfl <;> rfl) (by unfold maxLen; omega) (by omega) (by have := B2.size; simp; omega) ?_; intro v3 w3 own3 g3 _)
          have B3 := app_step B2 own2o (al (below0 _) _) g3
          clear g3 own2o
          go_ret2
          refine ⟨_, by rw [HP.out]; rfl, ?_, B3⟩
          rw [HL.out]
          unfold Own
          simpa [ruleC] using own3
        · have hP := putB_no4 hh
          have HL := Lib.hid (putL_no hP)
          have HP := Lib.hid hP
          clear hP h6
          obtain ⟨-, q0, q1, q2, q3⟩ := K1.out
          go_wp2_with fail
          refine (list_impl _ zs _ m1.out s1 hf).mono ?_
          rintro e v0 ⟨rfl, c0⟩
          rw [hl]
          have Bx := c0
          clear q0 q1 q2 q3
          obtain ⟨-, q0, q1, q2, q3⟩ := K1.out.below Bx
          go_wp2_with fail
          refine (rok_impl r hr hp _ (m1.out.below Bx)).mono ?_
          rintro e v1 ⟨rfl, c1⟩
          rw [hk]
          have Bx := below_up Bx c1
          clear q0 q1 q2 q3
          obtain ⟨-, q0, q1, q2, q3⟩ := K1.out.below Bx
          go_wp2_with fail
          refine (has_impl _ zs r _ (s1.below Bx)).mono ?_
          rintro e v2 ⟨rfl, c2⟩
          rw [hh]
          have Bx := below_up Bx c2
          clear q0 q1 q2 q3
          have own2 := Lib.hid (own1.out.kept (grown_of_below Bx none) (Classical.em _))
          have B2 := below_up B1 Bx
          have K2 := Lib.hid (K1.out.below Bx)
          go_wp2
          all_goals (
            go_ret2
            refine ⟨_, by rw [HP.out]; rfl, ?_, B2⟩
            rw [HL.out]
            exact own2.out)
end Go.Proofs.YtmjneiiallgdcaaDoor
