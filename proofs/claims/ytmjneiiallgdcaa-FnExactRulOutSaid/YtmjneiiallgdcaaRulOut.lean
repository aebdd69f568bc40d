/- impl.RulOut. -/
import Derived.Test.YtmjneiiallgdcaaRuleDel
namespace Go.Proofs.Ytmjneiiallgdcaa
open Go.RowKit

set_option maxRecDepth 100000 in
set_option maxHeartbeats 400000 in
theorem rulOut_impl (u : Value) (zs : List TRule) (r : TRule) (w : World) (hu : Sl 4 ruleC w u zs) (hn : zs.length ≤ 1048576) :
    Calls Try.prog 9 #[u, .agg #[.int .i64 r.user, .string r.ref, .string r.path, .bool r.write]] w (fun e w' => ∃ v, e = .returned (.tuple #[v, .bool (decide ((ruleNot r zs).length < zs.length))]) ∧ Own 4 ruleC 31 w.heap.size w' v (ruleNot r zs) ∧ Below w.heap.size w w') := by
  obtain ⟨A, c, rfl, hc, hlc, -⟩ := rule_z hu
  unfold maxLen at hc
  have hq := ruleNot_len r zs
  go_enter Try.func9, Try.ntmps9
  have hbx : RBox (w.alloc (.cells #[.int .i64 r.user, .string r.ref, .string r.path, .bool r.write] 31)) w.heap.size r := by
    have hb := heap_alloc_new w (.cells #[.int .i64 r.user, .string r.ref, .string r.path, .bool r.write] 31)
    refine ⟨by simp, ?_, ?_, ?_, ?_⟩
    · rw [cell_of_row _ _ 0 _ _ _ hb]; rfl
    · rw [cell_of_row _ _ 1 _ _ _ hb]; rfl
    · rw [cell_of_row _ _ 2 _ _ _ hb]; rfl
    · rw [cell_of_row _ _ 3 _ _ _ hb]; rfl
  have hB0 := al (below0 w) (.cells #[.int .i64 r.user, .string r.ref, .string r.path, .bool r.write] 31)
  go_wp2_with fail
  refine (cloneRules_calls _ zs _ (hu.below hB0) hn).mono ?_
  rintro e w1 ⟨v1, rfl, o1, b1⟩
  go_wp2_with fail
  refine (deleteFunc_calls v1 zs r w.heap.size _ w1 o1 (hbx.below b1) (by simp) hn).mono ?_
  rintro e w2 ⟨v2, rfl, o2, g2⟩
  have B2 := below_mark (below_up hB0 b1) o1 hB0.size g2
  obtain ⟨A2, c2, rfl, hc2, hc2m⟩ := own_form o2
  unfold maxLen at hc2m
  go_wp2_with fail
  refine (cloneRules_calls _ (ruleNot r zs) _ (o2.sl ruleC_len) (by omega)).mono ?_
  rintro e w3 ⟨v3, rfl, o3, b3⟩
  have B3 := below_up B2 b3
  have HO := Lib.hid (o3.mono B2.size)
  clear o3 o2 o1 b3 B2 g2 b1 hbx hu
  go_wp2
  go_ret2
  exact ⟨_, rfl, HO.out, B3⟩
end Go.Proofs.Ytmjneiiallgdcaa
