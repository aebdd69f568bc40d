/- FnExactRulMay returns true for every list of rules, user, ref, path and wish to write; the tables that its row lists are tied to the program. No condition. -/
import Derived.Test.YtmjneiiallgdcaaDoorRulM
import Derived.Test.YtmjneiiallgdcaaDoorRuleOpen
import Derived.Test.YtmjneiiallgdcaaDoorRulLaw
import Derived.Test.YtmjneiiallgdcaaDoorLaidW
import Derived.Test.YtmjneiiallgdcaaDoorFive
namespace Go.Proofs.YtmjneiiallgdcaaDoor
open Go.ChangeShapes Go.WideShapes Go.ChangeAt Go.RowKit
open Go.ChangeMaps (open_string)

set_option maxRecDepth 100000 in
set_option maxHeartbeats 2000000 in
theorem rulMayLaw_calls (W : World) (hsh : W.ShapedOpen Tryd.prog) (v : Value) (zs : List TRule) (hv : Sl 4 ruleC W v zs ∧ ∀ z ∈ zs, (Lit.int .i64 z.user).wf = true ∧ z.ref.size ≤ maxLen ∧ z.path.size ≤ maxLen) (u : Int) (_ : (Lit.int .i64 u).wf = true) (ref : ByteArray) (hr : ref.size ≤ maxLen) (path : ByteArray) (hp : path.size ≤ maxLen) (write : Bool) :
    Calls Tryd.prog 11 #[v, .int .i64 u, .string ref, .string path, .bool write] W fun e w' => e = .returned (.bool true) ∧ Below W.heap.size W w' := by
  obtain ⟨hs, ht⟩ := hv
  have hm0 := maxOk_of hsh
  clear hsh
  have hr2 := hr
  unfold maxLen at hr2
  by_cases gref : (1048576 : Int) < ref.size
  · go_enter Tryd.func11, Tryd.ntmps11
    go_wp2
    go_ret
    exact ⟨rfl, Below.refl _ _⟩
  have hp2 := hp
  unfold maxLen at hp2
  by_cases gpath : (1048576 : Int) < path.size
  · go_enter Tryd.func11, Tryd.ntmps11
    go_wp2
    go_ret
    exact ⟨rfl, Below.refl _ _⟩
  by_cases hL : (1048576 : Int) < (zs.length + wsum ruleT zs : Nat)
  · go_enter Tryd.func11, Tryd.ntmps11
    go_wp2_with fail
    refine (szRulRuleS_calls v zs _ _ hs (fun z hz => (ht z hz).2) (by omega) (by omega)).mono ?_
    rintro e w1 ⟨rfl, hb1⟩
    rw [szR_no hL]
    go_wp2
    go_ret
    exact ⟨rfl, hb1⟩
  · have hn : zs.length ≤ 1048576 := by omega
    have hf := fine_of (zs := zs) (by omega)
    go_enter Tryd.func11, Tryd.ntmps11
    go_wp2_with fail
    refine (szRulRuleS_calls v zs _ _ hs (fun z hz => (ht z hz).2) (by omega) (by omega)).mono ?_
    rintro e w1 ⟨rfl, b1⟩
    rw [szR_yes (by omega)]
    have B1 := below_up (Below.refl _ _) b1
    have a_1 := hs.below b1
    have hm_1 := hm0.below b1
    go_wp2_with fail
    refine (toRulRuleS_calls v zs _ a_1 hn).mono ?_
    rintro e w2 ⟨c2, rfl, c2_o, b2⟩
    have B2 := below_up B1 b2
    have a_2 := a_1.below b2
    have hm_2 := hm_1.below b2
    go_wp2_with fail
    refine (may_spec c2 zs u ref path write _ (c2_o.sl ruleC_len) hf (by omega)).mono ?_
    rintro e w3 ⟨rfl, b3⟩
    have B3 := below_up B2 b3
    have a_3 := a_2.below b3
    have hm_3 := hm_2.below b3
    have c2_3 := c2_o.below b3
    go_wp2_with fail
    refine (toRulRuleS_calls v zs _ a_3 hn).mono ?_
    rintro e w4 ⟨x4, rfl, x4_o, b4⟩
    have B4 := below_up B3 b4
    have a_4 := a_3.below b4
    have hm_4 := hm_3.below b4
    go_wp2_with fail
    refine (may_impl x4 zs u ref path write (by omega) _ hm_4 (x4_o.sl ruleC_len) hf).mono ?_
    rintro e w5 ⟨rfl, b5⟩
    have B5 := below_up B4 b5
    have a_5 := a_4.below b5
    have hm_5 := hm_4.below b5
    have x4_5 := x4_o.below b5
    go_wp2_with fail
    refine (toRulRuleS_calls v zs _ a_5 hn).mono ?_
    rintro e w6 ⟨c7, rfl, c7_o, b6⟩
    have B6 := below_up B5 b6
    have a_6 := a_5.below b6
    have hm_6 := hm_5.below b6
    have x4_6 := x4_5.below b6
    go_wp2_with fail
    refine (eqRulRuleS_calls x4 c7 zs _ (x4_6.sl ruleC_len) (c7_o.sl ruleC_len)).mono ?_
    rintro e w7 ⟨rfl, b7⟩
    have B7 := below_up B6 b7
    have a_7 := a_6.below b7
    have hm_7 := hm_6.below b7
    have x4_7 := x4_6.below b7
    have c7_7 := c7_o.below b7
    go_wp2
    go_ret
    exact ⟨rfl, B7⟩

set_option maxRecDepth 100000 in
theorem rulMayLaw_lifted (os : Os) (started : os.Started) (H : Type) (enc : TypeId × Value → H) (F : Stop.Interp) :
    ReturnsInHanded {} Tryd.checked os 11 .any ((OpenSpec.ofChange Rows.fnExactRulMaySpec).preRow enc Tryd.prog Tryd.f11 Rows.fnExactRulMayRow.domain false Rows.fnExactRulMayRow.laid) (((OpenSpec.ofChange Rows.fnExactRulMaySpec).at F).post enc Tryd.prog Tryd.f11 false true false false) := by
  obtain ⟨places, hx⟩ := (show ∃ places, DataW.whole enc Tryd.prog ((laidWorld os).forCall (fun _ _ => 0) ⟨#[], #[.slice none 0 0, .int .i64 0, .string ByteArray.empty, .string ByteArray.empty, .bool false], []⟩).memory Tryd.f11.params.toList Rows.fnExactRulMaySpec.vars false (#[.slice none 0 0, .int .i64 0, .string ByteArray.empty, .string ByteArray.empty, .bool false] : Array Value).toList 8 = some ([.nil, .lit (.int .i64 0), .lit (.string []), .lit (.string []), .lit (.bool false)], [], places) from ⟨[], by kernel_rfl⟩)
  have hmet : laidMet Tryd.prog Rows.fnExactRulMayRow.laid ((laidWorld os).forCall (fun _ _ => 0) ⟨#[], #[.slice none 0 0, .int .i64 0, .string ByteArray.empty, .string ByteArray.empty, .bool false], []⟩).memory := laidMet_of_run' 8 (by kernel_rfl) (by kernel_rfl)
  refine returnsInHanded_of_row (C := Tryd.checked) (s := OpenSpec.ofChange Rows.fnExactRulMaySpec) Tryd.own started (by kernel_rfl) Tryd.func11
    (witness_row_at (enc := enc) (C := Tryd.checked) false (laidWorld os) #[.slice none 0 0, .int .i64 0, .string ByteArray.empty, .string ByteArray.empty, .bool false] rfl (by kernel_rfl) (by kernel_rfl) (by kernel_rfl)
      (OpenSpec.preRow_of_cond 8 hx (by kernel_rfl) (fun k hk => by cases hk) (by kernel_rfl) hmet)) ?_
  intro W base args ds gs before hval0 hW _ _ _ _ hsh _
  show Calls Tryd.prog 11 args W fun e W2 => ∃ v, e = .returned v ∧ Rows.fnExactRulMaySpec.post enc Tryd.prog Tryd.f11 false true false false W args v W2
  have hval : ∀ (j : Nat) t v, Tryd.f11.params[j]? = some t → args[j]? = some v → Value.okWide Tryd.prog W .any base t v := hval0
  have hW1 : DataW.Whole enc Tryd.prog Tryd.f11.params.toList Rows.fnExactRulMaySpec.vars false W args.toList ds gs before := hW
  have hW2 := hW1
  obtain ⟨p, q, hA0, hV, rfl, _, _⟩ := hW1
  have hA : DataW.TrodAll enc Tryd.prog W 0 (fun _ => true) true Tryd.f11.params.toList args.toList ds p := hA0
  rw [Tryd.params11] at hA hval
  obtain ⟨v0, v1, v2, v3, v4, d0, d1, d2, d3, d4, p0, p1, p2, p3, p4, rfl, rfl, rfl, h0, h1, h2, h3, h4⟩ := trodAll_five hA
  obtain ⟨rfl, rfl⟩ := trodVars_none hV
  clear hA0 hval0 hW
  simp only [List.append_nil] at hW2
  have lt0 : ∀ x ∈ p0, x.block < W.heap.size := fun x hx => hW2.lt x (by simp [hx])
  have lt1 : ∀ x ∈ p1, x.block < W.heap.size := fun x hx => hW2.lt x (by simp [hx])
  have lt2 : ∀ x ∈ p2, x.block < W.heap.size := fun x hx => hW2.lt x (by simp [hx])
  have lt3 : ∀ x ∈ p3, x.block < W.heap.size := fun x hx => hW2.lt x (by simp [hx])
  have lt4 : ∀ x ∈ p4, x.block < W.heap.size := fun x hx => hW2.lt x (by simp [hx])
  have k0 := fun W2 (hb : Below W.heap.size W W2) => Below.trod Tryd.laidOut (by kernel_rfl) (of_decide_eq_true (by kernel_rfl)) h0 hb lt0
  have k1 := fun W2 (hb : Below W.heap.size W W2) => Below.trod Tryd.laidOut (by kernel_rfl) (of_decide_eq_true (by kernel_rfl)) h1 hb lt1
  have k2 := fun W2 (hb : Below W.heap.size W W2) => Below.trod Tryd.laidOut (by kernel_rfl) (of_decide_eq_true (by kernel_rfl)) h2 hb lt2
  have k3 := fun W2 (hb : Below W.heap.size W W2) => Below.trod Tryd.laidOut (by kernel_rfl) (of_decide_eq_true (by kernel_rfl)) h3 hb lt3
  have k4 := fun W2 (hb : Below W.heap.size W W2) => Below.trod Tryd.laidOut (by kernel_rfl) (of_decide_eq_true (by kernel_rfl)) h4 hb lt4
  obtain ⟨x0, wf0⟩ := open_rule (hval 0 37 v0 rfl rfl) h0 lt0
  obtain ⟨x1, rfl, -, -, wf1⟩ := open_int Tryd.underlying3 (hval 1 3 v1 rfl rfl) h1
  obtain ⟨x2, rfl, -, -, wf2⟩ := open_string Tryd.underlying9 (hval 2 9 v2 rfl rfl) h2
  obtain ⟨x3, rfl, -, -, wf3⟩ := open_string Tryd.underlying9 (hval 3 9 v3 rfl rfl) h3
  obtain ⟨x4, rfl, -, -⟩ := open_bool Tryd.underlying4 (hval 4 4 v4 rfl rfl) h4
  refine (rulMayLaw_calls W hsh v0 x0 wf0 x1 wf1 x2 wf2 x3 wf3 x4).mono fun e W2 ⟨he, hb⟩ => ?_
  subst he
  exact ⟨_, rfl, _, _, _, [], _, [], hW2, trodAll_mk1 (shut_bool Tryd.underlying4 true), trodAll_mk5 (k0 W2 hb) (k1 W2 hb) (k2 W2 hb) (k3 W2 hb) (k4 W2 hb), rfl, hb.frame _, fun h => by cases h⟩

theorem rulMayLaw_said : Rows.FnExactRulMaySaid :=
  OpenClaim.holds_of_cond 11 Tryd.f11 rfl rfl rfl rfl rfl rfl rfl ⟨rfl, rfl, rfl, rfl, rfl⟩ rfl rfl rfl rfl rfl (by kernel_rfl) Tryd.func11 (by kernel_rfl)
    (of_decide_eq_true (by kernel_rfl)) (by unfold Func.isWrapper; first | (rw [if_pos (by decide +kernel)]; kernel_rfl) | (rw [if_neg (by decide +kernel)]; exact ⟨rfl, rfl⟩))
    (fun os started H enc _ F => by rw [OpenClaim.pre_eq_preRow]; exact rulMayLaw_lifted os started H enc F)
theorem rulMayLaw_plain (f : FuncId) (fn : Func) (hf : Tryd.pinned.checked.prog.funcNamed "loop.example/chartulary/laws.FnExactRulMay" = some f) (hfn : Tryd.pinned.checked.prog.funcs[f]? = some fn) :
    false = Tryd.pinned.checked.prog.looks [] ∧ ∀ (j : Nat) t, fn.params[j]? = some t → Tryd.pinned.checked.prog.wantsStandIn t = false := by
  obtain rfl : f = 11 := Option.some.inj ((show Tryd.prog.funcNamed "loop.example/chartulary/laws.FnExactRulMay" = some 11 by kernel_rfl).symm.trans hf) |>.symm
  obtain rfl : fn = Tryd.f11 := (Option.some.inj (Tryd.func11.symm.trans hfn)).symm
  refine ⟨by kernel_rfl, fun j t ht => ?_⟩
  rw [Tryd.params11] at ht
  have hm := Array.mem_of_getElem? ht
  simp only [List.mem_toArray, List.mem_cons, List.not_mem_nil, or_false] at hm
  rcases hm with rfl | rfl | rfl | rfl | rfl
  · exact (show Tryd.prog.wantsStandIn 37 = false by kernel_rfl)
  · exact (show Tryd.prog.wantsStandIn 3 = false by kernel_rfl)
  · exact (show Tryd.prog.wantsStandIn 9 = false by kernel_rfl)
  · exact (show Tryd.prog.wantsStandIn 9 = false by kernel_rfl)
  · exact (show Tryd.prog.wantsStandIn 4 = false by kernel_rfl)

theorem rulMayLaw_holds : Rows.FnExactRulMayCardSaid :=
  Claim7.holds_tied_plain_at .later [] _ _ _ _ rulMayLaw_said (fun _ h => by cases h) (by kernel_rfl) (fun _ h => by cases h) fnExactRulMay_row_tie rfl ⟨rfl, rfl⟩ (by kernel_rfl) rfl rulMayLaw_plain (by kernel_rfl)
end Go.Proofs.YtmjneiiallgdcaaDoor
