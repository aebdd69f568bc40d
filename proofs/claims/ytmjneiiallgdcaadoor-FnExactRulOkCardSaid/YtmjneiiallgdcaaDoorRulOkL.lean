/- FnExactRulOk returns true for every rule; the tables that its row lists are tied to the program. No condition. -/
import Derived.Test.YtmjneiiallgdcaaDoorRulS
import Derived.Test.YtmjneiiallgdcaaDoorRuleVOpen
import Derived.Test.YtmjneiiallgdcaaDoorLaidW
namespace Go.Proofs.YtmjneiiallgdcaaDoor
open Go.ChangeShapes Go.WideShapes Go.ChangeAt Go.RowKit
open Go.ChangeMaps (open_string)

set_option maxRecDepth 100000 in
set_option maxHeartbeats 2000000 in
theorem rulOkLaw_calls (W : World) (hsh : W.ShapedOpen Tryd.prog) (y : Value) (r : TRule) (hr : y = ruleV r ∧ r.ref.size ≤ maxLen ∧ r.path.size ≤ maxLen) :
    Calls Tryd.prog 9 #[y] W fun e w' => e = .returned (.bool true) ∧ Below W.heap.size W w' := by
  obtain ⟨rfl, hr1, hr2⟩ := hr
  unfold ruleV
  have hm0 := maxOk_of hsh
  clear hsh
  have Bx := al (below0 W) (.cells #[.int .i64 r.user, .string r.ref, .string r.path, .bool r.write] 31)
  have kx := rbox_new W r 31
  have hm1 := Lib.hid (hm0.below Bx)
  obtain ⟨-, q0, q1, q2, q3⟩ := id kx
  by_cases hL : (1048576 : Int) < (r.ref.size + r.path.size : Nat)
  · go_enter Tryd.func9, Tryd.ntmps9
    go_wp2_with fail
    refine (szRulRule_calls _ _ _ _ _ _ hr1 hr2 (by omega) (by omega)).mono ?_
    rintro e w1 ⟨rfl, b1⟩
    rw [szR_no hL]
    go_wp2
    go_ret
    exact ⟨rfl, below_up Bx b1⟩
  · go_enter Tryd.func9, Tryd.ntmps9
    go_wp2_with fail
    refine (szRulRule_calls _ _ _ _ _ _ hr1 hr2 (by omega) (by omega)).mono ?_
    rintro e w1 ⟨rfl, b1⟩
    rw [szR_yes (by omega)]
    have k1 := Lib.hid (kx.below b1)
    have m1 := Lib.hid (hm1.out.below b1)
    clear q0 q1 q2 q3
    obtain ⟨-, q0, q1, q2, q3⟩ := k1.out
    go_wp2_with fail
    refine (toRulRule_calls _ _ _ _ _).mono ?_
    rintro e w2 ⟨rfl, b2⟩
    have k2 := Lib.hid (k1.out.below b2)
    have m2 := Lib.hid (m1.out.below b2)
    clear q0 q1 q2 q3
    go_wp2_with fail
    refine (rok_spec r hr1 (by omega) _).mono ?_
    rintro e w3 ⟨rfl, b3⟩
    have k3 := Lib.hid (k2.out.below b3)
    have m3 := Lib.hid (m2.out.below b3)
    obtain ⟨-, q0, q1, q2, q3⟩ := k3.out
    go_wp2_with fail
    refine (toRulRule_calls _ _ _ _ _).mono ?_
    rintro e w4 ⟨rfl, b4⟩
    have m4 := Lib.hid (m3.out.below b4)
    clear q0 q1 q2 q3
    go_wp2_with fail
    refine (rok_impl r hr1 (by omega) _ m4.out).mono ?_
    rintro e w5 ⟨rfl, b5⟩
    go_wp2
    go_ret
    exact ⟨rfl, below_up Bx (below_up b1 (below_up b2 (below_up b3 (below_up b4 b5))))⟩

set_option maxRecDepth 100000 in
theorem rulOkLaw_lifted (os : Os) (started : os.Started) (H : Type) (enc : TypeId × Value → H) (F : Stop.Interp) :
    ReturnsInHanded {} Tryd.checked os 9 .any ((OpenSpec.ofChange Rows.fnExactRulOkSpec).preRow enc Tryd.prog Tryd.f9 Rows.fnExactRulOkRow.domain false Rows.fnExactRulOkRow.laid) (((OpenSpec.ofChange Rows.fnExactRulOkSpec).at F).post enc Tryd.prog Tryd.f9 false true false false) := by
  obtain ⟨places, hx⟩ := (show ∃ places, DataW.whole enc Tryd.prog ((laidWorld os).forCall (fun _ _ => 0) ⟨#[], #[.agg #[.int .i64 0, .string ByteArray.empty, .string ByteArray.empty, .bool false]], []⟩).memory Tryd.f9.params.toList Rows.fnExactRulOkSpec.vars false (#[.agg #[.int .i64 0, .string ByteArray.empty, .string ByteArray.empty, .bool false]] : Array Value).toList 8 = some ([.agg [.lit (.int .i64 0), .lit (.string []), .lit (.string []), .lit (.bool false)]], [], places) from ⟨[], by kernel_rfl⟩)
  have hmet : laidMet Tryd.prog Rows.fnExactRulOkRow.laid ((laidWorld os).forCall (fun _ _ => 0) ⟨#[], #[.agg #[.int .i64 0, .string ByteArray.empty, .string ByteArray.empty, .bool false]], []⟩).memory := laidMet_of_run' 8 (by kernel_rfl) (by kernel_rfl)
  refine returnsInHanded_of_row (C := Tryd.checked) (s := OpenSpec.ofChange Rows.fnExactRulOkSpec) Tryd.own started (by kernel_rfl) Tryd.func9
    (witness_row_at (enc := enc) (C := Tryd.checked) false (laidWorld os) #[.agg #[.int .i64 0, .string ByteArray.empty, .string ByteArray.empty, .bool false]] rfl (by kernel_rfl) (by kernel_rfl) (by kernel_rfl)
      (OpenSpec.preRow_of_cond 8 hx (by kernel_rfl) (fun k hk => by cases hk) (by kernel_rfl) hmet)) ?_
  intro W base args ds gs before hval0 hW _ _ _ _ hsh _
  show Calls Tryd.prog 9 args W fun e W2 => ∃ v, e = .returned v ∧ Rows.fnExactRulOkSpec.post enc Tryd.prog Tryd.f9 false true false false W args v W2
  have hval : ∀ (j : Nat) t v, Tryd.f9.params[j]? = some t → args[j]? = some v → Value.okWide Tryd.prog W .any base t v := hval0
  have hW1 : DataW.Whole enc Tryd.prog Tryd.f9.params.toList Rows.fnExactRulOkSpec.vars false W args.toList ds gs before := hW
  have hW2 := hW1
  obtain ⟨p, q, hA0, hV, rfl, _, _⟩ := hW1
  have hA : DataW.TrodAll enc Tryd.prog W 0 (fun _ => true) true Tryd.f9.params.toList args.toList ds p := hA0
  rw [Tryd.params9] at hA hval
  obtain ⟨v0, d0, rfl, rfl, h0⟩ := trodAll_one hA
  obtain ⟨rfl, rfl⟩ := trodVars_none hV
  clear hA0 hval0 hW
  simp only [List.append_nil] at hW2
  have lt0 : ∀ x ∈ p, x.block < W.heap.size := fun x hx => hW2.lt x (by simp [hx])
  have k0 := fun W2 (hb : Below W.heap.size W W2) => Below.trod Tryd.laidOut (by kernel_rfl) (of_decide_eq_true (by kernel_rfl)) h0 hb lt0
  obtain ⟨x0, wf0⟩ := open_ruleV (hval 0 31 v0 rfl rfl) h0 lt0
  refine (rulOkLaw_calls W hsh v0 x0 wf0).mono fun e W2 ⟨he, hb⟩ => ?_
  subst he
  exact ⟨_, rfl, _, _, _, [], _, [], hW2, trodAll_mk1 (shut_bool Tryd.underlying4 true), trodAll_mk1 (k0 W2 hb), rfl, hb.frame _, fun h => by cases h⟩

theorem rulOkLaw_said : Rows.FnExactRulOkSaid :=
  OpenClaim.holds_of_cond 9 Tryd.f9 rfl rfl rfl rfl rfl rfl rfl ⟨rfl, rfl, rfl, rfl, rfl⟩ rfl rfl rfl rfl rfl (by kernel_rfl) Tryd.func9 (by kernel_rfl)
    (of_decide_eq_true (by kernel_rfl)) (by unfold Func.isWrapper; first | (rw [if_pos (by decide +kernel)]; kernel_rfl) | (rw [if_neg (by decide +kernel)]; exact ⟨rfl, rfl⟩))
    (fun os started H enc _ F => by rw [OpenClaim.pre_eq_preRow]; exact rulOkLaw_lifted os started H enc F)
theorem rulOkLaw_plain (f : FuncId) (fn : Func) (hf : Tryd.pinned.checked.prog.funcNamed "loop.example/chartulary/laws.FnExactRulOk" = some f) (hfn : Tryd.pinned.checked.prog.funcs[f]? = some fn) :
    false = Tryd.pinned.checked.prog.looks [] ∧ ∀ (j : Nat) t, fn.params[j]? = some t → Tryd.pinned.checked.prog.wantsStandIn t = false := by
  obtain rfl : f = 9 := Option.some.inj ((show Tryd.prog.funcNamed "loop.example/chartulary/laws.FnExactRulOk" = some 9 by kernel_rfl).symm.trans hf) |>.symm
  obtain rfl : fn = Tryd.f9 := (Option.some.inj (Tryd.func9.symm.trans hfn)).symm
  refine ⟨by kernel_rfl, fun j t ht => ?_⟩
  rw [Tryd.params9] at ht
  have hm := Array.mem_of_getElem? ht
  simp only [List.mem_toArray, List.mem_cons, List.not_mem_nil, or_false] at hm
  subst hm
  exact (show Tryd.prog.wantsStandIn 31 = false by kernel_rfl)

theorem rulOkLaw_holds : Rows.FnExactRulOkCardSaid :=
  Claim7.holds_tied_plain_at .later [] _ _ _ _ rulOkLaw_said (fun _ h => by cases h) (by kernel_rfl) (fun _ h => by cases h) fnExactRulOk_row_tie rfl ⟨rfl, rfl⟩ (by kernel_rfl) rfl rulOkLaw_plain (by kernel_rfl)
end Go.Proofs.YtmjneiiallgdcaaDoor
