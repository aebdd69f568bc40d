/- FnExactPthParts returns true for every string; the tables that its row lists are tied to the program. No condition. -/
import Derived.Test.YtmjneiiallgdcaaDoorPthJ
import Derived.Test.YtmjneiiallgdcaaDoorLaidW
namespace Go.Proofs.YtmjneiiallgdcaaDoor
open Go.ChangeShapes Go.WideShapes Go.ChangeAt Go.RowKit
open Go.ChangeMaps (open_string)

set_option maxRecDepth 100000 in
set_option maxHeartbeats 2000000 in
theorem pthPartsLaw_calls (W : World) (hsh : W.ShapedOpen Tryd.prog) (s : ByteArray) (_hs : s.size ≤ maxLen) : Calls Tryd.prog 8 #[.string s] W fun e w' => e = .returned (.bool true) ∧ Below W.heap.size W w' := by
  have hm0 := maxOk_of hsh
  clear hsh
  by_cases h1 : (1048576 : Int) < s.size
  · unfold maxLen at _hs
    go_enter Tryd.func8, Tryd.ntmps8
    go_wp2
    go_ret
    exact ⟨rfl, Below.refl _ _⟩
  · go_enter Tryd.func8, Tryd.ntmps8
    have hpl := parts_len s
    go_wp2_with fail
    refine (parts_spec s (by omega) _).mono ?_
    rintro e w1 ⟨r1, rfl, r1_o, b1⟩
    have B1 := below_up (Below.refl _ _) b1
    have hm_1 := hm0.below b1
    go_wp2_with fail
    refine (parts_impl s (by omega) _ hm_1).mono ?_
    rintro e w2 ⟨g2, rfl, g2_o, b2⟩
    have B2 := below_up B1 b2
    have hm_2 := hm_1.below b2
    have r1_2 := r1_o.below b2
    go_wp2_with fail
    refine (eqStringS_calls g2 r1 _ _ (g2_o.sl strC_len) (r1_2.sl strC_len)).mono ?_
    rintro e w3 ⟨rfl, b3⟩
    have B3 := below_up B2 b3
    have hm_3 := hm_2.below b3
    have r1_3 := r1_2.below b3
    have g2_3 := g2_o.below b3
    go_wp2_with fail
    refine (markStringS_calls g2 _ 1 _ _ g2_3 (by omega) (by omega)).mono ?_
    rintro e w4 ⟨rfl, g2_m, g4⟩
    have B4 := below_mark B3 g2_3 b1.size g4
    have hm_4 := hm_3.mark hm0 g2_3 b1.size g4
    have r1_4 := sl_older (r1_3.sl strC_len) (r1_o.sl strC_len) g2_3 (Nat.le_refl _) g4
    go_wp2_with fail
    refine (heldStringS_calls g2 1 _ _ (g2_m.sl strC_len) (by omega) (by omega)).mono ?_
    rintro e w5 ⟨rfl, b5⟩
    have B5 := below_up B4 b5
    have hm_5 := hm_4.below b5
    have r1_5 := r1_4.below b5
    have g2_5 := g2_m.below b5
    go_wp2_with fail
    refine (parts_impl s (by omega) _ hm_5).mono ?_
    rintro e w6 ⟨h4, rfl, h4_o, b6⟩
    have B6 := below_up B5 b6
    have hm_6 := hm_5.below b6
    have r1_6 := r1_5.below b6
    have g2_6 := g2_5.below b6
    go_wp2_with fail
    refine (eqStringS_calls h4 r1 _ _ (h4_o.sl strC_len) r1_6).mono ?_
    rintro e w7 ⟨rfl, b7⟩
    have B7 := below_up B6 b7
    have hm_7 := hm_6.below b7
    have r1_7 := r1_6.below b7
    have g2_7 := g2_6.below b7
    have h4_7 := h4_o.below b7
    go_wp2_with fail
    refine (heldStringS_calls g2 1 _ _ (g2_7.sl strC_len) (by omega) (by omega)).mono ?_
    rintro e w8 ⟨rfl, b8⟩
    have B8 := below_up B7 b8
    have hm_8 := hm_7.below b8
    have r1_8 := r1_7.below b8
    have g2_8 := g2_7.below b8
    go_wp2
    go_ret
    exact ⟨rfl, B8⟩

set_option maxRecDepth 100000 in
theorem pthPartsLaw_lifted (os : Os) (started : os.Started) (H : Type) (enc : TypeId × Value → H) (F : Stop.Interp) :
    ReturnsInHanded {} Tryd.checked os 8 .any ((OpenSpec.ofChange Rows.fnExactPthPartsSpec).preRow enc Tryd.prog Tryd.f8 Rows.fnExactPthPartsRow.domain false Rows.fnExactPthPartsRow.laid) (((OpenSpec.ofChange Rows.fnExactPthPartsSpec).at F).post enc Tryd.prog Tryd.f8 false true false false) := by
  obtain ⟨places, hx⟩ := (show ∃ places, DataW.whole enc Tryd.prog ((laidWorld os).forCall (fun _ _ => 0) ⟨#[], #[.string ByteArray.empty], []⟩).memory Tryd.f8.params.toList Rows.fnExactPthPartsSpec.vars false (#[.string ByteArray.empty] : Array Value).toList 8 = some ([.lit (.string [])], [], places) from ⟨[], by kernel_rfl⟩)
  have hmet : laidMet Tryd.prog Rows.fnExactPthPartsRow.laid ((laidWorld os).forCall (fun _ _ => 0) ⟨#[], #[.string ByteArray.empty], []⟩).memory := laidMet_of_run' 8 (by kernel_rfl) (by kernel_rfl)
  refine returnsInHanded_of_row (C := Tryd.checked) (s := OpenSpec.ofChange Rows.fnExactPthPartsSpec) Tryd.own started (by kernel_rfl) Tryd.func8
    (witness_row_at (enc := enc) (C := Tryd.checked) false (laidWorld os) #[.string ByteArray.empty] rfl (by kernel_rfl) (by kernel_rfl) (by kernel_rfl)
      (OpenSpec.preRow_of_cond 8 hx (by kernel_rfl) (fun k hk => by cases hk) (by kernel_rfl) hmet)) ?_
  intro W base args ds gs before hval0 hW _ _ _ _ hsh _
  show Calls Tryd.prog 8 args W fun e W2 => ∃ v, e = .returned v ∧ Rows.fnExactPthPartsSpec.post enc Tryd.prog Tryd.f8 false true false false W args v W2
  have hval : ∀ (j : Nat) t v, Tryd.f8.params[j]? = some t → args[j]? = some v → Value.okWide Tryd.prog W .any base t v := hval0
  have hW1 : DataW.Whole enc Tryd.prog Tryd.f8.params.toList Rows.fnExactPthPartsSpec.vars false W args.toList ds gs before := hW
  have hW2 := hW1
  obtain ⟨p, q, hA0, hV, rfl, _, _⟩ := hW1
  have hA : DataW.TrodAll enc Tryd.prog W 0 (fun _ => true) true Tryd.f8.params.toList args.toList ds p := hA0
  rw [Tryd.params8] at hA hval
  obtain ⟨v0, d0, rfl, rfl, h0⟩ := trodAll_one hA
  obtain ⟨rfl, rfl⟩ := trodVars_none hV
  clear hA0 hval0 hW
  simp only [List.append_nil] at hW2
  have lt0 : ∀ x ∈ p, x.block < W.heap.size := fun x hx => hW2.lt x (by simp [hx])
  have k0 := fun W2 (hb : Below W.heap.size W W2) => Below.trod Tryd.laidOut (by kernel_rfl) (of_decide_eq_true (by kernel_rfl)) h0 hb lt0
  obtain ⟨x0, rfl, -, -, wf0⟩ := open_string Tryd.underlying9 (hval 0 9 v0 rfl rfl) h0
  refine (pthPartsLaw_calls W hsh x0 wf0).mono fun e W2 ⟨he, hb⟩ => ?_
  subst he
  exact ⟨_, rfl, _, _, _, [], _, [], hW2, trodAll_mk1 (shut_bool Tryd.underlying4 true), trodAll_mk1 (k0 W2 hb), rfl, hb.frame _, fun h => by cases h⟩

theorem pthPartsLaw_said : Rows.FnExactPthPartsSaid :=
  OpenClaim.holds_of_cond 8 Tryd.f8 rfl rfl rfl rfl rfl rfl rfl ⟨rfl, rfl, rfl, rfl, rfl⟩ rfl rfl rfl rfl rfl (by kernel_rfl) Tryd.func8 (by kernel_rfl)
    (of_decide_eq_true (by kernel_rfl)) (by unfold Func.isWrapper; first | (rw [if_pos (by decide +kernel)]; kernel_rfl) | (rw [if_neg (by decide +kernel)]; exact ⟨rfl, rfl⟩))
    (fun os started H enc _ F => by rw [OpenClaim.pre_eq_preRow]; exact pthPartsLaw_lifted os started H enc F)
theorem pthPartsLaw_plain (f : FuncId) (fn : Func) (hf : Tryd.pinned.checked.prog.funcNamed "loop.example/chartulary/laws.FnExactPthParts" = some f) (hfn : Tryd.pinned.checked.prog.funcs[f]? = some fn) :
    false = Tryd.pinned.checked.prog.looks [] ∧ ∀ (j : Nat) t, fn.params[j]? = some t → Tryd.pinned.checked.prog.wantsStandIn t = false := by
  obtain rfl : f = 8 := Option.some.inj ((show Tryd.prog.funcNamed "loop.example/chartulary/laws.FnExactPthParts" = some 8 by kernel_rfl).symm.trans hf) |>.symm
  obtain rfl : fn = Tryd.f8 := (Option.some.inj (Tryd.func8.symm.trans hfn)).symm
  refine ⟨by kernel_rfl, fun j t ht => ?_⟩
  rw [Tryd.params8] at ht
  have hm := Array.mem_of_getElem? ht
  simp only [List.mem_toArray, List.mem_cons, List.not_mem_nil, or_false] at hm
  subst hm
  exact (show Tryd.prog.wantsStandIn 9 = false by kernel_rfl)

theorem pthPartsLaw_holds : Rows.FnExactPthPartsCardSaid :=
  Claim7.holds_tied_plain_at .later [] _ _ _ _ pthPartsLaw_said (fun _ h => by cases h) (by kernel_rfl) (fun _ h => by cases h) fnExactPthParts_row_tie rfl ⟨rfl, rfl⟩ (by kernel_rfl) rfl pthPartsLaw_plain (by kernel_rfl)
end Go.Proofs.YtmjneiiallgdcaaDoor
