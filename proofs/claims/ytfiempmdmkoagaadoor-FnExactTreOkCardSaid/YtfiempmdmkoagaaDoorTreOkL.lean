/- FnExactTreOk returns true for every list of files; the tables that its row lists are tied to the program. No condition. -/
import Derived.Test.YtfiempmdmkoagaaDoorTreI
import Derived.Test.YtfiempmdmkoagaaDoorTreLaw
import Derived.Test.YtfiempmdmkoagaaDoorFileOpen
import Derived.Test.YtfiempmdmkoagaaDoorLaidW
namespace Go.Proofs.YtfiempmdmkoagaaDoor
open Go.ChangeShapes Go.WideShapes Go.ChangeAt Go.RowKit
open Go.ChangeMaps (open_string)

set_option maxRecDepth 100000 in
set_option maxHeartbeats 2000000 in
theorem treOkLaw_calls (W : World) (hsh : W.ShapedOpen Tryd.prog) (v : Value) (zs : List TFile) (hv : Sl 2 fileC W v zs ∧ ∀ z ∈ zs, z.path.size ≤ maxLen ∧ z.bytes.size ≤ maxLen) :
    Calls Tryd.prog 9 #[v] W fun e w' => e = .returned (.bool true) ∧ Below W.heap.size W w' := by
  obtain ⟨hs, ht⟩ := hv
  have hm0 := maxOk_of hsh
  clear hsh
  by_cases hL : (1048576 : Int) < (zs.length + wsum fileT zs : Nat)
  · go_enter Tryd.func9, Tryd.ntmps9
    go_wp2_with fail
    refine (szTreFileS_calls v zs _ _ hs ht (by omega) (by omega)).mono ?_
    rintro e w1 ⟨rfl, hb1⟩
    rw [szR_no hL]
    go_wp2
    go_ret
    exact ⟨rfl, hb1⟩
  · have hn : zs.length ≤ 1048576 := by omega
    have hf := fine_files (zs := zs) (by omega)
    go_enter Tryd.func9, Tryd.ntmps9
    go_wp2_with fail
    refine (szTreFileS_calls v zs _ _ hs ht (by omega) (by omega)).mono ?_
    rintro e w1 ⟨rfl, b1⟩
    rw [szR_yes (by omega)]
    have B1 := below_up (Below.refl _ _) b1
    have a_1 := hs.below b1
    have hm_1 := hm0.below b1
    go_wp2_with fail
    refine (toTreFileS_calls v zs _ a_1 hn).mono ?_
    rintro e w2 ⟨c2, rfl, c2_o, b2⟩
    have B2 := below_up B1 b2
    have a_2 := a_1.below b2
    have hm_2 := hm_1.below b2
    go_wp2_with fail
    refine (tre_spec c2 zs _ (c2_o.sl fileC_len) hf).mono ?_
    rintro e w3 ⟨rfl, b3⟩
    have B3 := below_up B2 b3
    have a_3 := a_2.below b3
    have hm_3 := hm_2.below b3
    have c2_3 := c2_o.below b3
    go_wp2_with fail
    refine (toTreFileS_calls v zs _ a_3 hn).mono ?_
    rintro e w4 ⟨x4, rfl, x4_o, b4⟩
    have B4 := below_up B3 b4
    have a_4 := a_3.below b4
    have hm_4 := hm_3.below b4
    go_wp2_with fail
    refine (tre_impl x4 zs _ hm_4 (x4_o.sl fileC_len) hf).mono ?_
    rintro e w5 ⟨rfl, b5⟩
    have B5 := below_up B4 b5
    have a_5 := a_4.below b5
    have hm_5 := hm_4.below b5
    have x4_5 := x4_o.below b5
    go_wp2_with fail
    refine (toTreFileS_calls v zs _ a_5 hn).mono ?_
    rintro e w6 ⟨c7, rfl, c7_o, b6⟩
    have B6 := below_up B5 b6
    have a_6 := a_5.below b6
    have hm_6 := hm_5.below b6
    have x4_6 := x4_5.below b6
    go_wp2_with fail
    refine (eqTreFileS_calls x4 c7 zs _ (x4_6.sl fileC_len) (c7_o.sl fileC_len)).mono ?_
    rintro e w7 ⟨rfl, b7⟩
    have B7 := below_up B6 b7
    have a_7 := a_6.below b7
    have hm_7 := hm_6.below b7
    have x4_7 := x4_6.below b7
    have c7_7 := c7_o.below b7
    go_wp2
    go_ret
    exact ⟨rfl, B7⟩

set_option maxRecDepth 100000 in
theorem treOkLaw_lifted (os : Os) (started : os.Started) (H : Type) (enc : TypeId × Value → H) (F : Stop.Interp) :
    ReturnsInHanded {} Tryd.checked os 9 .any ((OpenSpec.ofChange Rows.fnExactTreOkSpec).preRow enc Tryd.prog Tryd.f9 Rows.fnExactTreOkRow.domain false Rows.fnExactTreOkRow.laid) (((OpenSpec.ofChange Rows.fnExactTreOkSpec).at F).post enc Tryd.prog Tryd.f9 false true false false) := by
  obtain ⟨places, hx⟩ := (show ∃ places, DataW.whole enc Tryd.prog ((laidWorld os).forCall (fun _ _ => 0) ⟨#[], #[.slice none 0 0], []⟩).memory Tryd.f9.params.toList Rows.fnExactTreOkSpec.vars false (#[.slice none 0 0] : Array Value).toList 8 = some ([.nil], [], places) from ⟨[], by kernel_rfl⟩)
  have hmet : laidMet Tryd.prog Rows.fnExactTreOkRow.laid ((laidWorld os).forCall (fun _ _ => 0) ⟨#[], #[.slice none 0 0], []⟩).memory := laidMet_of_run' 8 (by kernel_rfl) (by kernel_rfl)
  refine returnsInHanded_of_row (C := Tryd.checked) (s := OpenSpec.ofChange Rows.fnExactTreOkSpec) Tryd.own started (by kernel_rfl) Tryd.func9
    (witness_row_at (enc := enc) (C := Tryd.checked) false (laidWorld os) #[.slice none 0 0] rfl (by kernel_rfl) (by kernel_rfl) (by kernel_rfl)
      (OpenSpec.preRow_of_cond 8 hx (by kernel_rfl) (fun k hk => by cases hk) (by kernel_rfl) hmet)) ?_
  intro W base args ds gs before hval0 hW _ _ _ _ hsh _
  show Calls Tryd.prog 9 args W fun e W2 => ∃ v, e = .returned v ∧ Rows.fnExactTreOkSpec.post enc Tryd.prog Tryd.f9 false true false false W args v W2
  have hval : ∀ (j : Nat) t v, Tryd.f9.params[j]? = some t → args[j]? = some v → Value.okWide Tryd.prog W .any base t v := hval0
  have hW1 : DataW.Whole enc Tryd.prog Tryd.f9.params.toList Rows.fnExactTreOkSpec.vars false W args.toList ds gs before := hW
  have hW2 := hW1
  obtain ⟨p, q, hA0, hV, rfl, _, _⟩ := hW1
  have hA : DataW.TrodAll enc Tryd.prog W 0 (fun _ => true) true Tryd.f9.params.toList args.toList ds p := hA0
  rw [Tryd.params9] at hA hval
  obtain ⟨v0, d0, rfl, rfl, h0⟩ := trodAll_one hA
  obtain ⟨rfl, rfl⟩ := trodVars_none hV
  clear hA0 hval0 hW
  simp only [List.append_nil] at hW2
  have lt0 : ∀ x ∈ p, x.block < W.heap.size := fun x hx => hW2.lt x (by simp [hx])
  have k0 := fun W2 (hb : Below W.heap.size W W2) => Below.trod Tryd.laidOut (by kernel_rfl) (of_decide_eq_true (by kernel_rfl)) h0 hb lt0
  obtain ⟨x0, wf0⟩ := open_file (hval 0 46 v0 rfl rfl) h0 lt0
  refine (treOkLaw_calls W hsh v0 x0 wf0).mono fun e W2 ⟨he, hb⟩ => ?_
  subst he
  exact ⟨_, rfl, _, _, _, [], _, [], hW2, trodAll_mk1 (shut_bool Tryd.underlying4 true), trodAll_mk1 (k0 W2 hb), rfl, hb.frame _, fun h => by cases h⟩

theorem treOkLaw_said : Rows.FnExactTreOkSaid :=
  OpenClaim.holds_of_cond 9 Tryd.f9 rfl rfl rfl rfl rfl rfl rfl ⟨rfl, rfl, rfl, rfl, rfl⟩ rfl rfl rfl rfl rfl (by kernel_rfl) Tryd.func9 (by kernel_rfl)
    (of_decide_eq_true (by kernel_rfl)) (by unfold Func.isWrapper; first | (rw [if_pos (by decide +kernel)]; kernel_rfl) | (rw [if_neg (by decide +kernel)]; exact ⟨rfl, rfl⟩))
    (fun os started H enc _ F => by rw [OpenClaim.pre_eq_preRow]; exact treOkLaw_lifted os started H enc F)
theorem treOkLaw_plain (f : FuncId) (fn : Func) (hf : Tryd.pinned.checked.prog.funcNamed "loop.example/chartulary/laws.FnExactTreOk" = some f) (hfn : Tryd.pinned.checked.prog.funcs[f]? = some fn) :
    false = Tryd.pinned.checked.prog.looks [] ∧ ∀ (j : Nat) t, fn.params[j]? = some t → Tryd.pinned.checked.prog.wantsStandIn t = false := by
  obtain rfl : f = 9 := Option.some.inj ((show Tryd.prog.funcNamed "loop.example/chartulary/laws.FnExactTreOk" = some 9 by kernel_rfl).symm.trans hf) |>.symm
  obtain rfl : fn = Tryd.f9 := (Option.some.inj (Tryd.func9.symm.trans hfn)).symm
  refine ⟨by kernel_rfl, fun j t ht => ?_⟩
  rw [Tryd.params9] at ht
  have hm := Array.mem_of_getElem? ht
  simp only [List.mem_toArray, List.mem_cons, List.not_mem_nil, or_false] at hm
  subst hm
  exact (show Tryd.prog.wantsStandIn 46 = false by kernel_rfl)

theorem treOkLaw_holds : Rows.FnExactTreOkCardSaid :=
  Claim7.holds_tied_plain_at .later [] _ _ _ _ treOkLaw_said (fun _ h => by cases h) (by kernel_rfl) (fun _ h => by cases h) fnExactTreOk_row_tie rfl ⟨rfl, rfl⟩ (by kernel_rfl) rfl treOkLaw_plain (by kernel_rfl)
end Go.Proofs.YtfiempmdmkoagaaDoor
