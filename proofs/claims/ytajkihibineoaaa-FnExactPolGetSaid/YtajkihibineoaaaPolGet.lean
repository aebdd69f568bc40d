/- FnExactPolGet returns true for every pool and id. No condition. -/
import Derived.Test.YtajkihibineoaaaPolGetF
import Derived.Test.YtajkihibineoaaaPol2
import Derived.Test.YtajkihibineoaaaPolOpen
namespace Go.Proofs.Ytajkihibineoaaa
open Go.ChangeShapes Go.WideShapes Go.ChangeAt Go.RowKit
open Go.ChangeMaps (open_string)

set_option maxRecDepth 100000 in
set_option maxHeartbeats 2000000 in
theorem polGetLaw_calls (W : World) (v : Value) (zs : List (Int × ByteArray)) (hv : Sl 2 polC W v zs ∧ ∀ z ∈ zs, (Lit.int .i64 z.1).wf = true ∧ z.2.size ≤ maxLen) (x1 : Int) (_ : (Lit.int .i64 x1).wf = true) :
    Calls Try.prog 11 #[v, .int .i64 x1] W fun e w' => e = .returned (.bool true) ∧ Below W.heap.size W w' := by
  obtain ⟨hs, ht⟩ := hv
  by_cases hL : (1048576 : Int) < (zs.length + wsum polT zs : Nat)
  · go_enter Try.func11, Try.ntmps11
    go_wp2_with fail
    refine (szPolItemS_calls v zs _ _ hs (fun z hz => (ht z hz).2) (by omega) (by omega)).mono ?_
    rintro e w1 ⟨rfl, hb1⟩
    rw [szR_no hL]
    go_wp2
    go_ret
    exact ⟨rfl, hb1⟩
  · have hn : zs.length ≤ 1048576 := by omega
    go_enter Try.func11, Try.ntmps11
    go_wp2_with fail
    refine (szPolItemS_calls v zs _ _ hs (fun z hz => (ht z hz).2) (by omega) (by omega)).mono ?_
    rintro e w1 ⟨rfl, b1⟩
    rw [szR_yes (by omega)]
    have B1 := below_up (Below.refl _ _) b1
    have a_1 := hs.below b1
    go_wp2_with fail
    refine (toPolItemS_calls v zs _ a_1 hn).mono ?_
    rintro e w2 ⟨c2, rfl, c2_o, b2⟩
    have B2 := below_up B1 b2
    have a_2 := a_1.below b2
    go_wp2_with fail
    refine (polGet_spec_calls c2 zs x1 _ (c2_o.sl polC_len) hn).mono ?_
    rintro e wq ⟨rfl, rfl⟩
    go_wp2_with fail
    refine (toPolItemS_calls v zs _ a_2 hn).mono ?_
    rintro e w3 ⟨x4, rfl, x4_o, b3⟩
    have B3 := below_up B2 b3
    have a_3 := a_2.below b3
    go_wp2_with fail
    refine (polGet_impl_calls x4 zs x1 _ (x4_o.sl polC_len) hn).mono ?_
    rintro e wq ⟨rfl, rfl⟩
    go_wp2_with fail
    refine (toPolItemS_calls v zs _ a_3 hn).mono ?_
    rintro e w4 ⟨c7, rfl, c7_o, b4⟩
    have B4 := below_up B3 b4
    have a_4 := a_3.below b4
    have x4_4 := x4_o.below b4
    go_wp2_with fail
    refine (eqPolItemS_calls x4 c7 zs _ (x4_4.sl polC_len) (c7_o.sl polC_len)).mono ?_
    rintro e w5 ⟨rfl, b5⟩
    have B5 := below_up B4 b5
    have a_5 := a_4.below b5
    have x4_5 := x4_4.below b5
    have c7_5 := c7_o.below b5
    go_wp2
    go_ret
    exact ⟨rfl, B5⟩

set_option maxRecDepth 100000 in
theorem polGetLaw_lifted (os : Os) (started : os.Started) (H : Type) (enc : TypeId × Value → H) :
    ReturnsInHanded {} Try.checked os 11 .any (Rows.fnExactPolGetSpec.pre6 enc Try.prog Try.f11 Rows.fnExactPolGetRow.domain false) (Rows.fnExactPolGetSpec.post enc Try.prog Try.f11 false true false false) := by
  refine returnsInHanded_of_change (C := Try.checked) Try.own started (by kernel_rfl) Try.func11
    (ChangeSpec.witness6 (enc := enc) (C := Try.checked) false ⟨#[], #[.slice none 0 0, .int .i64 0], []⟩ 8 (by kernel_rfl) (by kernel_rfl) (by kernel_rfl) (by kernel_rfl)) ?_
  intro W base args ds gs before hval0 hW _ _
  have hval : ∀ (j : Nat) t v, Try.f11.params[j]? = some t → args[j]? = some v → Value.okWide Try.prog W .any base t v := hval0
  have hW2 := hW
  obtain ⟨p, q, hA0, hV, rfl, _, _⟩ := hW
  have hA : DataW.TrodAll enc Try.prog W 0 (fun _ => true) true Try.f11.params.toList args.toList ds p := hA0
  rw [Try.params11] at hA hval
  obtain ⟨v0, v1, d0, d1, p0, p1, rfl, rfl, rfl, h0, h1⟩ := trodAll_two hA
  obtain ⟨rfl, rfl⟩ := trodVars_none hV
  clear hA0 hval0
  simp only [List.append_nil] at hW2
  have lt0 : ∀ x ∈ p0, x.block < W.heap.size := fun x hx => hW2.lt x (by simp [hx])
  have lt1 : ∀ x ∈ p1, x.block < W.heap.size := fun x hx => hW2.lt x (by simp [hx])
  have k0 := fun W2 (hb : Below W.heap.size W W2) => Below.trod Try.laidOut (by kernel_rfl) (of_decide_eq_true (by kernel_rfl)) h0 hb lt0
  have k1 := fun W2 (hb : Below W.heap.size W W2) => Below.trod Try.laidOut (by kernel_rfl) (of_decide_eq_true (by kernel_rfl)) h1 hb lt1
  obtain ⟨x0, wf0⟩ := open_pol (hval 0 33 v0 rfl rfl) h0 lt0
  obtain ⟨x1, rfl, -, -, wf1⟩ := open_int Try.underlying3 (hval 1 3 v1 rfl rfl) h1
  refine (polGetLaw_calls W v0 x0 wf0 x1 wf1).mono fun e W2 ⟨he, hb⟩ => ?_
  subst he
  exact ⟨_, rfl, _, _, _, [], _, [], hW2, trodAll_mk1 (shut_bool Try.underlying4 true), trodAll_mk2 (k0 W2 hb) (k1 W2 hb), rfl, hb.frame _, fun h => by cases h⟩

theorem polGetLaw_holds : Rows.FnExactPolGetSaid :=
  OpenClaim.holds_of_wide 11 Try.f11 rfl rfl rfl rfl rfl rfl rfl ⟨rfl, rfl, rfl, rfl, rfl⟩ rfl rfl rfl rfl rfl (by kernel_rfl) Try.func11 (by kernel_rfl)
    (of_decide_eq_true (by kernel_rfl)) (by unfold Func.isWrapper; rw [if_neg (of_decide_eq_false (by kernel_rfl))]; exact ⟨rfl, rfl⟩)
    (fun os started H enc _ => polGetLaw_lifted os started H enc)
end Go.Proofs.Ytajkihibineoaaa
