/- FnExactTreFind returns true for every list of files and path. No condition. -/
import Derived.Test.YtajkihibineoaaaFindF
import Derived.Test.YtajkihibineoaaaFileOpen
namespace Go.Proofs.Ytajkihibineoaaa
open Go.ChangeShapes Go.WideShapes Go.ChangeAt Go.RowKit
open Go.ChangeMaps (open_string)

set_option maxRecDepth 100000 in
set_option maxHeartbeats 2000000 in
theorem treFindLaw_calls (W : World) (v : Value) (zs : List TFile) (hv : Sl 2 fileC W v zs ∧ ∀ z ∈ zs, z.path.size ≤ maxLen ∧ z.bytes.size ≤ maxLen) (x1 : ByteArray) (hx1 : x1.size ≤ maxLen) :
    Calls Try.prog 10 #[v, .string x1] W fun e w' => e = .returned (.bool true) ∧ Below W.heap.size W w' := by
  obtain ⟨hs, ht⟩ := hv
  have hx12 := hx1
  unfold maxLen at hx12
  by_cases gx1 : (1048576 : Int) < x1.size
  · go_enter Try.func10, Try.ntmps10
    go_wp2
    go_ret
    exact ⟨rfl, Below.refl _ _⟩
  by_cases hL : (1048576 : Int) < (zs.length + wsum fileT zs : Nat)
  · go_enter Try.func10, Try.ntmps10
    go_wp2_with fail
    refine (szTreFileS_calls v zs _ _ hs ht (by omega) (by omega)).mono ?_
    rintro e w1 ⟨rfl, hb1⟩
    rw [szR_no hL]
    go_wp2
    go_ret
    exact ⟨rfl, hb1⟩
  · have hn : zs.length ≤ 1048576 := by omega
    go_enter Try.func10, Try.ntmps10
    go_wp2_with fail
    refine (szTreFileS_calls v zs _ _ hs ht (by omega) (by omega)).mono ?_
    rintro e w1 ⟨rfl, b1⟩
    rw [szR_yes (by omega)]
    have B1 := below_up (Below.refl _ _) b1
    have a_1 := hs.below b1
    go_wp2_with fail
    refine (toTreFileS_calls v zs _ a_1 hn).mono ?_
    rintro e w2 ⟨c2, rfl, c2_o, b2⟩
    have B2 := below_up B1 b2
    have a_2 := a_1.below b2
    go_wp2_with fail
    refine (treFind_spec_calls c2 zs x1 _ (c2_o.sl fileC_len) hn).mono ?_
    rintro e w3 ⟨rfl, b3⟩
    have B3 := below_up B2 b3
    have a_3 := a_2.below b3
    have c2_3 := c2_o.below b3
    go_wp2_with fail
    refine (toTreFileS_calls v zs _ a_3 hn).mono ?_
    rintro e w4 ⟨x4, rfl, x4_o, b4⟩
    have B4 := below_up B3 b4
    have a_4 := a_3.below b4
    go_wp2_with fail
    refine (treFind_impl_calls x4 zs x1 _ (x4_o.sl fileC_len) hn).mono ?_
    rintro e w5 ⟨rfl, b5⟩
    have B5 := below_up B4 b5
    have a_5 := a_4.below b5
    have x4_5 := x4_o.below b5
    go_wp2_with fail
    refine (toTreFileS_calls v zs _ a_5 hn).mono ?_
    rintro e w6 ⟨c7, rfl, c7_o, b6⟩
    have B6 := below_up B5 b6
    have a_6 := a_5.below b6
    have x4_6 := x4_5.below b6
    go_wp2_with fail
    refine (eqTreFileS_calls x4 c7 zs _ (x4_6.sl fileC_len) (c7_o.sl fileC_len)).mono ?_
    rintro e w7 ⟨rfl, b7⟩
    have B7 := below_up B6 b7
    have a_7 := a_6.below b7
    have x4_7 := x4_6.below b7
    have c7_7 := c7_o.below b7
    go_wp2
    go_ret
    exact ⟨rfl, B7⟩

set_option maxRecDepth 100000 in
theorem treFindLaw_lifted (os : Os) (started : os.Started) (H : Type) (enc : TypeId × Value → H) :
    ReturnsInHanded {} Try.checked os 10 .any (Rows.fnExactTreFindSpec.pre6 enc Try.prog Try.f10 Rows.fnExactTreFindRow.domain false) (Rows.fnExactTreFindSpec.post enc Try.prog Try.f10 false true false false) := by
  refine returnsInHanded_of_change (C := Try.checked) Try.own started (by kernel_rfl) Try.func10
    (ChangeSpec.witness6 (enc := enc) (C := Try.checked) false ⟨#[], #[.slice none 0 0, .string ByteArray.empty], []⟩ 8 (by kernel_rfl) (by kernel_rfl) (by kernel_rfl) (by kernel_rfl)) ?_
  intro W base args ds gs before hval0 hW _ _
  have hval : ∀ (j : Nat) t v, Try.f10.params[j]? = some t → args[j]? = some v → Value.okWide Try.prog W .any base t v := hval0
  have hW2 := hW
  obtain ⟨p, q, hA0, hV, rfl, _, _⟩ := hW
  have hA : DataW.TrodAll enc Try.prog W 0 (fun _ => true) true Try.f10.params.toList args.toList ds p := hA0
  rw [Try.params10] at hA hval
  obtain ⟨v0, v1, d0, d1, p0, p1, rfl, rfl, rfl, h0, h1⟩ := trodAll_two hA
  obtain ⟨rfl, rfl⟩ := trodVars_none hV
  clear hA0 hval0
  simp only [List.append_nil] at hW2
  have lt0 : ∀ x ∈ p0, x.block < W.heap.size := fun x hx => hW2.lt x (by simp [hx])
  have lt1 : ∀ x ∈ p1, x.block < W.heap.size := fun x hx => hW2.lt x (by simp [hx])
  have k0 := fun W2 (hb : Below W.heap.size W W2) => Below.trod Try.laidOut (by kernel_rfl) (of_decide_eq_true (by kernel_rfl)) h0 hb lt0
  have k1 := fun W2 (hb : Below W.heap.size W W2) => Below.trod Try.laidOut (by kernel_rfl) (of_decide_eq_true (by kernel_rfl)) h1 hb lt1
  obtain ⟨x0, wf0⟩ := open_file (hval 0 45 v0 rfl rfl) h0 lt0
  obtain ⟨x1, rfl, -, -, wf1⟩ := open_string Try.underlying9 (hval 1 9 v1 rfl rfl) h1
  refine (treFindLaw_calls W v0 x0 wf0 x1 wf1).mono fun e W2 ⟨he, hb⟩ => ?_
  subst he
  exact ⟨_, rfl, _, _, _, [], _, [], hW2, trodAll_mk1 (shut_bool Try.underlying4 true), trodAll_mk2 (k0 W2 hb) (k1 W2 hb), rfl, hb.frame _, fun h => by cases h⟩

theorem treFindLaw_holds : Rows.FnExactTreFindSaid :=
  OpenClaim.holds_of_wide 10 Try.f10 rfl rfl rfl rfl rfl rfl rfl ⟨rfl, rfl, rfl, rfl, rfl⟩ rfl rfl rfl rfl rfl (by kernel_rfl) Try.func10 (by kernel_rfl)
    (of_decide_eq_true (by kernel_rfl)) (by unfold Func.isWrapper; rw [if_neg (of_decide_eq_false (by kernel_rfl))]; exact ⟨rfl, rfl⟩)
    (fun os started H enc _ => treFindLaw_lifted os started H enc)
end Go.Proofs.Ytajkihibineoaaa
