/- FnExactTreSize returns true for every list of edits. No condition. -/
import Derived.Test.YtajkihibineoaaaTreSizeF
import Derived.Test.YtajkihibineoaaaEditOpen
namespace Go.Proofs.Ytajkihibineoaaa
open Go.ChangeShapes Go.WideShapes Go.ChangeAt Go.RowKit

set_option maxHeartbeats 400000 in
theorem treSizeLaw_calls (W : World) (v : Value) (zs : List TEdit) (hv : Sl 3 editC W v zs ∧ ∀ z ∈ zs, z.path.size ≤ maxLen ∧ z.bytes.size ≤ maxLen) :
    Calls Try.prog 9 #[v] W fun e w' => e = .returned (.bool true) ∧ Below W.heap.size W w' := by
  obtain ⟨hs, ht⟩ := hv
  by_cases hL : (1048576 : Int) < (zs.length + wsum editT zs : Nat)
  · go_enter Try.func9, Try.ntmps9
    go_wp2_with fail
    refine (szTreEditS_calls v zs _ _ hs ht (by omega) (by omega)).mono ?_
    rintro e w1 ⟨rfl, hb1⟩
    rw [szR_no hL]
    go_wp2
    go_ret
    exact ⟨rfl, hb1⟩
  · go_enter Try.func9, Try.ntmps9
    go_wp2_with fail
    refine (szTreEditS_calls v zs _ _ hs ht (by omega) (by omega)).mono ?_
    rintro e w1 ⟨rfl, hb1⟩
    rw [szR_yes (by omega)]
    go_wp2_with fail
    refine (toTreEditS_calls v zs _ (hs.below hb1) (by omega)).mono ?_
    rintro e w2 ⟨v2, rfl, ho2, hb2⟩
    have s2 := ho2.sl editC_len
    go_wp2_with fail
    refine (treSize_spec v2 zs _ s2 (by omega)).mono ?_
    rintro e w2b ⟨rfl, hb2b⟩
    go_wp2_with fail
    refine (toTreEditS_calls v zs _ (((hs.below hb1).below hb2).below hb2b) (by omega)).mono ?_
    rintro e w3 ⟨v3, rfl, ho3, hb3⟩
    have s3 := ho3.sl editC_len
    go_wp2_with fail
    refine (treSize_impl v3 zs _ s3 (by omega)).mono ?_
    rintro e w4 ⟨rfl, hb4⟩
    go_wp2_with fail
    refine (toTreEditS_calls v zs _ (((((hs.below hb1).below hb2).below hb2b).below hb3).below hb4) (by omega)).mono ?_
    rintro e w5 ⟨v5, rfl, ho5, hb5⟩
    have s5 := ho5.sl editC_len
    go_wp2_with fail
    refine (eqTreEditS_calls v3 v5 zs _ ((s3.below hb4).below hb5) s5).mono ?_
    rintro e w6 ⟨rfl, hb6⟩
    go_wp2
    go_ret
    exact ⟨rfl, below_up (below_up (below_up (below_up (below_up (below_up hb1 hb2) hb2b) hb3) hb4) hb5) hb6⟩

set_option maxRecDepth 100000 in
theorem treSizeLaw_lifted (os : Os) (started : os.Started) (H : Type) (enc : TypeId × Value → H) :
    ReturnsInHanded {} Try.checked os 9 .any (Rows.fnExactTreSizeSpec.pre6 enc Try.prog Try.f9 Rows.fnExactTreSizeRow.domain false) (Rows.fnExactTreSizeSpec.post enc Try.prog Try.f9 false true false false) := by
  refine returnsInHanded_of_change (C := Try.checked) Try.own started (by kernel_rfl) Try.func9
    (ChangeSpec.witness6 (enc := enc) (C := Try.checked) false ⟨#[], #[.slice none 0 0], []⟩ 8 (by kernel_rfl) (by kernel_rfl) (by kernel_rfl) (by kernel_rfl)) ?_
  intro W base args ds gs before hval0 hW _ _
  have hval : ∀ (j : Nat) t v, Try.f9.params[j]? = some t → args[j]? = some v → Value.okWide Try.prog W .any base t v := hval0
  have hW2 := hW
  obtain ⟨p, q, hA0, hV, rfl, _, _⟩ := hW
  have hA : DataW.TrodAll enc Try.prog W 0 (fun _ => true) true Try.f9.params.toList args.toList ds p := hA0
  rw [Try.params9] at hA hval
  obtain ⟨v0, d0, rfl, rfl, h0⟩ := trodAll_one hA
  obtain ⟨rfl, rfl⟩ := trodVars_none hV
  clear hA0 hval0
  simp only [List.append_nil] at hW2
  have lt0 : ∀ x ∈ p, x.block < W.heap.size := fun x hx => hW2.lt x (by simp [hx])
  have k0 := fun W2 (hb : Below W.heap.size W W2) => Below.trod Try.laidOut (by kernel_rfl) (of_decide_eq_true (by kernel_rfl)) h0 hb lt0
  obtain ⟨x0, wf0⟩ := open_edit (hval 0 40 v0 rfl rfl) h0 lt0
  refine (treSizeLaw_calls W v0 x0 wf0).mono fun e W2 ⟨he, hb⟩ => ?_
  subst he
  exact ⟨_, rfl, _, _, _, [], _, [], hW2, trodAll_mk1 (shut_bool Try.underlying4 true), trodAll_mk1 (k0 W2 hb), rfl, hb.frame _, fun h => by cases h⟩

theorem treSizeLaw_holds : Rows.FnExactTreSizeSaid :=
  OpenClaim.holds_of_wide 9 Try.f9 rfl rfl rfl rfl rfl rfl rfl ⟨rfl, rfl, rfl, rfl, rfl⟩ rfl rfl rfl rfl rfl (by kernel_rfl) Try.func9 (by kernel_rfl)
    (of_decide_eq_true (by kernel_rfl)) (by unfold Func.isWrapper; rw [if_neg (of_decide_eq_false (by kernel_rfl))]; exact ⟨rfl, rfl⟩)
    (fun os started H enc _ => treSizeLaw_lifted os started H enc)
end Go.Proofs.Ytajkihibineoaaa
