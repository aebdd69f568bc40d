/- FnExactPolSize returns true for every pool. No condition. -/
import Derived.Test.YtajkihibineoaaaPolOpen
namespace Go.Proofs.Ytajkihibineoaaa
open Go.ChangeShapes Go.WideShapes Go.ChangeAt Go.RowKit

theorem polSize_impl (u : Value) (zs : List (Int × ByteArray)) (w : World) (hu : Sl 2 polC w u zs) (hn : wsum polT zs ≤ 1048576) :
    Calls Try.prog 27 #[u] w fun e w' => e = .returned (.int .i64 (wsum polT zs)) ∧ Below w.heap.size w w' := by
  obtain ⟨A, c, rfl, hc, hlc, hat⟩ := pol_at hu
  unfold maxLen at hc
  go_enter Try.func27, Try.ntmps27
  go_wp2
  go_loopw [3, 8] (fun s i wr => ∃ k : Nat, k ≤ zs.length ∧ i = .int .i64 k ∧ s = .int .i64 (wsum polT (zs.take k)) ∧ Below w.heap.size w wr) (fun _ i _ => zs.length - (intOf i).toNat)
  case atStart => exact ⟨0, Nat.zero_le _, rfl, rfl, Below.refl _ _⟩
  case round =>
    obtain ⟨k, hk, rfl, rfl, hnx⟩ := hrel
    by_cases hlt : k < zs.length
    · obtain ⟨id, s, b, off, hz, rfl, hb, c0, c1⟩ := hat k hlt
      have d0 := (hnx.cell (p := ⟨b, off + k * 2, none⟩) hb).trans c0
      have d1 := (hnx.cell (p := ⟨b, off + k * 2 + 1, none⟩) hb).trans c1
      have st := wsum_step (f := polT) hz
      have hst : wsum polT (zs.take k) + s.size ≤ 1048576 := by have := wsum_le (f := polT) (zs := zs) (k + 1); rw [st] at this; simp only [polT] at this ⊢; omega
      have ST := Lib.hid st
      clear hat c0 c1 hz st
      go_wp2
      go_roundw
      case rel => exact ⟨k + 1, by omega, by go_num, by rw [ST.out]; simp only [polT]; go_num, al hnx _⟩
      case measure => simp [intOf]; omega
    · have e1 := Lib.hid (wsum_all (f := polT) hlt)
      go_wp2
      go_ret
      exact ⟨ret_i (by rw [e1.out]), hnx⟩

theorem polSize_spec (u : Value) (zs : List (Int × ByteArray)) (w : World) (hu : Sl 2 polC w u zs) (hn : wsum polT zs ≤ 1048576) :
    Calls Try.prog 25 #[u] w fun e w' => e = .returned (.int .i64 (wsum polT zs)) ∧ w = w' := by
  obtain ⟨A, c, rfl, hc, hlc, hat⟩ := pol_at hu
  unfold maxLen at hc
  go_enter Try.func25, Try.ntmps25
  go_wp2
  go_loop [3, 4] (fun s i => ∃ k : Nat, k ≤ zs.length ∧ i = .int .i64 k ∧ s = .int .i64 (wsum polT (zs.take k))) (fun _ i => zs.length - (intOf i).toNat)
  case atStart => exact ⟨0, Nat.zero_le _, rfl, rfl⟩
  case round =>
    obtain ⟨k, hk, rfl, rfl⟩ := hrel
    by_cases hlt : k < zs.length
    · obtain ⟨id, s, b, off, hz, rfl, hb, c0, c1⟩ := hat k hlt
      have st := wsum_step (f := polT) hz
      have hst : wsum polT (zs.take k) + s.size ≤ 1048576 := by have := wsum_le (f := polT) (zs := zs) (k + 1); rw [st] at this; simp only [polT] at this ⊢; omega
      have ST := Lib.hid st
      clear hat hz st
      go_wp2
      go_round
      case rel => exact ⟨k + 1, by omega, by go_num, by rw [ST.out]; simp only [polT]; go_num⟩
      case measure => simp [intOf]; omega
    · have e1 := Lib.hid (wsum_all (f := polT) hlt)
      go_wp2
      go_ret
      exact ⟨ret_i (by rw [e1.out]), rfl⟩

set_option maxHeartbeats 400000 in
theorem polSizeLaw_calls (W : World) (v : Value) (zs : List (Int × ByteArray)) (hv : Sl 2 polC W v zs ∧ ∀ z ∈ zs, (Lit.int .i64 z.1).wf = true ∧ z.2.size ≤ maxLen) :
    Calls Try.prog 8 #[v] W fun e w' => e = .returned (.bool true) ∧ Below W.heap.size W w' := by
  obtain ⟨hs, ht⟩ := hv
  by_cases hL : (1048576 : Int) < (zs.length + wsum polT zs : Nat)
  · go_enter Try.func8, Try.ntmps8
    go_wp2_with fail
    refine (szPolItemS_calls v zs _ _ hs (fun z hz => (ht z hz).2) (by omega) (by omega)).mono ?_
    rintro e w1 ⟨rfl, hb1⟩
    rw [szR_no hL]
    go_wp2
    go_ret
    exact ⟨rfl, hb1⟩
  · go_enter Try.func8, Try.ntmps8
    go_wp2_with fail
    refine (szPolItemS_calls v zs _ _ hs (fun z hz => (ht z hz).2) (by omega) (by omega)).mono ?_
    rintro e w1 ⟨rfl, hb1⟩
    rw [szR_yes (by omega)]
    go_wp2_with fail
    refine (toPolItemS_calls v zs _ (hs.below hb1) (by omega)).mono ?_
    rintro e w2 ⟨v2, rfl, ho2, hb2⟩
    have s2 := ho2.sl polC_len
    go_wp2_with fail
    refine (polSize_spec v2 zs _ s2 (by omega)).mono ?_
    rintro e w2 ⟨rfl, rfl⟩
    go_wp2_with fail
    refine (toPolItemS_calls v zs _ ((hs.below hb1).below hb2) (by omega)).mono ?_
    rintro e w3 ⟨v3, rfl, ho3, hb3⟩
    have s3 := ho3.sl polC_len
    go_wp2_with fail
    refine (polSize_impl v3 zs _ s3 (by omega)).mono ?_
    rintro e w4 ⟨rfl, hb4⟩
    go_wp2_with fail
    refine (toPolItemS_calls v zs _ ((((hs.below hb1).below hb2).below hb3).below hb4) (by omega)).mono ?_
    rintro e w5 ⟨v5, rfl, ho5, hb5⟩
    have s5 := ho5.sl polC_len
    go_wp2_with fail
    refine (eqPolItemS_calls v3 v5 zs _ ((s3.below hb4).below hb5) s5).mono ?_
    rintro e w6 ⟨rfl, hb6⟩
    go_wp2
    go_ret
    exact ⟨rfl, below_up (below_up (below_up (below_up (below_up hb1 hb2) hb3) hb4) hb5) hb6⟩

set_option maxRecDepth 100000 in
theorem polSizeLaw_lifted (os : Os) (started : os.Started) (H : Type) (enc : TypeId × Value → H) :
    ReturnsInHanded {} Try.checked os 8 .any (Rows.fnExactPolSizeSpec.pre6 enc Try.prog Try.f8 Rows.fnExactPolSizeRow.domain false) (Rows.fnExactPolSizeSpec.post enc Try.prog Try.f8 false true false false) := by
  refine returnsInHanded_of_change (C := Try.checked) Try.own started (by kernel_rfl) Try.func8
    (ChangeSpec.witness6 (enc := enc) (C := Try.checked) false ⟨#[], #[.slice none 0 0], []⟩ 8 (by kernel_rfl) (by kernel_rfl) (by kernel_rfl) (by kernel_rfl)) ?_
  intro W base args ds gs before hval0 hW _ _
  have hval : ∀ (j : Nat) t v, Try.f8.params[j]? = some t → args[j]? = some v → Value.okWide Try.prog W .any base t v := hval0
  have hW2 := hW
  obtain ⟨p, q, hA0, hV, rfl, _, _⟩ := hW
  have hA : DataW.TrodAll enc Try.prog W 0 (fun _ => true) true Try.f8.params.toList args.toList ds p := hA0
  rw [Try.params8] at hA hval
  obtain ⟨v0, d0, rfl, rfl, h0⟩ := trodAll_one hA
  obtain ⟨rfl, rfl⟩ := trodVars_none hV
  clear hA0 hval0
  simp only [List.append_nil] at hW2
  have lt0 : ∀ x ∈ p, x.block < W.heap.size := fun x hx => hW2.lt x (by simp [hx])
  have k0 := fun W2 (hb : Below W.heap.size W W2) => Below.trod Try.laidOut (by kernel_rfl) (of_decide_eq_true (by kernel_rfl)) h0 hb lt0
  obtain ⟨x0, wf0⟩ := open_pol (hval 0 33 v0 rfl rfl) h0 lt0
  refine (polSizeLaw_calls W v0 x0 wf0).mono fun e W2 ⟨he, hb⟩ => ?_
  subst he
  exact ⟨_, rfl, _, _, _, [], _, [], hW2, trodAll_mk1 (shut_bool Try.underlying4 true), trodAll_mk1 (k0 W2 hb), rfl, hb.frame _, fun h => by cases h⟩

theorem polSizeLaw_holds : Rows.FnExactPolSizeSaid :=
  OpenClaim.holds_of_wide 8 Try.f8 rfl rfl rfl rfl rfl rfl rfl ⟨rfl, rfl, rfl, rfl, rfl⟩ rfl rfl rfl rfl rfl (by kernel_rfl) Try.func8 (by kernel_rfl)
    (of_decide_eq_true (by kernel_rfl)) (by unfold Func.isWrapper; rw [if_neg (of_decide_eq_false (by kernel_rfl))]; exact ⟨rfl, rfl⟩)
    (fun os started H enc _ => polSizeLaw_lifted os started H enc)
end Go.Proofs.Ytajkihibineoaaa
