/- FnExactPolOut returns true for every pool and id. No condition. -/
import Derived.Test.YtajkihibineoaaaPolOutF
import Derived.Test.YtajkihibineoaaaPolOpen
namespace Go.Proofs.Ytajkihibineoaaa
open Go.ChangeShapes Go.WideShapes Go.ChangeAt Go.RowKit
open Go.ChangeMaps (open_string)

set_option maxRecDepth 100000 in
set_option maxHeartbeats 2000000 in
theorem polOutLaw_calls (W : World) (v : Value) (zs : List (Int × ByteArray)) (hv : Sl 2 polC W v zs ∧ ∀ z ∈ zs, (Lit.int .i64 z.1).wf = true ∧ z.2.size ≤ maxLen) (x1 : Int) (_ : (Lit.int .i64 x1).wf = true) :
    Calls Try.prog 12 #[v, .int .i64 x1] W fun e w' => e = .returned (.bool true) ∧ Below W.heap.size W w' := by
  obtain ⟨hs, ht⟩ := hv
  by_cases hL : (1048576 : Int) < (zs.length + wsum polT zs : Nat)
  · go_enter Try.func12, Try.ntmps12
    go_wp2_with fail
    refine (szPolItemS_calls v zs _ _ hs (fun z hz => (ht z hz).2) (by omega) (by omega)).mono ?_
    rintro e w1 ⟨rfl, hb1⟩
    rw [szR_no hL]
    go_wp2
    go_ret
    exact ⟨rfl, hb1⟩
  · have hn : zs.length ≤ 1048576 := by omega
    go_enter Try.func12, Try.ntmps12
    go_wp2_with fail
    refine (szPolItemS_calls v zs _ _ hs (fun z hz => (ht z hz).2) (by omega) (by omega)).mono ?_
    rintro e w1 ⟨rfl, b1⟩
    rw [szR_yes (by omega)]
    have B1 := below_up (Below.refl _ _) b1
    have a_1 := hs.below b1
    have hpl := polNot_len x1 zs
    go_wp2_with fail
    refine (toPolItemS_calls v zs _ a_1 hn).mono ?_
    rintro e w2 ⟨c2, rfl, c2_o, b2⟩
    have B2 := below_up B1 b2
    have a_2 := a_1.below b2
    go_wp2_with fail
    refine (polOut_spec c2 zs x1 _ (c2_o.sl polC_len) hn).mono ?_
    rintro e w3 ⟨r3, rfl, r3_o, b3⟩
    have B3 := below_up B2 b3
    have a_3 := a_2.below b3
    have c2_3 := c2_o.below b3
    go_wp2_with fail
    refine (toPolItemS_calls v zs _ a_3 hn).mono ?_
    rintro e w4 ⟨x4, rfl, x4_o, b4⟩
    have B4 := below_up B3 b4
    have a_4 := a_3.below b4
    have r3_4 := r3_o.below b4
    go_wp2_with fail
    refine (polOut_impl x4 zs x1 _ (x4_o.sl polC_len) hn).mono ?_
    rintro e w5 ⟨g5, rfl, g5_o, b5⟩
    have B5 := below_up B4 b5
    have a_5 := a_4.below b5
    have r3_5 := r3_4.below b5
    have x4_5 := x4_o.below b5
    go_wp2_with fail
    refine (eqPolItemS_calls g5 r3 _ _ (g5_o.sl polC_len) (r3_5.sl polC_len)).mono ?_
    rintro e w6 ⟨rfl, b6⟩
    have B6 := below_up B5 b6
    have a_6 := a_5.below b6
    have r3_6 := r3_5.below b6
    have x4_6 := x4_5.below b6
    have g5_6 := g5_o.below b6
    go_wp2_with fail
    refine (toPolItemS_calls v zs _ a_6 hn).mono ?_
    rintro e w7 ⟨c7, rfl, c7_o, b7⟩
    have B7 := below_up B6 b7
    have a_7 := a_6.below b7
    have r3_7 := r3_6.below b7
    have x4_7 := x4_6.below b7
    have g5_7 := g5_6.below b7
    go_wp2_with fail
    refine (eqPolItemS_calls x4 c7 zs _ (x4_7.sl polC_len) (c7_o.sl polC_len)).mono ?_
    rintro e w8 ⟨rfl, b8⟩
    have B8 := below_up B7 b8
    have a_8 := a_7.below b8
    have r3_8 := r3_7.below b8
    have x4_8 := x4_7.below b8
    have g5_8 := g5_7.below b8
    have c7_8 := c7_o.below b8
    go_wp2_with fail
    refine (markPolItemS_calls x4 zs 1 _ _ x4_8 (by omega) (by omega)).mono ?_
    rintro e w9 ⟨rfl, x4_m, g9⟩
    have B9 := below_mark B8 x4_8 (Nat.le_trans b1.size (Nat.le_trans b2.size b3.size)) g9
    have a_9 := sl_older a_8 hs x4_8 (Nat.le_trans b1.size (Nat.le_trans b2.size b3.size)) g9
    have r3_9 := sl_older (r3_8.sl polC_len) (r3_o.sl polC_len) x4_8 (Nat.le_refl _) g9
    have g5_9 := own_newer g5_8 x4_o (Nat.le_refl _) g9
    go_wp2_with fail
    refine (eqPolItemS_calls g5 r3 _ _ (g5_9.sl polC_len) r3_9).mono ?_
    rintro e w10 ⟨rfl, b10⟩
    have B10 := below_up B9 b10
    have a_10 := a_9.below b10
    have r3_10 := r3_9.below b10
    have g5_10 := g5_9.below b10
    go_wp2_with fail
    refine (markPolItemS_calls g5 _ 1 _ _ g5_10 (by omega) (by omega)).mono ?_
    rintro e w11 ⟨rfl, g5_m, g11⟩
    have B11 := below_mark B10 g5_10 (Nat.le_trans b1.size (Nat.le_trans b2.size (Nat.le_trans b3.size b4.size))) g11
    have a_11 := sl_older a_10 hs g5_10 (Nat.le_trans b1.size (Nat.le_trans b2.size (Nat.le_trans b3.size b4.size))) g11
    have r3_11 := sl_older r3_10 (r3_o.sl polC_len) g5_10 b4.size g11
    go_wp2_with fail
    refine (heldPolItemS_calls g5 1 _ _ (g5_m.sl polC_len) (by omega) (by omega)).mono ?_
    rintro e w12 ⟨rfl, b12⟩
    have B12 := below_up B11 b12
    have a_12 := a_11.below b12
    have r3_12 := r3_11.below b12
    have g5_12 := g5_m.below b12
    go_wp2_with fail
    refine (toPolItemS_calls v zs _ a_12 hn).mono ?_
    rintro e w13 ⟨c9, rfl, c9_o, b13⟩
    have B13 := below_up B12 b13
    have a_13 := a_12.below b13
    have r3_13 := r3_12.below b13
    have g5_13 := g5_12.below b13
    go_wp2_with fail
    refine (polOut_impl c9 zs x1 _ (c9_o.sl polC_len) hn).mono ?_
    rintro e w14 ⟨h0, rfl, h0_o, b14⟩
    have B14 := below_up B13 b14
    have a_14 := a_13.below b14
    have r3_14 := r3_13.below b14
    have g5_14 := g5_13.below b14
    have c9_14 := c9_o.below b14
    go_wp2_with fail
    refine (eqPolItemS_calls h0 r3 _ _ (h0_o.sl polC_len) r3_14).mono ?_
    rintro e w15 ⟨rfl, b15⟩
    have B15 := below_up B14 b15
    have a_15 := a_14.below b15
    have r3_15 := r3_14.below b15
    have g5_15 := g5_14.below b15
    have h0_15 := h0_o.below b15
    go_wp2_with fail
    refine (heldPolItemS_calls g5 1 _ _ (g5_15.sl polC_len) (by omega) (by omega)).mono ?_
    rintro e w16 ⟨rfl, b16⟩
    have B16 := below_up B15 b16
    have a_16 := a_15.below b16
    have r3_16 := r3_15.below b16
    have g5_16 := g5_15.below b16
    go_wp2
    go_ret
    exact ⟨rfl, B16⟩

set_option maxRecDepth 100000 in
theorem polOutLaw_lifted (os : Os) (started : os.Started) (H : Type) (enc : TypeId × Value → H) :
    ReturnsInHanded {} Try.checked os 12 .any (Rows.fnExactPolOutSpec.pre6 enc Try.prog Try.f12 Rows.fnExactPolOutRow.domain false) (Rows.fnExactPolOutSpec.post enc Try.prog Try.f12 false true false false) := by
  refine returnsInHanded_of_change (C := Try.checked) Try.own started (by kernel_rfl) Try.func12
    (ChangeSpec.witness6 (enc := enc) (C := Try.checked) false ⟨#[], #[.slice none 0 0, .int .i64 0], []⟩ 8 (by kernel_rfl) (by kernel_rfl) (by kernel_rfl) (by kernel_rfl)) ?_
  intro W base args ds gs before hval0 hW _ _
  have hval : ∀ (j : Nat) t v, Try.f12.params[j]? = some t → args[j]? = some v → Value.okWide Try.prog W .any base t v := hval0
  have hW2 := hW
  obtain ⟨p, q, hA0, hV, rfl, _, _⟩ := hW
  have hA : DataW.TrodAll enc Try.prog W 0 (fun _ => true) true Try.f12.params.toList args.toList ds p := hA0
  rw [Try.params12] at hA hval
  obtain ⟨v0, v1, d0, d1, p0, p1, rfl, rfl, rfl, h0, h1⟩ := trodAll_two hA
  obtain ⟨rfl, rfl⟩ := trodVars_none hV
  clear hA0 hval0
  simp only [List.append_nil] at hW2
  have lt0 : ∀ x ∈ p0, x.block < W.heap.size := fun x hx => hW2.lt x (by simp [hx])
  have lt1 : ∀ x ∈ p1, x.block < W.heap.size := fun x hx => hW2.lt x (by simp [hx])
  have k0 := fun W2 (hb : Below W.heap.size W W2) => Below.trod Try.laidOut (by kernel_rfl) (of_decide_eq_true (by kernel_rfl)) h0 hb lt0
  have k1 := fun W2 (hb : Below W.heap.size W W2) => Below.trod Try.laidOut (by kernel_rfl) (of_decide_eq_true (by kernel_rfl)) h1 hb lt1
  obtain ⟨x0, wf0⟩ := open_pol (hval 0 33 v0 rfl rfl) h0 lt0
  obtain ⟨x1, rfl, -, -, wf1⟩ := open_int Try.underlying3 (hval 1 3 v1 rfl rfl) h1
  refine (polOutLaw_calls W v0 x0 wf0 x1 wf1).mono fun e W2 ⟨he, hb⟩ => ?_
  subst he
  exact ⟨_, rfl, _, _, _, [], _, [], hW2, trodAll_mk1 (shut_bool Try.underlying4 true), trodAll_mk2 (k0 W2 hb) (k1 W2 hb), rfl, hb.frame _, fun h => by cases h⟩

theorem polOutLaw_holds : Rows.FnExactPolOutSaid :=
  OpenClaim.holds_of_wide 12 Try.f12 rfl rfl rfl rfl rfl rfl rfl ⟨rfl, rfl, rfl, rfl, rfl⟩ rfl rfl rfl rfl rfl (by kernel_rfl) Try.func12 (by kernel_rfl)
    (of_decide_eq_true (by kernel_rfl)) (by unfold Func.isWrapper; rw [if_neg (of_decide_eq_false (by kernel_rfl))]; exact ⟨rfl, rfl⟩)
    (fun os started H enc _ => polOutLaw_lifted os started H enc)
end Go.Proofs.Ytajkihibineoaaa
