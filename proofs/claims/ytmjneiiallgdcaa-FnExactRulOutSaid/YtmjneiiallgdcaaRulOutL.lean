/- FnExactRulOut returns true for every list of rules and rule. No condition. -/
import Derived.Test.YtmjneiiallgdcaaRulOut
import Derived.Test.YtmjneiiallgdcaaRuleVOpen
import Derived.Deep.RegionHeld3
namespace Go.Proofs.Ytmjneiiallgdcaa
open Go.ChangeShapes Go.WideShapes Go.ChangeAt Go.RowKit
open Go.ChangeMaps (open_string)

theorem rbox_newP (w : World) (r : TRule) (t : TypeId) : RBox (w.alloc (.cells #[.int .i64 r.user, .string r.ref, .string r.path, .bool r.write] t)) w.heap.size r := by
  have hb := heap_alloc_new w (.cells #[.int .i64 r.user, .string r.ref, .string r.path, .bool r.write] t)
  refine ⟨by simp, ?_, ?_, ?_, ?_⟩
  · rw [cell_of_row _ _ 0 _ _ _ hb]; rfl
  · rw [cell_of_row _ _ 1 _ _ _ hb]; rfl
  · rw [cell_of_row _ _ 2 _ _ _ hb]; rfl
  · rw [cell_of_row _ _ 3 _ _ _ hb]; rfl

set_option maxRecDepth 100000 in
set_option maxHeartbeats 4000000 in
theorem rulOutLaw_calls (W : World) (v : Value) (zs : List TRule) (hv : Sl 4 ruleC W v zs ∧ ∀ z ∈ zs, (Lit.int .i64 z.user).wf = true ∧ z.ref.size ≤ maxLen ∧ z.path.size ≤ maxLen) (y : Value) (x1 : TRule) (hr : y = ruleV x1 ∧ x1.ref.size ≤ maxLen ∧ x1.path.size ≤ maxLen) :
    Calls Try.prog 3 #[v, y] W fun e w' => e = .returned (.bool true) ∧ Below W.heap.size W w' := by
  obtain ⟨hs, ht⟩ := hv
  obtain ⟨rfl, hr1, hr2⟩ := hr
  unfold ruleV
  have Bx := al (below0 W) (.cells #[.int .i64 x1.user, .string x1.ref, .string x1.path, .bool x1.write] 24)
  have kx := rbox_newP W x1 24
  have hs0 := hs.below Bx
  have hbs : (W.alloc (.cells #[.int .i64 x1.user, .string x1.ref, .string x1.path, .bool x1.write] 24)).heap.size = W.heap.size + 1 := by simp
  by_cases hL : (1048576 : Int) < (zs.length + wsum ruleT zs : Nat)
  · go_enter Try.func3, Try.ntmps3
    go_wp2_with fail
    refine (szRulRuleS_calls v zs _ _ hs0 (fun z hz => (ht z hz).2) (by omega) (by omega)).mono ?_
    rintro e w1 ⟨rfl, hb1⟩
    rw [szR_no hL]
    go_wp2
    go_ret
    exact ⟨rfl, below_up Bx hb1⟩
  · by_cases hM : (1048576 : Int) - ((zs.length : Int) + (wsum ruleT zs : Int)) < (x1.ref.size + x1.path.size : Nat)
    · go_enter Try.func3, Try.ntmps3
      go_wp2_with fail
      refine (szRulRuleS_calls v zs _ _ hs0 (fun z hz => (ht z hz).2) (by omega) (by omega)).mono ?_
      rintro e w1 ⟨rfl, b1⟩
      have kx := kx.below b1
      rw [szR_yes (by omega)]
      obtain ⟨-, q0, q1, q2, q3⟩ := id kx
      go_wp2_with fail
      refine (szRulRule_calls _ _ _ _ _ _ hr1 hr2 (by omega) (by omega)).mono ?_
      rintro e w1b ⟨rfl, b1b⟩
      clear q0 q1 q2 q3
      rw [szR_no hM]
      go_wp2
      go_ret
      exact ⟨rfl, below_up Bx (below_up b1 b1b)⟩
    have hn : zs.length ≤ 1048576 := by omega
    go_enter Try.func3, Try.ntmps3
    go_wp2_with fail
    refine (szRulRuleS_calls v zs _ _ hs0 (fun z hz => (ht z hz).2) (by omega) (by omega)).mono ?_
    rintro e w1 ⟨rfl, b1⟩
    rw [szR_yes (by omega)]
    have B1 := below_up Bx b1
    have a_1 := hs0.below b1
    have kx_1 := kx.below b1
    obtain ⟨-, q0, q1, q2, q3⟩ := id kx_1
    go_wp2_with fail
    refine (szRulRule_calls _ _ _ _ _ _ hr1 hr2 (by omega) (by omega)).mono ?_
    rintro e w2 ⟨rfl, b2⟩
    rw [szR_yes (by omega)]
    have B2 := below_up B1 b2
    have a_2 := a_1.below b2
    have kx_2 := kx_1.below b2
    clear q0 q1 q2 q3
    have hpl := ruleNot_len x1 zs
    have keepB : ∀ w', Below (w2).drew.heap.size (w2).drew w' → (w'.cell? ⟨W.heap.size, 0, none⟩ = some (.int .i64 x1.user) ∧ w'.cell? ⟨W.heap.size, 1, none⟩ = some (.string x1.ref) ∧ w'.cell? ⟨W.heap.size, 2, none⟩ = some (.string x1.path) ∧ w'.cell? ⟨W.heap.size, 3, none⟩ = some (.bool x1.write)) := fun w' hb => by obtain ⟨-, h0, h1, h2, h3⟩ := kx_2.below ((Below.refl _ _).drew.trans hb); exact ⟨h0, h1, h2, h3⟩
    have slB : ∀ w', Below (w2).drew.heap.size (w2).drew w' → Sl 4 ruleC w' v zs := fun w' hb => a_2.below ((Below.refl _ _).drew.trans hb)
    go_wp2_with fail
    go_region_held3 (fun w' => w'.cell? ⟨W.heap.size, 0, none⟩ = some (.int .i64 x1.user) ∧ w'.cell? ⟨W.heap.size, 1, none⟩ = some (.string x1.ref) ∧ w'.cell? ⟨W.heap.size, 2, none⟩ = some (.string x1.path) ∧ w'.cell? ⟨W.heap.size, 3, none⟩ = some (.bool x1.write)) (first | exact keepB _ (Below.refl _ _) | exact keepB _ bS | exact keepB _ bT | exact keepB _ (below_up bT bS) | exact keepB _ (below_up bS bT) | exact keepB _ (below_up (below_up bS bT) bF) | exact keepB _ (below_up (below_up bT bS) bF))
      (first | (go_at_call 7; refine (toRulRuleS_calls v zs _ ?_ hn).mono ?_; (first | exact slB _ (Below.refl _ _) | exact slB _ bT); rintro e wS ⟨cS, rfl, cS_o, bS⟩) | (go_at_call 8; refine (toRulRule_calls _ _ _ _ _).mono ?_; rintro e wT ⟨rfl, bT⟩) | (go_at_call 6; refine (rulOut_spec cS zs x1 _ ?_ hn).mono ?_; (first | exact cS_o.sl ruleC_len | exact (cS_o.below bT).sl ruleC_len); rintro e wF ⟨r3, rfl, r3_o, bF⟩))
    all_goals (
      have b3 : Below w2.heap.size w2 wF := (by first | exact below_up (below_up (below_up (Below.refl _ _).drew bS) bT) bF | exact below_up (below_up (below_up (Below.refl _ _).drew bT) bS) bF)
      have r3_s := r3_o.sl ruleC_len
      clear bS bT bF cS_o r3_o keepB slB
      obtain ⟨w3, rfl⟩ : ∃ u : World, wF = u := ⟨_, rfl⟩
      have B3 := below_up B2 b3
      have a_3 := a_2.below b3
      have kx_3 := kx_2.below b3
      go_wp2_with fail
      refine (toRulRuleS_calls v zs _ a_3 hn).mono ?_
      rintro e w4 ⟨x4, rfl, x4_o, b4⟩
      have B4 := below_up B3 b4
      have a_4 := a_3.below b4
      have kx_4 := kx_3.below b4
      have r3_4 := r3_s.below b4
      obtain ⟨-, q0, q1, q2, q3⟩ := id kx_4
      go_wp2_with fail
      refine (toRulRule_calls _ _ _ _ _).mono ?_
      rintro e w5 ⟨rfl, b5⟩
      have B5 := below_up B4 b5
      have a_5 := a_4.below b5
      have kx_5 := kx_4.below b5
      have r3_5 := r3_4.below b5
      have x4_5 := x4_o.below b5
      clear q0 q1 q2 q3
      go_wp2_with fail
      refine (rulOut_impl x4 zs x1 _ (x4_5.sl ruleC_len) hn).mono ?_
      rintro e w6 ⟨g5, rfl, g5_o, b6⟩
      have B6 := below_up B5 b6
      have a_6 := a_5.below b6
      have kx_6 := kx_5.below b6
      have r3_6 := r3_5.below b6
      have x4_6 := x4_5.below b6
      go_wp2_with fail
      refine (eqRulRuleS_calls g5 r3 _ _ (g5_o.sl ruleC_len) r3_6).mono ?_
      rintro e w7 ⟨rfl, b7⟩
      have B7 := below_up B6 b7
      have a_7 := a_6.below b7
      have kx_7 := kx_6.below b7
      have r3_7 := r3_6.below b7
      have x4_7 := x4_6.below b7
      have g5_7 := g5_o.below b7
      go_wp2_with fail
      refine (toRulRuleS_calls v zs _ a_7 hn).mono ?_
      rintro e w8 ⟨c7, rfl, c7_o, b8⟩
      have B8 := below_up B7 b8
      have a_8 := a_7.below b8
      have kx_8 := kx_7.below b8
      have r3_8 := r3_7.below b8
      have x4_8 := x4_7.below b8
      have g5_8 := g5_7.below b8
      go_wp2_with fail
      refine (eqRulRuleS_calls x4 c7 zs _ (x4_8.sl ruleC_len) (c7_o.sl ruleC_len)).mono ?_
      rintro e w9 ⟨rfl, b9⟩
      have B9 := below_up B8 b9
      have a_9 := a_8.below b9
      have kx_9 := kx_8.below b9
      have r3_9 := r3_8.below b9
      have x4_9 := x4_8.below b9
      have g5_9 := g5_8.below b9
      have c7_9 := c7_o.below b9
      go_wp2_with fail
      refine (markRulRuleS_calls x4 zs 1 _ _ x4_9 (by omega) (by omega)).mono ?_
      rintro e w10 ⟨rfl, x4_m, g10⟩
      have B10 := below_mark B9 x4_9 (Nat.le_trans Bx.size (Nat.le_trans b1.size (Nat.le_trans b2.size b3.size))) g10
      have a_10 := sl_older a_9 hs0 x4_9 (Nat.le_trans b1.size (Nat.le_trans b2.size b3.size)) g10
      have kx_10 := RBox.grown kx_9 g10 (fun e => by have h := (x4_9.lt _ e.symm).1; have h2 := (Nat.le_trans b1.size (Nat.le_trans b2.size b3.size)); have h3 := hbs; omega)
      have r3_10 := sl_older r3_9 r3_s x4_9 (Nat.le_refl _) g10
      have g5_10 := own_newer g5_9 x4_o b5.size g10
      go_wp2_with fail
      refine (eqRulRuleS_calls g5 r3 _ _ (g5_10.sl ruleC_len) r3_10).mono ?_
      rintro e w11 ⟨rfl, b11⟩
      have B11 := below_up B10 b11
      have a_11 := a_10.below b11
      have kx_11 := kx_10.below b11
      have r3_11 := r3_10.below b11
      have g5_11 := g5_10.below b11
      go_wp2_with fail
      refine (markRulRuleS_calls g5 _ 1 _ _ g5_11 (by omega) (by omega)).mono ?_
      rintro e w12 ⟨rfl, g5_m, g12⟩
      have B12 := below_mark B11 g5_11 (Nat.le_trans Bx.size (Nat.le_trans b1.size (Nat.le_trans b2.size (Nat.le_trans b3.size (Nat.le_trans b4.size b5.size))))) g12
      have a_12 := sl_older a_11 hs0 g5_11 (Nat.le_trans b1.size (Nat.le_trans b2.size (Nat.le_trans b3.size (Nat.le_trans b4.size b5.size)))) g12
      have kx_12 := RBox.grown kx_11 g12 (fun e => by have h := (g5_11.lt _ e.symm).1; have h2 := (Nat.le_trans b1.size (Nat.le_trans b2.size (Nat.le_trans b3.size (Nat.le_trans b4.size b5.size)))); have h3 := hbs; omega)
      have r3_12 := sl_older r3_11 r3_s g5_11 (Nat.le_trans b4.size b5.size) g12
      go_wp2_with fail
      refine (heldRulRuleS_calls g5 1 _ _ (g5_m.sl ruleC_len) (by omega) (by omega)).mono ?_
      rintro e w13 ⟨rfl, b13⟩
      have B13 := below_up B12 b13
      have a_13 := a_12.below b13
      have kx_13 := kx_12.below b13
      have r3_13 := r3_12.below b13
      have g5_13 := g5_m.below b13
      have keepB : ∀ w', Below (w13).drew.heap.size (w13).drew w' → (w'.cell? ⟨W.heap.size, 0, none⟩ = some (.int .i64 x1.user) ∧ w'.cell? ⟨W.heap.size, 1, none⟩ = some (.string x1.ref) ∧ w'.cell? ⟨W.heap.size, 2, none⟩ = some (.string x1.path) ∧ w'.cell? ⟨W.heap.size, 3, none⟩ = some (.bool x1.write)) := fun w' hb => by obtain ⟨-, h0, h1, h2, h3⟩ := kx_13.below ((Below.refl _ _).drew.trans hb); exact ⟨h0, h1, h2, h3⟩
      have slB : ∀ w', Below (w13).drew.heap.size (w13).drew w' → Sl 4 ruleC w' v zs := fun w' hb => a_13.below ((Below.refl _ _).drew.trans hb)
      go_wp2_with fail
      go_region_held3 (fun w' => w'.cell? ⟨W.heap.size, 0, none⟩ = some (.int .i64 x1.user) ∧ w'.cell? ⟨W.heap.size, 1, none⟩ = some (.string x1.ref) ∧ w'.cell? ⟨W.heap.size, 2, none⟩ = some (.string x1.path) ∧ w'.cell? ⟨W.heap.size, 3, none⟩ = some (.bool x1.write)) (first | exact keepB _ (Below.refl _ _) | exact keepB _ bS | exact keepB _ bT | exact keepB _ (below_up bT bS) | exact keepB _ (below_up bS bT) | exact keepB _ (below_up (below_up bS bT) bF) | exact keepB _ (below_up (below_up bT bS) bF))
        (first | (go_at_call 7; refine (toRulRuleS_calls v zs _ ?_ hn).mono ?_; (first | exact slB _ (Below.refl _ _) | exact slB _ bT); rintro e wS ⟨cS, rfl, cS_o, bS⟩) | (go_at_call 8; refine (toRulRule_calls _ _ _ _ _).mono ?_; rintro e wT ⟨rfl, bT⟩) | (go_at_call 9; refine (rulOut_impl cS zs x1 _ ?_ hn).mono ?_; (first | exact cS_o.sl ruleC_len | exact (cS_o.below bT).sl ruleC_len); rintro e wF ⟨h9, rfl, h9_o, bF⟩))
      all_goals (
        have b14 : Below w13.heap.size w13 wF := (by first | exact below_up (below_up (below_up (Below.refl _ _).drew bS) bT) bF | exact below_up (below_up (below_up (Below.refl _ _).drew bT) bS) bF)
        have h9_s := h9_o.sl ruleC_len
        clear bS bT bF cS_o h9_o keepB slB
        obtain ⟨w14, rfl⟩ : ∃ u : World, wF = u := ⟨_, rfl⟩
        have B14 := below_up B13 b14
        have a_14 := a_13.below b14
        have kx_14 := kx_13.below b14
        have r3_14 := r3_13.below b14
        have g5_14 := g5_13.below b14
        go_wp2_with fail
        refine (eqRulRuleS_calls h9 r3 _ _ h9_s r3_14).mono ?_
        rintro e w15 ⟨rfl, b15⟩
        have B15 := below_up B14 b15
        have a_15 := a_14.below b15
        have kx_15 := kx_14.below b15
        have r3_15 := r3_14.below b15
        have g5_15 := g5_14.below b15
        have h9_15 := h9_s.below b15
        go_wp2_with fail
        refine (heldRulRuleS_calls g5 1 _ _ (g5_15.sl ruleC_len) (by omega) (by omega)).mono ?_
        rintro e w16 ⟨rfl, b16⟩
        have B16 := below_up B15 b16
        have a_16 := a_15.below b16
        have kx_16 := kx_15.below b16
        have r3_16 := r3_15.below b16
        have g5_16 := g5_15.below b16
        go_wp2
        go_ret
        exact ⟨rfl, B16⟩))

set_option maxRecDepth 100000 in
theorem rulOutLaw_lifted (os : Os) (started : os.Started) (H : Type) (enc : TypeId × Value → H) :
    ReturnsInHanded {} Try.checked os 3 .any (Rows.fnExactRulOutSpec.pre6 enc Try.prog Try.f3 Rows.fnExactRulOutRow.domain false) (Rows.fnExactRulOutSpec.post enc Try.prog Try.f3 false true false false) := by
  refine returnsInHanded_of_change (C := Try.checked) Try.own started (by kernel_rfl) Try.func3
    (ChangeSpec.witness6 (enc := enc) (C := Try.checked) false ⟨#[], #[.slice none 0 0, .agg #[.int .i64 0, .string ByteArray.empty, .string ByteArray.empty, .bool false]], []⟩ 8 (by kernel_rfl) (by kernel_rfl) (by kernel_rfl) (by kernel_rfl)) ?_
  intro W base args ds gs before hval0 hW _ _
  have hval : ∀ (j : Nat) t v, Try.f3.params[j]? = some t → args[j]? = some v → Value.okWide Try.prog W .any base t v := hval0
  have hW2 := hW
  obtain ⟨p, q, hA0, hV, rfl, _, _⟩ := hW
  have hA : DataW.TrodAll enc Try.prog W 0 (fun _ => true) true Try.f3.params.toList args.toList ds p := hA0
  rw [Try.params3] at hA hval
  obtain ⟨v0, v1, d0, d1, p0, p1, rfl, rfl, rfl, h0, h1⟩ := trodAll_two hA
  obtain ⟨rfl, rfl⟩ := trodVars_none hV
  clear hA0 hval0
  simp only [List.append_nil] at hW2
  have lt0 : ∀ x ∈ p0, x.block < W.heap.size := fun x hx => hW2.lt x (by simp [hx])
  have lt1 : ∀ x ∈ p1, x.block < W.heap.size := fun x hx => hW2.lt x (by simp [hx])
  have k0 := fun W2 (hb : Below W.heap.size W W2) => Below.trod Try.laidOut (by kernel_rfl) (of_decide_eq_true (by kernel_rfl)) h0 hb lt0
  have k1 := fun W2 (hb : Below W.heap.size W W2) => Below.trod Try.laidOut (by kernel_rfl) (of_decide_eq_true (by kernel_rfl)) h1 hb lt1
  obtain ⟨x0, wf0⟩ := open_rule (hval 0 22 v0 rfl rfl) h0 lt0
  obtain ⟨x1, wf1⟩ := open_ruleV (hval 1 24 v1 rfl rfl) h1 lt1
  refine (rulOutLaw_calls W v0 x0 wf0 v1 x1 wf1).mono fun e W2 ⟨he, hb⟩ => ?_
  subst he
  exact ⟨_, rfl, _, _, _, [], _, [], hW2, trodAll_mk1 (shut_bool Try.underlying4 true), trodAll_mk2 (k0 W2 hb) (k1 W2 hb), rfl, hb.frame _, fun h => by cases h⟩

theorem rulOutLaw_holds : Rows.FnExactRulOutSaid :=
  OpenClaim.holds_of_wide 3 Try.f3 rfl rfl rfl rfl rfl rfl rfl ⟨rfl, rfl, rfl, rfl, rfl⟩ rfl rfl rfl rfl rfl (by kernel_rfl) Try.func3 (by kernel_rfl)
    (of_decide_eq_true (by kernel_rfl)) (by unfold Func.isWrapper; rw [if_neg (of_decide_eq_false (by kernel_rfl))]; exact ⟨rfl, rfl⟩)
    (fun os started H enc _ => rulOutLaw_lifted os started H enc)
end Go.Proofs.Ytmjneiiallgdcaa
