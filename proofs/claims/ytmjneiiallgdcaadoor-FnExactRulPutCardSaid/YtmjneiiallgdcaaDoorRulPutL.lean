/- FnExactRulPut returns true for every list of rules and rule; the tables that its row lists are tied to the program. No condition. -/
import Derived.Test.YtmjneiiallgdcaaDoorRulR
import Derived.Test.YtmjneiiallgdcaaDoorRuleVOpen
import Derived.Test.YtmjneiiallgdcaaDoorRulLaw
import Derived.Test.YtmjneiiallgdcaaDoorLaidW
import Derived.Deep.RegionHeld3
namespace Go.Proofs.YtmjneiiallgdcaaDoor
open Go.ChangeShapes Go.WideShapes Go.ChangeAt Go.RowKit
open Go.ChangeMaps (open_string)

set_option maxRecDepth 100000 in
set_option maxHeartbeats 4000000 in
theorem rulPutLaw_calls (W : World) (hsh : W.ShapedOpen Tryd.prog) (v : Value) (zs : List TRule) (hv : Sl 4 ruleC W v zs ∧ ∀ z ∈ zs, (Lit.int .i64 z.user).wf = true ∧ z.ref.size ≤ maxLen ∧ z.path.size ≤ maxLen) (y : Value) (x1 : TRule) (hr : y = ruleV x1 ∧ x1.ref.size ≤ maxLen ∧ x1.path.size ≤ maxLen) :
    Calls Tryd.prog 13 #[v, y] W fun e w' => e = .returned (.bool true) ∧ Below W.heap.size W w' := by
  obtain ⟨hs, ht⟩ := hv
  obtain ⟨rfl, hr1, hr2⟩ := hr
  unfold ruleV
  have hmW := maxOk_of hsh
  clear hsh
  have Bx := al (below0 W) (.cells #[.int .i64 x1.user, .string x1.ref, .string x1.path, .bool x1.write] 31)
  have kx := rbox_new W x1 31
  have hs0 := hs.below Bx
  have hbs : (W.alloc (.cells #[.int .i64 x1.user, .string x1.ref, .string x1.path, .bool x1.write] 31)).heap.size = W.heap.size + 1 := by simp
  have hm0 := hmW.below Bx
  by_cases hL : (1048576 : Int) < (zs.length + wsum ruleT zs : Nat)
  · go_enter Tryd.func13, Tryd.ntmps13
    go_wp2_with fail
    refine (szRulRuleS_calls v zs _ _ hs0 (fun z hz => (ht z hz).2) (by omega) (by omega)).mono ?_
    rintro e w1 ⟨rfl, hb1⟩
    rw [szR_no hL]
    go_wp2
    go_ret
    exact ⟨rfl, below_up Bx hb1⟩
  · by_cases hM : (1048576 : Int) - ((zs.length : Int) + (wsum ruleT zs : Int)) < (x1.ref.size + x1.path.size : Nat)
    · go_enter Tryd.func13, Tryd.ntmps13
      go_wp2_with fail
      refine (szRulRuleS_calls v zs _ _ hs0 (fun z hz => (ht z hz).2) (by omega) (by omega)).mono ?_
      rintro e w1 ⟨rfl, b1⟩
      have kx := kx.below b1
      rw [szR_yes (by omega)]
      obtain ⟨-, q0, q1, q2, q3⟩ := id kx
      go_wp2_with fail
      refine (szRulRule_calls _ _ _ _ _ _ hr1 hr2 (by omega) (by omega)).mono ?_
      rintro e w1b ⟨rfl, b1b⟩
      clear q0 q1 q2 q3
      rw [szR_no hM]
      go_wp2
      go_ret
      exact ⟨rfl, below_up Bx (below_up b1 b1b)⟩
    have hn : zs.length ≤ 1048576 := by omega
    have hf := fine_of (zs := zs) (by omega)
    have hr3 : x1.path.size ≤ 2097160 := by omega
    go_enter Tryd.func13, Tryd.ntmps13
    go_wp2_with fail
    refine (szRulRuleS_calls v zs _ _ hs0 (fun z hz => (ht z hz).2) (by omega) (by omega)).mono ?_
    rintro e w1 ⟨rfl, b1⟩
    rw [szR_yes (by omega)]
    have B1 := below_up Bx b1
    have a_1 := hs0.below b1
    have kx_1 := kx.below b1
    have hm_1 := hm0.below b1
    obtain ⟨-, q0, q1, q2, q3⟩ := id kx_1
    go_wp2_with fail
    refine (szRulRule_calls _ _ _ _ _ _ hr1 hr2 (by omega) (by omega)).mono ?_
    rintro e w2 ⟨rfl, b2⟩
    rw [szR_yes (by omega)]
    have B2 := below_up B1 b2
    have a_2 := a_1.below b2
    have kx_2 := kx_1.below b2
    have hm_2 := hm_1.below b2
    clear q0 q1 q2 q3
    have hpl := putL_len zs x1
    have keepB : ∀ w', Below (w2).drew.heap.size (w2).drew w' → (w'.cell? ⟨W.heap.size, 0, none⟩ = some (.int .i64 x1.user) ∧ w'.cell? ⟨W.heap.size, 1, none⟩ = some (.string x1.ref) ∧ w'.cell? ⟨W.heap.size, 2, none⟩ = some (.string x1.path) ∧ w'.cell? ⟨W.heap.size, 3, none⟩ = some (.bool x1.write)) := fun w' hb => by obtain ⟨-, h0, h1, h2, h3⟩ := kx_2.below ((Below.refl _ _).drew.trans hb); exact ⟨h0, h1, h2, h3⟩
    have slB : ∀ w', Below (w2).drew.heap.size (w2).drew w' → Sl 4 ruleC w' v zs := fun w' hb => a_2.below ((Below.refl _ _).drew.trans hb)
    go_wp2_with fail
    go_region_held3 (fun w' => w'.cell? ⟨W.heap.size, 0, none⟩ = some (.int .i64 x1.user) ∧ w'.cell? ⟨W.heap.size, 1, none⟩ = some (.string x1.ref) ∧ w'.cell? ⟨W.heap.size, 2, none⟩ = some (.string x1.path) ∧ w'.cell? ⟨W.heap.size, 3, none⟩ = some (.bool x1.write)) (first | exact keepB _ (Below.refl _ _) | exact keepB _ bS | exact keepB _ bT | exact keepB _ (below_up bT bS) | exact keepB _ (below_up bS bT) | exact keepB _ (below_up (below_up bS bT) bF) | exact keepB _ (below_up (below_up bT bS) bF))
      (first | (go_at_call 35; refine (toRulRuleS_calls v zs _ ?_ hn).mono ?_; (first | exact slB _ (Below.refl _ _) | exact slB _ bT); rintro e wS ⟨cS, rfl, cS_o, bS⟩) | (go_at_call 31; refine (toRulRule_calls _ _ _ _ _).mono ?_; rintro e wT ⟨rfl, bT⟩) | (go_at_call 42; refine (put_spec cS zs x1 _ ?_ hf hn hr1 hr3).mono ?_; (first | exact cS_o.sl ruleC_len | exact (cS_o.below bT).sl ruleC_len); rintro e wF ⟨r3, rfl, r3_o, bF⟩))
    all_goals (
      have b3 : Below w2.heap.size w2 wF := (by first | exact below_up (below_up (below_up (Below.refl _ _).drew bS) bT) bF | exact below_up (below_up (below_up (Below.refl _ _).drew bT) bS) bF)
      have r3_s := r3_o.sl ruleC_len
      clear bS bT bF cS_o r3_o keepB slB
      obtain ⟨w3, rfl⟩ : ∃ u : World, wF = u := ⟨_, rfl⟩
      have B3 := below_up B2 b3
      have a_3 := a_2.below b3
      have kx_3 := kx_2.below b3
      have hm_3 := hm_2.below b3
      go_wp2_with fail
      refine (toRulRuleS_calls v zs _ a_3 hn).mono ?_
      rintro e w4 ⟨x4, rfl, x4_o, b4⟩
      have B4 := below_up B3 b4
      have a_4 := a_3.below b4
      have kx_4 := kx_3.below b4
      have hm_4 := hm_3.below b4
      have r3_4 := r3_s.below b4
      obtain ⟨-, q0, q1, q2, q3⟩ := id kx_4
      go_wp2_with fail
      refine (toRulRule_calls _ _ _ _ _).mono ?_
      rintro e w5 ⟨rfl, b5⟩
      have B5 := below_up B4 b5
      have a_5 := a_4.below b5
      have kx_5 := kx_4.below b5
      have hm_5 := hm_4.below b5
      have r3_5 := r3_4.below b5
      have x4_5 := x4_o.below b5
      clear q0 q1 q2 q3
      go_wp2_with fail
      refine (put_impl x4 zs x1 _ hm_5 (x4_5.sl ruleC_len) hf hn hr1 hr3).mono ?_
      rintro e w6 ⟨g5, rfl, g5_o, b6⟩
      have B6 := below_up B5 b6
      have a_6 := a_5.below b6
      have kx_6 := kx_5.below b6
      have hm_6 := hm_5.below b6
      have r3_6 := r3_5.below b6
      have x4_6 := x4_5.below b6
      go_wp2_with fail
      refine (eqRulRuleS_calls g5 r3 _ _ (g5_o.sl ruleC_len) r3_6).mono ?_
      rintro e w7 ⟨rfl, b7⟩
      have B7 := below_up B6 b7
      have a_7 := a_6.below b7
      have kx_7 := kx_6.below b7
      have hm_7 := hm_6.below b7
      have r3_7 := r3_6.below b7
      have x4_7 := x4_6.below b7
      have g5_7 := g5_o.below b7
      go_wp2_with fail
      refine (toRulRuleS_calls v zs _ a_7 hn).mono ?_
      rintro e w8 ⟨c7, rfl, c7_o, b8⟩
      have B8 := below_up B7 b8
      have a_8 := a_7.below b8
      have kx_8 := kx_7.below b8
      have hm_8 := hm_7.below b8
      have r3_8 := r3_7.below b8
      have x4_8 := x4_7.below b8
      have g5_8 := g5_7.below b8
      go_wp2_with fail
      refine (eqRulRuleS_calls x4 c7 zs _ (x4_8.sl ruleC_len) (c7_o.sl ruleC_len)).mono ?_
      rintro e w9 ⟨rfl, b9⟩
      have B9 := below_up B8 b9
      have a_9 := a_8.below b9
      have kx_9 := kx_8.below b9
      have hm_9 := hm_8.below b9
      have r3_9 := r3_8.below b9
      have x4_9 := x4_8.below b9
      have g5_9 := g5_8.below b9
      have c7_9 := c7_o.below b9
      go_wp2_with fail
      refine (markRulRuleS_calls x4 zs 1 _ _ x4_9 (by omega) (by omega)).mono ?_
      rintro e w10 ⟨rfl, x4_m, g10⟩
      have B10 := below_mark B9 x4_9 (Nat.le_trans Bx.size (Nat.le_trans b1.size (Nat.le_trans b2.size b3.size))) g10
      have a_10 := sl_older a_9 hs0 x4_9 (Nat.le_trans b1.size (Nat.le_trans b2.size b3.size)) g10
      have kx_10 := RBox.grownQ kx_9 g10 (fun e => by have h := (x4_9.lt _ e.symm).1; have h2 := (Nat.le_trans b1.size (Nat.le_trans b2.size b3.size)); have h3 := hbs; omega)
      have hm_10 := hm_9.mark hm0 x4_9 (Nat.le_trans b1.size (Nat.le_trans b2.size b3.size)) g10
      have r3_10 := sl_older r3_9 r3_s x4_9 (Nat.le_refl _) g10
      have g5_10 := own_newer g5_9 x4_o b5.size g10
      go_wp2_with fail
      refine (eqRulRuleS_calls g5 r3 _ _ (g5_10.sl ruleC_len) r3_10).mono ?_
      rintro e w11 ⟨rfl, b11⟩
      have B11 := below_up B10 b11
      have a_11 := a_10.below b11
      have kx_11 := kx_10.below b11
      have hm_11 := hm_10.below b11
      have r3_11 := r3_10.below b11
      have g5_11 := g5_10.below b11
      go_wp2_with fail
      refine (markRulRuleS_calls g5 _ 1 _ _ g5_11 (by omega) (by omega)).mono ?_
      rintro e w12 ⟨rfl, g5_m, g12⟩
      have B12 := below_mark B11 g5_11 (Nat.le_trans Bx.size (Nat.le_trans b1.size (Nat.le_trans b2.size (Nat.le_trans b3.size (Nat.le_trans b4.size b5.size))))) g12
      have a_12 := sl_older a_11 hs0 g5_11 (Nat.le_trans b1.size (Nat.le_trans b2.size (Nat.le_trans b3.size (Nat.le_trans b4.size b5.size)))) g12
      have kx_12 := RBox.grownQ kx_11 g12 (fun e => by have h := (g5_11.lt _ e.symm).1; have h2 := (Nat.le_trans b1.size (Nat.le_trans b2.size (Nat.le_trans b3.size (Nat.le_trans b4.size b5.size)))); have h3 := hbs; omega)
      have hm_12 := hm_11.mark hm0 g5_11 (Nat.le_trans b1.size (Nat.le_trans b2.size (Nat.le_trans b3.size (Nat.le_trans b4.size b5.size)))) g12
      have r3_12 := sl_older r3_11 r3_s g5_11 (Nat.le_trans b4.size b5.size) g12
      go_wp2_with fail
      refine (heldRulRuleS_calls g5 1 _ _ (g5_m.sl ruleC_len) (by omega) (by omega)).mono ?_
      rintro e w13 ⟨rfl, b13⟩
      have B13 := below_up B12 b13
      have a_13 := a_12.below b13
      have kx_13 := kx_12.below b13
      have hm_13 := hm_12.below b13
      have r3_13 := r3_12.below b13
      have g5_13 := g5_m.below b13
      have keepB : ∀ w', Below (w13).drew.heap.size (w13).drew w' → (w'.cell? ⟨W.heap.size, 0, none⟩ = some (.int .i64 x1.user) ∧ w'.cell? ⟨W.heap.size, 1, none⟩ = some (.string x1.ref) ∧ w'.cell? ⟨W.heap.size, 2, none⟩ = some (.string x1.path) ∧ w'.cell? ⟨W.heap.size, 3, none⟩ = some (.bool x1.write)) := fun w' hb => by obtain ⟨-, h0, h1, h2, h3⟩ := kx_13.below ((Below.refl _ _).drew.trans hb); exact ⟨h0, h1, h2, h3⟩
      have slB : ∀ w', Below (w13).drew.heap.size (w13).drew w' → Sl 4 ruleC w' v zs := fun w' hb => a_13.below ((Below.refl _ _).drew.trans hb)
      have mxB : ∀ w', Below (w13).drew.heap.size (w13).drew w' → MaxOk w' := fun w' hb => hm_13.below ((Below.refl _ _).drew.trans hb)
      go_wp2_with fail
      go_region_held3 (fun w' => w'.cell? ⟨W.heap.size, 0, none⟩ = some (.int .i64 x1.user) ∧ w'.cell? ⟨W.heap.size, 1, none⟩ = some (.string x1.ref) ∧ w'.cell? ⟨W.heap.size, 2, none⟩ = some (.string x1.path) ∧ w'.cell? ⟨W.heap.size, 3, none⟩ = some (.bool x1.write)) (first | exact keepB _ (Below.refl _ _) | exact keepB _ bS | exact keepB _ bT | exact keepB _ (below_up bT bS) | exact keepB _ (below_up bS bT) | exact keepB _ (below_up (below_up bS bT) bF) | exact keepB _ (below_up (below_up bT bS) bF))
        (first | (go_at_call 35; refine (toRulRuleS_calls v zs _ ?_ hn).mono ?_; (first | exact slB _ (Below.refl _ _) | exact slB _ bT); rintro e wS ⟨cS, rfl, cS_o, bS⟩) | (go_at_call 31; refine (toRulRule_calls _ _ _ _ _).mono ?_; rintro e wT ⟨rfl, bT⟩) | (go_at_call 43; refine (put_impl cS zs x1 _ ?_ ?_ hf hn hr1 hr3).mono ?_; (first | exact mxB _ (below_up bS bT) | exact mxB _ (below_up bT bS)); (first | exact cS_o.sl ruleC_len | exact (cS_o.below bT).sl ruleC_len); rintro e wF ⟨h9, rfl, h9_o, bF⟩))
      all_goals (
        have b14 : Below w13.heap.size w13 wF := (by first | exact below_up (below_up (below_up (Below.refl _ _).drew bS) bT) bF | exact below_up (below_up (below_up (Below.refl _ _).drew bT) bS) bF)
        have h9_s := h9_o.sl ruleC_len
        clear bS bT bF cS_o h9_o keepB slB mxB
        obtain ⟨w14, rfl⟩ : ∃ u : World, wF = u := ⟨_, rfl⟩
        have B14 := below_up B13 b14
        have a_14 := a_13.below b14
        have kx_14 := kx_13.below b14
        have hm_14 := hm_13.below b14
        have r3_14 := r3_13.below b14
        have g5_14 := g5_13.below b14
        go_wp2_with fail
        refine (eqRulRuleS_calls h9 r3 _ _ h9_s r3_14).mono ?_
        rintro e w15 ⟨rfl, b15⟩
        have B15 := below_up B14 b15
        have a_15 := a_14.below b15
        have kx_15 := kx_14.below b15
        have hm_15 := hm_14.below b15
        have r3_15 := r3_14.below b15
        have g5_15 := g5_14.below b15
        have h9_15 := h9_s.below b15
        go_wp2_with fail
        refine (heldRulRuleS_calls g5 1 _ _ (g5_15.sl ruleC_len) (by omega) (by omega)).mono ?_
        rintro e w16 ⟨rfl, b16⟩
        have B16 := below_up B15 b16
        have a_16 := a_15.below b16
        have kx_16 := kx_15.below b16
        have hm_16 := hm_15.below b16
        have r3_16 := r3_15.below b16
        have g5_16 := g5_15.below b16
        go_wp2
        go_ret
        exact ⟨rfl, B16⟩))

set_option maxRecDepth 100000 in
theorem rulPutLaw_lifted (os : Os) (started : os.Started) (H : Type) (enc : TypeId × Value → H) (F : Stop.Interp) :
    ReturnsInHanded {} Tryd.checked os 13 .any ((OpenSpec.ofChange Rows.fnExactRulPutSpec).preRow enc Tryd.prog Tryd.f13 Rows.fnExactRulPutRow.domain false Rows.fnExactRulPutRow.laid) (((OpenSpec.ofChange Rows.fnExactRulPutSpec).at F).post enc Tryd.prog Tryd.f13 false true false false) := by
  obtain ⟨places, hx⟩ := (show ∃ places, DataW.whole enc Tryd.prog ((laidWorld os).forCall (fun _ _ => 0) ⟨#[], #[.slice none 0 0, .agg #[.int .i64 0, .string ByteArray.empty, .string ByteArray.empty, .bool false]], []⟩).memory Tryd.f13.params.toList Rows.fnExactRulPutSpec.vars false (#[.slice none 0 0, .agg #[.int .i64 0, .string ByteArray.empty, .string ByteArray.empty, .bool false]] : Array Value).toList 8 = some ([.nil, .agg [.lit (.int .i64 0), .lit (.string []), .lit (.string []), .lit (.bool false)]], [], places) from ⟨[], by kernel_rfl⟩)
  have hmet : laidMet Tryd.prog Rows.fnExactRulPutRow.laid ((laidWorld os).forCall (fun _ _ => 0) ⟨#[], #[.slice none 0 0, .agg #[.int .i64 0, .string ByteArray.empty, .string ByteArray.empty, .bool false]], []⟩).memory := laidMet_of_run' 8 (by kernel_rfl) (by kernel_rfl)
  refine returnsInHanded_of_row (C := Tryd.checked) (s := OpenSpec.ofChange Rows.fnExactRulPutSpec) Tryd.own started (by kernel_rfl) Tryd.func13
    (witness_row_at (enc := enc) (C := Tryd.checked) false (laidWorld os) #[.slice none 0 0, .agg #[.int .i64 0, .string ByteArray.empty, .string ByteArray.empty, .bool false]] rfl (by kernel_rfl) (by kernel_rfl) (by kernel_rfl)
      (OpenSpec.preRow_of_cond 8 hx (by kernel_rfl) (fun k hk => by cases hk) (by kernel_rfl) hmet)) ?_
  intro W base args ds gs before hval0 hW _ _ _ _ hsh _
  show Calls Tryd.prog 13 args W fun e W2 => ∃ v, e = .returned v ∧ Rows.fnExactRulPutSpec.post enc Tryd.prog Tryd.f13 false true false false W args v W2
  have hval : ∀ (j : Nat) t v, Tryd.f13.params[j]? = some t → args[j]? = some v → Value.okWide Tryd.prog W .any base t v := hval0
  have hW1 : DataW.Whole enc Tryd.prog Tryd.f13.params.toList Rows.fnExactRulPutSpec.vars false W args.toList ds gs before := hW
  have hW2 := hW1
  obtain ⟨p, q, hA0, hV, rfl, _, _⟩ := hW1
  have hA : DataW.TrodAll enc Tryd.prog W 0 (fun _ => true) true Tryd.f13.params.toList args.toList ds p := hA0
  rw [Tryd.params13] at hA hval
  obtain ⟨v0, v1, d0, d1, p0, p1, rfl, rfl, rfl, h0, h1⟩ := trodAll_two hA
  obtain ⟨rfl, rfl⟩ := trodVars_none hV
  clear hA0 hval0 hW
  simp only [List.append_nil] at hW2
  have lt0 : ∀ x ∈ p0, x.block < W.heap.size := fun x hx => hW2.lt x (by simp [hx])
  have lt1 : ∀ x ∈ p1, x.block < W.heap.size := fun x hx => hW2.lt x (by simp [hx])
  have k0 := fun W2 (hb : Below W.heap.size W W2) => Below.trod Tryd.laidOut (by kernel_rfl) (of_decide_eq_true (by kernel_rfl)) h0 hb lt0
  have k1 := fun W2 (hb : Below W.heap.size W W2) => Below.trod Tryd.laidOut (by kernel_rfl) (of_decide_eq_true (by kernel_rfl)) h1 hb lt1
  obtain ⟨x0, wf0⟩ := open_rule (hval 0 37 v0 rfl rfl) h0 lt0
  obtain ⟨x1, wf1⟩ := open_ruleV (hval 1 31 v1 rfl rfl) h1 lt1
  refine (rulPutLaw_calls W hsh v0 x0 wf0 v1 x1 wf1).mono fun e W2 ⟨he, hb⟩ => ?_
  subst he
  exact ⟨_, rfl, _, _, _, [], _, [], hW2, trodAll_mk1 (shut_bool Tryd.underlying4 true), trodAll_mk2 (k0 W2 hb) (k1 W2 hb), rfl, hb.frame _, fun h => by cases h⟩

theorem rulPutLaw_said : Rows.FnExactRulPutSaid :=
  OpenClaim.holds_of_cond 13 Tryd.f13 rfl rfl rfl rfl rfl rfl rfl ⟨rfl, rfl, rfl, rfl, rfl⟩ rfl rfl rfl rfl rfl (by kernel_rfl) Tryd.func13 (by kernel_rfl)
    (of_decide_eq_true (by kernel_rfl)) (by unfold Func.isWrapper; first | (rw [if_pos (by decide +kernel)]; kernel_rfl) | (rw [if_neg (by decide +kernel)]; exact ⟨rfl, rfl⟩))
    (fun os started H enc _ F => by rw [OpenClaim.pre_eq_preRow]; exact rulPutLaw_lifted os started H enc F)
theorem rulPutLaw_plain (f : FuncId) (fn : Func) (hf : Tryd.pinned.checked.prog.funcNamed "loop.example/chartulary/laws.FnExactRulPut" = some f) (hfn : Tryd.pinned.checked.prog.funcs[f]? = some fn) :
    false = Tryd.pinned.checked.prog.looks [] ∧ ∀ (j : Nat) t, fn.params[j]? = some t → Tryd.pinned.checked.prog.wantsStandIn t = false := by
  obtain rfl : f = 13 := Option.some.inj ((show Tryd.prog.funcNamed "loop.example/chartulary/laws.FnExactRulPut" = some 13 by kernel_rfl).symm.trans hf) |>.symm
  obtain rfl : fn = Tryd.f13 := (Option.some.inj (Tryd.func13.symm.trans hfn)).symm
  refine ⟨by kernel_rfl, fun j t ht => ?_⟩
  rw [Tryd.params13] at ht
  have hm := Array.mem_of_getElem? ht
  simp only [List.mem_toArray, List.mem_cons, List.not_mem_nil, or_false] at hm
  rcases hm with rfl | rfl
  · exact (show Tryd.prog.wantsStandIn 37 = false by kernel_rfl)
  · exact (show Tryd.prog.wantsStandIn 31 = false by kernel_rfl)

theorem rulPutLaw_holds : Rows.FnExactRulPutCardSaid :=
  Claim7.holds_tied_plain_at .later [] _ _ _ _ rulPutLaw_said (fun _ h => by cases h) (by kernel_rfl) (fun _ h => by cases h) fnExactRulPut_row_tie rfl ⟨rfl, rfl⟩ (by kernel_rfl) rfl rulPutLaw_plain (by kernel_rfl)
end Go.Proofs.YtmjneiiallgdcaaDoor
