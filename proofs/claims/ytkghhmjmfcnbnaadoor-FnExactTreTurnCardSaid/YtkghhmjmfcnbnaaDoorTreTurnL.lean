/- FnExactTreTurn returns true for every files and edits; the tables that its row lists are tied to the program. No condition. -/
import Derived.Test.YtkghhmjmfcnbnaaDoorTurnI
import Derived.Test.YtkghhmjmfcnbnaaDoorFileMark
import Derived.Test.YtkghhmjmfcnbnaaDoorEditMark
import Derived.Test.YtkghhmjmfcnbnaaDoorTreLaw
import Derived.Test.YtkghhmjmfcnbnaaDoorFileOpen
import Derived.Test.YtkghhmjmfcnbnaaDoorEditOpen
import Derived.Test.YtkghhmjmfcnbnaaDoorLaidW
namespace Go.Proofs.YtkghhmjmfcnbnaaDoor
open Go.ChangeShapes Go.WideShapes Go.ChangeAt Go.RowKit
open Go.ChangeMaps (open_string)

theorem turnT_len (zs : List TFile) (es : List TEdit) : ((turnT zs es).getD []).length ≤ 60 := by
  cases h : turnT zs es with
  | none => simp
  | some M => exact treB_len (turnT_inv h).2.2.2
theorem fine_edits {zs : List TEdit} (h : wsum editT zs ≤ 1048576) : editFine zs := by
  intro z hz
  have h2 : editT z ≤ wsum editT zs := wsum_mem (f := editT) hz
  have h3 : editT z = z.path.size + z.bytes.size := rfl
  unfold maxLen
  omega
set_option maxRecDepth 100000 in
set_option maxHeartbeats 2000000 in
theorem treTurnLaw_calls (W : World) (hsh : W.ShapedOpen Tryd.prog) (v : Value) (zs : List TFile) (hv : Sl 2 fileC W v zs ∧ ∀ z ∈ zs, z.path.size ≤ maxLen ∧ z.bytes.size ≤ maxLen) (v2 : Value) (es : List TEdit) (hv2 : Sl 3 editC W v2 es ∧ ∀ z ∈ es, z.path.size ≤ maxLen ∧ z.bytes.size ≤ maxLen) :
    Calls Tryd.prog 7 #[v, v2] W fun e w' => e = .returned (.bool true) ∧ Below W.heap.size W w' := by
  obtain ⟨hs, ht⟩ := hv
  obtain ⟨hs2, ht2⟩ := hv2
  have hm0 := maxOk_of hsh
  clear hsh
  by_cases hL : (1048576 : Int) < (zs.length + wsum fileT zs : Nat)
  · go_enter Tryd.func7, Tryd.ntmps7
    go_wp2_with fail
    refine (szTreFileS_calls v zs _ _ hs ht (by omega) (by omega)).mono ?_
    rintro e w1 ⟨rfl, hb1⟩
    rw [szR_no hL]
    go_wp2
    go_ret
    exact ⟨rfl, hb1⟩
  · have hn : zs.length ≤ 1048576 := by omega
    by_cases hL2 : (1048576 : Int) - (zs.length + wsum fileT zs : Nat) < (es.length + wsum editT es : Nat)
    · go_enter Tryd.func7, Tryd.ntmps7
      go_wp2_with fail
      refine (szTreFileS_calls v zs _ _ hs ht (by omega) (by omega)).mono ?_
      rintro e w1 ⟨rfl, hb1⟩
      rw [szR_yes (by omega)]
      go_wp2_with fail
      refine (szTreEditS_calls v2 es _ _ (hs2.below hb1) ht2 (by omega) (by omega)).mono ?_
      rintro e w2 ⟨rfl, hb2⟩
      rw [szR_no (by omega)]
      go_wp2
      go_ret
      exact ⟨rfl, below_up hb1 hb2⟩
    have hn2 : es.length ≤ 1048576 := by omega
    have hf := fine_files (zs := zs) (by omega)
    have he := fine_edits (zs := es) (by omega)
    go_enter Tryd.func7, Tryd.ntmps7
    go_wp2_with fail
    refine (szTreFileS_calls v zs _ _ hs ht (by omega) (by omega)).mono ?_
    rintro e w1 ⟨rfl, b1⟩
    rw [szR_yes (by omega)]
    have B1 := below_up (Below.refl _ _) b1
    have a_1 := hs.below b1
    have c_1 := hs2.below b1
    have hm_1 := hm0.below b1
    go_wp2_with fail
    refine (szTreEditS_calls v2 es _ _ c_1 ht2 (by omega) (by omega)).mono ?_
    rintro e w2 ⟨rfl, b2⟩
    rw [szR_yes (by omega)]
    have B2 := below_up B1 b2
    have a_2 := a_1.below b2
    have c_2 := c_1.below b2
    have hm_2 := hm_1.below b2
    have hpl := turnT_len zs es
    go_wp2_with fail
    refine (toTreFileS_calls v zs _ a_2 hn).mono ?_
    rintro e w3 ⟨c3, rfl, c3_o, b3⟩
    have B3 := below_up B2 b3
    have a_3 := a_2.below b3
    have c_3 := c_2.below b3
    have hm_3 := hm_2.below b3
    go_wp2_with fail
    refine (toTreEditS_calls v2 es _ c_3 hn2).mono ?_
    rintro e w4 ⟨d4, rfl, d4_o, b4⟩
    have B4 := below_up B3 b4
    have a_4 := a_3.below b4
    have c_4 := c_3.below b4
    have hm_4 := hm_3.below b4
    have c3_4 := c3_o.below b4
    go_wp2_with fail
    refine (treTurn_spec c3 d4 zs es _ (c3_4.sl fileC_len) (d4_o.sl editC_len) hf he).mono ?_
    rintro e w5 ⟨r5, rfl, r5_o, b5⟩
    have B5 := below_up B4 b5
    have a_5 := a_4.below b5
    have c_5 := c_4.below b5
    have hm_5 := hm_4.below b5
    have c3_5 := c3_4.below b5
    have d4_5 := d4_o.below b5
    go_wp2_with fail
    refine (toTreFileS_calls v zs _ a_5 hn).mono ?_
    rintro e w6 ⟨x6, rfl, x6_o, b6⟩
    have B6 := below_up B5 b6
    have a_6 := a_5.below b6
    have c_6 := c_5.below b6
    have hm_6 := hm_5.below b6
    have r5_6 := r5_o.below b6
    go_wp2_with fail
    refine (toTreEditS_calls v2 es _ c_6 hn2).mono ?_
    rintro e w7 ⟨y7, rfl, y7_o, b7⟩
    have B7 := below_up B6 b7
    have a_7 := a_6.below b7
    have c_7 := c_6.below b7
    have hm_7 := hm_6.below b7
    have r5_7 := r5_6.below b7
    have x6_7 := x6_o.below b7
    go_wp2_with fail
    refine (treTurn_impl x6 y7 zs es _ hm_7 (x6_7.sl fileC_len) (y7_o.sl editC_len) hf he).mono ?_
    rintro e w8 ⟨g8, rfl, g8_o, b8⟩
    have B8 := below_up B7 b8
    have a_8 := a_7.below b8
    have c_8 := c_7.below b8
    have hm_8 := hm_7.below b8
    have r5_8 := r5_7.below b8
    have x6_8 := x6_7.below b8
    have y7_8 := y7_o.below b8
    go_wp2_with fail
    refine (eqTreFileS_calls g8 r5 _ _ (g8_o.sl fileC_len) (r5_8.sl fileC_len)).mono ?_
    rintro e w9 ⟨rfl, b9⟩
    have B9 := below_up B8 b9
    have a_9 := a_8.below b9
    have c_9 := c_8.below b9
    have hm_9 := hm_8.below b9
    have r5_9 := r5_8.below b9
    have x6_9 := x6_8.below b9
    have y7_9 := y7_8.below b9
    have g8_9 := g8_o.below b9
    go_wp2_with fail
    refine (toTreFileS_calls v zs _ a_9 hn).mono ?_
    rintro e w10 ⟨e9, rfl, e9_o, b10⟩
    have B10 := below_up B9 b10
    have a_10 := a_9.below b10
    have c_10 := c_9.below b10
    have hm_10 := hm_9.below b10
    have r5_10 := r5_9.below b10
    have x6_10 := x6_9.below b10
    have y7_10 := y7_9.below b10
    have g8_10 := g8_9.below b10
    go_wp2_with fail
    refine (eqTreFileS_calls x6 e9 zs _ (x6_10.sl fileC_len) (e9_o.sl fileC_len)).mono ?_
    rintro e w11 ⟨rfl, b11⟩
    have B11 := below_up B10 b11
    have a_11 := a_10.below b11
    have c_11 := c_10.below b11
    have hm_11 := hm_10.below b11
    have r5_11 := r5_10.below b11
    have x6_11 := x6_10.below b11
    have y7_11 := y7_10.below b11
    have g8_11 := g8_10.below b11
    have e9_11 := e9_o.below b11
    go_wp2_with fail
    refine (toTreEditS_calls v2 es _ c_11 hn2).mono ?_
    rintro e w12 ⟨e10, rfl, e10_o, b12⟩
    have B12 := below_up B11 b12
    have a_12 := a_11.below b12
    have c_12 := c_11.below b12
    have hm_12 := hm_11.below b12
    have r5_12 := r5_11.below b12
    have x6_12 := x6_11.below b12
    have y7_12 := y7_11.below b12
    have g8_12 := g8_11.below b12
    go_wp2_with fail
    refine (eqTreEditS_calls y7 e10 es _ (y7_12.sl editC_len) (e10_o.sl editC_len)).mono ?_
    rintro e w13 ⟨rfl, b13⟩
    have B13 := below_up B12 b13
    have a_13 := a_12.below b13
    have c_13 := c_12.below b13
    have hm_13 := hm_12.below b13
    have r5_13 := r5_12.below b13
    have x6_13 := x6_12.below b13
    have y7_13 := y7_12.below b13
    have g8_13 := g8_12.below b13
    have e10_13 := e10_o.below b13
    go_wp2_with fail
    refine (markTreFileS_calls x6 zs 1 _ _ x6_13 (by omega) (by omega)).mono ?_
    rintro e w14 ⟨rfl, x6_m, g14⟩
    have B14 := below_mark B13 x6_13 (Nat.le_trans b1.size (Nat.le_trans b2.size (Nat.le_trans b3.size (Nat.le_trans b4.size b5.size)))) g14
    have a_14 := sl_older a_13 hs x6_13 (Nat.le_trans b1.size (Nat.le_trans b2.size (Nat.le_trans b3.size (Nat.le_trans b4.size b5.size)))) g14
    have c_14 := sl_older c_13 hs2 x6_13 (Nat.le_trans b1.size (Nat.le_trans b2.size (Nat.le_trans b3.size (Nat.le_trans b4.size b5.size)))) g14
    have hm_14 := hm_13.mark hm0 x6_13 (Nat.le_trans b1.size (Nat.le_trans b2.size (Nat.le_trans b3.size (Nat.le_trans b4.size b5.size)))) g14
    have r5_14 := sl_older (r5_13.sl fileC_len) (r5_o.sl fileC_len) x6_13 (Nat.le_refl _) g14
    have y7_14 := own_newer y7_13 x6_o (Nat.le_refl _) g14
    have g8_14 := own_newer g8_13 x6_o b7.size g14
    go_wp2_with fail
    refine (markTreEditS_calls y7 es (1 + 2 * zs.length) _ _ y7_14 (by omega) (by omega)).mono ?_
    rintro e w15 ⟨rfl, y7_m, g15⟩
    have B15 := below_mark B14 y7_14 (Nat.le_trans b1.size (Nat.le_trans b2.size (Nat.le_trans b3.size (Nat.le_trans b4.size (Nat.le_trans b5.size b6.size))))) g15
    have a_15 := sl_older a_14 hs y7_14 (Nat.le_trans b1.size (Nat.le_trans b2.size (Nat.le_trans b3.size (Nat.le_trans b4.size (Nat.le_trans b5.size b6.size))))) g15
    have c_15 := sl_older c_14 hs2 y7_14 (Nat.le_trans b1.size (Nat.le_trans b2.size (Nat.le_trans b3.size (Nat.le_trans b4.size (Nat.le_trans b5.size b6.size))))) g15
    have hm_15 := hm_14.mark hm0 y7_14 (Nat.le_trans b1.size (Nat.le_trans b2.size (Nat.le_trans b3.size (Nat.le_trans b4.size (Nat.le_trans b5.size b6.size))))) g15
    have r5_15 := sl_older r5_14 (r5_o.sl fileC_len) y7_14 b6.size g15
    have g8_15 := own_newer g8_14 y7_o (Nat.le_refl _) g15
    go_wp2_with fail
    refine (eqTreFileS_calls g8 r5 _ _ (g8_15.sl fileC_len) r5_15).mono ?_
    rintro e w16 ⟨rfl, b16⟩
    have B16 := below_up B15 b16
    have a_16 := a_15.below b16
    have c_16 := c_15.below b16
    have hm_16 := hm_15.below b16
    have r5_16 := r5_15.below b16
    have g8_16 := g8_15.below b16
    go_wp2_with fail
    refine (markTreFileS_calls g8 _ 1 _ _ g8_16 (by omega) (by omega)).mono ?_
    rintro e w17 ⟨rfl, g8_m, g17⟩
    have B17 := below_mark B16 g8_16 (Nat.le_trans b1.size (Nat.le_trans b2.size (Nat.le_trans b3.size (Nat.le_trans b4.size (Nat.le_trans b5.size (Nat.le_trans b6.size b7.size)))))) g17
    have a_17 := sl_older a_16 hs g8_16 (Nat.le_trans b1.size (Nat.le_trans b2.size (Nat.le_trans b3.size (Nat.le_trans b4.size (Nat.le_trans b5.size (Nat.le_trans b6.size b7.size)))))) g17
    have c_17 := sl_older c_16 hs2 g8_16 (Nat.le_trans b1.size (Nat.le_trans b2.size (Nat.le_trans b3.size (Nat.le_trans b4.size (Nat.le_trans b5.size (Nat.le_trans b6.size b7.size)))))) g17
    have hm_17 := hm_16.mark hm0 g8_16 (Nat.le_trans b1.size (Nat.le_trans b2.size (Nat.le_trans b3.size (Nat.le_trans b4.size (Nat.le_trans b5.size (Nat.le_trans b6.size b7.size)))))) g17
    have r5_17 := sl_older r5_16 (r5_o.sl fileC_len) g8_16 (Nat.le_trans b6.size b7.size) g17
    go_wp2_with fail
    refine (heldTreFileS_calls g8 1 _ _ (g8_m.sl fileC_len) (by omega) (by omega)).mono ?_
    rintro e w18 ⟨rfl, b18⟩
    have B18 := below_up B17 b18
    have a_18 := a_17.below b18
    have c_18 := c_17.below b18
    have hm_18 := hm_17.below b18
    have r5_18 := r5_17.below b18
    have g8_18 := g8_m.below b18
    go_wp2_with fail
    refine (toTreFileS_calls v zs _ a_18 hn).mono ?_
    rintro e w19 ⟨x11, rfl, x11_o, b19⟩
    have B19 := below_up B18 b19
    have a_19 := a_18.below b19
    have c_19 := c_18.below b19
    have hm_19 := hm_18.below b19
    have r5_19 := r5_18.below b19
    have g8_19 := g8_18.below b19
    go_wp2_with fail
    refine (toTreEditS_calls v2 es _ c_19 hn2).mono ?_
    rintro e w20 ⟨y12, rfl, y12_o, b20⟩
    have B20 := below_up B19 b20
    have a_20 := a_19.below b20
    have c_20 := c_19.below b20
    have hm_20 := hm_19.below b20
    have r5_20 := r5_19.below b20
    have g8_20 := g8_19.below b20
    have x11_20 := x11_o.below b20
    go_wp2_with fail
    refine (treTurn_impl x11 y12 zs es _ hm_20 (x11_20.sl fileC_len) (y12_o.sl editC_len) hf he).mono ?_
    rintro e w21 ⟨h13, rfl, h13_o, b21⟩
    have B21 := below_up B20 b21
    have a_21 := a_20.below b21
    have c_21 := c_20.below b21
    have hm_21 := hm_20.below b21
    have r5_21 := r5_20.below b21
    have g8_21 := g8_20.below b21
    have x11_21 := x11_20.below b21
    have y12_21 := y12_o.below b21
    go_wp2_with fail
    refine (eqTreFileS_calls h13 r5 _ _ (h13_o.sl fileC_len) r5_21).mono ?_
    rintro e w22 ⟨rfl, b22⟩
    have B22 := below_up B21 b22
    have a_22 := a_21.below b22
    have c_22 := c_21.below b22
    have hm_22 := hm_21.below b22
    have r5_22 := r5_21.below b22
    have g8_22 := g8_21.below b22
    have h13_22 := h13_o.below b22
    go_wp2_with fail
    refine (heldTreFileS_calls g8 1 _ _ (g8_22.sl fileC_len) (by omega) (by omega)).mono ?_
    rintro e w23 ⟨rfl, b23⟩
    have B23 := below_up B22 b23
    have a_23 := a_22.below b23
    have c_23 := c_22.below b23
    have hm_23 := hm_22.below b23
    have r5_23 := r5_22.below b23
    have g8_23 := g8_22.below b23
    go_wp2
    go_ret
    exact ⟨rfl, B23⟩

set_option maxRecDepth 100000 in
theorem treTurnLaw_lifted (os : Os) (started : os.Started) (H : Type) (enc : TypeId × Value → H) (F : Stop.Interp) :
    ReturnsInHanded {} Tryd.checked os 7 .any ((OpenSpec.ofChange Rows.fnExactTreTurnSpec).preRow enc Tryd.prog Tryd.f7 Rows.fnExactTreTurnRow.domain false Rows.fnExactTreTurnRow.laid) (((OpenSpec.ofChange Rows.fnExactTreTurnSpec).at F).post enc Tryd.prog Tryd.f7 false true false false) := by
  obtain ⟨places, hx⟩ := (show ∃ places, DataW.whole enc Tryd.prog ((laidWorld os).forCall (fun _ _ => 0) ⟨#[], #[.slice none 0 0, .slice none 0 0], []⟩).memory Tryd.f7.params.toList Rows.fnExactTreTurnSpec.vars false (#[.slice none 0 0, .slice none 0 0] : Array Value).toList 8 = some ([.nil, .nil], [], places) from ⟨[], by kernel_rfl⟩)
  have hmet : laidMet Tryd.prog Rows.fnExactTreTurnRow.laid ((laidWorld os).forCall (fun _ _ => 0) ⟨#[], #[.slice none 0 0, .slice none 0 0], []⟩).memory := laidMet_of_run' 8 (by kernel_rfl) (by kernel_rfl)
  refine returnsInHanded_of_row (C := Tryd.checked) (s := OpenSpec.ofChange Rows.fnExactTreTurnSpec) Tryd.own started (by kernel_rfl) Tryd.func7
    (witness_row_at (enc := enc) (C := Tryd.checked) false (laidWorld os) #[.slice none 0 0, .slice none 0 0] rfl (by kernel_rfl) (by kernel_rfl) (by kernel_rfl)
      (OpenSpec.preRow_of_cond 8 hx (by kernel_rfl) (fun k hk => by cases hk) (by kernel_rfl) hmet)) ?_
  intro W base args ds gs before hval0 hW _ _ _ _ hsh _
  show Calls Tryd.prog 7 args W fun e W2 => ∃ v, e = .returned v ∧ Rows.fnExactTreTurnSpec.post enc Tryd.prog Tryd.f7 false true false false W args v W2
  have hval : ∀ (j : Nat) t v, Tryd.f7.params[j]? = some t → args[j]? = some v → Value.okWide Tryd.prog W .any base t v := hval0
  have hW1 : DataW.Whole enc Tryd.prog Tryd.f7.params.toList Rows.fnExactTreTurnSpec.vars false W args.toList ds gs before := hW
  have hW2 := hW1
  obtain ⟨p, q, hA0, hV, rfl, _, _⟩ := hW1
  have hA : DataW.TrodAll enc Tryd.prog W 0 (fun _ => true) true Tryd.f7.params.toList args.toList ds p := hA0
  rw [Tryd.params7] at hA hval
  obtain ⟨v0, v1, d0, d1, p0, p1, rfl, rfl, rfl, h0, h1⟩ := trodAll_two hA
  obtain ⟨rfl, rfl⟩ := trodVars_none hV
  clear hA0 hval0 hW
  simp only [List.append_nil] at hW2
  have lt0 : ∀ x ∈ p0, x.block < W.heap.size := fun x hx => hW2.lt x (by simp [hx])
  have lt1 : ∀ x ∈ p1, x.block < W.heap.size := fun x hx => hW2.lt x (by simp [hx])
  have k0 := fun W2 (hb : Below W.heap.size W W2) => Below.trod Tryd.laidOut (by kernel_rfl) (of_decide_eq_true (by kernel_rfl)) h0 hb lt0
  have k1 := fun W2 (hb : Below W.heap.size W W2) => Below.trod Tryd.laidOut (by kernel_rfl) (of_decide_eq_true (by kernel_rfl)) h1 hb lt1
  obtain ⟨x0, wf0⟩ := open_file (hval 0 22 v0 rfl rfl) h0 lt0
  obtain ⟨x1, wf1⟩ := open_edit (hval 1 56 v1 rfl rfl) h1 lt1
  refine (treTurnLaw_calls W hsh v0 x0 wf0 v1 x1 wf1).mono fun e W2 ⟨he, hb⟩ => ?_
  subst he
  exact ⟨_, rfl, _, _, _, [], _, [], hW2, trodAll_mk1 (shut_bool Tryd.underlying4 true), trodAll_mk2 (k0 W2 hb) (k1 W2 hb), rfl, hb.frame _, fun h => by cases h⟩

theorem treTurnLaw_said : Rows.FnExactTreTurnSaid :=
  OpenClaim.holds_of_cond 7 Tryd.f7 rfl rfl rfl rfl rfl rfl rfl ⟨rfl, rfl, rfl, rfl, rfl⟩ rfl rfl rfl rfl rfl (by kernel_rfl) Tryd.func7 (by kernel_rfl)
    (of_decide_eq_true (by kernel_rfl)) (by unfold Func.isWrapper; first | (rw [if_pos (by decide +kernel)]; kernel_rfl) | (rw [if_neg (by decide +kernel)]; exact ⟨rfl, rfl⟩))
    (fun os started H enc _ F => by rw [OpenClaim.pre_eq_preRow]; exact treTurnLaw_lifted os started H enc F)
theorem treTurnLaw_plain (f : FuncId) (fn : Func) (hf : Tryd.pinned.checked.prog.funcNamed "loop.example/chartulary/laws.FnExactTreTurn" = some f) (hfn : Tryd.pinned.checked.prog.funcs[f]? = some fn) :
    false = Tryd.pinned.checked.prog.looks [] ∧ ∀ (j : Nat) t, fn.params[j]? = some t → Tryd.pinned.checked.prog.wantsStandIn t = false := by
  obtain rfl : f = 7 := Option.some.inj ((show Tryd.prog.funcNamed "loop.example/chartulary/laws.FnExactTreTurn" = some 7 by kernel_rfl).symm.trans hf) |>.symm
  obtain rfl : fn = Tryd.f7 := (Option.some.inj (Tryd.func7.symm.trans hfn)).symm
  refine ⟨by kernel_rfl, fun j t ht => ?_⟩
  rw [Tryd.params7] at ht
  have hm := Array.mem_of_getElem? ht
  simp only [List.mem_toArray, List.mem_cons, List.not_mem_nil, or_false] at hm
  rcases hm with rfl | rfl
  · exact (show Tryd.prog.wantsStandIn 22 = false by kernel_rfl)
  · exact (show Tryd.prog.wantsStandIn 56 = false by kernel_rfl)

theorem treTurnLaw_holds : Rows.FnExactTreTurnCardSaid :=
  Claim7.holds_tied_plain_at .later [] _ _ _ _ treTurnLaw_said (fun _ h => by cases h) (by kernel_rfl) (fun _ h => by cases h) fnExactTreTurn_row_tie rfl ⟨rfl, rfl⟩ (by kernel_rfl) rfl treTurnLaw_plain (by kernel_rfl)
end Go.Proofs.YtkghhmjmfcnbnaaDoor
