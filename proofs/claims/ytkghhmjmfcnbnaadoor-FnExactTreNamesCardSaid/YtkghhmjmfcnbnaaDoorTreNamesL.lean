/- FnExactTreNames returns true for every list of files and path; the tables that its row lists are tied to the program. No condition. -/
import Derived.Test.YtkghhmjmfcnbnaaDoorNmsI
import Derived.Test.YtkghhmjmfcnbnaaDoorFileMark
import Derived.Test.YtkghhmjmfcnbnaaDoorTreLaw
import Derived.Test.YtkghhmjmfcnbnaaDoorFileOpen
import Derived.Test.YtkghhmjmfcnbnaaDoorLaidW
namespace Go.Proofs.YtkghhmjmfcnbnaaDoor
open Go.ChangeShapes Go.WideShapes Go.ChangeAt Go.RowKit
open Go.ChangeMaps (open_string)

set_option maxRecDepth 100000 in
set_option maxHeartbeats 2000000 in
theorem treNamesLaw_calls (W : World) (hsh : W.ShapedOpen Tryd.prog) (v : Value) (zs : List TFile) (hv : Sl 2 fileC W v zs ∧ ∀ z ∈ zs, z.path.size ≤ maxLen ∧ z.bytes.size ≤ maxLen) (path : ByteArray) (hp : path.size ≤ maxLen) :
    Calls Tryd.prog 3 #[v, .string path] W fun e w' => e = .returned (.bool true) ∧ Below W.heap.size W w' := by
  obtain ⟨hs, ht⟩ := hv
  have hm0 := maxOk_of hsh
  clear hsh
  have hp2 := hp
  unfold maxLen at hp2
  by_cases gpath : (1048576 : Int) < path.size
  · go_enter Tryd.func3, Tryd.ntmps3
    go_wp2
    go_ret
    exact ⟨rfl, Below.refl _ _⟩
  by_cases hL : (1048576 : Int) < (zs.length + wsum fileT zs : Nat)
  · go_enter Tryd.func3, Tryd.ntmps3
    go_wp2_with fail
    refine (szTreFileS_calls v zs _ _ hs ht (by omega) (by omega)).mono ?_
    rintro e w1 ⟨rfl, hb1⟩
    rw [szR_no hL]
    go_wp2
    go_ret
    exact ⟨rfl, hb1⟩
  · have hn : zs.length ≤ 1048576 := by omega
    have hf := fine_files (zs := zs) (by omega)
    go_enter Tryd.func3, Tryd.ntmps3
    go_wp2_with fail
    refine (szTreFileS_calls v zs _ _ hs ht (by omega) (by omega)).mono ?_
    rintro e w1 ⟨rfl, b1⟩
    rw [szR_yes (by omega)]
    have B1 := below_up (Below.refl _ _) b1
    have a_1 := hs.below b1
    have hm_1 := hm0.below b1
    have hpl := namesB_len path zs
    go_wp2_with fail
    refine (toTreFileS_calls v zs _ a_1 hn).mono ?_
    rintro e w2 ⟨c2, rfl, c2_o, b2⟩
    have B2 := below_up B1 b2
    have a_2 := a_1.below b2
    have hm_2 := hm_1.below b2
    go_wp2_with fail
    refine (names_spec c2 zs path _ (c2_o.sl fileC_len) hf hn (by omega)).mono ?_
    rintro e w3 ⟨r3, rfl, r3_o, b3⟩
    have B3 := below_up B2 b3
    have a_3 := a_2.below b3
    have hm_3 := hm_2.below b3
    have c2_3 := c2_o.below b3
    go_wp2_with fail
    refine (toTreFileS_calls v zs _ a_3 hn).mono ?_
    rintro e w4 ⟨x4, rfl, x4_o, b4⟩
    have B4 := below_up B3 b4
    have a_4 := a_3.below b4
    have hm_4 := hm_3.below b4
    have r3_4 := r3_o.below b4
    go_wp2_with fail
    refine (names_impl x4 zs path _ hm_4 (x4_o.sl fileC_len) hf hn (by omega)).mono ?_
    rintro e w5 ⟨g5, rfl, g5_o, b5⟩
    have B5 := below_up B4 b5
    have a_5 := a_4.below b5
    have hm_5 := hm_4.below b5
    have r3_5 := r3_4.below b5
    have x4_5 := x4_o.below b5
    go_wp2_with fail
    refine (eqStringS_calls g5 r3 _ _ (g5_o.sl strC_len) (r3_5.sl strC_len)).mono ?_
    rintro e w6 ⟨rfl, b6⟩
    have B6 := below_up B5 b6
    have a_6 := a_5.below b6
    have hm_6 := hm_5.below b6
    have r3_6 := r3_5.below b6
    have x4_6 := x4_5.below b6
    have g5_6 := g5_o.below b6
    go_wp2_with fail
    refine (toTreFileS_calls v zs _ a_6 hn).mono ?_
    rintro e w7 ⟨c7, rfl, c7_o, b7⟩
    have B7 := below_up B6 b7
    have a_7 := a_6.below b7
    have hm_7 := hm_6.below b7
    have r3_7 := r3_6.below b7
    have x4_7 := x4_6.below b7
    have g5_7 := g5_6.below b7
    go_wp2_with fail
    refine (eqTreFileS_calls x4 c7 zs _ (x4_7.sl fileC_len) (c7_o.sl fileC_len)).mono ?_
    rintro e w8 ⟨rfl, b8⟩
    have B8 := below_up B7 b8
    have a_8 := a_7.below b8
    have hm_8 := hm_7.below b8
    have r3_8 := r3_7.below b8
    have x4_8 := x4_7.below b8
    have g5_8 := g5_7.below b8
    have c7_8 := c7_o.below b8
    go_wp2_with fail
    refine (markTreFileS_calls x4 zs 1 _ _ x4_8 (by omega) (by omega)).mono ?_
    rintro e w9 ⟨rfl, x4_m, g9⟩
    have B9 := below_mark B8 x4_8 (Nat.le_trans b1.size (Nat.le_trans b2.size b3.size)) g9
    have a_9 := sl_older a_8 hs x4_8 (Nat.le_trans b1.size (Nat.le_trans b2.size b3.size)) g9
    have hm_9 := hm_8.mark hm0 x4_8 (Nat.le_trans b1.size (Nat.le_trans b2.size b3.size)) g9
    have r3_9 := sl_older (r3_8.sl strC_len) (r3_o.sl strC_len) x4_8 (Nat.le_refl _) g9
    have g5_9 := own_newer g5_8 x4_o (Nat.le_refl _) g9
    go_wp2_with fail
    refine (eqStringS_calls g5 r3 _ _ (g5_9.sl strC_len) r3_9).mono ?_
    rintro e w10 ⟨rfl, b10⟩
    have B10 := below_up B9 b10
    have a_10 := a_9.below b10
    have hm_10 := hm_9.below b10
    have r3_10 := r3_9.below b10
    have g5_10 := g5_9.below b10
    go_wp2_with fail
    refine (markStringS_calls g5 _ 1 _ _ g5_10 (by omega) (by omega)).mono ?_
    rintro e w11 ⟨rfl, g5_m, g11⟩
    have B11 := below_mark B10 g5_10 (Nat.le_trans b1.size (Nat.le_trans b2.size (Nat.le_trans b3.size b4.size))) g11
    have a_11 := sl_older a_10 hs g5_10 (Nat.le_trans b1.size (Nat.le_trans b2.size (Nat.le_trans b3.size b4.size))) g11
    have hm_11 := hm_10.mark hm0 g5_10 (Nat.le_trans b1.size (Nat.le_trans b2.size (Nat.le_trans b3.size b4.size))) g11
    have r3_11 := sl_older r3_10 (r3_o.sl strC_len) g5_10 b4.size g11
    go_wp2_with fail
    refine (heldStringS_calls g5 1 _ _ (g5_m.sl strC_len) (by omega) (by omega)).mono ?_
    rintro e w12 ⟨rfl, b12⟩
    have B12 := below_up B11 b12
    have a_12 := a_11.below b12
    have hm_12 := hm_11.below b12
    have r3_12 := r3_11.below b12
    have g5_12 := g5_m.below b12
    go_wp2_with fail
    refine (toTreFileS_calls v zs _ a_12 hn).mono ?_
    rintro e w13 ⟨c9, rfl, c9_o, b13⟩
    have B13 := below_up B12 b13
    have a_13 := a_12.below b13
    have hm_13 := hm_12.below b13
    have r3_13 := r3_12.below b13
    have g5_13 := g5_12.below b13
    go_wp2_with fail
    refine (names_impl c9 zs path _ hm_13 (c9_o.sl fileC_len) hf hn (by omega)).mono ?_
    rintro e w14 ⟨h0, rfl, h0_o, b14⟩
    have B14 := below_up B13 b14
    have a_14 := a_13.below b14
    have hm_14 := hm_13.below b14
    have r3_14 := r3_13.below b14
    have g5_14 := g5_13.below b14
    have c9_14 := c9_o.below b14
    go_wp2_with fail
    refine (eqStringS_calls h0 r3 _ _ (h0_o.sl strC_len) r3_14).mono ?_
    rintro e w15 ⟨rfl, b15⟩
    have B15 := below_up B14 b15
    have a_15 := a_14.below b15
    have hm_15 := hm_14.below b15
    have r3_15 := r3_14.below b15
    have g5_15 := g5_14.below b15
    have h0_15 := h0_o.below b15
    go_wp2_with fail
    refine (heldStringS_calls g5 1 _ _ (g5_15.sl strC_len) (by omega) (by omega)).mono ?_
    rintro e w16 ⟨rfl, b16⟩
    have B16 := below_up B15 b16
    have a_16 := a_15.below b16
    have hm_16 := hm_15.below b16
    have r3_16 := r3_15.below b16
    have g5_16 := g5_15.below b16
    go_wp2
    go_ret
    exact ⟨rfl, B16⟩

set_option maxRecDepth 100000 in
theorem treNamesLaw_lifted (os : Os) (started : os.Started) (H : Type) (enc : TypeId × Value → H) (F : Stop.Interp) :
    ReturnsInHanded {} Tryd.checked os 3 .any ((OpenSpec.ofChange Rows.fnExactTreNamesSpec).preRow enc Tryd.prog Tryd.f3 Rows.fnExactTreNamesRow.domain false Rows.fnExactTreNamesRow.laid) (((OpenSpec.ofChange Rows.fnExactTreNamesSpec).at F).post enc Tryd.prog Tryd.f3 false true false false) := by
  obtain ⟨places, hx⟩ := (show ∃ places, DataW.whole enc Tryd.prog ((laidWorld os).forCall (fun _ _ => 0) ⟨#[], #[.slice none 0 0, .string ByteArray.empty], []⟩).memory Tryd.f3.params.toList Rows.fnExactTreNamesSpec.vars false (#[.slice none 0 0, .string ByteArray.empty] : Array Value).toList 8 = some ([.nil, .lit (.string [])], [], places) from ⟨[], by kernel_rfl⟩)
  have hmet : laidMet Tryd.prog Rows.fnExactTreNamesRow.laid ((laidWorld os).forCall (fun _ _ => 0) ⟨#[], #[.slice none 0 0, .string ByteArray.empty], []⟩).memory := laidMet_of_run' 8 (by kernel_rfl) (by kernel_rfl)
  refine returnsInHanded_of_row (C := Tryd.checked) (s := OpenSpec.ofChange Rows.fnExactTreNamesSpec) Tryd.own started (by kernel_rfl) Tryd.func3
    (witness_row_at (enc := enc) (C := Tryd.checked) false (laidWorld os) #[.slice none 0 0, .string ByteArray.empty] rfl (by kernel_rfl) (by kernel_rfl) (by kernel_rfl)
      (OpenSpec.preRow_of_cond 8 hx (by kernel_rfl) (fun k hk => by cases hk) (by kernel_rfl) hmet)) ?_
  intro W base args ds gs before hval0 hW _ _ _ _ hsh _
  show Calls Tryd.prog 3 args W fun e W2 => ∃ v, e = .returned v ∧ Rows.fnExactTreNamesSpec.post enc Tryd.prog Tryd.f3 false true false false W args v W2
  have hval : ∀ (j : Nat) t v, Tryd.f3.params[j]? = some t → args[j]? = some v → Value.okWide Tryd.prog W .any base t v := hval0
  have hW1 : DataW.Whole enc Tryd.prog Tryd.f3.params.toList Rows.fnExactTreNamesSpec.vars false W args.toList ds gs before := hW
  have hW2 := hW1
  obtain ⟨p, q, hA0, hV, rfl, _, _⟩ := hW1
  have hA : DataW.TrodAll enc Tryd.prog W 0 (fun _ => true) true Tryd.f3.params.toList args.toList ds p := hA0
  rw [Tryd.params3] at hA hval
  obtain ⟨v0, v1, d0, d1, p0, p1, rfl, rfl, rfl, h0, h1⟩ := trodAll_two hA
  obtain ⟨rfl, rfl⟩ := trodVars_none hV
  clear hA0 hval0 hW
  simp only [List.append_nil] at hW2
  have lt0 : ∀ x ∈ p0, x.block < W.heap.size := fun x hx => hW2.lt x (by simp [hx])
  have lt1 : ∀ x ∈ p1, x.block < W.heap.size := fun x hx => hW2.lt x (by simp [hx])
  have k0 := fun W2 (hb : Below W.heap.size W W2) => Below.trod Tryd.laidOut (by kernel_rfl) (of_decide_eq_true (by kernel_rfl)) h0 hb lt0
  have k1 := fun W2 (hb : Below W.heap.size W W2) => Below.trod Tryd.laidOut (by kernel_rfl) (of_decide_eq_true (by kernel_rfl)) h1 hb lt1
  obtain ⟨x0, wf0⟩ := open_file (hval 0 22 v0 rfl rfl) h0 lt0
  obtain ⟨x1, rfl, -, -, wf1⟩ := open_string Tryd.underlying9 (hval 1 9 v1 rfl rfl) h1
  refine (treNamesLaw_calls W hsh v0 x0 wf0 x1 wf1).mono fun e W2 ⟨he, hb⟩ => ?_
  subst he
  exact ⟨_, rfl, _, _, _, [], _, [], hW2, trodAll_mk1 (shut_bool Tryd.underlying4 true), trodAll_mk2 (k0 W2 hb) (k1 W2 hb), rfl, hb.frame _, fun h => by cases h⟩

theorem treNamesLaw_said : Rows.FnExactTreNamesSaid :=
  OpenClaim.holds_of_cond 3 Tryd.f3 rfl rfl rfl rfl rfl rfl rfl ⟨rfl, rfl, rfl, rfl, rfl⟩ rfl rfl rfl rfl rfl (by kernel_rfl) Tryd.func3 (by kernel_rfl)
    (of_decide_eq_true (by kernel_rfl)) (by unfold Func.isWrapper; first | (rw [if_pos (by decide +kernel)]; kernel_rfl) | (rw [if_neg (by decide +kernel)]; exact ⟨rfl, rfl⟩))
    (fun os started H enc _ F => by rw [OpenClaim.pre_eq_preRow]; exact treNamesLaw_lifted os started H enc F)
theorem treNamesLaw_plain (f : FuncId) (fn : Func) (hf : Tryd.pinned.checked.prog.funcNamed "loop.example/chartulary/laws.FnExactTreNames" = some f) (hfn : Tryd.pinned.checked.prog.funcs[f]? = some fn) :
    false = Tryd.pinned.checked.prog.looks [] ∧ ∀ (j : Nat) t, fn.params[j]? = some t → Tryd.pinned.checked.prog.wantsStandIn t = false := by
  obtain rfl : f = 3 := Option.some.inj ((show Tryd.prog.funcNamed "loop.example/chartulary/laws.FnExactTreNames" = some 3 by kernel_rfl).symm.trans hf) |>.symm
  obtain rfl : fn = Tryd.f3 := (Option.some.inj (Tryd.func3.symm.trans hfn)).symm
  refine ⟨by kernel_rfl, fun j t ht => ?_⟩
  rw [Tryd.params3] at ht
  have hm := Array.mem_of_getElem? ht
  simp only [List.mem_toArray, List.mem_cons, List.not_mem_nil, or_false] at hm
  rcases hm with rfl | rfl
  · exact (show Tryd.prog.wantsStandIn 22 = false by kernel_rfl)
  · exact (show Tryd.prog.wantsStandIn 9 = false by kernel_rfl)

theorem treNamesLaw_holds : Rows.FnExactTreNamesCardSaid :=
  Claim7.holds_tied_plain_at .later [] _ _ _ _ treNamesLaw_said (fun _ h => by cases h) (by kernel_rfl) (fun _ h => by cases h) fnExactTreNames_row_tie rfl ⟨rfl, rfl⟩ (by kernel_rfl) rfl treNamesLaw_plain (by kernel_rfl)
end Go.Proofs.YtkghhmjmfcnbnaaDoor
