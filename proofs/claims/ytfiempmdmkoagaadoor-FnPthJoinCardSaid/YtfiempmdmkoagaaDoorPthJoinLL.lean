/- FnPthJoin returns true for every input; the tables that its row lists are tied to the program. No condition. -/
import Derived.Test.YtfiempmdmkoagaaDoorDrawU
import Derived.Test.YtfiempmdmkoagaaDoorPthJ
import Derived.Test.YtfiempmdmkoagaaDoorByteOpen
import Derived.Test.YtfiempmdmkoagaaDoorLaidW
namespace Go.Proofs.YtfiempmdmkoagaaDoor
open Go.ChangeShapes Go.WideShapes Go.ChangeAt Go.RowKit

theorem ab_join : joinB ⟨#[97]⟩ ⟨#[98]⟩ = ⟨#[97, 47, 98]⟩ := toL_inj (by decide)
theorem join_undB {a b : ByteArray} (h : ¬ toL (joinB a b) = []) : undB a (joinB a b) = true := joinL_und h
theorem partsB_N {a : ByteArray} (h : pthB a = true) : (partsB a).length = partsN (toL a) := by
  by_cases h0 : toL a = []
  · rw [parts_nil h0]; unfold partsN; rw [if_pos h0]; rfl
  · rw [parts_yes h0 h]; unfold partsN cutB; rw [if_neg h0, List.length_map]
theorem join_assocB {a b c : ByteArray} (ha : pthB a = true) (hb : pthB b = true) (hc : pthB c = true) (h : (partsB a).length + (partsB b).length + (partsB c).length ≤ 3) : joinB (joinB a b) c = joinB a (joinB b c) := by
  rw [partsB_N ha, partsB_N hb, partsB_N hc] at h
  apply toL_inj
  exact joinL_assoc ha hb hc h

set_option maxRecDepth 100000 in
set_option maxHeartbeats 8000000 in
theorem pthJoinL_calls (W : World) (hsh : W.ShapedOpen Tryd.prog) (v : Value) (bs : List UInt8) (hs : Sl 1 byteC W v bs) (v' : Value) (bs' : List UInt8) (hs' : Sl 1 byteC W v' bs') :
    Calls Tryd.prog 4 #[v, v'] W fun e w' => e = .returned (.bool true) ∧ Below W.heap.size W w' := by
  have hm0 := maxOk_of hsh
  clear hsh
  obtain ⟨A, c, rfl, hlc, hc, -⟩ := id hs
  obtain ⟨A', c', rfl, hlc', hc', -⟩ := id hs'
  unfold maxLen at hc hc'
  by_cases hL : (1048576 : Int) < (bs.length : Nat)
  · go_enter Tryd.func4, Tryd.ntmps4
    go_wp2
    go_ret
    exact ⟨rfl, below0 W⟩
  · by_cases hL' : (1048576 : Int) < (bs'.length : Nat)
    · go_enter Tryd.func4, Tryd.ntmps4
      go_wp2
      go_ret
      exact ⟨rfl, below0 W⟩
    · go_enter Tryd.func4, Tryd.ntmps4
      go_wp2_with fail
      refine (drawPthJoin_calls _ bs _ hs).mono ?_
      rintro e w1 ⟨a, b, ha, hb, rfl, b1⟩
      go_wp2_with fail
      refine (drawPthJoin_calls _ bs' _ (hs'.below b1)).mono ?_
      rintro e w2 ⟨d, q, hd, hq, rfl, b2⟩
      have B2 := below_up b1 b2
      have m2 := Lib.hid (hm0.below B2)
      have s1 := joinB_size a b
      have s2 := joinB_size b d
      have hjab := Lib.hid ab_join
      have HJ := Lib.hid (fun W hm => join_impl ⟨#[97]⟩ ⟨#[98]⟩ (by decide) (by decide) W hm)
      go_wp2_with fail
      refine (join_impl a b (by omega) (by omega) _ m2.out).mono ?_
      rintro e v1 ⟨rfl, c1⟩
      have B1 := below_up B2 c1
      have m1 := Lib.hid (m2.out.below c1)
      go_wp2_with fail
      refine (join_spec a b (by omega) (by omega) _).mono ?_
      rintro e v2 ⟨rfl, c2⟩
      have B2 := below_up B1 c2
      have m2 := Lib.hid (m1.out.below c2)
      by_cases hse : toL (joinB a b) = []
      · have t1 := empty_yes hse
        clear hse
        go_wp2_with fail
        refine (join_impl a b (by omega) (by omega) _ m2.out).mono ?_
        rintro e v3 ⟨rfl, c3⟩
        have B3 := below_up B2 c3
        have m3 := Lib.hid (m2.out.below c3)
        go_wp2_with fail
        refine (join_impl (joinB a b) d (by omega) (by omega) _ m3.out).mono ?_
        rintro e v4 ⟨rfl, c4⟩
        have B4 := below_up B3 c4
        have m4 := Lib.hid (m3.out.below c4)
        go_wp2_with fail
        refine (join_impl b d (by omega) (by omega) _ m4.out).mono ?_
        rintro e v5 ⟨rfl, c5⟩
        have B5 := below_up B4 c5
        have m5 := Lib.hid (m4.out.below c5)
        go_wp2_with fail
        refine (join_impl a (joinB b d) (by omega) (by omega) _ m5.out).mono ?_
        rintro e v6 ⟨rfl, c6⟩
        have B6 := below_up B5 c6
        have m6 := Lib.hid (m5.out.below c6)
        cases pa : pthB a
        · go_wp2_with fail
          refine (pth_impl a (by omega) _ m6.out).mono ?_
          rintro e v7 ⟨rfl, c7⟩
          have B7 := below_up B6 c7
          have m7 := Lib.hid (m6.out.below c7)
          rw [pa]
          go_wp2_with fail
          refine (HJ.out _ m7.out).mono ?_
          rintro e v8 ⟨rfl, c8⟩
          have B8 := below_up B7 c8
          have m8 := Lib.hid (m7.out.below c8)
          rw [hjab.out]
          go_wp2
          go_ret
          exact ⟨rfl, B8⟩
        · go_wp2_with fail
          refine (pth_impl a (by omega) _ m6.out).mono ?_
          rintro e v7 ⟨rfl, c7⟩
          have B7 := below_up B6 c7
          have m7 := Lib.hid (m6.out.below c7)
          rw [pa]
          cases pb : pthB b
          · go_wp2_with fail
            refine (pth_impl b (by omega) _ m7.out).mono ?_
            rintro e v8 ⟨rfl, c8⟩
            have B8 := below_up B7 c8
            have m8 := Lib.hid (m7.out.below c8)
            rw [pb]
            go_wp2_with fail
            refine (HJ.out _ m8.out).mono ?_
            rintro e v9 ⟨rfl, c9⟩
            have B9 := below_up B8 c9
            have m9 := Lib.hid (m8.out.below c9)
            rw [hjab.out]
            go_wp2
            go_ret
            exact ⟨rfl, B9⟩
          · go_wp2_with fail
            refine (pth_impl b (by omega) _ m7.out).mono ?_
            rintro e v8 ⟨rfl, c8⟩
            have B8 := below_up B7 c8
            have m8 := Lib.hid (m7.out.below c8)
            rw [pb]
            cases pd : pthB d
            · go_wp2_with fail
              refine (pth_impl d (by omega) _ m8.out).mono ?_
              rintro e v9 ⟨rfl, c9⟩
              have B9 := below_up B8 c9
              have m9 := Lib.hid (m8.out.below c9)
              rw [pd]
              go_wp2_with fail
              refine (HJ.out _ m9.out).mono ?_
              rintro e v10 ⟨rfl, c10⟩
              have B10 := below_up B9 c10
              have m10 := Lib.hid (m9.out.below c10)
              rw [hjab.out]
              go_wp2
              go_ret
              exact ⟨rfl, B10⟩
            · go_wp2_with fail
              refine (pth_impl d (by omega) _ m8.out).mono ?_
              rintro e v9 ⟨rfl, c9⟩
              have B9 := below_up B8 c9
              have m9 := Lib.hid (m8.out.below c9)
              rw [pd]
              have l1 := parts_len a
              have l2 := parts_len b
              have l3 := parts_len d
              go_wp2_with fail
              refine (parts_impl a (by omega) _ m9.out).mono ?_
              rintro e v10 ⟨ux, rfl, ox, c10⟩
              have B10 := below_up B9 c10
              have m10 := Lib.hid (m9.out.below c10)
              obtain ⟨Ax, kx, rfl, hx, gx, -⟩ := str_at (ox.sl strC_len)
              unfold maxLen at hx
              clear ox
              go_wp2_with fail
              refine (parts_impl b (by omega) _ m10.out).mono ?_
              rintro e v11 ⟨uy, rfl, oy, c11⟩
              have B11 := below_up B10 c11
              have m11 := Lib.hid (m10.out.below c11)
              obtain ⟨Ay, ky, rfl, hy, gy, -⟩ := str_at (oy.sl strC_len)
              unfold maxLen at hy
              clear oy
              go_wp2_with fail
              refine (parts_impl d (by omega) _ m11.out).mono ?_
              rintro e v12 ⟨uz, rfl, oz, c12⟩
              have B12 := below_up B11 c12
              have m12 := Lib.hid (m11.out.below c12)
              obtain ⟨Az, kz, rfl, hz, gz, -⟩ := str_at (oz.sl strC_len)
              unfold maxLen at hz
              clear oz
              by_cases h3 : ((partsB a).length : Int) + (partsB b).length + (partsB d).length ≤ 3
              · have ha3 : (joinB (joinB a b) d).toList == (joinB a (joinB b d)).toList := by rw [join_assocB pa pb pd (by omega)]; simp
                go_wp2_with fail
                refine (HJ.out _ m12.out).mono ?_
                rintro e v13 ⟨rfl, c13⟩
                have B13 := below_up B12 c13
                have m13 := Lib.hid (m12.out.below c13)
                rw [hjab.out]
                go_wp2
                go_ret
                exact ⟨rfl, B13⟩
              · go_wp2_with fail
                refine (HJ.out _ m12.out).mono ?_
                rintro e v13 ⟨rfl, c13⟩
                have B13 := below_up B12 c13
                have m13 := Lib.hid (m12.out.below c13)
                rw [hjab.out]
                go_wp2
                go_ret
                exact ⟨rfl, B13⟩
      · have t1 := empty_no hse
        have hu := join_undB hse
        clear hse
        go_wp2_with fail
        refine (und_impl a (joinB a b) (by omega) (by omega) _ m2.out).mono ?_
        rintro e v3 ⟨rfl, c3⟩
        have B3 := below_up B2 c3
        have m3 := Lib.hid (m2.out.below c3)
        rw [hu]
        go_wp2_with fail
        refine (join_impl a b (by omega) (by omega) _ m3.out).mono ?_
        rintro e v4 ⟨rfl, c4⟩
        have B4 := below_up B3 c4
        have m4 := Lib.hid (m3.out.below c4)
        go_wp2_with fail
        refine (join_impl (joinB a b) d (by omega) (by omega) _ m4.out).mono ?_
        rintro e v5 ⟨rfl, c5⟩
        have B5 := below_up B4 c5
        have m5 := Lib.hid (m4.out.below c5)
        go_wp2_with fail
        refine (join_impl b d (by omega) (by omega) _ m5.out).mono ?_
        rintro e v6 ⟨rfl, c6⟩
        have B6 := below_up B5 c6
        have m6 := Lib.hid (m5.out.below c6)
        go_wp2_with fail
        refine (join_impl a (joinB b d) (by omega) (by omega) _ m6.out).mono ?_
        rintro e v7 ⟨rfl, c7⟩
        have B7 := below_up B6 c7
        have m7 := Lib.hid (m6.out.below c7)
        cases pa : pthB a
        · go_wp2_with fail
          refine (pth_impl a (by omega) _ m7.out).mono ?_
          rintro e v8 ⟨rfl, c8⟩
          have B8 := below_up B7 c8
          have m8 := Lib.hid (m7.out.below c8)
          rw [pa]
          go_wp2_with fail
          refine (HJ.out _ m8.out).mono ?_
          rintro e v9 ⟨rfl, c9⟩
          have B9 := below_up B8 c9
          have m9 := Lib.hid (m8.out.below c9)
          rw [hjab.out]
          go_wp2
          go_ret
          exact ⟨rfl, B9⟩
        · go_wp2_with fail
          refine (pth_impl a (by omega) _ m7.out).mono ?_
          rintro e v8 ⟨rfl, c8⟩
          have B8 := below_up B7 c8
          have m8 := Lib.hid (m7.out.below c8)
          rw [pa]
          cases pb : pthB b
          · go_wp2_with fail
            refine (pth_impl b (by omega) _ m8.out).mono ?_
            rintro e v9 ⟨rfl, c9⟩
            have B9 := below_up B8 c9
            have m9 := Lib.hid (m8.out.below c9)
            rw [pb]
            go_wp2_with fail
            refine (HJ.out _ m9.out).mono ?_
            rintro e v10 ⟨rfl, c10⟩
            have B10 := below_up B9 c10
            have m10 := Lib.hid (m9.out.below c10)
            rw [hjab.out]
            go_wp2
            go_ret
            exact ⟨rfl, B10⟩
          · go_wp2_with fail
            refine (pth_impl b (by omega) _ m8.out).mono ?_
            rintro e v9 ⟨rfl, c9⟩
            have B9 := below_up B8 c9
            have m9 := Lib.hid (m8.out.below c9)
            rw [pb]
            cases pd : pthB d
            · go_wp2_with fail
              refine (pth_impl d (by omega) _ m9.out).mono ?_
              rintro e v10 ⟨rfl, c10⟩
              have B10 := below_up B9 c10
              have m10 := Lib.hid (m9.out.below c10)
              rw [pd]
              go_wp2_with fail
              refine (HJ.out _ m10.out).mono ?_
              rintro e v11 ⟨rfl, c11⟩
              have B11 := below_up B10 c11
              have m11 := Lib.hid (m10.out.below c11)
              rw [hjab.out]
              go_wp2
              go_ret
              exact ⟨rfl, B11⟩
            · go_wp2_with fail
              refine (pth_impl d (by omega) _ m9.out).mono ?_
              rintro e v10 ⟨rfl, c10⟩
              have B10 := below_up B9 c10
              have m10 := Lib.hid (m9.out.below c10)
              rw [pd]
              have l1 := parts_len a
              have l2 := parts_len b
              have l3 := parts_len d
              go_wp2_with fail
              refine (parts_impl a (by omega) _ m10.out).mono ?_
              rintro e v11 ⟨ux, rfl, ox, c11⟩
              have B11 := below_up B10 c11
              have m11 := Lib.hid (m10.out.below c11)
              obtain ⟨Ax, kx, rfl, hx, gx, -⟩ := str_at (ox.sl strC_len)
              unfold maxLen at hx
              clear ox
              go_wp2_with fail
              refine (parts_impl b (by omega) _ m11.out).mono ?_
              rintro e v12 ⟨uy, rfl, oy, c12⟩
              have B12 := below_up B11 c12
              have m12 := Lib.hid (m11.out.below c12)
              obtain ⟨Ay, ky, rfl, hy, gy, -⟩ := str_at (oy.sl strC_len)
              unfold maxLen at hy
              clear oy
              go_wp2_with fail
              refine (parts_impl d (by omega) _ m12.out).mono ?_
              rintro e v13 ⟨uz, rfl, oz, c13⟩
              have B13 := below_up B12 c13
              have m13 := Lib.hid (m12.out.below c13)
              obtain ⟨Az, kz, rfl, hz, gz, -⟩ := str_at (oz.sl strC_len)
              unfold maxLen at hz
              clear oz
              by_cases h3 : ((partsB a).length : Int) + (partsB b).length + (partsB d).length ≤ 3
              · have ha3 : (joinB (joinB a b) d).toList == (joinB a (joinB b d)).toList := by rw [join_assocB pa pb pd (by omega)]; simp
                go_wp2_with fail
                refine (HJ.out _ m13.out).mono ?_
                rintro e v14 ⟨rfl, c14⟩
                have B14 := below_up B13 c14
                have m14 := Lib.hid (m13.out.below c14)
                rw [hjab.out]
                go_wp2
                go_ret
                exact ⟨rfl, B14⟩
              · go_wp2_with fail
                refine (HJ.out _ m13.out).mono ?_
                rintro e v14 ⟨rfl, c14⟩
                have B14 := below_up B13 c14
                have m14 := Lib.hid (m13.out.below c14)
                rw [hjab.out]
                go_wp2
                go_ret
                exact ⟨rfl, B14⟩

set_option maxRecDepth 100000 in
theorem pthJoinL_lifted (os : Os) (started : os.Started) (H : Type) (enc : TypeId × Value → H) (F : Stop.Interp) :
    ReturnsInHanded {} Tryd.checked os 4 .any ((OpenSpec.ofChange Rows.fnPthJoinSpec).preRow enc Tryd.prog Tryd.f4 Rows.fnPthJoinRow.domain false Rows.fnPthJoinRow.laid) (((OpenSpec.ofChange Rows.fnPthJoinSpec).at F).post enc Tryd.prog Tryd.f4 false true false false) := by
  obtain ⟨places, hx⟩ := (show ∃ places, DataW.whole enc Tryd.prog ((laidWorld os).forCall (fun _ _ => 0) ⟨#[], #[.slice none 0 0, .slice none 0 0], []⟩).memory Tryd.f4.params.toList Rows.fnPthJoinSpec.vars false (#[.slice none 0 0, .slice none 0 0] : Array Value).toList 8 = some ([.nil, .nil], [], places) from ⟨[], by kernel_rfl⟩)
  have hmet : laidMet Tryd.prog Rows.fnPthJoinRow.laid ((laidWorld os).forCall (fun _ _ => 0) ⟨#[], #[.slice none 0 0, .slice none 0 0], []⟩).memory := laidMet_of_run' 8 (by kernel_rfl) (by kernel_rfl)
  refine returnsInHanded_of_row (C := Tryd.checked) (s := OpenSpec.ofChange Rows.fnPthJoinSpec) Tryd.own started (by kernel_rfl) Tryd.func4
    (witness_row_at (enc := enc) (C := Tryd.checked) false (laidWorld os) #[.slice none 0 0, .slice none 0 0] rfl (by kernel_rfl) (by kernel_rfl) (by kernel_rfl)
      (OpenSpec.preRow_of_cond 8 hx (by kernel_rfl) (fun k hk => by cases hk) (by kernel_rfl) hmet)) ?_
  intro W base args ds gs before hval0 hW _ _ _ _ hsh _
  show Calls Tryd.prog 4 args W fun e W2 => ∃ v, e = .returned v ∧ Rows.fnPthJoinSpec.post enc Tryd.prog Tryd.f4 false true false false W args v W2
  have hval : ∀ (j : Nat) t v, Tryd.f4.params[j]? = some t → args[j]? = some v → Value.okWide Tryd.prog W .any base t v := hval0
  have hW1 : DataW.Whole enc Tryd.prog Tryd.f4.params.toList Rows.fnPthJoinSpec.vars false W args.toList ds gs before := hW
  have hW2 := hW1
  obtain ⟨p, q, hA0, hV, rfl, _, _⟩ := hW1
  have hA : DataW.TrodAll enc Tryd.prog W 0 (fun _ => true) true Tryd.f4.params.toList args.toList ds p := hA0
  rw [Tryd.params4] at hA hval
  obtain ⟨v0, v1, d0, d1, p0, p1, rfl, rfl, rfl, h0, h1⟩ := trodAll_two hA
  obtain ⟨rfl, rfl⟩ := trodVars_none hV
  clear hA0 hval0 hW
  simp only [List.append_nil] at hW2
  have lt0 : ∀ x ∈ p0, x.block < W.heap.size := fun x hx => hW2.lt x (by simp [hx])
  have lt1 : ∀ x ∈ p1, x.block < W.heap.size := fun x hx => hW2.lt x (by simp [hx])
  have k0 := fun W2 (hb : Below W.heap.size W W2) => Below.trod Tryd.laidOut (by kernel_rfl) (of_decide_eq_true (by kernel_rfl)) h0 hb lt0
  have k1 := fun W2 (hb : Below W.heap.size W W2) => Below.trod Tryd.laidOut (by kernel_rfl) (of_decide_eq_true (by kernel_rfl)) h1 hb lt1
  obtain ⟨x0, wf0⟩ := open_bytes (hval 0 22 v0 rfl rfl) h0 lt0
  obtain ⟨x1, wf1⟩ := open_bytes (hval 1 22 v1 rfl rfl) h1 lt1
  refine (pthJoinL_calls W hsh v0 x0 wf0 v1 x1 wf1).mono fun e W2 ⟨he, hb⟩ => ?_
  subst he
  exact ⟨_, rfl, _, _, _, [], _, [], hW2, trodAll_mk1 (shut_bool Tryd.underlying4 true), trodAll_mk2 (k0 W2 hb) (k1 W2 hb), rfl, hb.frame _, fun h => by cases h⟩

theorem pthJoinL_said : Rows.FnPthJoinSaid :=
  OpenClaim.holds_of_cond 4 Tryd.f4 rfl rfl rfl rfl rfl rfl rfl ⟨rfl, rfl, rfl, rfl, rfl⟩ rfl rfl rfl rfl rfl (by kernel_rfl) Tryd.func4 (by kernel_rfl)
    (of_decide_eq_true (by kernel_rfl)) (by unfold Func.isWrapper; first | (rw [if_pos (by decide +kernel)]; kernel_rfl) | (rw [if_neg (by decide +kernel)]; exact ⟨rfl, rfl⟩))
    (fun os started H enc _ F => by rw [OpenClaim.pre_eq_preRow]; exact pthJoinL_lifted os started H enc F)
theorem pthJoinL_plain (f : FuncId) (fn : Func) (hf : Tryd.pinned.checked.prog.funcNamed "loop.example/chartulary/laws.FnPthJoin" = some f) (hfn : Tryd.pinned.checked.prog.funcs[f]? = some fn) :
    false = Tryd.pinned.checked.prog.looks [] ∧ ∀ (j : Nat) t, fn.params[j]? = some t → Tryd.pinned.checked.prog.wantsStandIn t = false := by
  obtain rfl : f = 4 := Option.some.inj ((show Tryd.prog.funcNamed "loop.example/chartulary/laws.FnPthJoin" = some 4 by kernel_rfl).symm.trans hf) |>.symm
  obtain rfl : fn = Tryd.f4 := (Option.some.inj (Tryd.func4.symm.trans hfn)).symm
  refine ⟨by kernel_rfl, fun j t ht => ?_⟩
  rw [Tryd.params4] at ht
  have hm := Array.mem_of_getElem? ht
  simp only [List.mem_toArray, List.mem_cons, List.not_mem_nil, or_false] at hm
  rcases hm with rfl | rfl
  · exact (show Tryd.prog.wantsStandIn 22 = false by kernel_rfl)
  · exact (show Tryd.prog.wantsStandIn 22 = false by kernel_rfl)

theorem pthJoinL_holds : Rows.FnPthJoinCardSaid :=
  Claim7.holds_tied_plain_at .later [] _ _ _ _ pthJoinL_said (fun _ h => by cases h) (by kernel_rfl) (fun _ h => by cases h) fnPthJoin_row_tie rfl ⟨rfl, rfl⟩ (by kernel_rfl) rfl pthJoinL_plain (by kernel_rfl)
end Go.Proofs.YtfiempmdmkoagaaDoor
