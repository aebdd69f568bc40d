/- FnTreUnder returns true for every code; the tables that its row lists are tied to the program. No condition. -/
import Derived.Test.YtkghhmjmfcnbnaaDoorDrawTT
import Derived.Test.YtkghhmjmfcnbnaaDoorNmsI
import Derived.Test.YtkghhmjmfcnbnaaDoorTurnL
import Derived.Test.YtkghhmjmfcnbnaaDoorChF
import Derived.Test.YtkghhmjmfcnbnaaDoorPthOrderH
import Derived.Test.YtkghhmjmfcnbnaaDoorNamChT
import Derived.Test.YtkghhmjmfcnbnaaDoorUndL
import Derived.Test.YtkghhmjmfcnbnaaDoorLaidW
import Derived.Outline
namespace Go.Proofs.YtkghhmjmfcnbnaaDoor
open Go.ChangeShapes Go.WideShapes Go.ChangeAt Go.RowKit

set_option maxRecDepth 100000 in
set_option maxHeartbeats 8000000 in
theorem treUnderL_calls (W : World) (hsh : W.ShapedOpen Tryd.prog) (v : Value) (bs : List UInt8) (hs : Sl 1 byteC W v bs) :
    Calls Tryd.prog 4 #[v] W fun e w' => e = .returned (.bool true) ∧ Below W.heap.size W w' := by
  have hm0 := maxOk_of hsh
  clear hsh
  obtain ⟨A, c, rfl, hlc, hc, -⟩ := id hs
  unfold maxLen at hc
  by_cases hL : (1048576 : Int) < (bs.length : Nat)
  · go_enter Tryd.func4, Tryd.ntmps4
    go_wp2
    go_ret
    exact ⟨rfl, below0 W⟩
  · go_enter Tryd.func4, Tryd.ntmps4
    go_wp2_with fail
    refine (drawTreUnder_calls _ bs _ hs).mono ?_
    rintro e w1 ⟨u, zs, q, hzl, hsz, hq, rfl, su, b1⟩
    have m1 := Lib.hid (hm0.below b1)
    have hf := trShort_fine hsz
    obtain ⟨Az, cz, rfl, hcz, hlcz, -⟩ := file_z su
    unfold maxLen at hcz
    go_wp2_with fail
    refine (under_impl _ zs q _ m1.out su hf (by omega) (by omega)).mono ?_
    rintro e w2 ⟨x, rfl, ox, b2⟩
    have B2 := below_up b1 b2
    have m2 := Lib.hid (m1.out.below b2)
    have su2 := su.below b2
    go_wp2_with fail
    refine (names_impl _ zs q _ m2.out su2 hf (by omega) (by omega)).mono ?_
    rintro e w3 ⟨n, rfl, on, b3⟩
    have B3 := below_up B2 b3
    have m3 := Lib.hid (m2.out.below b3)
    have su3 := su2.below b3
    have sx3 := (ox.below b3).sl fileC_len
    go_wp2_with fail
    refine (under_spec _ zs q _ su3 hf (by omega) (by omega)).mono ?_
    rintro e w4 ⟨y, rfl, oy, b4⟩
    have B4 := below_up B3 b4
    have m4 := Lib.hid (m3.out.below b4)
    have su4 := su3.below b4
    have sx4 := sx3.below b4
    have sn4 := (on.below b4).sl strC_len
    go_wp2_with fail
    refine (chFiles_calls x y _ _ sx4 (oy.sl fileC_len)).mono ?_
    rintro e w5 ⟨rfl, b5⟩
    have B5 := below_up B4 b5
    have m5 := Lib.hid (m4.out.below b5)
    have su5 := su4.below b5
    have sx5 := sx4.below b5
    have sn5 := sn4.below b5
    clear b1 b2 b3 b4 b5 B2 B3 B4 m1 m2 m3 m4 su su2 su3 su4 ox on oy sx3 sx4 sn4 hs hm0
    go_wp2_with fail
    refine (names_spec _ zs q _ su5 hf (by omega) (by omega)).mono ?_
    rintro e w6 ⟨y6, rfl, oy6, b6⟩
    have B6 := below_up B5 b6
    have m6 := Lib.hid (m5.out.below b6)
    have su6 := su5.below b6
    have sx6 := sx5.below b6
    have sn6 := sn5.below b6
    go_wp2_with fail
    refine (chTexts_calls n y6 _ _ sn6 (oy6.sl strC_len)).mono ?_
    rintro e w7 ⟨rfl, b7⟩
    have B7 := below_up B6 b7
    have m7 := Lib.hid (m6.out.below b7)
    have su7 := su6.below b7
    have sx7 := sx6.below b7
    have sn7 := sn6.below b7
    clear b6 b7 B5 B6 m5 m6 su5 su6 sx5 sx6 sn5 sn6 oy6
    go_wp2_with fail
    refine (tre_spec _ zs _ su7 hf).mono ?_
    rintro e w8 ⟨rfl, b8⟩
    have B8 := below_up B7 b8
    have m8 := Lib.hid (m7.out.below b8)
    have su8 := su7.below b8
    have sx8 := sx7.below b8
    have sn8 := sn7.below b8
    clear b8 B7 m7 su7 sx7 sn7
    cases ht : treB zs
    · go_wp2_with fail
      refine (tre_impl _ zs _ m8.out su8 hf).mono ?_
      rintro e w9 ⟨rfl, b9⟩
      have B9 := below_up B8 b9
      have su9 := su8.below b9
      clear b9 B8 su8 sx8 sn8
      go_wp2_with fail
      refine (tre_spec _ zs _ su9 hf).mono ?_
      rintro e w10 ⟨rfl, b10⟩
      have B10 := below_up B9 b10
      rw [ht]
      go_wp2_with fail
      refine (chOk_calls _).mono ?_
      rintro e w11 ⟨rfl, b11⟩
      go_wp2
      go_ret
      exact ⟨rfl, below_up B10 b11⟩
    · go_wp2_with fail
      refine (pth_spec q (by omega) _).mono ?_
      rintro e w9 ⟨rfl, b9⟩
      have B9 := below_up B8 b9
      have m9 := Lib.hid (m8.out.below b9)
      have su9 := su8.below b9
      have sx9 := sx8.below b9
      have sn9 := sn8.below b9
      clear b9 B8 m8 su8 sx8 sn8
      cases hpq : pthB q
      · go_wp2_with fail
        refine (tre_impl _ zs _ m9.out su9 hf).mono ?_
        rintro e w10 ⟨rfl, b10⟩
        have B10 := below_up B9 b10
        have su10 := su9.below b10
        clear b10 B9 su9 sx9 sn9
        go_wp2_with fail
        refine (tre_spec _ zs _ su10 hf).mono ?_
        rintro e w11 ⟨rfl, b11⟩
        have B11 := below_up B10 b11
        rw [ht]
        go_wp2_with fail
        refine (chOk_calls _).mono ?_
        rintro e w12 ⟨rfl, b12⟩
        go_wp2
        go_ret
        exact ⟨rfl, below_up B11 b12⟩
      · have hzl2 := treB_len ht
        have hnl := namesB_len q zs
        obtain ⟨An, cn, rfl, hcn, hlcn, hatn⟩ := str_at sn9
        unfold maxLen at hcn
        have HAn := Lib.hid hatn
        clear hatn
        have HT := Lib.hid ht
        have HJ := Lib.hid (fun (n : ByteArray) (hn : n.size ≤ 1048576) W hm => join_impl q n (by omega) hn W hm)
        have HNS := Lib.hid (fun (n : ByteArray) (hn : n ∈ namesB q zs) => names_size hn)
        have hq1 : q.size ≤ 1048576 := by omega
        clear ht
        have SU := Lib.hid su9
        have SX := Lib.hid sx9
        clear su9 sx9
        go_wp2
        go_loopw [7, 8] (fun n i wr => ∃ k : Nat, k ≤ (namesB q zs).length ∧ i = .int .i64 k ∧ n = .int .i64 (undS q zs ((namesB q zs).take k) : Nat) ∧ Below w9.heap.size w9 wr) (fun _ i _ => (namesB q zs).length - (intOf i).toNat)
        case atStart => exact ⟨0, Nat.zero_le _, rfl, rfl, below0 _⟩
        case round =>
          obtain ⟨k, hk, rfl, rfl, hnx⟩ := hrel
          by_cases hlt : k < (namesB q zs).length
          · obtain ⟨x, b, off, hz, rfl, hb, c0⟩ := HAn.out k hlt
            have d0 := (hnx.cell (p := ⟨b, off + k, none⟩) hb).trans c0
            have hli : (k : Int) < ((namesB q zs).length : Int) := by omega
            have hxs := HNS.out x (List.mem_of_getElem? hz)
            have HZ := Lib.hid hz
            have hw2 := undS_few (q := q) hzl2 k
            have hw3 := Nat.le_trans (underF_len (joinB q x) zs) hzl2
            have HW := Lib.hid (undS_step (q := q) (zs := zs) hz)
            have C0 := Lib.hid c0
            clear c0
            by_cases e4 : 0 < k
            · obtain ⟨y, b', off', hy, e5, -, f0⟩ := HAn.out (k - 1) (by omega)
              simp only [Option.some.injEq, Addr.mk.injEq, and_true] at e5
              obtain ⟨rfl, rfl⟩ := e5
              have g0 := (hnx.cell (p := ⟨b, off + (k - 1), none⟩) hb).trans f0
              have i4 : (0 : Int) < (k : Int) := by omega
              have i9 : decide ((0 : Int) < (k : Int)) = true := decide_eq_true i4
              have i5 : (0 : Int) ≤ (k : Int) - 1 := by omega
              have i6 : (k : Int) - 1 < ((namesB q zs).length : Int) := by omega
              have i7 : IntKind.i64.wrap ((k : Int) - 1) = (k : Int) - 1 := IntWalk.i64_in _ (by omega)
              have i8 : ((k : Int) - 1).toNat = k - 1 := by omega
              have e6 := names_less e4 hy hz
              clear hz hy f0
              go_wp2_with fail
              go_quiet (fail)
              have hq := below_up hnx (below_drewN (below0 wr) nq)
              generalize wr.drewN nq = w10 at hq ⊢
              have r0 := (hq.cell (p := ⟨b, off + k, none⟩) hb).trans C0.out
              go_wp2_with fail
              refine (HJ.out x hxs _ (m9.out.below hq)).mono ?_
              rintro e w11 ⟨rfl, b11⟩
              have hq2 := below_up hq b11
              clear b11 hq r0
              go_wp2_with fail
              refine (under_impl _ zs (joinB q x) _ (m9.out.below hq2) (SU.out.below hq2) hf (by omega) (by have := joinB_size q x; omega)).mono ?_
              rintro e w12 ⟨v, rfl, ov, b12⟩
              have hq3 := below_up hq2 b12
              obtain ⟨Av, cv, rfl, -, -, -⟩ := file_z ((ov.below (below0 _)).sl fileC_len)
              clear b12 hq2 ov
              have h0 : (0 : Int) ≤ (undS q zs ((namesB q zs).take k) : Int) := Int.natCast_nonneg _
              have hwr : IntKind.i64.wrap ((undS q zs ((namesB q zs).take k) : Int) + ((underF (joinB q x) zs).length : Int)) = (undS q zs ((namesB q zs).take k) : Int) + ((underF (joinB q x) zs).length : Int) := IntWalk.i64_in _ (by omega)
              go_wp2
              go_roundw
              case rel => exact ⟨k + 1, by omega, by go_num, by rw [HW.out]; go_num, hq3⟩
              case measure => simp [intOf]; omega
            · have i9 : decide ((0 : Int) < (k : Int)) = false := decide_eq_false (by omega)
              clear hz
              go_wp2_with fail
              go_quiet (fail)
              have hq := below_up hnx (below_drewN (below0 wr) nq)
              generalize wr.drewN nq = w10 at hq ⊢
              have r0 := (hq.cell (p := ⟨b, off + k, none⟩) hb).trans C0.out
              go_wp2_with fail
              refine (HJ.out x hxs _ (m9.out.below hq)).mono ?_
              rintro e w11 ⟨rfl, b11⟩
              have hq2 := below_up hq b11
              clear b11 hq r0
              go_wp2_with fail
              refine (under_impl _ zs (joinB q x) _ (m9.out.below hq2) (SU.out.below hq2) hf (by omega) (by have := joinB_size q x; omega)).mono ?_
              rintro e w12 ⟨v, rfl, ov, b12⟩
              have hq3 := below_up hq2 b12
              obtain ⟨Av, cv, rfl, -, -, -⟩ := file_z ((ov.below (below0 _)).sl fileC_len)
              clear b12 hq2 ov
              have h0 : (0 : Int) ≤ (undS q zs ((namesB q zs).take k) : Int) := Int.natCast_nonneg _
              have hwr : IntKind.i64.wrap ((undS q zs ((namesB q zs).take k) : Int) + ((underF (joinB q x) zs).length : Int)) = (undS q zs ((namesB q zs).take k) : Int) + ((underF (joinB q x) zs).length : Int) := IntWalk.i64_in _ (by omega)
              go_wp2
              go_roundw
              case rel => exact ⟨k + 1, by omega, by go_num, by rw [HW.out]; go_num, hq3⟩
              case measure => simp [intOf]; omega
          · have hli : ¬ (k : Int) < ((namesB q zs).length : Int) := by omega
            obtain rfl : k = (namesB q zs).length := by omega
            rw [List.take_length] at *
            have m10 := Lib.hid (m9.out.below hnx)
            have su := SU.out.below hnx
            have sx := SX.out.below hnx
            have B10 := below_up B9 hnx
            clear hnx HAn SU SX m9 B9
            go_wp2_with fail
            refine (treFind_impl_calls _ zs q _ su (by omega)).mono ?_
            rintro e w11 ⟨rfl, b11⟩
            have B11 := below_up B10 b11
            have m11 := Lib.hid (m10.out.below b11)
            have su11 := su.below b11
            have sx11 := sx.below b11
            clear b11 B10 m10 su sx
            have HO := tre_impl _ (underF q zs) _ m11.out sx11 (underF_fine hf)
            rw [under_tree q HT.out] at HO
            have HO := Lib.hid HO
            obtain ⟨Ax, cx, rfl, -, -, -⟩ := file_z sx11
            go_wp2_with fail
            refine HO.out.mono ?_
            rintro e w12 ⟨rfl, b12⟩
            have B12 := below_up B11 b12
            have m12 := Lib.hid (m11.out.below b12)
            have su12 := su11.below b12
            have sx12 := sx11.below b12
            clear b12 B11 m11 su11 sx11 HO
            have HO := under_impl _ zs ByteArray.empty _ m12.out su12 hf (by omega) (by decide)
            rw [under_all HT.out] at HO
            have HO := Lib.hid HO
            go_wp2_with fail
            refine HO.out.mono ?_
            rintro e w13 ⟨v13, rfl, o13, b13⟩
            have B13 := below_up B12 b13
            have m13 := Lib.hid (m12.out.below b13)
            have su13 := su12.below b13
            have sx13 := sx12.below b13
            clear b13 B12 m12 su12 sx12 HO
            have HO := Lib.hid (chFiles_calls v13 _ zs _ ((o13.below (below0 _)).sl fileC_len) su13)
            clear o13
            go_wp2_with fail
            refine HO.out.mono ?_
            rintro e w14 ⟨rfl, b14⟩
            have B14 := below_up B13 b14
            have m14 := Lib.hid (m13.out.below b14)
            have sx14 := sx13.below b14
            clear b14 B13 m13 su13 sx13 HO
            have HO := under_impl _ (underF q zs) q _ m14.out sx14 (underF_fine hf) (by have := underF_len q zs; omega) hq1
            rw [under_twice] at HO
            have HO := Lib.hid HO
            have hul := underF_len q zs
            cases hfg : fgetF zs q with
            | mk s' t' =>
              cases t' with
              | true =>
                obtain ⟨hx1, hn0⟩ := und_here HT.out hfg
                have hn1 : undS q zs (namesB q zs) = 0 := by rw [hn0]; rfl
                have k1 : (((underF q zs).length : Int) == 1) = true := by rw [hx1]; rfl
                have k2 : (((undS q zs (namesB q zs) : Nat) : Int) == 0) = true := by rw [hn1]; rfl
                clear hx1 hn0 hn1
                go_wp2_with fail
                refine HO.out.mono ?_
                rintro e w15 ⟨v15, rfl, o15, b15⟩
                have B15 := below_up B14 b15
                have HC := Lib.hid (chFiles_calls v15 _ (underF q zs) _ ((o15.below (below0 _)).sl fileC_len) (sx14.below b15))
                clear o15 b15
                go_wp2_with fail
                refine HC.out.mono ?_
                rintro e w16 ⟨rfl, b16⟩
                go_wp2
                go_ret
                exact ⟨rfl, below_up B15 b16⟩
              | false =>
                have hn1 := und_gone HT.out hpq hfg
                have k1 : (((undS q zs (namesB q zs) : Nat) : Int) == ((underF q zs).length : Int)) = true := by rw [hn1]; simp
                clear hn1
                go_wp2_with fail
                refine HO.out.mono ?_
                rintro e w15 ⟨v15, rfl, o15, b15⟩
                have B15 := below_up B14 b15
                have HC := Lib.hid (chFiles_calls v15 _ (underF q zs) _ ((o15.below (below0 _)).sl fileC_len) (sx14.below b15))
                clear o15 b15
                go_wp2_with fail
                refine HC.out.mono ?_
                rintro e w16 ⟨rfl, b16⟩
                go_wp2
                go_ret
                exact ⟨rfl, below_up B15 b16⟩
set_option maxRecDepth 100000 in
theorem treUnderL_lifted (os : Os) (started : os.Started) (H : Type) (enc : TypeId × Value → H) (F : Stop.Interp) :
    ReturnsInHanded {} Tryd.checked os 4 .any ((OpenSpec.ofChange Rows.fnTreUnderSpec).preRow enc Tryd.prog Tryd.f4 Rows.fnTreUnderRow.domain false Rows.fnTreUnderRow.laid) (((OpenSpec.ofChange Rows.fnTreUnderSpec).at F).post enc Tryd.prog Tryd.f4 false true false false) := by
  obtain ⟨places, hx⟩ := (show ∃ places, DataW.whole enc Tryd.prog ((laidWorld os).forCall (fun _ _ => 0) ⟨#[], #[.slice none 0 0], []⟩).memory Tryd.f4.params.toList Rows.fnTreUnderSpec.vars false (#[.slice none 0 0] : Array Value).toList 8 = some ([.nil], [], places) from ⟨[], by kernel_rfl⟩)
  have hmet : laidMet Tryd.prog Rows.fnTreUnderRow.laid ((laidWorld os).forCall (fun _ _ => 0) ⟨#[], #[.slice none 0 0], []⟩).memory := laidMet_of_run' 8 (by kernel_rfl) (by kernel_rfl)
  refine returnsInHanded_of_row (C := Tryd.checked) (s := OpenSpec.ofChange Rows.fnTreUnderSpec) Tryd.own started (by kernel_rfl) Tryd.func4
    (witness_row_at (enc := enc) (C := Tryd.checked) false (laidWorld os) #[.slice none 0 0] rfl (by kernel_rfl) (by kernel_rfl) (by kernel_rfl)
      (OpenSpec.preRow_of_cond 8 hx (by kernel_rfl) (fun k hk => by cases hk) (by kernel_rfl) hmet)) ?_
  intro W base args ds gs before hval0 hW _ _ _ _ hsh _
  show Calls Tryd.prog 4 args W fun e W2 => ∃ v, e = .returned v ∧ Rows.fnTreUnderSpec.post enc Tryd.prog Tryd.f4 false true false false W args v W2
  have hval : ∀ (j : Nat) t v, Tryd.f4.params[j]? = some t → args[j]? = some v → Value.okWide Tryd.prog W .any base t v := hval0
  have hW1 : DataW.Whole enc Tryd.prog Tryd.f4.params.toList Rows.fnTreUnderSpec.vars false W args.toList ds gs before := hW
  have hW2 := hW1
  obtain ⟨p, q, hA0, hV, rfl, _, _⟩ := hW1
  have hA : DataW.TrodAll enc Tryd.prog W 0 (fun _ => true) true Tryd.f4.params.toList args.toList ds p := hA0
  rw [Tryd.params4] at hA hval
  obtain ⟨v0, d0, rfl, rfl, h0⟩ := trodAll_one hA
  obtain ⟨rfl, rfl⟩ := trodVars_none hV
  clear hA0 hval0 hW
  simp only [List.append_nil] at hW2
  have lt0 : ∀ x ∈ p, x.block < W.heap.size := fun x hx => hW2.lt x (by simp [hx])
  have k0 := fun W2 (hb : Below W.heap.size W W2) => Below.trod Tryd.laidOut (by kernel_rfl) (of_decide_eq_true (by kernel_rfl)) h0 hb lt0
  obtain ⟨x0, wf0⟩ := open_bytes (hval 0 33 v0 rfl rfl) h0 lt0
  refine (treUnderL_calls W hsh v0 x0 wf0).mono fun e W2 ⟨he, hb⟩ => ?_
  subst he
  exact ⟨_, rfl, _, _, _, [], _, [], hW2, trodAll_mk1 (shut_bool Tryd.underlying4 true), trodAll_mk1 (k0 W2 hb), rfl, hb.frame _, fun h => by cases h⟩

theorem treUnderL_said : Rows.FnTreUnderSaid :=
  OpenClaim.holds_of_cond 4 Tryd.f4 rfl rfl rfl rfl rfl rfl rfl ⟨rfl, rfl, rfl, rfl, rfl⟩ rfl rfl rfl rfl rfl (by kernel_rfl) Tryd.func4 (by kernel_rfl)
    (of_decide_eq_true (by kernel_rfl)) (by unfold Func.isWrapper; first | (rw [if_pos (by decide +kernel)]; kernel_rfl) | (rw [if_neg (by decide +kernel)]; exact ⟨rfl, rfl⟩))
    (fun os started H enc _ F => by rw [OpenClaim.pre_eq_preRow]; exact treUnderL_lifted os started H enc F)
theorem treUnderL_plain (f : FuncId) (fn : Func) (hf : Tryd.pinned.checked.prog.funcNamed "loop.example/chartulary/laws.FnTreUnder" = some f) (hfn : Tryd.pinned.checked.prog.funcs[f]? = some fn) :
    false = Tryd.pinned.checked.prog.looks [] ∧ ∀ (j : Nat) t, fn.params[j]? = some t → Tryd.pinned.checked.prog.wantsStandIn t = false := by
  obtain rfl : f = 4 := Option.some.inj ((show Tryd.prog.funcNamed "loop.example/chartulary/laws.FnTreUnder" = some 4 by kernel_rfl).symm.trans hf) |>.symm
  obtain rfl : fn = Tryd.f4 := (Option.some.inj (Tryd.func4.symm.trans hfn)).symm
  refine ⟨by kernel_rfl, fun j t ht => ?_⟩
  rw [Tryd.params4] at ht
  have hm := Array.mem_of_getElem? ht
  simp only [List.mem_toArray, List.mem_cons, List.not_mem_nil, or_false] at hm
  subst hm
  exact (show Tryd.prog.wantsStandIn 33 = false by kernel_rfl)

theorem treUnderL_holds : Rows.FnTreUnderCardSaid :=
  Claim7.holds_tied_plain_at .later [] _ _ _ _ treUnderL_said (fun _ h => by cases h) (by kernel_rfl) (fun _ h => by cases h) fnTreUnder_row_tie rfl ⟨rfl, rfl⟩ (by kernel_rfl) rfl treUnderL_plain (by kernel_rfl)
end Go.Proofs.YtkghhmjmfcnbnaaDoor
