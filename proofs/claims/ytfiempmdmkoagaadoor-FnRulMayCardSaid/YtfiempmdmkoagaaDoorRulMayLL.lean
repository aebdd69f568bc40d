/- FnRulMay returns true for every code; the tables that its row lists are tied to the program. No condition. -/
import Derived.Test.YtfiempmdmkoagaaDoorDrawRm
import Derived.Test.YtfiempmdmkoagaaDoorRulI
import Derived.Test.YtfiempmdmkoagaaDoorRulM
import Derived.Test.YtfiempmdmkoagaaDoorPthOrderH
import Derived.Test.YtfiempmdmkoagaaDoorByteOpen
import Derived.Test.YtfiempmdmkoagaaDoorLaidW
namespace Go.Proofs.YtfiempmdmkoagaaDoor
open Go.ChangeShapes Go.WideShapes Go.ChangeAt Go.RowKit

theorem one_row (w : World) (u : Int) (s t : ByteArray) (b : Bool) : Sl 4 ruleC (w.alloc (.cells #[.int .i64 u, .string s, .string t, .bool b] 40)) (.slice (some ⟨w.heap.size, 0, none⟩) 1 1) [⟨u, s, t, b⟩] :=
  Own.sl (base := w.heap.size) (e := 40) ruleC_len (World.ownsRow_lit (base := w.heap.size) w #[.int .i64 u, .string s, .string t, .bool b] 1 (e := 40) (size := 4) (Nat.le_refl _) (by simp [maxLen]) rfl)
theorem may_one : mayB [⟨0, ⟨#[]⟩, ⟨#[]⟩, true⟩] 3 ⟨#[98]⟩ ⟨#[97, 47, 98]⟩ true = true := by decide

set_option maxRecDepth 100000 in
set_option maxHeartbeats 4000000 in
theorem rulMayL_calls (W : World) (hsh : W.ShapedOpen Tryd.prog) (v : Value) (bs : List UInt8) (hs : Sl 1 byteC W v bs) :
    Calls Tryd.prog 8 #[v] W fun e w' => e = .returned (.bool true) ∧ Below W.heap.size W w' := by
  have hm0 := maxOk_of hsh
  clear hsh
  obtain ⟨A, c, rfl, hlc, hc, -⟩ := id hs
  unfold maxLen at hc
  by_cases hL : (1048576 : Int) < (bs.length : Nat)
  · go_enter Tryd.func8, Tryd.ntmps8
    go_wp2
    go_ret
    exact ⟨rfl, below0 W⟩
  · go_enter Tryd.func8, Tryd.ntmps8
    go_wp2_with fail
    refine (drawRulMay_calls _ bs _ hs).mono ?_
    rintro e w1 ⟨u, zs, user, ref, path, wr0, hzl, hsh, hus, href, hpath, rfl, hz, b1⟩
    have hf := ruShort_fine hsh
    have m1 := Lib.hid (hm0.below b1)
    obtain ⟨A1, c1, rfl, hc1, hlc1, -⟩ := rule_z hz
    unfold maxLen at hc1
    go_wp2_with fail
    refine (may_impl _ zs user ref path wr0 (by omega) _ m1.out hz hf).mono ?_
    rintro e w2 ⟨rfl, b2⟩
    have B2 := below_up b1 b2
    have m2 := Lib.hid (m1.out.below b2)
    have s2 := hz.below b2
    clear b1 b2 hz m1
    go_wp2_with fail
    refine (may_spec _ zs user ref path wr0 _ s2 hf (by omega)).mono ?_
    rintro e w3 ⟨rfl, b3⟩
    have B3 := below_up B2 b3
    have m3 := Lib.hid (m2.out.below b3)
    have s3 := Lib.hid (s2.below b3)
    clear B2 b3 s2 m2 hs
    have B4 := al B3 (.cells #[.string ⟨#[97]⟩, .string ⟨#[98]⟩, .string ⟨#[122, 122]⟩] 9)
    have m4 := Lib.hid (m3.out.al (.cells #[.string ⟨#[97]⟩, .string ⟨#[98]⟩, .string ⟨#[122, 122]⟩] 9))
    have s4 := Lib.hid (s3.out.below (al (below0 w3) (.cells #[.string ⟨#[97]⟩, .string ⟨#[98]⟩, .string ⟨#[122, 122]⟩] 9)))
    have HK := Lib.hid (heap_alloc_new w3 (.cells #[.string ⟨#[97]⟩, .string ⟨#[98]⟩, .string ⟨#[122, 122]⟩] 9))
    have hz4 : w3.heap.size < (w3.alloc (.cells #[.string ⟨#[97]⟩, .string ⟨#[98]⟩, .string ⟨#[122, 122]⟩] 9)).heap.size := by simp
    clear B3 m3 s3
    have HB4 := Lib.hid B4
    clear B4
    go_wp2
    go_loopw [10] (fun i wr => ∃ k : Nat, k ≤ 3 ∧ i = .int .i64 k ∧ Below (w3.alloc (.cells #[.string ⟨#[97]⟩, .string ⟨#[98]⟩, .string ⟨#[122, 122]⟩] 9)).heap.size (w3.alloc (.cells #[.string ⟨#[97]⟩, .string ⟨#[98]⟩, .string ⟨#[122, 122]⟩] 9)) wr) (fun i _ => 3 - (intOf i).toNat)
    case atStart => exact ⟨0, by omega, rfl, below0 _⟩
    case round =>
      obtain ⟨k, hk, rfl, hnx⟩ := hrel
      have mr := Lib.hid (m4.out.below hnx)
      have sr := Lib.hid (s4.out.below hnx)
      by_cases hlt : k < 3
      · obtain ⟨x, hx, c0⟩ : ∃ x : ByteArray, x.size ≤ 2 ∧ wr.cell? ⟨w3.heap.size, k, none⟩ = some (.string x) := by
          have hblk := (hnx.block _ hz4).trans HK.out
          rw [cell_of_row _ _ k _ _ _ hblk]
          have : k = 0 ∨ k = 1 ∨ k = 2 := by omega
          rcases this with rfl | rfl | rfl
          · exact ⟨_, by decide, rfl⟩
          · exact ⟨_, by decide, rfl⟩
          · exact ⟨_, by decide, rfl⟩
        have hsz := joinB_size path x
        have HJ := Lib.hid (fun W hm => join_impl path x (by omega) (by omega) W hm)
        cases hmay : mayB zs user ref path wr0
        · go_wp2_with fail
          refine (HJ.out _ mr.out).mono ?_
          rintro e w5 ⟨rfl, b5⟩
          go_wp2
          go_roundw
          case rel => exact ⟨k + 1, by omega, by go_num, below_up hnx b5⟩
          case measure => simp [intOf]; omega
        · go_wp2_with fail
          refine (HJ.out _ mr.out).mono ?_
          rintro e w5 ⟨rfl, b5⟩
          have hn5 := below_up hnx b5
          have m5 := Lib.hid (mr.out.below b5)
          have s5 := Lib.hid (sr.out.below b5)
          clear b5 c0
          generalize joinB path x = s at hsz ⊢
          have HU := Lib.hid (fun W hm => und_impl path s (by omega) (by omega) W hm)
          by_cases h0 : toL s = []
          · have t1 := empty_yes h0
            clear h0
            go_wp2
            go_roundw
            case rel => exact ⟨k + 1, by omega, by go_num, hn5⟩
            case measure => simp [intOf]; omega
          · have t1 := empty_no h0
            clear h0
            cases hu : undB path s
            · go_wp2_with fail
              refine (HU.out _ m5.out).mono ?_
              rintro e w6 ⟨rfl, b6⟩
              rw [hu]
              go_wp2
              go_roundw
              case rel => exact ⟨k + 1, by omega, by go_num, below_up hn5 b6⟩
              case measure => simp [intOf]; omega
            · have HM := Lib.hid (may_under hmay hu)
              go_wp2_with fail
              refine (HU.out _ m5.out).mono ?_
              rintro e w6 ⟨rfl, b6⟩
              rw [hu]
              go_wp2_with fail
              refine (may_impl _ zs user ref s wr0 (by omega) _ (m5.out.below b6) (s5.out.below b6) hf).mono ?_
              rintro e w7 ⟨rfl, b7⟩
              rw [HM.out]
              go_wp2
              go_roundw
              case rel => exact ⟨k + 1, by omega, by go_num, below_up hn5 (below_up b6 b7)⟩
              case measure => simp [intOf]; omega
      · have B5 := below_up HB4.out hnx
        clear hnx
        have HF := Lib.hid (fun (W : World) (hm : MaxOk W) => may_impl _ _ 3 ⟨#[98]⟩ ⟨#[97, 47, 98]⟩ true (by decide) (W.alloc (.cells #[.int .i64 0, .string ⟨#[]⟩, .string ⟨#[]⟩, .bool true] 40)) (hm.al _) (one_row W 0 ⟨#[]⟩ ⟨#[]⟩ true) (ruShort_fine (ruShort_one (by decide) (by decide) (by decide))))
        have HO := Lib.hid may_one
        cases hmay : mayB zs user ref path wr0
        · go_wp2_with fail
          refine (HF.out _ mr.out).mono ?_
          rintro e w8 ⟨rfl, b8⟩
          rw [HO.out]
          go_wp2
          go_ret
          exact ⟨rfl, below_up B5 (below_up (al (below0 _) _) b8)⟩
        · have HR := Lib.hid (may_read hmay)
          have HS := Lib.hid (may_sees hmay)
          go_wp2_with fail
          refine (may_impl _ zs user ref path false (by omega) _ mr.out sr.out hf).mono ?_
          rintro e w6 ⟨rfl, b6⟩
          rw [HR.out]
          have m6 := Lib.hid (mr.out.below b6)
          have s6 := Lib.hid (sr.out.below b6)
          have B6 := below_up B5 b6
          clear b6 B5
          go_wp2_with fail
          refine (sees_impl _ zs user ref _ m6.out s6.out hf).mono ?_
          rintro e w7 ⟨rfl, b7⟩
          rw [HS.out]
          have m7 := Lib.hid (m6.out.below b7)
          have B7 := below_up B6 b7
          clear b7 B6
          go_wp2_with fail
          refine (HF.out _ m7.out).mono ?_
          rintro e w8 ⟨rfl, b8⟩
          rw [HO.out]
          go_wp2
          go_ret
          exact ⟨rfl, below_up B7 (below_up (al (below0 _) _) b8)⟩
set_option maxRecDepth 100000 in
theorem rulMayL_lifted (os : Os) (started : os.Started) (H : Type) (enc : TypeId × Value → H) (F : Stop.Interp) :
    ReturnsInHanded {} Tryd.checked os 8 .any ((OpenSpec.ofChange Rows.fnRulMaySpec).preRow enc Tryd.prog Tryd.f8 Rows.fnRulMayRow.domain false Rows.fnRulMayRow.laid) (((OpenSpec.ofChange Rows.fnRulMaySpec).at F).post enc Tryd.prog Tryd.f8 false true false false) := by
  obtain ⟨places, hx⟩ := (show ∃ places, DataW.whole enc Tryd.prog ((laidWorld os).forCall (fun _ _ => 0) ⟨#[], #[.slice none 0 0], []⟩).memory Tryd.f8.params.toList Rows.fnRulMaySpec.vars false (#[.slice none 0 0] : Array Value).toList 8 = some ([.nil], [], places) from ⟨[], by kernel_rfl⟩)
  have hmet : laidMet Tryd.prog Rows.fnRulMayRow.laid ((laidWorld os).forCall (fun _ _ => 0) ⟨#[], #[.slice none 0 0], []⟩).memory := laidMet_of_run' 8 (by kernel_rfl) (by kernel_rfl)
  refine returnsInHanded_of_row (C := Tryd.checked) (s := OpenSpec.ofChange Rows.fnRulMaySpec) Tryd.own started (by kernel_rfl) Tryd.func8
    (witness_row_at (enc := enc) (C := Tryd.checked) false (laidWorld os) #[.slice none 0 0] rfl (by kernel_rfl) (by kernel_rfl) (by kernel_rfl)
      (OpenSpec.preRow_of_cond 8 hx (by kernel_rfl) (fun k hk => by cases hk) (by kernel_rfl) hmet)) ?_
  intro W base args ds gs before hval0 hW _ _ _ _ hsh _
  show Calls Tryd.prog 8 args W fun e W2 => ∃ v, e = .returned v ∧ Rows.fnRulMaySpec.post enc Tryd.prog Tryd.f8 false true false false W args v W2
  have hval : ∀ (j : Nat) t v, Tryd.f8.params[j]? = some t → args[j]? = some v → Value.okWide Tryd.prog W .any base t v := hval0
  have hW1 : DataW.Whole enc Tryd.prog Tryd.f8.params.toList Rows.fnRulMaySpec.vars false W args.toList ds gs before := hW
  have hW2 := hW1
  obtain ⟨p, q, hA0, hV, rfl, _, _⟩ := hW1
  have hA : DataW.TrodAll enc Tryd.prog W 0 (fun _ => true) true Tryd.f8.params.toList args.toList ds p := hA0
  rw [Tryd.params8] at hA hval
  obtain ⟨v0, d0, rfl, rfl, h0⟩ := trodAll_one hA
  obtain ⟨rfl, rfl⟩ := trodVars_none hV
  clear hA0 hval0 hW
  simp only [List.append_nil] at hW2
  have lt0 : ∀ x ∈ p, x.block < W.heap.size := fun x hx => hW2.lt x (by simp [hx])
  have k0 := fun W2 (hb : Below W.heap.size W W2) => Below.trod Tryd.laidOut (by kernel_rfl) (of_decide_eq_true (by kernel_rfl)) h0 hb lt0
  obtain ⟨x0, wf0⟩ := open_bytes (hval 0 22 v0 rfl rfl) h0 lt0
  refine (rulMayL_calls W hsh v0 x0 wf0).mono fun e W2 ⟨he, hb⟩ => ?_
  subst he
  exact ⟨_, rfl, _, _, _, [], _, [], hW2, trodAll_mk1 (shut_bool Tryd.underlying4 true), trodAll_mk1 (k0 W2 hb), rfl, hb.frame _, fun h => by cases h⟩

theorem rulMayL_said : Rows.FnRulMaySaid :=
  OpenClaim.holds_of_cond 8 Tryd.f8 rfl rfl rfl rfl rfl rfl rfl ⟨rfl, rfl, rfl, rfl, rfl⟩ rfl rfl rfl rfl rfl (by kernel_rfl) Tryd.func8 (by kernel_rfl)
    (of_decide_eq_true (by kernel_rfl)) (by unfold Func.isWrapper; first | (rw [if_pos (by decide +kernel)]; kernel_rfl) | (rw [if_neg (by decide +kernel)]; exact ⟨rfl, rfl⟩))
    (fun os started H enc _ F => by rw [OpenClaim.pre_eq_preRow]; exact rulMayL_lifted os started H enc F)
theorem rulMayL_plain (f : FuncId) (fn : Func) (hf : Tryd.pinned.checked.prog.funcNamed "loop.example/chartulary/laws.FnRulMay" = some f) (hfn : Tryd.pinned.checked.prog.funcs[f]? = some fn) :
    false = Tryd.pinned.checked.prog.looks [] ∧ ∀ (j : Nat) t, fn.params[j]? = some t → Tryd.pinned.checked.prog.wantsStandIn t = false := by
  obtain rfl : f = 8 := Option.some.inj ((show Tryd.prog.funcNamed "loop.example/chartulary/laws.FnRulMay" = some 8 by kernel_rfl).symm.trans hf) |>.symm
  obtain rfl : fn = Tryd.f8 := (Option.some.inj (Tryd.func8.symm.trans hfn)).symm
  refine ⟨by kernel_rfl, fun j t ht => ?_⟩
  rw [Tryd.params8] at ht
  have hm := Array.mem_of_getElem? ht
  simp only [List.mem_toArray, List.mem_cons, List.not_mem_nil, or_false] at hm
  subst hm
  exact (show Tryd.prog.wantsStandIn 22 = false by kernel_rfl)

theorem rulMayL_holds : Rows.FnRulMayCardSaid :=
  Claim7.holds_tied_plain_at .later [] _ _ _ _ rulMayL_said (fun _ h => by cases h) (by kernel_rfl) (fun _ h => by cases h) fnRulMay_row_tie rfl ⟨rfl, rfl⟩ (by kernel_rfl) rfl rulMayL_plain (by kernel_rfl)
end Go.Proofs.YtfiempmdmkoagaaDoor
