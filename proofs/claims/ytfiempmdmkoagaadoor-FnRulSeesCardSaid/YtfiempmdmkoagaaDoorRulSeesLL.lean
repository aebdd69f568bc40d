/- FnRulSees returns true for every input; the tables that its row lists are tied to the program. No condition. -/
import Derived.Test.YtfiempmdmkoagaaDoorDrawRm
import Derived.Test.YtfiempmdmkoagaaDoorRulI
import Derived.Test.YtfiempmdmkoagaaDoorByteOpen
import Derived.Test.YtfiempmdmkoagaaDoorLaidW
namespace Go.Proofs.YtfiempmdmkoagaaDoor
open Go.ChangeShapes Go.WideShapes Go.ChangeAt Go.RowKit

theorem sees_one : seesB [⟨0, ⟨#[]⟩, ⟨#[97]⟩, false⟩] 1 ⟨#[97]⟩ = true := by decide
theorem any_take {α : Type} {p : α → Bool} {zs : List α} {z : α} {k : Nat} (hz : zs[k]? = some z) : (zs.take (k + 1)).any p = ((zs.take k).any p || p z) := by rw [take_one hz]; simp
set_option maxRecDepth 100000 in
set_option maxHeartbeats 4000000 in
theorem rulSeesL_calls (W : World) (hsh : W.ShapedOpen Tryd.prog) (v : Value) (bs : List UInt8) (hs : Sl 1 byteC W v bs) :
    Calls Tryd.prog 6 #[v] W fun e w' => e = .returned (.bool true) ∧ Below W.heap.size W w' := by
  have hm0 := maxOk_of hsh
  clear hsh
  obtain ⟨A, c, rfl, hlc, hc, -⟩ := id hs
  unfold maxLen at hc
  by_cases hL : (1048576 : Int) < (bs.length : Nat)
  · go_enter Tryd.func6, Tryd.ntmps6
    go_wp2
    go_ret
    exact ⟨rfl, below0 W⟩
  · go_enter Tryd.func6, Tryd.ntmps6
    go_wp2_with fail
    refine (drawRulSees_calls _ bs _ hs).mono ?_
    rintro e w1 ⟨u, zs, user, ref, hzl, hsh, hus, href, rfl, hz, b1⟩
    have hf := ruShort_fine hsh
    have m1 := Lib.hid (hm0.below b1)
    obtain ⟨A1, c1, rfl, hc1, hlc1, hat⟩ := rule_z hz
    unfold maxLen at hc1
    have HA := Lib.hid hat
    have HZ := Lib.hid hz
    clear hat hz
    go_wp2
    go_loopw [6, 7] (fun s i wr => ∃ k : Nat, k ≤ zs.length ∧ i = .int .i64 k ∧ s = .bool ((zs.take k).any fun z => forB z user ref) ∧ Below w1.heap.size w1 wr) (fun _ i _ => zs.length - (intOf i).toNat)
    case atStart => exact ⟨0, by omega, rfl, by simp, below0 _⟩
    case round =>
      obtain ⟨k, hk, rfl, rfl, hb⟩ := hrel
      by_cases hlt : k < zs.length
      · obtain ⟨⟨zu, zr, zp, zw⟩, b, off, hzk, hA, hbl, d0, d1, d2, d3⟩ := HA.out k hlt
        subst hA
        have e0 := (hb.cell (p := ⟨b, off + k * 4, none⟩) hbl).trans d0
        have e1 := (hb.cell (p := ⟨b, off + k * 4 + 1, none⟩) hbl).trans d1
        have e2 := (hb.cell (p := ⟨b, off + k * 4 + 2, none⟩) hbl).trans d2
        have e3 := (hb.cell (p := ⟨b, off + k * 4 + 3, none⟩) hbl).trans d3
        have mr := Lib.hid (m1.out.below hb)
        obtain ⟨hz1, hz2⟩ := ruleFine_get hf hzk
        have HT := Lib.hid (any_take (p := fun z : TRule => forB z (user : Int) ref) hzk)
        have HR := Lib.hid (fun W hm => rok_impl ⟨zu, zr, zp, zw⟩ hz1 hz2 W hm)
        cases hs : (zs.take k).any fun z => forB z user ref
        · clear HA hzk d0 d1 d2 d3
          go_wp2_with fail
          refine (HR.out _ (mr.out.al _)).mono ?_
          rintro e w2 ⟨rfl, b2⟩
          have B2 := below_up hb (below_up (al (below0 wr) _) b2)
          have hblk := (b2.block wr.heap.size (by simp)).trans (heap_alloc_new wr _)
          cases h : rokB ⟨zu, zr, zp, zw⟩
          · have HE := Lib.hid (for_no (u := (user : Int)) (ref := ref) h)
            clear hblk b2 h e0 e1 e2 e3
            go_wp2
            go_roundw
            case rel => exact ⟨k + 1, by omega, by go_num, by rw [HT.out, hs, HE.out]; rfl, B2⟩
            case measure => simp [intOf]; omega
          · have HE := Lib.hid (forB_eq (u := (user : Int)) (ref := ref) h)
            have q0 : w2.cell? ⟨wr.heap.size, 0, none⟩ = some (.int .i64 zu) := by rw [cell_of_row _ _ 0 _ _ _ hblk]; rfl
            have q1 : w2.cell? ⟨wr.heap.size, 1, none⟩ = some (.string zr) := by rw [cell_of_row _ _ 1 _ _ _ hblk]; rfl
            clear hblk b2 h e0 e1 e2 e3
            go_wp2
            all_goals (
              go_roundw
              case rel => exact ⟨k + 1, by omega, by go_num, by rw [HT.out, hs, HE.out]; simp [*], B2⟩
              case measure => simp [intOf]; omega)
        · clear HA hzk d0 d1 d2 d3
          go_wp2
          go_roundw
          case rel => exact ⟨k + 1, by omega, by go_num, by rw [HT.out, hs]; rfl, al hb _⟩
          case measure => simp [intOf]; omega
      · obtain rfl : k = zs.length := by omega
        rw [List.take_length]
        have sR := HZ.out.below hb
        have mr := Lib.hid (m1.out.below hb)
        have B0 := below_up b1 hb
        have hsee : (zs.any fun z => forB z (user : Int) ref) = seesB zs user ref := rfl
        rw [hsee]
        clear hsee HA hb
        go_wp2_with fail
        refine (sees_impl _ zs user ref _ mr.out sR hf).mono ?_
        rintro e w2 ⟨rfl, b2⟩
        have m2 := Lib.hid (mr.out.below b2)
        have s2 := sR.below b2
        have B2 := below_up B0 b2
        clear B0 b2 sR
        go_wp2_with fail
        refine (sees_impl _ zs user ref _ m2.out s2 hf).mono ?_
        rintro e w3 ⟨rfl, b3⟩
        have m3 := Lib.hid (m2.out.below b3)
        have s3 := s2.below b3
        have B3 := below_up B2 b3
        clear B2 b3 s2
        go_wp2_with fail
        refine (sees_spec _ zs user ref _ s3 hf).mono ?_
        rintro e w4 ⟨rfl, b4⟩
        have m4 := Lib.hid (m3.out.below b4)
        have B4 := below_up B3 b4
        clear B3 b4 s3
        have o5 := World.ownsRow_lit (base := w4.heap.size) w4 #[.int .i64 0, .string ⟨#[]⟩, .string ⟨#[97]⟩, .bool false] 1 (e := 40) (size := 4) (Nat.le_refl _) (by simp [maxLen]) rfl
        have s5 : Sl 4 ruleC (w4.alloc (.cells #[.int .i64 0, .string ⟨#[]⟩, .string ⟨#[97]⟩, .bool false] 40)) (.slice (some ⟨w4.heap.size, 0, none⟩) 1 1) [⟨0, ⟨#[]⟩, ⟨#[97]⟩, false⟩] := Own.sl (base := w4.heap.size) ruleC_len o5
        have HF := Lib.hid (sees_impl _ _ 1 ⟨#[97]⟩ _ (m4.out.al _) s5 (ruShort_fine (ruShort_one (by decide) (by decide) (by decide))))
        have HS := Lib.hid sees_one
        clear o5 s5
        go_wp2_with fail
        refine HF.out.mono ?_
        rintro e w5 ⟨rfl, b5⟩
        rw [HS.out]
        have B5 := below_up B4 (below_up (al (below0 w4) _) b5)
        go_wp2
        go_ret
        exact ⟨rfl, B5⟩
set_option maxRecDepth 100000 in
theorem rulSeesL_lifted (os : Os) (started : os.Started) (H : Type) (enc : TypeId × Value → H) (F : Stop.Interp) :
    ReturnsInHanded {} Tryd.checked os 6 .any ((OpenSpec.ofChange Rows.fnRulSeesSpec).preRow enc Tryd.prog Tryd.f6 Rows.fnRulSeesRow.domain false Rows.fnRulSeesRow.laid) (((OpenSpec.ofChange Rows.fnRulSeesSpec).at F).post enc Tryd.prog Tryd.f6 false true false false) := by
  obtain ⟨places, hx⟩ := (show ∃ places, DataW.whole enc Tryd.prog ((laidWorld os).forCall (fun _ _ => 0) ⟨#[], #[.slice none 0 0], []⟩).memory Tryd.f6.params.toList Rows.fnRulSeesSpec.vars false (#[.slice none 0 0] : Array Value).toList 8 = some ([.nil], [], places) from ⟨[], by kernel_rfl⟩)
  have hmet : laidMet Tryd.prog Rows.fnRulSeesRow.laid ((laidWorld os).forCall (fun _ _ => 0) ⟨#[], #[.slice none 0 0], []⟩).memory := laidMet_of_run' 8 (by kernel_rfl) (by kernel_rfl)
  refine returnsInHanded_of_row (C := Tryd.checked) (s := OpenSpec.ofChange Rows.fnRulSeesSpec) Tryd.own started (by kernel_rfl) Tryd.func6
    (witness_row_at (enc := enc) (C := Tryd.checked) false (laidWorld os) #[.slice none 0 0] rfl (by kernel_rfl) (by kernel_rfl) (by kernel_rfl)
      (OpenSpec.preRow_of_cond 8 hx (by kernel_rfl) (fun k hk => by cases hk) (by kernel_rfl) hmet)) ?_
  intro W base args ds gs before hval0 hW _ _ _ _ hsh _
  show Calls Tryd.prog 6 args W fun e W2 => ∃ v, e = .returned v ∧ Rows.fnRulSeesSpec.post enc Tryd.prog Tryd.f6 false true false false W args v W2
  have hval : ∀ (j : Nat) t v, Tryd.f6.params[j]? = some t → args[j]? = some v → Value.okWide Tryd.prog W .any base t v := hval0
  have hW1 : DataW.Whole enc Tryd.prog Tryd.f6.params.toList Rows.fnRulSeesSpec.vars false W args.toList ds gs before := hW
  have hW2 := hW1
  obtain ⟨p, q, hA0, hV, rfl, _, _⟩ := hW1
  have hA : DataW.TrodAll enc Tryd.prog W 0 (fun _ => true) true Tryd.f6.params.toList args.toList ds p := hA0
  rw [Tryd.params6] at hA hval
  obtain ⟨v0, d0, rfl, rfl, h0⟩ := trodAll_one hA
  obtain ⟨rfl, rfl⟩ := trodVars_none hV
  clear hA0 hval0 hW
  simp only [List.append_nil] at hW2
  have lt0 : ∀ x ∈ p, x.block < W.heap.size := fun x hx => hW2.lt x (by simp [hx])
  have k0 := fun W2 (hb : Below W.heap.size W W2) => Below.trod Tryd.laidOut (by kernel_rfl) (of_decide_eq_true (by kernel_rfl)) h0 hb lt0
  obtain ⟨x0, wf0⟩ := open_bytes (hval 0 22 v0 rfl rfl) h0 lt0
  refine (rulSeesL_calls W hsh v0 x0 wf0).mono fun e W2 ⟨he, hb⟩ => ?_
  subst he
  exact ⟨_, rfl, _, _, _, [], _, [], hW2, trodAll_mk1 (shut_bool Tryd.underlying4 true), trodAll_mk1 (k0 W2 hb), rfl, hb.frame _, fun h => by cases h⟩

theorem rulSeesL_said : Rows.FnRulSeesSaid :=
  OpenClaim.holds_of_cond 6 Tryd.f6 rfl rfl rfl rfl rfl rfl rfl ⟨rfl, rfl, rfl, rfl, rfl⟩ rfl rfl rfl rfl rfl (by kernel_rfl) Tryd.func6 (by kernel_rfl)
    (of_decide_eq_true (by kernel_rfl)) (by unfold Func.isWrapper; first | (rw [if_pos (by decide +kernel)]; kernel_rfl) | (rw [if_neg (by decide +kernel)]; exact ⟨rfl, rfl⟩))
    (fun os started H enc _ F => by rw [OpenClaim.pre_eq_preRow]; exact rulSeesL_lifted os started H enc F)
theorem rulSeesL_plain (f : FuncId) (fn : Func) (hf : Tryd.pinned.checked.prog.funcNamed "loop.example/chartulary/laws.FnRulSees" = some f) (hfn : Tryd.pinned.checked.prog.funcs[f]? = some fn) :
    false = Tryd.pinned.checked.prog.looks [] ∧ ∀ (j : Nat) t, fn.params[j]? = some t → Tryd.pinned.checked.prog.wantsStandIn t = false := by
  obtain rfl : f = 6 := Option.some.inj ((show Tryd.prog.funcNamed "loop.example/chartulary/laws.FnRulSees" = some 6 by kernel_rfl).symm.trans hf) |>.symm
  obtain rfl : fn = Tryd.f6 := (Option.some.inj (Tryd.func6.symm.trans hfn)).symm
  refine ⟨by kernel_rfl, fun j t ht => ?_⟩
  rw [Tryd.params6] at ht
  have hm := Array.mem_of_getElem? ht
  simp only [List.mem_toArray, List.mem_cons, List.not_mem_nil, or_false] at hm
  subst hm
  exact (show Tryd.prog.wantsStandIn 22 = false by kernel_rfl)

theorem rulSeesL_holds : Rows.FnRulSeesCardSaid :=
  Claim7.holds_tied_plain_at .later [] _ _ _ _ rulSeesL_said (fun _ h => by cases h) (by kernel_rfl) (fun _ h => by cases h) fnRulSees_row_tie rfl ⟨rfl, rfl⟩ (by kernel_rfl) rfl rulSeesL_plain (by kernel_rfl)
end Go.Proofs.YtfiempmdmkoagaaDoor
