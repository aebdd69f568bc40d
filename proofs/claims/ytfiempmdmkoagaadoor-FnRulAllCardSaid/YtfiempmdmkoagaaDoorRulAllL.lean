/- FnRulAll returns true for every code; the tables that its row lists are tied to the program. No condition. -/
import Derived.Test.YtfiempmdmkoagaaDoorDrawRm
import Derived.Test.YtfiempmdmkoagaaDoorRulI
import Derived.Test.YtfiempmdmkoagaaDoorRulM
import Derived.Test.YtfiempmdmkoagaaDoorPthOrderH
import Derived.Test.YtfiempmdmkoagaaDoorByteOpen
import Derived.Test.YtfiempmdmkoagaaDoorLaidW
namespace Go.Proofs.YtfiempmdmkoagaaDoor
open Go.ChangeShapes Go.WideShapes Go.ChangeAt Go.RowKit

theorem one_row2 (w : World) (u : Int) (s t : ByteArray) (b : Bool) : Sl 4 ruleC (w.alloc (.cells #[.int .i64 u, .string s, .string t, .bool b] 40)) (.slice (some ⟨w.heap.size, 0, none⟩) 1 1) [⟨u, s, t, b⟩] :=
  Own.sl (base := w.heap.size) (e := 40) ruleC_len (World.ownsRow_lit (base := w.heap.size) w #[.int .i64 u, .string s, .string t, .bool b] 1 (e := 40) (size := 4) (Nat.le_refl _) (by simp [maxLen]) rfl)
theorem all_one : mayB [⟨0, ⟨#[]⟩, ⟨#[97]⟩, false⟩] 2 ⟨#[98]⟩ ⟨#[97, 47, 99]⟩ false = true := by decide
theorem may_single {r : TRule} {u : Int} {ref p : ByteArray} {write : Bool} : mayB [r] u ref p write = mayR r u ref p write := by simp [mayB]
theorem single_in {zs : List TRule} {r : TRule} {k : Nat} {u : Int} {ref p : ByteArray} {write : Bool} (hz : zs[k]? = some r) (h : mayB [r] u ref p write = true) : mayB zs u ref p write = true := by
  rw [may_single] at h
  exact List.any_eq_true.2 ⟨r, List.mem_of_getElem? hz, h⟩
theorem single_user {r : TRule} {u : Int} {ref p : ByteArray} {write : Bool} (h : mayB [r] u ref p write = true) : r.user = 0 ∨ r.user = u := by
  rw [may_single] at h
  simp only [mayR, forB, Bool.and_eq_true, Bool.or_eq_true, beq_iff_eq] at h
  exact h.1.1.1.2
theorem single_ref {r : TRule} {u : Int} {ref p : ByteArray} {write : Bool} (h : mayB [r] u ref p write = true) : toL r.ref = [] ∨ r.ref = ref := by
  rw [may_single] at h
  simp only [mayR, forB, Bool.and_eq_true, Bool.or_eq_true, beq_iff_eq, List.isEmpty_iff] at h
  exact h.1.1.2.imp id toL_inj
theorem single_all {r : TRule} {u : Int} {ref p : ByteArray} {write : Bool} (h : mayB [r] u ref p write = true) : mayB [⟨0, r.ref, r.path, r.write⟩] u ref p write = true := by
  rw [may_single] at h ⊢
  simp only [mayR, forB, rokB, Bool.and_eq_true, Bool.or_eq_true, beq_iff_eq, decide_eq_true_eq] at h ⊢
  obtain ⟨⟨⟨⟨⟨⟨⟨h1, h2⟩, h3⟩, h4⟩, h5⟩, h6⟩, h7⟩, h8⟩ := h
  refine ⟨⟨⟨⟨⟨⟨⟨by decide, by decide⟩, h3⟩, h4⟩, ?_⟩, h6⟩, h7⟩, h8⟩
  simp

set_option maxRecDepth 100000 in
set_option maxHeartbeats 4000000 in
theorem rulAllL_calls (W : World) (hsh : W.ShapedOpen Tryd.prog) (v : Value) (bs : List UInt8) (hs : Sl 1 byteC W v bs) :
    Calls Tryd.prog 7 #[v] W fun e w' => e = .returned (.bool true) ∧ Below W.heap.size W w' := by
  have hm0 := maxOk_of hsh
  clear hsh
  obtain ⟨A, c, rfl, hlc, hc, -⟩ := id hs
  unfold maxLen at hc
  by_cases hL : (1048576 : Int) < (bs.length : Nat)
  · go_enter Tryd.func7, Tryd.ntmps7
    go_wp2
    go_ret
    exact ⟨rfl, below0 W⟩
  · go_enter Tryd.func7, Tryd.ntmps7
    go_wp2_with fail
    refine (drawRulMay_calls _ bs _ hs).mono ?_
    rintro e w1 ⟨u, zs, user, ref, path, wr0, hzl, hsh, hus, href, hpath, rfl, hz, b1⟩
    have hf := ruShort_fine hsh
    have m1 := Lib.hid (hm0.below b1)
    obtain ⟨A1, c1, rfl, hc1, hlc1, -⟩ := rule_z hz
    unfold maxLen at hc1
    go_wp2_with fail
    refine (may_impl _ zs user ref path wr0 (by omega) _ m1.out hz hf).mono ?_
    rintro e w2 ⟨rfl, b2⟩
    have B2 := below_up b1 b2
    have m2 := Lib.hid (m1.out.below b2)
    have s2 := hz.below b2
    clear b1 b2 hz m1
    go_wp2_with fail
    refine (may_spec _ zs user ref path wr0 _ s2 hf (by omega)).mono ?_
    rintro e w3 ⟨rfl, b3⟩
    have HB := Lib.hid (below_up B2 b3)
    have m3 := Lib.hid (m2.out.below b3)
    have s3 := s2.below b3
    clear B2 b3 s2 m2 hs
    obtain ⟨A2, c2, e2, -, -, hat⟩ := rule_z s3
    simp only [Value.slice.injEq, true_and] at e2
    obtain ⟨rfl, rfl⟩ := e2
    have s3 := Lib.hid s3
    have HA := Lib.hid hat
    clear hat
    go_wp2_with fail
    go_loopw [8] (fun i wr => ∃ k : Nat, k ≤ zs.length ∧ i = .int .i64 k ∧ Below w3.heap.size w3 wr) (fun i _ => zs.length - (intOf i).toNat)
    case atStart => exact ⟨0, by omega, rfl, below0 _⟩
    case round =>
      obtain ⟨k, hk, rfl, hnx⟩ := hrel
      have mr := Lib.hid (m3.out.below hnx)
      have sr := Lib.hid (s3.out.below hnx)
      by_cases hlt : k < zs.length
      · obtain ⟨⟨zu, zr, zp, zw⟩, b, off, hzk, hA, hbl, d0, d1, d2, d3⟩ := HA.out k hlt
        subst hA
        have e0 := (hnx.cell (p := ⟨b, off + k * 4, none⟩) hbl).trans d0
        have e1 := (hnx.cell (p := ⟨b, off + k * 4 + 1, none⟩) hbl).trans d1
        have e2 := (hnx.cell (p := ⟨b, off + k * 4 + 2, none⟩) hbl).trans d2
        have e3 := (hnx.cell (p := ⟨b, off + k * 4 + 3, none⟩) hbl).trans d3
        have hzs := hsh _ (List.mem_of_getElem? hzk)
        have HS1 := Lib.hid (fun (h : mayB [⟨zu, zr, zp, zw⟩] user ref path wr0 = true) => single_in hzk h)
        have hblk0 : (wr.alloc (.cells #[.int .i64 zu, .string zr, .string zp, .bool zw] 40)).heap[wr.heap.size]? = _ := heap_alloc_new wr (.cells #[.int .i64 zu, .string zr, .string zp, .bool zw] 40)
        have HM := Lib.hid (fun (W : World) (hm : MaxOk W) => may_impl _ _ user ref path wr0 (by omega) (W.alloc (.cells #[.int .i64 zu, .string zr, .string zp, .bool zw] 40)) (hm.al _) (one_row2 W zu zr zp zw) (ruShort_fine (ruShort_one hzs.1 hzs.2.1 hzs.2.2)))
        have HM0 := Lib.hid (fun (W : World) (hm : MaxOk W) => may_impl _ _ user ref path wr0 (by omega) (W.alloc (.cells #[.int .i64 0, .string zr, .string zp, .bool zw] 40)) (hm.al _) (one_row2 W 0 zr zp zw) (ruShort_fine (ruShort_one (by decide) hzs.2.1 hzs.2.2)))
        have HM1 := HM.out (wr.alloc (.cells #[.int .i64 zu, .string zr, .string zp, .bool zw] 40)) (mr.out.al _)
        rw [show (wr.alloc (.cells #[.int .i64 zu, .string zr, .string zp, .bool zw] 40)).heap.size = wr.heap.size + 1 by simp] at HM1
        have HM1 := Lib.hid HM1
        have hBA := Lib.hid (al (al (below0 wr) (.cells #[.int .i64 zu, .string zr, .string zp, .bool zw] 40)) (.cells #[.int .i64 zu, .string zr, .string zp, .bool zw] 40))
        have hblk1 := Lib.hid (((al (below0 (wr.alloc (.cells #[.int .i64 zu, .string zr, .string zp, .bool zw] 40))) (.cells #[.int .i64 zu, .string zr, .string zp, .bool zw] 40)).block wr.heap.size (by simp)).trans hblk0)
        have hlA : wr.heap.size < ((wr.alloc (.cells #[.int .i64 zu, .string zr, .string zp, .bool zw] 40)).alloc (.cells #[.int .i64 zu, .string zr, .string zp, .bool zw] 40)).heap.size := by simp; omega
        clear hzk d0 d1 d2 d3 hzs hblk0 HM
        go_wp2_with fail
        refine HM1.out.mono ?_
        rintro e w5 ⟨rfl, b5⟩
        have hblk := (b5.block wr.heap.size hlA).trans hblk1.out
        have hn5 := below_up hnx (below_up hBA.out b5)
        have m5 := Lib.hid (m3.out.below hn5)
        have s5 := Lib.hid (s3.out.below hn5)
        have hws : w3.heap.size ≤ wr.heap.size := hnx.size
        clear b5 hBA hblk1 e0 e1 e2 e3 hnx sr mr HM1 hlA
        have hn5 := Lib.hid hn5
        have q0 : w5.cell? ⟨wr.heap.size, 0, none⟩ = some (.int .i64 zu) := by rw [cell_of_row _ _ 0 _ _ _ hblk]; rfl
        have q1 : w5.cell? ⟨wr.heap.size, 1, none⟩ = some (.string zr) := by rw [cell_of_row _ _ 1 _ _ _ hblk]; rfl
        have q2 : w5.cell? ⟨wr.heap.size, 2, none⟩ = some (.string zp) := by rw [cell_of_row _ _ 2 _ _ _ hblk]; rfl
        have q3 : w5.cell? ⟨wr.heap.size, 3, none⟩ = some (.bool zw) := by rw [cell_of_row _ _ 3 _ _ _ hblk]; rfl
        have q4 := frozen_of_row w5 wr.heap.size 0 _ _ hblk
        cases hmay : mayB [⟨zu, zr, zp, zw⟩] user ref path wr0
        · clear HM0 HS1
          go_wp2
          all_goals (
            go_roundw
            case rel => exact ⟨k + 1, by omega, by go_num, hn5.out.setCell (by exact hws) _⟩
            case measure => simp [intOf]; omega)
        · have HL := Lib.hid (HS1.out hmay)
          have HA := Lib.hid (single_all hmay)
          have hU := single_user hmay
          have hR := single_ref hmay
          clear HS1
          simp only at hU hR
          have hU2 : zu = 0 ∨ (¬ (user : Int) = 0 ∧ zu = (user : Int)) := by
            by_cases h : zu = 0
            · exact .inl h
            · exact .inr ⟨fun e => h (by rw [hU.resolve_left h, e]), hU.resolve_left h⟩
          have hR2 : zr.toList.isEmpty = true ∨ (zr.toList.isEmpty = false ∧ (zr.toList == ref.toList) = true) := by
            by_cases h : toL zr = []
            · exact .inl (empty_yes h)
            · exact .inr ⟨empty_no h, beq_of_eq (hR.resolve_left h)⟩
          clear hU hR
          have hfin : ∀ w6 : World, Below w5.heap.size w5 w6 → MaxOk (w6.setCell ⟨wr.heap.size, 0, none⟩ (.int .i64 0)) := fun w6 b6 => by
            have h1 := (below_up hn5.out b6).setCell (p := ⟨wr.heap.size, 0, none⟩) hws (.int .i64 0)
            exact m3.out.below h1
          have HFin := Lib.hid hfin
          have hb5 : wr.heap.size < w5.heap.size := (Array.getElem?_eq_some_iff.1 hblk).1
          clear hfin
          rcases hU2 with rfl | ⟨hU2, rfl⟩
          all_goals (
            rcases hR2 with hR2 | ⟨hR2, hR3⟩
            all_goals (
              have HL2 := may_impl _ zs user ref path wr0 (by omega) _ m5.out s5.out hf
              rw [HL.out] at HL2
              have HL2 := Lib.hid HL2
              go_wp2_with fail
              refine HL2.out.mono ?_
              rintro e w6 ⟨rfl, b6⟩
              have hblk6 := (b6.block wr.heap.size hb5).trans hblk
              have HN6 := Lib.hid ((below_up hn5.out b6).setCell (p := ⟨wr.heap.size, 0, none⟩) hws (.int .i64 0))
              have hm6 := HFin.out w6 b6
              have hblk7 := heap_setCell_same w6 wr.heap.size 0 _ _ (.int .i64 0) hblk6
              have HZ := HM0.out _ hm6
              rw [show (w6.setCell ⟨wr.heap.size, 0, none⟩ (.int .i64 0)).heap.size = w6.heap.size by simp [World.setCell]] at HZ
              rw [HA.out] at HZ
              have HZ := Lib.hid HZ
              have q5 := frozen_of_row w6 wr.heap.size 0 _ _ hblk6
              have q6 : w6.cell? ⟨wr.heap.size, 0, none⟩ = some (.int .i64 _) := (cell_of_row _ _ 0 _ _ _ hblk6).trans rfl
              have c1 : (w6.setCell ⟨wr.heap.size, 0, none⟩ (.int .i64 0)).cell? ⟨wr.heap.size, 1, none⟩ = some (.string zr) := by rw [cell_of_row _ _ 1 _ _ _ hblk7]; rfl
              have c2 : (w6.setCell ⟨wr.heap.size, 0, none⟩ (.int .i64 0)).cell? ⟨wr.heap.size, 2, none⟩ = some (.string zp) := by rw [cell_of_row _ _ 2 _ _ _ hblk7]; rfl
              have c3 : (w6.setCell ⟨wr.heap.size, 0, none⟩ (.int .i64 0)).cell? ⟨wr.heap.size, 3, none⟩ = some (.bool zw) := by rw [cell_of_row _ _ 3 _ _ _ hblk7]; rfl
              clear hblk6 hblk7 q0 q1 q2 q3 q4 b6
              go_wp2_with fail
              refine HZ.out.mono ?_
              rintro e w7 ⟨rfl, b7⟩
              go_wp2
              go_roundw
              case rel => exact ⟨k + 1, by omega, by go_num, below_up HN6.out (below_up (al (below0 _) _) b7)⟩
              case measure => simp [intOf]; omega))
      · have HF := Lib.hid (fun (W : World) (hm : MaxOk W) => may_impl _ _ 2 ⟨#[98]⟩ ⟨#[97, 47, 99]⟩ false (by decide) (W.alloc (.cells #[.int .i64 0, .string ⟨#[]⟩, .string ⟨#[97]⟩, .bool false] 40)) (hm.al _) (one_row2 W 0 ⟨#[]⟩ ⟨#[97]⟩ false) (ruShort_fine (ruShort_one (by decide) (by decide) (by decide))))
        have HO := Lib.hid all_one
        have HC := Lib.hid (fun W => chOk_calls W)
        have B5 := below_up HB.out hnx
        clear hnx
        go_wp2_with fail
        refine (HF.out _ mr.out).mono ?_
        rintro e w8 ⟨rfl, b8⟩
        rw [HO.out]
        go_wp2_with fail
        refine (HC.out _).mono ?_
        rintro e w9 ⟨rfl, b9⟩
        go_wp2
        go_ret
        exact ⟨rfl, below_up B5 (below_up (below_up (al (below0 _) _) b8) b9)⟩
set_option maxRecDepth 100000 in
theorem rulAllL_lifted (os : Os) (started : os.Started) (H : Type) (enc : TypeId × Value → H) (F : Stop.Interp) :
    ReturnsInHanded {} Tryd.checked os 7 .any ((OpenSpec.ofChange Rows.fnRulAllSpec).preRow enc Tryd.prog Tryd.f7 Rows.fnRulAllRow.domain false Rows.fnRulAllRow.laid) (((OpenSpec.ofChange Rows.fnRulAllSpec).at F).post enc Tryd.prog Tryd.f7 false true false false) := by
  obtain ⟨places, hx⟩ := (show ∃ places, DataW.whole enc Tryd.prog ((laidWorld os).forCall (fun _ _ => 0) ⟨#[], #[.slice none 0 0], []⟩).memory Tryd.f7.params.toList Rows.fnRulAllSpec.vars false (#[.slice none 0 0] : Array Value).toList 8 = some ([.nil], [], places) from ⟨[], by kernel_rfl⟩)
  have hmet : laidMet Tryd.prog Rows.fnRulAllRow.laid ((laidWorld os).forCall (fun _ _ => 0) ⟨#[], #[.slice none 0 0], []⟩).memory := laidMet_of_run' 8 (by kernel_rfl) (by kernel_rfl)
  refine returnsInHanded_of_row (C := Tryd.checked) (s := OpenSpec.ofChange Rows.fnRulAllSpec) Tryd.own started (by kernel_rfl) Tryd.func7
    (witness_row_at (enc := enc) (C := Tryd.checked) false (laidWorld os) #[.slice none 0 0] rfl (by kernel_rfl) (by kernel_rfl) (by kernel_rfl)
      (OpenSpec.preRow_of_cond 8 hx (by kernel_rfl) (fun k hk => by cases hk) (by kernel_rfl) hmet)) ?_
  intro W base args ds gs before hval0 hW _ _ _ _ hsh _
  show Calls Tryd.prog 7 args W fun e W2 => ∃ v, e = .returned v ∧ Rows.fnRulAllSpec.post enc Tryd.prog Tryd.f7 false true false false W args v W2
  have hval : ∀ (j : Nat) t v, Tryd.f7.params[j]? = some t → args[j]? = some v → Value.okWide Tryd.prog W .any base t v := hval0
  have hW1 : DataW.Whole enc Tryd.prog Tryd.f7.params.toList Rows.fnRulAllSpec.vars false W args.toList ds gs before := hW
  have hW2 := hW1
  obtain ⟨p, q, hA0, hV, rfl, _, _⟩ := hW1
  have hA : DataW.TrodAll enc Tryd.prog W 0 (fun _ => true) true Tryd.f7.params.toList args.toList ds p := hA0
  rw [Tryd.params7] at hA hval
  obtain ⟨v0, d0, rfl, rfl, h0⟩ := trodAll_one hA
  obtain ⟨rfl, rfl⟩ := trodVars_none hV
  clear hA0 hval0 hW
  simp only [List.append_nil] at hW2
  have lt0 : ∀ x ∈ p, x.block < W.heap.size := fun x hx => hW2.lt x (by simp [hx])
  have k0 := fun W2 (hb : Below W.heap.size W W2) => Below.trod Tryd.laidOut (by kernel_rfl) (of_decide_eq_true (by kernel_rfl)) h0 hb lt0
  obtain ⟨x0, wf0⟩ := open_bytes (hval 0 22 v0 rfl rfl) h0 lt0
  refine (rulAllL_calls W hsh v0 x0 wf0).mono fun e W2 ⟨he, hb⟩ => ?_
  subst he
  exact ⟨_, rfl, _, _, _, [], _, [], hW2, trodAll_mk1 (shut_bool Tryd.underlying4 true), trodAll_mk1 (k0 W2 hb), rfl, hb.frame _, fun h => by cases h⟩

theorem rulAllL_said : Rows.FnRulAllSaid :=
  OpenClaim.holds_of_cond 7 Tryd.f7 rfl rfl rfl rfl rfl rfl rfl ⟨rfl, rfl, rfl, rfl, rfl⟩ rfl rfl rfl rfl rfl (by kernel_rfl) Tryd.func7 (by kernel_rfl)
    (of_decide_eq_true (by kernel_rfl)) (by unfold Func.isWrapper; first | (rw [if_pos (by decide +kernel)]; kernel_rfl) | (rw [if_neg (by decide +kernel)]; exact ⟨rfl, rfl⟩))
    (fun os started H enc _ F => by rw [OpenClaim.pre_eq_preRow]; exact rulAllL_lifted os started H enc F)
theorem rulAllL_plain (f : FuncId) (fn : Func) (hf : Tryd.pinned.checked.prog.funcNamed "loop.example/chartulary/laws.FnRulAll" = some f) (hfn : Tryd.pinned.checked.prog.funcs[f]? = some fn) :
    false = Tryd.pinned.checked.prog.looks [] ∧ ∀ (j : Nat) t, fn.params[j]? = some t → Tryd.pinned.checked.prog.wantsStandIn t = false := by
  obtain rfl : f = 7 := Option.some.inj ((show Tryd.prog.funcNamed "loop.example/chartulary/laws.FnRulAll" = some 7 by kernel_rfl).symm.trans hf) |>.symm
  obtain rfl : fn = Tryd.f7 := (Option.some.inj (Tryd.func7.symm.trans hfn)).symm
  refine ⟨by kernel_rfl, fun j t ht => ?_⟩
  rw [Tryd.params7] at ht
  have hm := Array.mem_of_getElem? ht
  simp only [List.mem_toArray, List.mem_cons, List.not_mem_nil, or_false] at hm
  subst hm
  exact (show Tryd.prog.wantsStandIn 22 = false by kernel_rfl)

theorem rulAllL_holds : Rows.FnRulAllCardSaid :=
  Claim7.holds_tied_plain_at .later [] _ _ _ _ rulAllL_said (fun _ h => by cases h) (by kernel_rfl) (fun _ h => by cases h) fnRulAll_row_tie rfl ⟨rfl, rfl⟩ (by kernel_rfl) rfl rulAllL_plain (by kernel_rfl)
end Go.Proofs.YtfiempmdmkoagaaDoor
