/- FnNamParts returns true for every code; the tables that its row lists are tied to the program. No condition. -/
import Derived.Test.YtfiempmdmkoagaaDoorDrawU
import Derived.Test.YtfiempmdmkoagaaDoorPthOrderH
import Derived.Test.YtfiempmdmkoagaaDoorByteOpen
import Derived.Test.YtfiempmdmkoagaaDoorLaidW
namespace Go.Proofs.YtfiempmdmkoagaaDoor
open Go.ChangeShapes Go.WideShapes Go.ChangeAt Go.RowKit

theorem chTexts_calls (u v : Value) (zs : List ByteArray) (w : World) (hu : Sl 1 strC w u zs) (hv : Sl 1 strC w v zs) :
    Calls Tryd.prog 21 #[u, v] w fun e w' => e = .returned (.bool true) ∧ Below w.heap.size w w' := by
  obtain ⟨A, c, rfl, hc, hlc, hat⟩ := str_at hu
  obtain ⟨A', c', rfl, hc', hlc', hat'⟩ := str_at hv
  unfold maxLen at hc hc'
  go_enter Tryd.func21, Tryd.ntmps21
  go_wp2
  go_loopw [5] (fun i wr => ∃ k : Nat, k ≤ zs.length ∧ i = .int .i64 k ∧ Below w.heap.size w wr) (fun i _ => zs.length - (intOf i).toNat)
  case atStart => exact ⟨0, Nat.zero_le _, rfl, Below.refl _ _⟩
  case round =>
    obtain ⟨k, hk, rfl, hnx⟩ := hrel
    by_cases hlt : k < zs.length
    · obtain ⟨x, b, off, hz, rfl, hb, c0⟩ := hat k hlt
      obtain ⟨x', b', off', hz', rfl, hb', c0'⟩ := hat' k hlt
      rw [hz] at hz'
      simp only [Option.some.injEq] at hz'
      subst hz'
      have d0 := (hnx.cell (p := ⟨b, off + k, none⟩) hb).trans c0
      have d0' := (hnx.cell (p := ⟨b', off' + k, none⟩) hb').trans c0'
      clear hat hat' c0 c0' hz
      have h0 : (0 : Int) ≤ (k : Int) := Int.natCast_nonneg _
      have hl : (k : Int) < (zs.length : Int) := by omega
      go_wp2_with fail
      go_quiet (fail)
      have hnx2 := below_drewN hnx nq
      clear hnx
      go_wp2
      go_roundw
      case rel => exact ⟨k + 1, by omega, by go_num, hnx2⟩
      case measure => simp [intOf]; omega
    · go_wp2
      go_ret
      exact ⟨rfl, hnx⟩


/-- the names of s, k of them, as a path -/
def upto (s : ByteArray) (k : Nat) : ByteArray := mkB (nameL ((cutL (toL s)).take k))
/-- the same without the first -/
def uptoR (s : ByteArray) (k : Nat) : ByteArray := mkB (nameL ((cutL (toL s)).take k).tail)
theorem pth_names {s : ByteArray} (h0 : ¬ toL s = []) (h : pthB s = true) : (∀ x ∈ cutL (toL s), namL x = true) ∧ (cutL (toL s)).length ≤ 3 := (pthL_iff h0).1 h
theorem cutB_at {s x : ByteArray} {k : Nat} (hz : (cutB s)[k]? = some x) : (cutL (toL s))[k]? = some (toL x) := by
  unfold cutB at hz
  rw [List.getElem?_map] at hz
  cases e : (cutL (toL s))[k]? with
  | none => rw [e] at hz; cases hz
  | some y => rw [e] at hz; simp only [Option.map_some, Option.some.injEq] at hz; rw [← hz, toL_mkB]
theorem nam_at {s x : ByteArray} {k : Nat} (h0 : ¬ toL s = []) (h : pthB s = true) (hz : (cutB s)[k]? = some x) : namS x = true := (pth_names h0 h).1 _ (List.mem_of_getElem? (cutB_at hz))
theorem upto_step {s x : ByteArray} {k : Nat} (h0 : ¬ toL s = []) (h : pthB s = true) (hz : (cutB s)[k]? = some x) : joinB (upto s k) x = upto s (k + 1) := by
  have hc := cutB_at hz
  obtain ⟨hn, h3⟩ := pth_names h0 h
  have hk := (List.getElem?_eq_some_iff.1 hc).1
  unfold joinB upto
  rw [toL_mkB, take_one hc]
  rw [joinL_name]
  · intro y hy
    rcases List.mem_append.1 hy with hy | hy
    · exact hn y (List.mem_of_mem_take hy)
    · simp at hy; subst hy; exact hn _ (List.mem_of_getElem? hc)
  · rw [List.length_take]; omega
theorem uptoR_step {s x : ByteArray} {k : Nat} (hk0 : 0 < k) (h0 : ¬ toL s = []) (h : pthB s = true) (hz : (cutB s)[k]? = some x) : joinB (uptoR s k) x = uptoR s (k + 1) := by
  have hc := cutB_at hz
  obtain ⟨hn, h3⟩ := pth_names h0 h
  have hk := (List.getElem?_eq_some_iff.1 hc).1
  unfold joinB uptoR
  have hne : (cutL (toL s)).take k ≠ [] := by
    intro e
    have := congrArg List.length e
    rw [List.length_take, List.length_nil] at this; omega
  have ht : ((cutL (toL s)).take k ++ [toL x]).tail = ((cutL (toL s)).take k).tail ++ [toL x] := by
    cases e : (cutL (toL s)).take k with
    | nil => exact absurd e hne
    | cons a r => rfl
  rw [toL_mkB, take_one hc, ht]
  rw [joinL_name]
  · intro y hy
    rcases List.mem_append.1 hy with hy | hy
    · exact hn y (List.mem_of_mem_take (List.mem_of_mem_tail hy))
    · simp at hy; subst hy; exact hn _ (List.mem_of_getElem? hc)
  · rw [List.length_tail, List.length_take]; omega
theorem upto_zero (s : ByteArray) : upto s 0 = ByteArray.empty := rfl
theorem uptoR_zero (s : ByteArray) : uptoR s 0 = ByteArray.empty := rfl
theorem uptoR_one (s : ByteArray) : uptoR s 1 = ByteArray.empty := by
  unfold uptoR
  obtain ⟨x, r, e⟩ := cutL_cons (toL s)
  rw [e]; rfl
theorem upto_all {s : ByteArray} {k : Nat} (h : ¬ k < (cutB s).length) : upto s k = s := by
  have e : (cutB s).length = (cutL (toL s)).length := by simp [cutB]
  unfold upto
  rw [List.take_of_length_le (by omega), nameL_cut, mkB_toL]
theorem uptoR_all {s : ByteArray} {k : Nat} (h0 : ¬ toL s = []) (hp : pthB s = true) (h : ¬ k < (cutB s).length) : uptoR s k = restB s := by
  have e : (cutB s).length = (cutL (toL s)).length := by simp [cutB]
  obtain ⟨hn, -⟩ := pth_names h0 hp
  unfold uptoR restB
  rw [List.take_of_length_le (by omega), hp]
  obtain ⟨x, r, ec⟩ := cutL_cons (toL s)
  have hs : nameL (x :: r) = toL s := by rw [← ec, nameL_cut]
  rw [ec] at hn
  rw [if_pos rfl, ← hs, afterL_name hn, hs, ec]; rfl
theorem first_all {s : ByteArray} (hp : pthB s = true) : (cutB s)[0]? = some (firstB s) := by
  rw [(first_get s).2]
  unfold firstB
  rw [hp]; rfl
theorem upto_size {s : ByteArray} {k : Nat} (h0 : ¬ toL s = []) (h : pthB s = true) : (upto s k).size ≤ 11 ∧ (uptoR s k).size ≤ 11 := by
  obtain ⟨hn, h3⟩ := pth_names h0 h
  constructor
  · refine pthB_short (pthL_name (fun x hx => hn x (List.mem_of_mem_take hx)) ?_)
    rw [List.length_take]; omega
  · refine pthB_short (pthL_name (fun x hx => hn x (List.mem_of_mem_take (List.mem_of_mem_tail hx))) ?_)
    rw [List.length_tail, List.length_take]; omega

set_option maxRecDepth 100000 in
set_option maxHeartbeats 4000000 in
theorem namPartsL_calls (W : World) (hsh : W.ShapedOpen Tryd.prog) (v : Value) (bs : List UInt8) (hs : Sl 1 byteC W v bs) :
    Calls Tryd.prog 5 #[v] W fun e w' => e = .returned (.bool true) ∧ Below W.heap.size W w' := by
  have hm0 := maxOk_of hsh
  clear hsh
  obtain ⟨A, c, rfl, hlc, hc, -⟩ := id hs
  unfold maxLen at hc
  by_cases hL : (1048576 : Int) < (bs.length : Nat)
  · go_enter Tryd.func5, Tryd.ntmps5
    go_wp2
    go_ret
    exact ⟨rfl, below0 W⟩
  · go_enter Tryd.func5, Tryd.ntmps5
    go_wp2_with fail
    refine (drawPthParts_calls _ bs _ hs).mono ?_
    rintro e w1 ⟨s, hsz, rfl, b1⟩
    have m1 := Lib.hid (hm0.below b1)
    go_wp2_with fail
    refine (parts_impl s (by omega) _ m1.out).mono ?_
    rintro e w2 ⟨u2, rfl, o2, b2⟩
    have B2 := below_up b1 b2
    have m2 := Lib.hid (m1.out.below b2)
    go_wp2_with fail
    refine (parts_spec s (by omega) _).mono ?_
    rintro e w3 ⟨u3, rfl, o3, b3⟩
    have B3 := below_up B2 b3
    have m3 := Lib.hid (m2.out.below b3)
    have s3 := (o2.below b3).sl strC_len
    go_wp2_with fail
    refine (chTexts_calls u2 u3 _ _ s3 (o3.sl strC_len)).mono ?_
    rintro e w4 ⟨rfl, b4⟩
    have B4 := below_up B3 b4
    have m4 := Lib.hid (m3.out.below b4)
    have s4 := s3.below b4
    go_wp2_with fail
    refine (pth_impl s (by omega) _ m4.out).mono ?_
    rintro e w5 ⟨rfl, b5⟩
    go_wp2_with fail
    refine (pth_spec s (by omega) _).mono ?_
    rintro e w6 ⟨rfl, b6⟩
    go_wp2_with fail
    refine (pth_spec s (by omega) _).mono ?_
    rintro e w7 ⟨rfl, b7⟩
    have b47 := below_up b5 (below_up b6 b7)
    have B7 := below_up B4 b47
    have m7 := Lib.hid (m4.out.below b47)
    have s7 := s4.below b47
    clear b1 b2 b3 b4 b5 b6 b7 b47 B2 B3 B4 m1 m2 m3 m4 o2 o3 s3 s4 hs hm0
    cases hp : pthB s
    · rw [parts_no hp] at s7
      obtain ⟨A', c', rfl, hc1, hc2, -⟩ := str_at s7
      have HC := Lib.hid (fun W => chOk_calls W)
      go_wp2_with fail
      refine (HC.out _).mono ?_
      rintro e w8 ⟨rfl, b8⟩
      go_wp2
      go_ret
      exact ⟨rfl, below_up B7 b8⟩
    · by_cases h0 : toL s = []
      · have t1 := empty_yes h0
        rw [parts_nil h0] at s7
        obtain ⟨A', c', rfl, hc1, hc2, -⟩ := str_at s7
        have HC := Lib.hid (fun W => chOk_calls W)
        clear h0
        go_wp2_with fail
        refine (HC.out _).mono ?_
        rintro e w8 ⟨rfl, b8⟩
        go_wp2
        go_ret
        exact ⟨rfl, below_up B7 b8⟩
      · have t1 := empty_no h0
        rw [parts_yes h0 hp] at s7
        obtain ⟨A', c', rfl, hc1, hc2, hat⟩ := str_at s7
        unfold maxLen at hc1
        have hcl := (pth_names h0 hp).2
        have ecl : (cutB s).length = (cutL (toL s)).length := by simp [cutB]
        have hcl3 : (cutB s).length ≤ 3 := by omega
        have H0 := Lib.hid h0
        have HPt := Lib.hid hp
        clear hcl ecl h0
        clear hp
        go_wp2
        go_loopw [5, 6, 7] (fun o r i wr => ∃ k : Nat, k ≤ (cutB s).length ∧ i = .int .i64 k ∧ o = .string (upto s k) ∧ r = .string (uptoR s k) ∧ Below w7.heap.size w7 wr) (fun _ _ i _ => (cutB s).length - (intOf i).toNat)
        case atStart => exact ⟨0, Nat.zero_le _, rfl, rfl, rfl, below0 w7⟩
        case round =>
          obtain ⟨k, hk, rfl, rfl, rfl, hnx⟩ := hrel
          by_cases hlt : k < (cutB s).length
          · obtain ⟨x, b, off, hz, rfl, hb, c0⟩ := hat k hlt
            have hbr : b < wr.heap.size := Nat.lt_of_lt_of_le hb hnx.size
            have d0 := (hnx.cell (p := ⟨b, off + k, none⟩) hb).trans c0
            have hxz : x.size ≤ 1048576 := by have := cutB_piece (List.mem_of_getElem? hz); omega
            have hnm := Lib.hid (nam_at H0.out HPt.out hz)
            have hu := Lib.hid (upto_step H0.out HPt.out hz)
            obtain ⟨u1, u2⟩ := upto_size (k := k) H0.out HPt.out
            have mr := Lib.hid (m7.out.below hnx)
            have HN := Lib.hid (fun W => namS_impl x (by unfold maxLen; omega) W)
            have HJ := Lib.hid (fun W hm => join_impl (upto s k) x (by omega) hxz W hm)
            have HR := Lib.hid (fun W hm => join_impl (uptoR s k) x (by omega) hxz W hm)
            by_cases hk0 : 0 < k
            · have hur := Lib.hid (uptoR_step hk0 H0.out HPt.out hz)
              have i4 : (0 : Int) < (k : Int) := by omega
              clear hat c0 hz
              go_wp2_with fail
              refine (HN.out _).mono ?_
              rintro e w8 ⟨rfl, rfl⟩
              rw [hnm.out]
              go_wp2_with fail
              refine (HJ.out _ mr.out).mono ?_
              rintro e w9 ⟨rfl, b9⟩
              rw [hu.out]
              have d1 := (b9.cell (p := ⟨b, off + k, none⟩) hbr).trans d0
              go_wp2_with fail
              refine (HR.out _ (mr.out.below b9)).mono ?_
              rintro e w10 ⟨rfl, b10⟩
              rw [hur.out]
              go_wp2
              go_roundw
              case rel => exact ⟨k + 1, by omega, by go_num, rfl, rfl, below_up hnx (below_up b9 b10)⟩
              case measure => simp [intOf]; omega
            · have hur : Hid (uptoR s k = uptoR s (k + 1)) := by
                have : k = 0 := by omega
                rw [this, uptoR_zero, uptoR_one]
                exact Lib.hid rfl
              have i4 : ¬ (0 : Int) < (k : Int) := by omega
              clear hat c0 hz
              go_wp2_with fail
              refine (HN.out _).mono ?_
              rintro e w8 ⟨rfl, rfl⟩
              rw [hnm.out]
              go_wp2_with fail
              refine (HJ.out _ mr.out).mono ?_
              rintro e w9 ⟨rfl, b9⟩
              rw [hu.out]
              go_wp2
              go_roundw
              case rel => exact ⟨k + 1, by omega, by go_num, rfl, by rw [hur.out], below_up hnx b9⟩
              case measure => simp [intOf]; omega
          · have e1 : upto s k = s := upto_all hlt
            have e2 : uptoR s k = restB s := uptoR_all H0.out HPt.out hlt
            rw [e1, e2]
            clear e1 e2
            obtain ⟨hl0, -⟩ := first_get s
            obtain ⟨x, b, off, hz, rfl, hb, c0⟩ := hat 0 hl0
            rw [first_all HPt.out] at hz
            simp only [Option.some.injEq] at hz
            subst hz
            simp only [Nat.add_zero] at c0
            have d0 := (hnx.cell (p := ⟨b, off, none⟩) hb).trans c0
            have mr := Lib.hid (m7.out.below hnx)
            have HF := Lib.hid (fun W hm => first_impl s (by omega) W hm)
            have HR := Lib.hid (fun W hm => rest_impl s (by omega) W hm)
            have q1 : (s.toList == s.toList) = true := by simp
            have q2 : ((firstB s).toList == (firstB s).toList) = true := by simp
            have q3 : ((restB s).toList == (restB s).toList) = true := by simp
            have q4 : decide (((cutB s).length : Int) ≤ 3) = true := decide_eq_true (by omega)
            have hl1 : (0 : Int) < ((cutB s).length : Int) := by omega
            have hl2 : 1 ≤ (cutB s).length := by omega
            clear hat c0
            go_wp2_with fail
            refine wp_region_bel (by kernel_rfl) (by kernel_rfl) ?_
            have q0 := fun x : Bel wr => Bel.cell d0 x
            repeat (go_big_quiet_step (first | (go_at_call 25; exact bel_call _ (HF.out _ (mr.out.below (Bel.h _)))) | (go_at_call 26; exact bel_call _ (HR.out _ (mr.out.below (Bel.h _))))))
            refine wpQuiet_nil ?_
            intro _ hw'; obtain ⟨x, hw''⟩ := hw'; subst hw''
            have hx := x.h
            generalize x.w = w9 at hx ⊢
            clear q0 x
            go_wp2
            go_ret
            exact ⟨rfl, below_up B7 (below_up hnx hx)⟩
set_option maxRecDepth 100000 in
theorem namPartsL_lifted (os : Os) (started : os.Started) (H : Type) (enc : TypeId × Value → H) (F : Stop.Interp) :
    ReturnsInHanded {} Tryd.checked os 5 .any ((OpenSpec.ofChange Rows.fnNamPartsSpec).preRow enc Tryd.prog Tryd.f5 Rows.fnNamPartsRow.domain false Rows.fnNamPartsRow.laid) (((OpenSpec.ofChange Rows.fnNamPartsSpec).at F).post enc Tryd.prog Tryd.f5 false true false false) := by
  obtain ⟨places, hx⟩ := (show ∃ places, DataW.whole enc Tryd.prog ((laidWorld os).forCall (fun _ _ => 0) ⟨#[], #[.slice none 0 0], []⟩).memory Tryd.f5.params.toList Rows.fnNamPartsSpec.vars false (#[.slice none 0 0] : Array Value).toList 8 = some ([.nil], [], places) from ⟨[], by kernel_rfl⟩)
  have hmet : laidMet Tryd.prog Rows.fnNamPartsRow.laid ((laidWorld os).forCall (fun _ _ => 0) ⟨#[], #[.slice none 0 0], []⟩).memory := laidMet_of_run' 8 (by kernel_rfl) (by kernel_rfl)
  refine returnsInHanded_of_row (C := Tryd.checked) (s := OpenSpec.ofChange Rows.fnNamPartsSpec) Tryd.own started (by kernel_rfl) Tryd.func5
    (witness_row_at (enc := enc) (C := Tryd.checked) false (laidWorld os) #[.slice none 0 0] rfl (by kernel_rfl) (by kernel_rfl) (by kernel_rfl)
      (OpenSpec.preRow_of_cond 8 hx (by kernel_rfl) (fun k hk => by cases hk) (by kernel_rfl) hmet)) ?_
  intro W base args ds gs before hval0 hW _ _ _ _ hsh _
  show Calls Tryd.prog 5 args W fun e W2 => ∃ v, e = .returned v ∧ Rows.fnNamPartsSpec.post enc Tryd.prog Tryd.f5 false true false false W args v W2
  have hval : ∀ (j : Nat) t v, Tryd.f5.params[j]? = some t → args[j]? = some v → Value.okWide Tryd.prog W .any base t v := hval0
  have hW1 : DataW.Whole enc Tryd.prog Tryd.f5.params.toList Rows.fnNamPartsSpec.vars false W args.toList ds gs before := hW
  have hW2 := hW1
  obtain ⟨p, q, hA0, hV, rfl, _, _⟩ := hW1
  have hA : DataW.TrodAll enc Tryd.prog W 0 (fun _ => true) true Tryd.f5.params.toList args.toList ds p := hA0
  rw [Tryd.params5] at hA hval
  obtain ⟨v0, d0, rfl, rfl, h0⟩ := trodAll_one hA
  obtain ⟨rfl, rfl⟩ := trodVars_none hV
  clear hA0 hval0 hW
  simp only [List.append_nil] at hW2
  have lt0 : ∀ x ∈ p, x.block < W.heap.size := fun x hx => hW2.lt x (by simp [hx])
  have k0 := fun W2 (hb : Below W.heap.size W W2) => Below.trod Tryd.laidOut (by kernel_rfl) (of_decide_eq_true (by kernel_rfl)) h0 hb lt0
  obtain ⟨x0, wf0⟩ := open_bytes (hval 0 22 v0 rfl rfl) h0 lt0
  refine (namPartsL_calls W hsh v0 x0 wf0).mono fun e W2 ⟨he, hb⟩ => ?_
  subst he
  exact ⟨_, rfl, _, _, _, [], _, [], hW2, trodAll_mk1 (shut_bool Tryd.underlying4 true), trodAll_mk1 (k0 W2 hb), rfl, hb.frame _, fun h => by cases h⟩

theorem namPartsL_said : Rows.FnNamPartsSaid :=
  OpenClaim.holds_of_cond 5 Tryd.f5 rfl rfl rfl rfl rfl rfl rfl ⟨rfl, rfl, rfl, rfl, rfl⟩ rfl rfl rfl rfl rfl (by kernel_rfl) Tryd.func5 (by kernel_rfl)
    (of_decide_eq_true (by kernel_rfl)) (by unfold Func.isWrapper; first | (rw [if_pos (by decide +kernel)]; kernel_rfl) | (rw [if_neg (by decide +kernel)]; exact ⟨rfl, rfl⟩))
    (fun os started H enc _ F => by rw [OpenClaim.pre_eq_preRow]; exact namPartsL_lifted os started H enc F)
theorem namPartsL_plain (f : FuncId) (fn : Func) (hf : Tryd.pinned.checked.prog.funcNamed "loop.example/chartulary/laws.FnNamParts" = some f) (hfn : Tryd.pinned.checked.prog.funcs[f]? = some fn) :
    false = Tryd.pinned.checked.prog.looks [] ∧ ∀ (j : Nat) t, fn.params[j]? = some t → Tryd.pinned.checked.prog.wantsStandIn t = false := by
  obtain rfl : f = 5 := Option.some.inj ((show Tryd.prog.funcNamed "loop.example/chartulary/laws.FnNamParts" = some 5 by kernel_rfl).symm.trans hf) |>.symm
  obtain rfl : fn = Tryd.f5 := (Option.some.inj (Tryd.func5.symm.trans hfn)).symm
  refine ⟨by kernel_rfl, fun j t ht => ?_⟩
  rw [Tryd.params5] at ht
  have hm := Array.mem_of_getElem? ht
  simp only [List.mem_toArray, List.mem_cons, List.not_mem_nil, or_false] at hm
  subst hm
  exact (show Tryd.prog.wantsStandIn 22 = false by kernel_rfl)

theorem namPartsL_holds : Rows.FnNamPartsCardSaid :=
  Claim7.holds_tied_plain_at .later [] _ _ _ _ namPartsL_said (fun _ h => by cases h) (by kernel_rfl) (fun _ h => by cases h) fnNamParts_row_tie rfl ⟨rfl, rfl⟩ (by kernel_rfl) rfl namPartsL_plain (by kernel_rfl)
end Go.Proofs.YtfiempmdmkoagaaDoor
