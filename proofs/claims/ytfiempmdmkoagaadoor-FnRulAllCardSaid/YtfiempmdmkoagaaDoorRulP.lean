/- Rules: spec's RulMay, RulListOk, RulPut, each by a plain function. -/
import Derived.Test.YtfiempmdmkoagaaDoorRulT
namespace Go.Proofs.YtfiempmdmkoagaaDoor
open Go.RowKit

theorem mayR_no1 {r : TRule} {u : Int} {ref path : ByteArray} {write : Bool} (h : forB r u ref = false) : mayR r u ref path write = false := by unfold mayR; rw [h]; rfl
theorem mayR_no2 {r : TRule} {u : Int} {ref path : ByteArray} {write : Bool} (h : forB r u ref = true) (k : undB r.path path = false) : mayR r u ref path write = false := by unfold mayR; rw [h, k]; rfl
theorem mayR_eq {r : TRule} {u : Int} {ref path : ByteArray} {write : Bool} (h : forB r u ref = true) (k : undB r.path path = true) : mayR r u ref path write = (r.write || !write) := by unfold mayR; rw [h, k]; rfl

set_option maxRecDepth 100000 in
set_option maxHeartbeats 1000000 in
theorem may_spec (v : Value) (zs : List TRule) (u : Int) (ref path : ByteArray) (write : Bool) (w : World) (hv : Sl 4 ruleC w v zs) (hf : ruleFine zs) (hq : path.size ≤ 2097160) :
    Calls Tryd.prog 33 #[v, .int .i64 u, .string ref, .string path, .bool write] w fun e w' => e = .returned (.bool (mayB zs u ref path write)) ∧ Below w.heap.size w w' := by
  obtain ⟨A, c, rfl, hc, hlc, hat⟩ := rule_z hv
  unfold maxLen at hc
  go_enter Tryd.func33, Tryd.ntmps33
  go_wp2
  go_loopw [11] (fun i wr => ∃ k : Nat, k ≤ zs.length ∧ i = .int .i64 k ∧ NoneTo (fun r => mayR r u ref path write) zs k ∧ Below w.heap.size w wr) (fun i _ => zs.length - (intOf i).toNat)
  case atStart => exact ⟨0, Nat.zero_le _, rfl, noneTo_zero _ _, below0 w⟩
  case round =>
    obtain ⟨k, hk, rfl, hall, hnx⟩ := hrel
    by_cases hlt : k < zs.length
    · obtain ⟨z, b, off, hz, rfl, hb, c0, c1, c2, c3⟩ := hat k hlt
      have d0 := (hnx.cell (p := ⟨b, off + k * 4, none⟩) hb).trans c0
      have d1 := (hnx.cell (p := ⟨b, off + k * 4 + 1, none⟩) hb).trans c1
      have d2 := (hnx.cell (p := ⟨b, off + k * 4 + 2, none⟩) hb).trans c2
      have d3 := (hnx.cell (p := ⟨b, off + k * 4 + 3, none⟩) hb).trans c3
      have hbr : b < wr.heap.size := Nat.lt_of_lt_of_le hb hnx.size
      obtain ⟨hz1, hz2⟩ := ruleFine_get hf hz
      have HC := Lib.hid (fun W => for_spec z u ref hz1 hz2 W)
      have HU := Lib.hid (fun W => und_spec z.path path hz2 hq W)
      clear hz1 hz2
      cases hx : forB z u ref
      · have HZ := Lib.hid (noneTo_step hz (mayR_no1 (path := path) (write := write) hx) hall)
        clear hat c0 c1 c2 c3 hz hall
        go_wp2_with fail
        refine (HC.out _).mono ?_
        rintro e w1 ⟨rfl, b1⟩
        rw [hx]
        go_wp2
        go_roundw
        case rel => exact ⟨k + 1, by omega, by go_num, HZ.out, below_up hnx b1⟩
        case measure => simp [intOf]; omega
      · cases hy : undB z.path path
        · have HZ := Lib.hid (noneTo_step hz (mayR_no2 (write := write) hx hy) hall)
          clear hat c0 c1 c2 c3 hz hall
          go_wp2_with fail
          refine (HC.out _).mono ?_
          rintro e w1 ⟨rfl, b1⟩
          rw [hx]
          have g2 := (b1.cell (p := ⟨b, off + k * 4 + 2, none⟩) hbr).trans d2
          go_wp2_with fail
          refine (HU.out _).mono ?_
          rintro e w2 ⟨rfl, b2⟩
          rw [hy]
          go_wp2
          go_roundw
          case rel => exact ⟨k + 1, by omega, by go_num, HZ.out, below_up hnx (below_up b1 b2)⟩
          case measure => simp [intOf]; omega
        · have hm := mayR_eq (write := write) hx hy
          have HM := Lib.hid hm
          by_cases hw : (z.write || !write) = true
          · have HZ := Lib.hid (any_hit (p := fun r => mayR r u ref path write) hz (hm.trans hw))
            clear hat c0 c1 c2 c3 hz hall hm
            go_wp2_with fail
            refine (HC.out _).mono ?_
            rintro e w1 ⟨rfl, b1⟩
            rw [hx]
            have g2 := (b1.cell (p := ⟨b, off + k * 4 + 2, none⟩) hbr).trans d2
            have g3 := (b1.cell (p := ⟨b, off + k * 4 + 3, none⟩) hbr).trans d3
            go_wp2_with fail
            refine (HU.out _).mono ?_
            rintro e w2 ⟨rfl, b2⟩
            rw [hy]
            have k3 := (b2.cell (p := ⟨b, off + k * 4 + 3, none⟩) (Nat.lt_of_lt_of_le hbr b1.size)).trans g3
            have HW := Lib.hid hw
            clear hw
            cases hzw : z.write
            · have e : write = false := by have := HW.out; rw [hzw] at this; simpa using this
              subst e
              rw [hzw] at k3
              go_wp2
              go_ret
              exact ⟨ret_b HZ.out.symm, below_up hnx (below_up b1 b2)⟩
            · rw [hzw] at k3
              go_wp2
              go_ret
              exact ⟨ret_b HZ.out.symm, below_up hnx (below_up b1 b2)⟩
          · have hw' : (z.write || !write) = false := by simpa using hw
            have HZ := Lib.hid (noneTo_step hz (hm.trans hw') hall)
            clear hat c0 c1 c2 c3 hz hall hm hw
            go_wp2_with fail
            refine (HC.out _).mono ?_
            rintro e w1 ⟨rfl, b1⟩
            rw [hx]
            have g2 := (b1.cell (p := ⟨b, off + k * 4 + 2, none⟩) hbr).trans d2
            have g3 := (b1.cell (p := ⟨b, off + k * 4 + 3, none⟩) hbr).trans d3
            go_wp2_with fail
            refine (HU.out _).mono ?_
            rintro e w2 ⟨rfl, b2⟩
            rw [hy]
            have k3 := (b2.cell (p := ⟨b, off + k * 4 + 3, none⟩) (Nat.lt_of_lt_of_le hbr b1.size)).trans g3
            have e1 : z.write = false := by cases h : z.write <;> simp [h] at hw' ⊢
            have e2 : write = true := by cases h : write <;> simp [h, e1] at hw' ⊢
            rw [e1] at k3
            subst e2
            clear hw'
            go_wp2
            go_roundw
            case rel => exact ⟨k + 1, by omega, by go_num, HZ.out, below_up hnx (below_up b1 b2)⟩
            case measure => simp [intOf]; omega
    · have HZ := Lib.hid (noneTo_end hlt hall)
      clear hall
      go_wp2
      go_ret
      exact ⟨ret_b HZ.out.symm, hnx⟩

theorem list_bad1 {z : TRule} {zs : List TRule} {k : Nat} (h : rokB z = false) : (rokB z && !hasB (zs.take k) z) = false := by rw [h]; rfl
theorem list_bad2 {z : TRule} {zs : List TRule} {k : Nat} (h : hasB (zs.take k) z = true) : (rokB z && !hasB (zs.take k) z) = false := by rw [h]; simp
theorem list_good {z : TRule} {zs : List TRule} {k : Nat} (h : rokB z = true) (h2 : hasB (zs.take k) z = false) : (rokB z && !hasB (zs.take k) z) = true := by rw [h, h2]; rfl
set_option maxRecDepth 100000 in
set_option maxHeartbeats 1000000 in
theorem list_spec (v : Value) (zs : List TRule) (w : World) (hv : Sl 4 ruleC w v zs) (hf : ruleFine zs) :
    Calls Tryd.prog 75 #[v] w fun e w' => e = .returned (.bool (listB zs)) ∧ Below w.heap.size w w' := by
  obtain ⟨A, c, rfl, hc, hlc, hat⟩ := rule_z hv
  unfold maxLen at hc
  by_cases h6 : (6 : Int) < zs.length
  · have e : listB zs = false := by
      have : decide (zs.length ≤ 6) = false := by simp; omega
      rw [listB, this]; rfl
    rw [e]
    clear e
    go_enter Tryd.func75, Tryd.ntmps75
    go_wp2
    go_ret
    exact ⟨rfl, below0 w⟩
  · go_enter Tryd.func75, Tryd.ntmps75
    go_wp2
    go_loopw [3] (fun i wr => ∃ k : Nat, k ≤ zs.length ∧ i = .int .i64 k ∧ goodR zs k = true ∧ Below w.heap.size w wr) (fun i _ => zs.length - (intOf i).toNat)
    case atStart => exact ⟨0, Nat.zero_le _, rfl, rfl, below0 w⟩
    case round =>
      obtain ⟨k, hk, rfl, hall, hnx⟩ := hrel
      by_cases hlt : k < zs.length
      · obtain ⟨z, b, off, hz, rfl, hb, c0, c1, c2, c3⟩ := hat k hlt
        have d0 := (hnx.cell (p := ⟨b, off + k * 4, none⟩) hb).trans c0
        have d1 := (hnx.cell (p := ⟨b, off + k * 4 + 1, none⟩) hb).trans c1
        have d2 := (hnx.cell (p := ⟨b, off + k * 4 + 2, none⟩) hb).trans c2
        have d3 := (hnx.cell (p := ⟨b, off + k * 4 + 3, none⟩) hb).trans c3
        have hbr : b < wr.heap.size := Nat.lt_of_lt_of_le hb hnx.size
        obtain ⟨hz1, hz2⟩ := ruleFine_get hf hz
        have HC := Lib.hid (fun W => rok_spec z hz1 hz2 W)
        clear hz1 hz2
        have ht := Lib.hid (sl_takeT (hv.below hnx) k (by omega))
        have h0 : (0 : Int) ≤ (k : Int) := Int.natCast_nonneg _
        have hl : (k : Int) < (zs.length : Int) := by omega
        cases hx : rokB z
        · have HZ := Lib.hid (listB_bad hz (list_bad1 hx))
          clear hat c0 c1 c2 c3 hz hall
          go_wp2_with fail
          refine wp_region_bel (by kernel_rfl) (by kernel_rfl) ?_
          have q0 := fun x : Bel wr => Bel.cell d0 x
          have q1 := fun x : Bel wr => Bel.cell d1 x
          have q2 := fun x : Bel wr => Bel.cell d2 x
          have q3 := fun x : Bel wr => Bel.cell d3 x
          repeat (go_big_quiet_step (first | (go_at_call 72; exact bel_call _ (HC.out _)) | (go_at_call 76; exact bel_call _ (same_spec _ (zs.take k) z _ (ht.out.below (Bel.h _))))))
          refine wpQuiet_nil ?_
          intro _ hw'; obtain ⟨x, hw''⟩ := hw'; subst hw''
          have hx2 := x.h
          generalize x.w = w2 at hx2 ⊢
          clear q0 q1 q2 q3 x
          go_wp2
          go_ret
          exact ⟨ret_b HZ.out.symm, below_up hnx hx2⟩
        · cases hy : hasB (zs.take k) z
          · have HZ : Hid (goodR zs (k + 1) = true) := by rw [goodR_step hz, hall, list_good hx hy]; rfl
            clear hat c0 c1 c2 c3 hz hall
            go_wp2_with fail
            refine wp_region_bel (by kernel_rfl) (by kernel_rfl) ?_
            have q0 := fun x : Bel wr => Bel.cell d0 x
            have q1 := fun x : Bel wr => Bel.cell d1 x
            have q2 := fun x : Bel wr => Bel.cell d2 x
            have q3 := fun x : Bel wr => Bel.cell d3 x
            repeat (go_big_quiet_step (first | (go_at_call 72; exact bel_call _ (HC.out _)) | (go_at_call 76; exact bel_call _ (same_spec _ (zs.take k) z _ (ht.out.below (Bel.h _))))))
            refine wpQuiet_nil ?_
            intro _ hw'; obtain ⟨x, hw''⟩ := hw'; subst hw''
            have hx2 := x.h
            generalize x.w = w2 at hx2 ⊢
            clear q0 q1 q2 q3 x
            go_wp2
            go_roundw
            case rel => exact ⟨k + 1, by omega, by go_num, HZ.out, below_up hnx hx2⟩
            case measure => simp [intOf]; omega
          · have HZ := Lib.hid (listB_bad hz (list_bad2 hy))
            clear hat c0 c1 c2 c3 hz hall
            go_wp2_with fail
            refine wp_region_bel (by kernel_rfl) (by kernel_rfl) ?_
            have q0 := fun x : Bel wr => Bel.cell d0 x
            have q1 := fun x : Bel wr => Bel.cell d1 x
            have q2 := fun x : Bel wr => Bel.cell d2 x
            have q3 := fun x : Bel wr => Bel.cell d3 x
            repeat (go_big_quiet_step (first | (go_at_call 72; exact bel_call _ (HC.out _)) | (go_at_call 76; exact bel_call _ (same_spec _ (zs.take k) z _ (ht.out.below (Bel.h _))))))
            refine wpQuiet_nil ?_
            intro _ hw'; obtain ⟨x, hw''⟩ := hw'; subst hw''
            have hx2 := x.h
            generalize x.w = w2 at hx2 ⊢
            clear q0 q1 q2 q3 x
            go_wp2
            go_ret
            exact ⟨ret_b HZ.out.symm, below_up hnx hx2⟩
      · have HZ : Hid (listB zs = true) := by
          have : k = zs.length := by omega
          subst this
          rw [listB_end hall]; exact decide_eq_true (by omega)
        clear hall
        go_wp2
        go_ret
        exact ⟨ret_b HZ.out.symm, hnx⟩
end Go.Proofs.YtfiempmdmkoagaaDoor
