/- Rules: slices.Index and slices.Contains at rules, impl's RulListOk, each by a plain function. -/
import Derived.Test.YtmjneiiallgdcaaDoorRulP
namespace Go.Proofs.YtmjneiiallgdcaaDoor
open Go.RowKit

set_option maxRecDepth 100000 in
set_option maxHeartbeats 400000 in
theorem idx_impl (u : Value) (zs : List TRule) (r : TRule) (w : World) (hu : Sl 4 ruleC w u zs) :
    Calls Tryd.prog 69 #[u, .agg #[.int .i64 r.user, .string r.ref, .string r.path, .bool r.write]] w fun e w' => e = .returned (.int .i64 (idxB (fun z => ruleEq z r) zs)) ∧ Below w.heap.size w w' := by
  obtain ⟨A, c, rfl, hc, hlc, hat⟩ := rule_z hu
  unfold maxLen at hc
  have hB0 := al (below0 w) (.cells #[.int .i64 r.user, .string r.ref, .string r.path, .bool r.write] 34)
  have hK := rbox_new w r 34
  go_enter Tryd.func69, Tryd.ntmps69
  go_wp2
  generalize hW : w.alloc (.cells #[.int .i64 r.user, .string r.ref, .string r.path, .bool r.write] 34) = W0 at hB0 hK ⊢
  clear hW
  go_loopw [8] (fun i wr => ∃ k : Nat, k ≤ zs.length ∧ i = .int .i64 k ∧ NoneTo (fun z => ruleEq z r) zs k ∧ Below W0.heap.size W0 wr) (fun i _ => zs.length - (intOf i).toNat)
  case atStart => exact ⟨0, Nat.zero_le _, rfl, noneTo_zero _ _, below0 W0⟩
  case round =>
    obtain ⟨k, hk, rfl, hall, hnx⟩ := hrel
    by_cases hlt : k < zs.length
    · obtain ⟨z, b, off, hz, rfl, hb, c0, c1, c2, c3⟩ := hat k hlt
      have hb0 : b < W0.heap.size := Nat.lt_of_lt_of_le hb hB0.size
      have d0 := (hnx.cell (p := ⟨b, off + k * 4, none⟩) hb0).trans ((hB0.cell (p := ⟨b, off + k * 4, none⟩) hb).trans c0)
      have d1 := (hnx.cell (p := ⟨b, off + k * 4 + 1, none⟩) hb0).trans ((hB0.cell (p := ⟨b, off + k * 4 + 1, none⟩) hb).trans c1)
      have d2 := (hnx.cell (p := ⟨b, off + k * 4 + 2, none⟩) hb0).trans ((hB0.cell (p := ⟨b, off + k * 4 + 2, none⟩) hb).trans c2)
      have d3 := (hnx.cell (p := ⟨b, off + k * 4 + 3, none⟩) hb0).trans ((hB0.cell (p := ⟨b, off + k * 4 + 3, none⟩) hb).trans c3)
      obtain ⟨-, s0, s1, s2, s3⟩ := hK.below hnx
      have h0 : (0 : Int) ≤ (k : Int) := Int.natCast_nonneg _
      have hl : (k : Int) < (zs.length : Int) := by omega
      by_cases hx : ruleEq z r = true
      · have HZ := Lib.hid (idxB_hit (p := fun z => ruleEq z r) hz hx hall)
        obtain rfl := (ruleEq_iff _ _).1 hx
        clear hat c0 c1 c2 c3 hz hx hall
        go_wp2_with fail
        go_quiet (fail)
        go_wp2
        go_ret
        exact ⟨ret_i HZ.out.symm, below_up hB0 (below_drewN hnx nq)⟩
      · have HZ := Lib.hid (noneTo_step hz (by simpa using hx) hall)
        have hnn := rule_ne (a := r) (b := z) (by rw [ruleEq_comm]; exact hx)
        clear hat c0 c1 c2 c3 hz hx hall
        rcases hnn with h | ⟨h0', h⟩ | ⟨h0', h1, h⟩ | ⟨h0', h1, h2, h⟩
        all_goals (
          go_wp2_with fail
          go_quiet (fail)
          try clear h
          try clear h2
          try clear h1
          try clear h0'
          have hnx2 := below_drewN hnx nq
          clear hnx
          go_wp2
          go_roundw
          case rel => exact ⟨k + 1, by omega, by go_num, HZ.out, hnx2⟩
          case measure => simp [intOf]; omega)
    · have HZ := Lib.hid (idxB_none hlt hall)
      clear hall
      go_wp2
      go_ret
      exact ⟨ret_i HZ.out.symm, below_up hB0 hnx⟩

set_option maxRecDepth 100000 in
theorem has_impl (u : Value) (zs : List TRule) (r : TRule) (w : World) (hu : Sl 4 ruleC w u zs) :
    Calls Tryd.prog 63 #[u, .agg #[.int .i64 r.user, .string r.ref, .string r.path, .bool r.write]] w fun e w' => e = .returned (.bool (hasB zs r)) ∧ Below w.heap.size w w' := by
  have HA := Lib.hid (idxB_any (fun z => ruleEq z r) zs)
  have hB := al (below0 w) (.cells #[.int .i64 r.user, .string r.ref, .string r.path, .bool r.write] 34)
  have hu1 := Lib.hid (hu.below hB)
  go_enter Tryd.func63, Tryd.ntmps63
  go_wp2_with fail
  refine (idx_impl u zs r _ hu1.out).mono ?_
  rintro e w1 ⟨rfl, hb1⟩
  go_wp2
  go_ret
  exact ⟨ret_b HA.out, below_up hB hb1⟩
set_option maxRecDepth 100000 in
set_option maxHeartbeats 1000000 in
theorem list_impl (v : Value) (zs : List TRule) (w : World) (hm : MaxOk w) (hv : Sl 4 ruleC w v zs) (hf : ruleFine zs) :
    Calls Tryd.prog 41 #[v] w fun e w' => e = .returned (.bool (listB zs)) ∧ Below w.heap.size w w' := by
  obtain ⟨A, c, rfl, hc, hlc, hat⟩ := rule_z hv
  unfold maxLen at hc
  go_enter Tryd.func41, Tryd.ntmps41
  go_wp2
  go_loopw [7] (fun i wr => ∃ k : Nat, k ≤ zs.length ∧ i = .int .i64 k ∧ goodR zs k = true ∧ Below w.heap.size w wr) (fun i _ => zs.length - (intOf i).toNat)
  case atStart => exact ⟨0, Nat.zero_le _, rfl, rfl, below0 w⟩
  case round =>
    obtain ⟨k, hk, rfl, hall, hnx⟩ := hrel
    by_cases hlt : k < zs.length
    · obtain ⟨z, b, off, hz, rfl, hb, c0, c1, c2, c3⟩ := hat k hlt
      have d0 := (hnx.cell (p := ⟨b, off + k * 4, none⟩) hb).trans c0
      have d1 := (hnx.cell (p := ⟨b, off + k * 4 + 1, none⟩) hb).trans c1
      have d2 := (hnx.cell (p := ⟨b, off + k * 4 + 2, none⟩) hb).trans c2
      have d3 := (hnx.cell (p := ⟨b, off + k * 4 + 3, none⟩) hb).trans c3
      obtain ⟨hz1, hz2⟩ := ruleFine_get hf hz
      have hB := al (below0 wr) (.cells #[.int .i64 z.user, .string z.ref, .string z.path, .bool z.write] 34)
      have HC := Lib.hid (fun W hm => rok_impl z hz1 hz2 W hm)
      have ht := Lib.hid ((sl_takeT (hv.below hnx) k (by omega)).below hB)
      obtain ⟨-, p0, p1, p2, p3⟩ := rbox_new wr z 34
      have dm := Lib.hid ((hm.below hnx).below hB)
      have hnB := below_up hnx hB
      have h0 : (0 : Int) ≤ (k : Int) := Int.natCast_nonneg _
      have hl : (k : Int) < (zs.length : Int) := by omega
      clear hz1 hz2
      cases hx : rokB z
      · have HZ := Lib.hid (listB_bad hz (list_bad1 hx))
        clear hat c0 c1 c2 c3 hz hall
        go_wp2_with fail
        refine wp_region_bel (by kernel_rfl) (by kernel_rfl) ?_
        have q0 := fun x : Bel (wr.alloc (.cells #[.int .i64 z.user, .string z.ref, .string z.path, .bool z.write] 34)) => Bel.cell p0 x
        have q1 := fun x : Bel (wr.alloc (.cells #[.int .i64 z.user, .string z.ref, .string z.path, .bool z.write] 34)) => Bel.cell p1 x
        have q2 := fun x : Bel (wr.alloc (.cells #[.int .i64 z.user, .string z.ref, .string z.path, .bool z.write] 34)) => Bel.cell p2 x
        have q3 := fun x : Bel (wr.alloc (.cells #[.int .i64 z.user, .string z.ref, .string z.path, .bool z.write] 34)) => Bel.cell p3 x
        repeat (go_big_quiet_step (first | (go_at_call 32; exact bel_call _ (HC.out _ (dm.out.below (Bel.h _)))) | (go_at_call 63; exact bel_call _ (has_impl _ (zs.take k) z _ (ht.out.below (Bel.h _))))))
        refine wpQuiet_nil ?_
        intro _ hw'; obtain ⟨x, hw''⟩ := hw'; subst hw''
        have hx2 := x.h
        generalize x.w = w2 at hx2 ⊢
        clear q0 q1 q2 q3 x
        go_wp2
        go_ret
        exact ⟨ret_b HZ.out.symm, below_up hnB hx2⟩
      · cases hy : hasB (zs.take k) z
        · have HZ : Hid (goodR zs (k + 1) = true) := by rw [goodR_step hz, hall, list_good hx hy]; rfl
          clear hat c0 c1 c2 c3 hz hall
          go_wp2_with fail
          refine wp_region_bel (by kernel_rfl) (by kernel_rfl) ?_
          have q0 := fun x : Bel (wr.alloc (.cells #[.int .i64 z.user, .string z.ref, .string z.path, .bool z.write] 34)) => Bel.cell p0 x
          have q1 := fun x : Bel (wr.alloc (.cells #[.int .i64 z.user, .string z.ref, .string z.path, .bool z.write] 34)) => Bel.cell p1 x
          have q2 := fun x : Bel (wr.alloc (.cells #[.int .i64 z.user, .string z.ref, .string z.path, .bool z.write] 34)) => Bel.cell p2 x
          have q3 := fun x : Bel (wr.alloc (.cells #[.int .i64 z.user, .string z.ref, .string z.path, .bool z.write] 34)) => Bel.cell p3 x
          repeat (go_big_quiet_step (first | (go_at_call 32; exact bel_call _ (HC.out _ (dm.out.below (Bel.h _)))) | (go_at_call 63; exact bel_call _ (has_impl _ (zs.take k) z _ (ht.out.below (Bel.h _))))))
          refine wpQuiet_nil ?_
          intro _ hw'; obtain ⟨x, hw''⟩ := hw'; subst hw''
          have hx2 := x.h
          generalize x.w = w2 at hx2 ⊢
          clear q0 q1 q2 q3 x
          go_wp2
          go_roundw
          case rel => exact ⟨k + 1, by omega, by go_num, HZ.out, below_up hnB hx2⟩
          case measure => simp [intOf]; omega
        · have HZ := Lib.hid (listB_bad hz (list_bad2 hy))
          clear hat c0 c1 c2 c3 hz hall
          go_wp2_with fail
          refine wp_region_bel (by kernel_rfl) (by kernel_rfl) ?_
          have q0 := fun x : Bel (wr.alloc (.cells #[.int .i64 z.user, .string z.ref, .string z.path, .bool z.write] 34)) => Bel.cell p0 x
          have q1 := fun x : Bel (wr.alloc (.cells #[.int .i64 z.user, .string z.ref, .string z.path, .bool z.write] 34)) => Bel.cell p1 x
          have q2 := fun x : Bel (wr.alloc (.cells #[.int .i64 z.user, .string z.ref, .string z.path, .bool z.write] 34)) => Bel.cell p2 x
          have q3 := fun x : Bel (wr.alloc (.cells #[.int .i64 z.user, .string z.ref, .string z.path, .bool z.write] 34)) => Bel.cell p3 x
          repeat (go_big_quiet_step (first | (go_at_call 32; exact bel_call _ (HC.out _ (dm.out.below (Bel.h _)))) | (go_at_call 63; exact bel_call _ (has_impl _ (zs.take k) z _ (ht.out.below (Bel.h _))))))
          refine wpQuiet_nil ?_
          intro _ hw'; obtain ⟨x, hw''⟩ := hw'; subst hw''
          have hx2 := x.h
          generalize x.w = w2 at hx2 ⊢
          clear q0 q1 q2 q3 x
          go_wp2
          go_ret
          exact ⟨ret_b HZ.out.symm, below_up hnB hx2⟩
    · have HZ : Hid (listB zs = decide (zs.length ≤ 6)) := by
        have : k = zs.length := by omega
        subst this
        exact listB_end hall
      clear hall
      go_wp2
      go_ret
      exact ⟨ret_b (by rw [HZ.out]; first | rfl | (simp; done) | (simp; omega)), hnx⟩
end Go.Proofs.YtmjneiiallgdcaaDoor
