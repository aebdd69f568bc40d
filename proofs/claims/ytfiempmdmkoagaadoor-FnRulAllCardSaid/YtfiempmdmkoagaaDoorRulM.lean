/- Rules: impl's RulMay with its closure, by a plain function. -/
import Derived.Test.YtfiempmdmkoagaaDoorRulI
namespace Go.Proofs.YtfiempmdmkoagaaDoor
open Go.RowKit

/-- what RulMay's closure captured, in its boxes -/
def MBox (w : World) (g h p q : Nat) (u : Int) (ref path : ByteArray) (write : Bool) : Prop := SBox w g h u ref ∧ p < w.heap.size ∧ q < w.heap.size ∧ w.cell? ⟨p, 0, none⟩ = some (.string path) ∧ w.cell? ⟨q, 0, none⟩ = some (.bool write)
theorem MBox.below {w w' : World} {g h p q : Nat} {u : Int} {ref path : ByteArray} {write : Bool} (k : MBox w g h p q u ref path write) (hb : Below w.heap.size w w') : MBox w' g h p q u ref path write :=
  ⟨k.1.below hb, Nat.lt_of_lt_of_le k.2.1 hb.size, Nat.lt_of_lt_of_le k.2.2.1 hb.size, (hb.cell (p := ⟨p, 0, none⟩) k.2.1).trans k.2.2.2.1, (hb.cell (p := ⟨q, 0, none⟩) k.2.2.1).trans k.2.2.2.2⟩
set_option maxRecDepth 100000 in
set_option maxHeartbeats 400000 in
theorem may1_calls (r : TRule) (g h p q : Nat) (u : Int) (ref path : ByteArray) (write : Bool) (hr : r.ref.size ≤ maxLen) (hp : r.path.size ≤ 2097160) (hq : path.size ≤ 2097160) (w : World) (hm : MaxOk w) (hk : MBox w g h p q u ref path write) :
    Calls Tryd.prog 59 #[.agg #[.int .i64 r.user, .string r.ref, .string r.path, .bool r.write], .pointer (some ⟨g, 0, none⟩), .pointer (some ⟨h, 0, none⟩), .pointer (some ⟨p, 0, none⟩), .pointer (some ⟨q, 0, none⟩)] w fun e w' => e = .returned (.bool (mayR r u ref path write)) ∧ Below w.heap.size w w' := by
  have hB := al (below0 w) (.cells #[.int .i64 r.user, .string r.ref, .string r.path, .bool r.write] 40)
  have hm1 := Lib.hid (hm.below hB)
  have hK := Lib.hid (hk.below hB)
  have hR := Lib.hid (rbox_new w r 40)
  have HC := Lib.hid (fun W hm => for_impl r u ref hr hp W hm)
  have HU := Lib.hid (fun W hm => und_impl r.path path hp hq W hm)
  obtain ⟨⟨l1, l2, c1, c2⟩, l3, l4, c3, c4⟩ := hk
  clear hm
  cases hx : forB r u ref
  · have HZ := Lib.hid (mayR_no1 (path := path) (write := write) hx)
    go_enter Tryd.func59, Tryd.ntmps59
    go_wp2_with fail
    refine (HC.out _ hm1.out).mono ?_
    rintro e w1 ⟨rfl, b1⟩
    rw [hx]
    go_wp2
    go_ret
    exact ⟨ret_b HZ.out.symm, below_up hB b1⟩
  · cases hy : undB r.path path
    · have HZ := Lib.hid (mayR_no2 (write := write) hx hy)
      go_enter Tryd.func59, Tryd.ntmps59
      go_wp2_with fail
      refine (HC.out _ hm1.out).mono ?_
      rintro e w1 ⟨rfl, b1⟩
      rw [hx]
      obtain ⟨-, q0, q1, q2, q3⟩ := hR.out.below b1
      obtain ⟨-, -, -, k3, k4⟩ := hK.out.below b1
      go_wp2_with fail
      refine (HU.out _ (hm1.out.below b1)).mono ?_
      rintro e w2 ⟨rfl, b2⟩
      rw [hy]
      go_wp2
      go_ret
      exact ⟨ret_b HZ.out.symm, below_up hB (below_up b1 b2)⟩
    · have HZ := Lib.hid (mayR_eq (write := write) hx hy)
      go_enter Tryd.func59, Tryd.ntmps59
      go_wp2_with fail
      refine (HC.out _ hm1.out).mono ?_
      rintro e w1 ⟨rfl, b1⟩
      rw [hx]
      have hR1 := Lib.hid (hR.out.below b1)
      have hK1 := Lib.hid (hK.out.below b1)
      obtain ⟨-, q0, q1, q2, q3⟩ := hR1.out
      obtain ⟨-, -, -, k3, k4⟩ := hK1.out
      go_wp2_with fail
      refine (HU.out _ (hm1.out.below b1)).mono ?_
      rintro e w2 ⟨rfl, b2⟩
      rw [hy]
      clear q0 q1 q2 q3 k3 k4
      obtain ⟨-, q0, q1, q2, q3⟩ := hR1.out.below b2
      obtain ⟨-, -, -, k3, k4⟩ := hK1.out.below b2
      cases hz : r.write
      · rw [hz] at q3
        go_wp2
        go_ret
        exact ⟨ret_b (by rw [HZ.out, hz]; rfl), below_up hB (below_up b1 b2)⟩
      · rw [hz] at q3
        go_wp2
        go_ret
        exact ⟨ret_b (by rw [HZ.out, hz]; rfl), below_up hB (below_up b1 b2)⟩

set_option maxRecDepth 100000 in
theorem mayIdx_calls (v : Value) (zs : List TRule) (g h p q : Nat) (u : Int) (ref path : ByteArray) (write : Bool) (hq : path.size ≤ 2097160) (w : World) (hm : MaxOk w) (hk : MBox w g h p q u ref path write) (hv : Sl 4 ruleC w v zs) (hf : ruleFine zs) :
    Calls Tryd.prog 71 #[v, .func (.func 59) #[] #[.pointer (some ⟨g, 0, none⟩), .pointer (some ⟨h, 0, none⟩), .pointer (some ⟨p, 0, none⟩), .pointer (some ⟨q, 0, none⟩)]] w fun e w' => e = .returned (.int .i64 (idxB (fun r => mayR r u ref path write) zs)) ∧ Below w.heap.size w w' := by
  obtain ⟨A, c, rfl, hc, hlc, hat⟩ := rule_z hv
  unfold maxLen at hc
  go_enter Tryd.func71, Tryd.ntmps71
  go_wp2
  go_loopw [8] (fun i wr => ∃ k : Nat, k ≤ zs.length ∧ i = .int .i64 k ∧ NoneTo (fun r => mayR r u ref path write) zs k ∧ Below w.heap.size w wr) (fun i _ => zs.length - (intOf i).toNat)
  case atStart => exact ⟨0, Nat.zero_le _, rfl, noneTo_zero _ _, below0 w⟩
  case round =>
    obtain ⟨k, hk2, rfl, hall, hnx⟩ := hrel
    by_cases hlt : k < zs.length
    · obtain ⟨z, b, off, hz, rfl, hb, c0, c1, c2, c3⟩ := hat k hlt
      have d0 := (hnx.cell (p := ⟨b, off + k * 4, none⟩) hb).trans c0
      have d1 := (hnx.cell (p := ⟨b, off + k * 4 + 1, none⟩) hb).trans c1
      have d2 := (hnx.cell (p := ⟨b, off + k * 4 + 2, none⟩) hb).trans c2
      have d3 := (hnx.cell (p := ⟨b, off + k * 4 + 3, none⟩) hb).trans c3
      have dg := Lib.hid (hk.below hnx)
      have dm := Lib.hid (hm.below hnx)
      obtain ⟨hz1, hz2⟩ := ruleFine_get hf hz
      cases hpx : mayR z u ref path write
      · have HF := Lib.hid (noneTo_step (p := fun r => mayR r u ref path write) hz hpx hall)
        clear hat hz c0 c1 c2 c3 hall
        go_wp2_with fail
        refine (may1_calls z g h p q u ref path write hz1 hz2 hq _ dm.out dg.out).mono ?_
        rintro e w1 ⟨rfl, hb1⟩
        rw [hpx]
        go_wp2
        go_roundw
        case rel => exact ⟨k + 1, by omega, by go_num, HF.out, below_up hnx hb1⟩
        case measure => simp [intOf]; omega
      · have HF := Lib.hid (idxB_hit (p := fun r => mayR r u ref path write) hz hpx hall)
        clear hat hz c0 c1 c2 c3 hall
        go_wp2_with fail
        refine (may1_calls z g h p q u ref path write hz1 hz2 hq _ dm.out dg.out).mono ?_
        rintro e w1 ⟨rfl, hb1⟩
        rw [hpx]
        go_wp2
        go_ret
        exact ⟨ret_i HF.out.symm, below_up hnx hb1⟩
    · have HF := Lib.hid (idxB_none hlt hall)
      clear hall
      go_wp2
      go_ret
      exact ⟨ret_i HF.out.symm, hnx⟩
set_option maxRecDepth 100000 in
theorem mayCon_calls (v : Value) (zs : List TRule) (g h p q : Nat) (u : Int) (ref path : ByteArray) (write : Bool) (hq : path.size ≤ 2097160) (w : World) (hm : MaxOk w) (hk : MBox w g h p q u ref path write) (hv : Sl 4 ruleC w v zs) (hf : ruleFine zs) :
    Calls Tryd.prog 55 #[v, .func (.func 59) #[] #[.pointer (some ⟨g, 0, none⟩), .pointer (some ⟨h, 0, none⟩), .pointer (some ⟨p, 0, none⟩), .pointer (some ⟨q, 0, none⟩)]] w fun e w' => e = .returned (.bool (mayB zs u ref path write)) ∧ Below w.heap.size w w' := by
  have HA := Lib.hid (idxB_any (fun r => mayR r u ref path write) zs)
  go_enter Tryd.func55, Tryd.ntmps55
  go_wp2_with fail
  refine (mayIdx_calls v zs g h p q u ref path write hq _ hm hk hv hf).mono ?_
  rintro e w1 ⟨rfl, hb1⟩
  go_wp2
  go_ret
  exact ⟨ret_b HA.out, hb1⟩
theorem mbox_new (w : World) (u : Int) (ref path : ByteArray) (write : Bool) (t t' t2 t3 : TypeId) : MBox ((((w.alloc (.cells #[.int .i64 u] t)).alloc (.cells #[.string ref] t')).alloc (.cells #[.string path] t2)).alloc (.cells #[.bool write] t3)) w.heap.size (w.heap.size + 1) (w.heap.size + 1 + 1) (w.heap.size + 1 + 1 + 1) u ref path write := by
  have h1 := sbox_new w u ref t t'
  have h2 := h1.below (al (al (below0 _) (.cells #[.string path] t2)) (.cells #[.bool write] t3))
  have e1 : ((w.alloc (.cells #[.int .i64 u] t)).alloc (.cells #[.string ref] t')).heap.size = w.heap.size + 1 + 1 := by simp
  have e2 : (((w.alloc (.cells #[.int .i64 u] t)).alloc (.cells #[.string ref] t')).alloc (.cells #[.string path] t2)).heap.size = w.heap.size + 1 + 1 + 1 := by simp
  refine ⟨h2, by first | (simp; done) | (simp; omega), by simp, ?_, ?_⟩
  · have h := heap_alloc_new ((w.alloc (.cells #[.int .i64 u] t)).alloc (.cells #[.string ref] t')) (.cells #[.string path] t2)
    rw [e1] at h
    rw [World.cell?_alloc_old _ _ _ (by rw [e2]; simp)]
    exact (cell_of_row _ _ 0 _ _ _ h).trans rfl
  · have h := heap_alloc_new (((w.alloc (.cells #[.int .i64 u] t)).alloc (.cells #[.string ref] t')).alloc (.cells #[.string path] t2)) (.cells #[.bool write] t3)
    rw [e2] at h
    exact (cell_of_row _ _ 0 _ _ _ h).trans rfl
set_option maxRecDepth 100000 in
theorem may_impl (v : Value) (zs : List TRule) (u : Int) (ref path : ByteArray) (write : Bool) (hq : path.size ≤ 2097160) (w : World) (hm : MaxOk w) (hv : Sl 4 ruleC w v zs) (hf : ruleFine zs) :
    Calls Tryd.prog 32 #[v, .int .i64 u, .string ref, .string path, .bool write] w fun e w' => e = .returned (.bool (mayB zs u ref path write)) ∧ Below w.heap.size w w' := by
  have hB := al (al (al (al (below0 w) (.cells #[.int .i64 u] 3)) (.cells #[.string ref] 9)) (.cells #[.string path] 9)) (.cells #[.bool write] 4)
  have hm1 := Lib.hid (hm.below hB)
  have hv1 := Lib.hid (hv.below hB)
  have hk := Lib.hid (mbox_new w u ref path write 3 9 9 4)
  clear hm hv
  go_enter Tryd.func32, Tryd.ntmps32
  go_wp2_with fail
  refine (mayCon_calls v zs _ _ _ _ u ref path write hq _ hm1.out hk.out hv1.out hf).mono ?_
  rintro e w1 ⟨rfl, hb1⟩
  go_wp2
  go_ret
  exact ⟨rfl, below_up hB hb1⟩
end Go.Proofs.YtfiempmdmkoagaaDoor
