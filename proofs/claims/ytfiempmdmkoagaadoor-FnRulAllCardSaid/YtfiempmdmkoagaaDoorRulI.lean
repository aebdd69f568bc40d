/- Rules: impl's RulSees and RulMay with their closures, each by a plain function. -/
import Derived.Test.YtfiempmdmkoagaaDoorRulP
namespace Go.Proofs.YtfiempmdmkoagaaDoor
open Go.RowKit

/-- a captured int and a captured string in their boxes -/
def SBox (w : World) (g h : Nat) (u : Int) (ref : ByteArray) : Prop := g < w.heap.size ∧ h < w.heap.size ∧ w.cell? ⟨g, 0, none⟩ = some (.int .i64 u) ∧ w.cell? ⟨h, 0, none⟩ = some (.string ref)
theorem SBox.below {w w' : World} {g h : Nat} {u : Int} {ref : ByteArray} (k : SBox w g h u ref) (hb : Below w.heap.size w w') : SBox w' g h u ref :=
  ⟨Nat.lt_of_lt_of_le k.1 hb.size, Nat.lt_of_lt_of_le k.2.1 hb.size, (hb.cell (p := ⟨g, 0, none⟩) k.1).trans k.2.2.1, (hb.cell (p := ⟨h, 0, none⟩) k.2.1).trans k.2.2.2⟩
set_option maxRecDepth 100000 in
theorem sees1_calls (r : TRule) (g h : Nat) (u : Int) (ref : ByteArray) (hr : r.ref.size ≤ maxLen) (hp : r.path.size ≤ 2097160) (w : World) (hm : MaxOk w) (hk : SBox w g h u ref) :
    Calls Tryd.prog 56 #[.agg #[.int .i64 r.user, .string r.ref, .string r.path, .bool r.write], .pointer (some ⟨g, 0, none⟩), .pointer (some ⟨h, 0, none⟩)] w fun e w' => e = .returned (.bool (forB r u ref)) ∧ Below w.heap.size w w' := by
  have hB := al (below0 w) (.cells #[.int .i64 r.user, .string r.ref, .string r.path, .bool r.write] 40)
  have hm1 := Lib.hid (hm.below hB)
  obtain ⟨l1, l2, c1, c2⟩ := hk
  clear hm
  go_enter Tryd.func56, Tryd.ntmps56
  go_wp2_with fail
  refine (for_impl r u ref hr hp _ hm1.out).mono ?_
  rintro e w1 ⟨rfl, b1⟩
  go_wp2
  go_ret
  exact ⟨rfl, below_up hB b1⟩

set_option maxRecDepth 100000 in
theorem seesIdx_calls (v : Value) (zs : List TRule) (g h : Nat) (u : Int) (ref : ByteArray) (w : World) (hm : MaxOk w) (hk : SBox w g h u ref) (hv : Sl 4 ruleC w v zs) (hf : ruleFine zs) :
    Calls Tryd.prog 71 #[v, .func (.func 56) #[] #[.pointer (some ⟨g, 0, none⟩), .pointer (some ⟨h, 0, none⟩)]] w fun e w' => e = .returned (.int .i64 (idxB (fun r => forB r u ref) zs)) ∧ Below w.heap.size w w' := by
  obtain ⟨A, c, rfl, hc, hlc, hat⟩ := rule_z hv
  unfold maxLen at hc
  go_enter Tryd.func71, Tryd.ntmps71
  go_wp2
  go_loopw [8] (fun i wr => ∃ k : Nat, k ≤ zs.length ∧ i = .int .i64 k ∧ NoneTo (fun r => forB r u ref) zs k ∧ Below w.heap.size w wr) (fun i _ => zs.length - (intOf i).toNat)
  case atStart => exact ⟨0, Nat.zero_le _, rfl, noneTo_zero _ _, below0 w⟩
  case round =>
    obtain ⟨k, hk2, rfl, hall, hnx⟩ := hrel
    by_cases hlt : k < zs.length
    · obtain ⟨z, b, off, hz, rfl, hb, c0, c1, c2, c3⟩ := hat k hlt
      have d0 := (hnx.cell (p := ⟨b, off + k * 4, none⟩) hb).trans c0
      have d1 := (hnx.cell (p := ⟨b, off + k * 4 + 1, none⟩) hb).trans c1
      have d2 := (hnx.cell (p := ⟨b, off + k * 4 + 2, none⟩) hb).trans c2
      have d3 := (hnx.cell (p := ⟨b, off + k * 4 + 3, none⟩) hb).trans c3
      have dg := Lib.hid (hk.below hnx)
      have dm := Lib.hid (hm.below hnx)
      obtain ⟨hz1, hz2⟩ := ruleFine_get hf hz
      cases hp : forB z u ref
      · have HF := Lib.hid (noneTo_step (p := fun r => forB r u ref) hz hp hall)
        clear hat hz c0 c1 c2 c3 hall
        go_wp2_with fail
        refine (sees1_calls z g h u ref hz1 hz2 _ dm.out dg.out).mono ?_
        rintro e w1 ⟨rfl, hb1⟩
        rw [hp]
        go_wp2
        go_roundw
        case rel => exact ⟨k + 1, by omega, by go_num, HF.out, below_up hnx hb1⟩
        case measure => simp [intOf]; omega
      · have HF := Lib.hid (idxB_hit (p := fun r => forB r u ref) hz hp hall)
        clear hat hz c0 c1 c2 c3 hall
        go_wp2_with fail
        refine (sees1_calls z g h u ref hz1 hz2 _ dm.out dg.out).mono ?_
        rintro e w1 ⟨rfl, hb1⟩
        rw [hp]
        go_wp2
        go_ret
        exact ⟨ret_i HF.out.symm, below_up hnx hb1⟩
    · have HF := Lib.hid (idxB_none hlt hall)
      clear hall
      go_wp2
      go_ret
      exact ⟨ret_i HF.out.symm, hnx⟩
set_option maxRecDepth 100000 in
theorem seesCon_calls (v : Value) (zs : List TRule) (g h : Nat) (u : Int) (ref : ByteArray) (w : World) (hm : MaxOk w) (hk : SBox w g h u ref) (hv : Sl 4 ruleC w v zs) (hf : ruleFine zs) :
    Calls Tryd.prog 55 #[v, .func (.func 56) #[] #[.pointer (some ⟨g, 0, none⟩), .pointer (some ⟨h, 0, none⟩)]] w fun e w' => e = .returned (.bool (seesB zs u ref)) ∧ Below w.heap.size w w' := by
  have HA := Lib.hid (idxB_any (fun r => forB r u ref) zs)
  go_enter Tryd.func55, Tryd.ntmps55
  go_wp2_with fail
  refine (seesIdx_calls v zs g h u ref _ hm hk hv hf).mono ?_
  rintro e w1 ⟨rfl, hb1⟩
  go_wp2
  go_ret
  exact ⟨ret_b HA.out, hb1⟩
theorem sbox_new (w : World) (u : Int) (ref : ByteArray) (t t' : TypeId) : SBox ((w.alloc (.cells #[.int .i64 u] t)).alloc (.cells #[.string ref] t')) w.heap.size (w.heap.size + 1) u ref := by
  refine ⟨by simp; omega, by simp, ?_, ?_⟩
  · rw [World.cell?_alloc_old _ _ _ (by simp)]
    exact (cell_of_row _ _ 0 _ _ _ (heap_alloc_new w _)).trans rfl
  · have h := heap_alloc_new (w.alloc (.cells #[.int .i64 u] t)) (.cells #[.string ref] t')
    rw [show (w.alloc (.cells #[.int .i64 u] t)).heap.size = w.heap.size + 1 by simp] at h
    exact (cell_of_row _ _ 0 _ _ _ h).trans rfl
set_option maxRecDepth 100000 in
theorem sees_impl (v : Value) (zs : List TRule) (u : Int) (ref : ByteArray) (w : World) (hm : MaxOk w) (hv : Sl 4 ruleC w v zs) (hf : ruleFine zs) :
    Calls Tryd.prog 29 #[v, .int .i64 u, .string ref] w fun e w' => e = .returned (.bool (seesB zs u ref)) ∧ Below w.heap.size w w' := by
  have hB := al (al (below0 w) (.cells #[.int .i64 u] 3)) (.cells #[.string ref] 9)
  have hm1 := Lib.hid (hm.below hB)
  have hv1 := Lib.hid (hv.below hB)
  have hk := Lib.hid (sbox_new w u ref 3 9)
  clear hm hv
  go_enter Tryd.func29, Tryd.ntmps29
  go_wp2_with fail
  refine (seesCon_calls v zs _ _ u ref _ hm1.out hk.out hv1.out hf).mono ?_
  rintro e w1 ⟨rfl, hb1⟩
  go_wp2
  go_ret
  exact ⟨rfl, below_up hB hb1⟩
end Go.Proofs.YtfiempmdmkoagaaDoor
