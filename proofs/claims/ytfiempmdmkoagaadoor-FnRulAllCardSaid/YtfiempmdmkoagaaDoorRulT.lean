/- Rules: spec's l5Same, RulListOk, RulSees, RulMay, RulPut, each by a plain function. -/
import Derived.Test.YtfiempmdmkoagaaDoorRulS
namespace Go.Proofs.YtfiempmdmkoagaaDoor
open Go.RowKit

/-- rules whose texts are not too long for the walks -/
def ruleFine (zs : List TRule) : Prop := ∀ z ∈ zs, z.ref.size ≤ maxLen ∧ z.path.size ≤ 2097160
theorem ruleFine_get {zs : List TRule} {z : TRule} {k : Nat} (h : ruleFine zs) (hz : zs[k]? = some z) : z.ref.size ≤ maxLen ∧ z.path.size ≤ 2097160 := h z (List.mem_of_getElem? hz)
theorem sl_takeT {α : Type} {sz : Nat} {C : α → List Value} {w : World} {A : Option Addr} {n c : Nat} {zs : List α} (h : Sl sz C w (.slice A n c) zs) (k : Nat) (hk : k ≤ n) : Sl sz C w (.slice A k c) (zs.take k) := by
  obtain ⟨A', c', e, h1, h2, h3⟩ := h
  simp only [Value.slice.injEq] at e
  obtain ⟨rfl, rfl, rfl⟩ := e
  have hl : (zs.take k).length = k := by simp; omega
  refine ⟨A, c, by rw [hl], by rw [hl]; omega, h2, fun j a hj => ?_⟩
  rw [List.getElem?_take] at hj
  split at hj
  · exact h3 j a hj
  · cases hj

set_option maxRecDepth 100000 in
set_option maxHeartbeats 400000 in
theorem same_spec (u : Value) (zs : List TRule) (r : TRule) (w : World) (hu : Sl 4 ruleC w u zs) :
    Calls Tryd.prog 76 #[u, .agg #[.int .i64 r.user, .string r.ref, .string r.path, .bool r.write]] w fun e w' => e = .returned (.bool (hasB zs r)) ∧ Below w.heap.size w w' := by
  obtain ⟨A, c, rfl, hc, hlc, hat⟩ := rule_z hu
  unfold maxLen at hc
  have hB0 := al (below0 w) (.cells #[.int .i64 r.user, .string r.ref, .string r.path, .bool r.write] 40)
  have hK := rbox_new w r 40
  go_enter Tryd.func76, Tryd.ntmps76
  go_wp2
  generalize hW : w.alloc (.cells #[.int .i64 r.user, .string r.ref, .string r.path, .bool r.write] 40) = W0 at hB0 hK ⊢
  clear hW
  go_loopw [5] (fun i wr => ∃ k : Nat, k ≤ zs.length ∧ i = .int .i64 k ∧ NoneTo (fun z => ruleEq z r) zs k ∧ Below W0.heap.size W0 wr) (fun i _ => zs.length - (intOf i).toNat)
  case atStart => exact ⟨0, Nat.zero_le _, rfl, noneTo_zero _ _, below0 W0⟩
  case round =>
    obtain ⟨k, hk, rfl, hall, hnx⟩ := hrel
    by_cases hlt : k < zs.length
    · obtain ⟨z, b, off, hz, rfl, hb, c0, c1, c2, c3⟩ := hat k hlt
      have hb0 : b < W0.heap.size := Nat.lt_of_lt_of_le hb hB0.size
      have d0 := (hnx.cell (p := ⟨b, off + k * 4, none⟩) hb0).trans ((hB0.cell (p := ⟨b, off + k * 4, none⟩) hb).trans c0)
      have d1 := (hnx.cell (p := ⟨b, off + k * 4 + 1, none⟩) hb0).trans ((hB0.cell (p := ⟨b, off + k * 4 + 1, none⟩) hb).trans c1)
      have d2 := (hnx.cell (p := ⟨b, off + k * 4 + 2, none⟩) hb0).trans ((hB0.cell (p := ⟨b, off + k * 4 + 2, none⟩) hb).trans c2)
      have d3 := (hnx.cell (p := ⟨b, off + k * 4 + 3, none⟩) hb0).trans ((hB0.cell (p := ⟨b, off + k * 4 + 3, none⟩) hb).trans c3)
      obtain ⟨-, s0, s1, s2, s3⟩ := hK.below hnx
      have h0 : (0 : Int) ≤ (k : Int) := Int.natCast_nonneg _
      have hl : (k : Int) < (zs.length : Int) := by omega
      by_cases hx : ruleEq z r = true
      · have HZ := Lib.hid (any_hit (p := fun z => ruleEq z r) hz hx)
        obtain rfl := (ruleEq_iff _ _).1 hx
        clear hat c0 c1 c2 c3 hz hx hall
        go_wp2_with fail
        go_quiet (fail)
        go_wp2
        go_ret
        exact ⟨ret_b HZ.out.symm, below_up hB0 (below_drewN hnx nq)⟩
      · have HZ := Lib.hid (noneTo_step hz (by simpa using hx) hall)
        have hnn := rule_ne hx
        clear hat c0 c1 c2 c3 hz hx hall
        rcases hnn with h | ⟨h0', h⟩ | ⟨h0', h1, h⟩ | ⟨h0', h1, h2, h⟩
        all_goals (
          go_wp2_with fail
          go_quiet (fail)
          try clear h
          try clear h2
          try clear h1
          try clear h0'
          have hnx2 := below_drewN hnx nq
          clear hnx
          go_wp2
          go_roundw
          case rel => exact ⟨k + 1, by omega, by go_num, HZ.out, hnx2⟩
          case measure => simp [intOf]; omega)
    · have HZ := Lib.hid (noneTo_end hlt hall)
      clear hall
      go_wp2
      go_ret
      exact ⟨ret_b HZ.out.symm, below_up hB0 hnx⟩

set_option maxRecDepth 100000 in
set_option maxHeartbeats 400000 in
theorem sees_spec (v : Value) (zs : List TRule) (u : Int) (ref : ByteArray) (w : World) (hv : Sl 4 ruleC w v zs) (hf : ruleFine zs) :
    Calls Tryd.prog 30 #[v, .int .i64 u, .string ref] w fun e w' => e = .returned (.bool (seesB zs u ref)) ∧ Below w.heap.size w w' := by
  obtain ⟨A, c, rfl, hc, hlc, hat⟩ := rule_z hv
  unfold maxLen at hc
  go_enter Tryd.func30, Tryd.ntmps30
  go_wp2
  go_loopw [7] (fun i wr => ∃ k : Nat, k ≤ zs.length ∧ i = .int .i64 k ∧ NoneTo (fun r => forB r u ref) zs k ∧ Below w.heap.size w wr) (fun i _ => zs.length - (intOf i).toNat)
  case atStart => exact ⟨0, Nat.zero_le _, rfl, noneTo_zero _ _, below0 w⟩
  case round =>
    obtain ⟨k, hk, rfl, hall, hnx⟩ := hrel
    by_cases hlt : k < zs.length
    · obtain ⟨z, b, off, hz, rfl, hb, c0, c1, c2, c3⟩ := hat k hlt
      have d0 := (hnx.cell (p := ⟨b, off + k * 4, none⟩) hb).trans c0
      have d1 := (hnx.cell (p := ⟨b, off + k * 4 + 1, none⟩) hb).trans c1
      have d2 := (hnx.cell (p := ⟨b, off + k * 4 + 2, none⟩) hb).trans c2
      have d3 := (hnx.cell (p := ⟨b, off + k * 4 + 3, none⟩) hb).trans c3
      obtain ⟨hz1, hz2⟩ := ruleFine_get hf hz
      have HC := Lib.hid (fun W => for_spec z u ref hz1 hz2 W)
      clear hz1 hz2
      cases hx : forB z u ref
      · have HZ := Lib.hid (noneTo_step hz hx hall)
        clear hat c0 c1 c2 c3 hz hall
        go_wp2_with fail
        refine (HC.out _).mono ?_
        rintro e w1 ⟨rfl, b1⟩
        rw [hx]
        go_wp2
        go_roundw
        case rel => exact ⟨k + 1, by omega, by go_num, HZ.out, below_up hnx b1⟩
        case measure => simp [intOf]; omega
      · have HZ := Lib.hid (any_hit (p := fun r => forB r u ref) hz hx)
        clear hat c0 c1 c2 c3 hz hall
        go_wp2_with fail
        refine (HC.out _).mono ?_
        rintro e w1 ⟨rfl, b1⟩
        rw [hx]
        go_wp2
        go_ret
        exact ⟨ret_b HZ.out.symm, below_up hnx b1⟩
    · have HZ := Lib.hid (noneTo_end hlt hall)
      clear hall
      go_wp2
      go_ret
      exact ⟨ret_b HZ.out.symm, hnx⟩
end Go.Proofs.YtfiempmdmkoagaaDoor
