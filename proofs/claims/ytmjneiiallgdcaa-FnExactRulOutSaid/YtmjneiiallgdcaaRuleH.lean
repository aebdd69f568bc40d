/- The helpers of the laws over []RulRule: layout, sizes, copies, equality. By program (gen_help.py). -/
import Derived.Test.YtmjneiiallgdcaaBase
import Derived.Test.YtmjneiiallgdcaaMem
import Derived.Test.YtmjneiiallgdcaaSum
import Derived.StillTailTactics
namespace Go.Proofs.Ytmjneiiallgdcaa
open Go.RowKit

structure TRule where
  user : Int
  ref : ByteArray
  path : ByteArray
  write : Bool
def ruleC (p : TRule) : List Value := [.int .i64 p.user, .string p.ref, .string p.path, .bool p.write]
theorem ruleC_len (p : TRule) : (ruleC p).length = 4 := rfl
def ruleT (p : TRule) : Nat := p.ref.size + p.path.size
theorem rule_at {w : World} {v : Value} {zs : List TRule} (h : Sl 4 ruleC w v zs) : ∃ A c, v = .slice A zs.length c ∧ c ≤ maxLen ∧ zs.length ≤ c ∧
    ∀ k, k < zs.length → ∃ user ref path write b off, zs[k]? = some ⟨user, ref, path, write⟩ ∧ A = some ⟨b, off, none⟩ ∧ b < w.heap.size ∧ w.cell? ⟨b, off + k * 4, none⟩ = some (.int .i64 user) ∧ w.cell? ⟨b, off + k * 4 + 1, none⟩ = some (.string ref) ∧ w.cell? ⟨b, off + k * 4 + 2, none⟩ = some (.string path) ∧ w.cell? ⟨b, off + k * 4 + 3, none⟩ = some (.bool write) := by
  obtain ⟨A, c, rfl, h1, h2, h3⟩ := h
  refine ⟨A, c, rfl, h2, h1, fun k hk => ?_⟩
  obtain ⟨b, off, rfl, hb, hat⟩ := h3 k _ (List.getElem?_eq_getElem hk)
  exact ⟨zs[k].user, zs[k].ref, zs[k].path, zs[k].write, b, off, List.getElem?_eq_getElem hk, rfl, hb, hat 0 _ rfl, hat 1 _ rfl, hat 2 _ rfl, hat 3 _ rfl⟩

theorem szRulRule_calls (user : Int) (ref : ByteArray) (path : ByteArray) (write : Bool) (l : Int) (w : World) (href : ref.size ≤ maxLen) (hpath : path.size ≤ maxLen) (h0 : 0 ≤ l) (h1 : l ≤ 1048576) :
    Calls Try.prog 5 #[.agg #[.int .i64 user, .string ref, .string path, .bool write], .int .i64 l] w fun e w' => e = .returned (.int .i64 (szR l (ref.size + path.size))) ∧ Below w.heap.size w w' := by
  unfold maxLen at href hpath
  by_cases gref : l < ref.size
  · rw [szR_no (by omega)]
    go_enter Try.func5, Try.ntmps5
    go_wp2
    go_ret
    exact ⟨rfl, al (below0 w) _⟩
  by_cases gpath : l - ref.size < path.size
  · rw [szR_no (by omega)]
    go_enter Try.func5, Try.ntmps5
    go_wp2
    go_ret
    exact ⟨rfl, al (below0 w) _⟩
  rw [szR_yes (by omega)]
  go_enter Try.func5, Try.ntmps5
  go_wp2
  go_ret
  exact ⟨ret_i (by omega), al (below0 w) _⟩

set_option maxHeartbeats 400000 in
theorem szRulRuleS_calls (v : Value) (zs : List TRule) (L : Int) (w : World) (hv : Sl 4 ruleC w v zs) (ht : ∀ z ∈ zs, z.ref.size ≤ maxLen ∧ z.path.size ≤ maxLen) (h0 : 0 ≤ L) (h1 : L ≤ 1048576) :
    Calls Try.prog 4 #[v, .int .i64 L] w fun e w' => e = .returned (.int .i64 (szR L (zs.length + wsum ruleT zs))) ∧ Below w.heap.size w w' := by
  obtain ⟨A, c, rfl, hc, hlc, hat⟩ := rule_at hv
  unfold maxLen at hc
  by_cases hL : L < zs.length
  · rw [szR_no (by omega)]
    go_enter Try.func4, Try.ntmps4
    go_wp2
    go_ret
    exact ⟨rfl, Below.refl _ _⟩
  · go_enter Try.func4, Try.ntmps4
    go_wp2
    go_loopw [1, 5] (fun l i wr => ∃ k : Nat, k ≤ zs.length ∧ i = .int .i64 k ∧ l = .int .i64 (L - zs.length - wsum ruleT (zs.take k)) ∧ (0 : Int) ≤ L - zs.length - wsum ruleT (zs.take k) ∧ Below w.heap.size w wr) (fun _ i _ => zs.length - (intOf i).toNat)
    case atStart => exact ⟨0, Nat.zero_le _, rfl, by simp [wsum], by simp [wsum]; omega, Below.refl _ _⟩
    case round =>
      obtain ⟨k, hk, rfl, rfl, hge, hnx⟩ := hrel
      by_cases hlt : k < zs.length
      · obtain ⟨user, ref, path, write, b, off, hz, rfl, hb, c0, c1, c2, c3⟩ := hat k hlt
        have hs := ht _ (List.mem_of_getElem? hz)
        have d0 := (hnx.cell (p := ⟨b, off + k * 4, none⟩) hb).trans c0
        have d1 := (hnx.cell (p := ⟨b, off + k * 4 + 1, none⟩) hb).trans c1
        have d2 := (hnx.cell (p := ⟨b, off + k * 4 + 2, none⟩) hb).trans c2
        have d3 := (hnx.cell (p := ⟨b, off + k * 4 + 3, none⟩) hb).trans c3
        have st := Lib.hid (wsum_step (f := ruleT) hz)
        have le := wsum_le (f := ruleT) (zs := zs) (k + 1)
        by_cases hf : L - zs.length - wsum ruleT (zs.take k) < (ref.size + path.size : Nat)
        · go_wp2_with fail
          refine (szRulRule_calls user ref path write _ _ hs.1 hs.2 hge (by omega)).mono ?_
          rintro e w1 ⟨rfl, hb1⟩
          rw [szR_no hf]
          go_wp2
          go_ret
          have e1 := st.out
          simp only [ruleT] at e1
          exact ⟨ret_i (by rw [szR_no]; omega), hnx.trans (hb1.mono hnx.size)⟩
        · go_wp2_with fail
          refine (szRulRule_calls user ref path write _ _ hs.1 hs.2 hge (by omega)).mono ?_
          rintro e w1 ⟨rfl, hb1⟩
          rw [szR_yes (by omega)]
          go_wp2
          go_roundw
          have e1 := st.out
          simp only [ruleT] at e1
          case rel => exact ⟨k + 1, by omega, by go_num, by rw [e1]; go_num, by rw [e1]; omega, hnx.trans (hb1.mono hnx.size)⟩
          case measure => simp [intOf]; omega
      · have e1 := Lib.hid (wsum_all (f := ruleT) hlt)
        go_wp2
        go_ret
        have e2 := e1.out
        exact ⟨ret_i (by rw [szR_yes (by omega), e2]; omega), hnx⟩

theorem Try.infoRule : (Try.prog.info? 31).map (fun i => (i.zero, i.size, i.bytes)) = some (some (.agg #[.int .i64 0, .string ByteArray.empty, .string ByteArray.empty, .bool false]), 4, 48) := by kernel_rfl
theorem ruleZ : (Value.agg #[.int .i64 0, .string ByteArray.empty, .string ByteArray.empty, .bool false]).cells = (ruleC ⟨0, ByteArray.empty, ByteArray.empty, false⟩).toArray := rfl
theorem toRulRule_calls (user : Int) (ref : ByteArray) (path : ByteArray) (write : Bool) (w : World) :
    Calls Try.prog 8 #[.agg #[.int .i64 user, .string ref, .string path, .bool write]] w fun e w' => e = .returned (.agg #[.int .i64 user, .string ref, .string path, .bool write]) ∧ Below w.heap.size w w' := by
  go_enter Try.func8, Try.ntmps8
  go_wp2
  exact bodyPost_ret (v := .agg #[.int .i64 user, .string ref, .string path, .bool write]) (by simp [results, Try.results8, go_sem]) rfl ⟨rfl, al (al (al (below0 w) _) _) _⟩

set_option maxRecDepth 100000 in
set_option maxHeartbeats 400000 in
theorem toRulRuleS_calls (u : Value) (zs : List TRule) (w : World) (hu : Sl 4 ruleC w u zs) (hn : zs.length ≤ 1048576) :
    Calls Try.prog 7 #[u] w (RetOwn 4 ruleC 31 zs w) := by
  obtain ⟨i0, hi, hz0, hz1, hz2⟩ := info_parts Try.infoRule
  obtain ⟨A, c, rfl, hc, hlc, hat⟩ := rule_at hu
  unfold maxLen at hc
  go_enter Try.func7, Try.ntmps7
  go_wp2_with (at_make; refine wpList_make_full _ rfl _ _ 27 rfl w.heap.size 31 i0 _ 4 Try.underlying27 hi hz0 hz1 .i64 .i64 _ _ zs.length rfl rfl rfl rfl (by rw [hz2]; omega) (by unfold maxLen; omega) (Nat.le_refl _) ?_; intro w0 hown0 hgrow0)
  rw [ruleZ, made_flat ruleC_len (by omega)] at hown0
  have hb0 := below_of_grown hgrow0
  have hg0 : w.heap.size < w0.heap.size := (hown0.lt w.heap.size rfl).2
  go_loopw [4] (fun i wr => ∃ k : Nat, k ≤ zs.length ∧ i = .int .i64 k ∧ wr.ownsRow w.heap.size 31 4 (.slice (some ⟨w.heap.size, 0, none⟩) zs.length zs.length) zs.length ((zs.take k ++ List.replicate (zs.length - k) (⟨0, ByteArray.empty, ByteArray.empty, false⟩ : TRule)).flatMap ruleC) ∧ Below w.heap.size w wr ∧ w.heap.size < wr.heap.size) (fun i _ => zs.length - (intOf i).toNat)
  case atStart => exact ⟨0, Nat.zero_le _, rfl, by simpa using hown0, hb0, hg0⟩
  case round =>
    obtain ⟨k, hk, rfl, hown, hnx, hgr⟩ := hrel
    by_cases hlt : k < zs.length
    · obtain ⟨user, ref, path, write, b, off, hz, rfl, hb, c0, c1, c2, c3⟩ := hat k hlt
      have d0 := (hnx.cell (p := ⟨b, off + k * 4, none⟩) hb).trans c0
      have d1 := (hnx.cell (p := ⟨b, off + k * 4 + 1, none⟩) hb).trans c1
      have d2 := (hnx.cell (p := ⟨b, off + k * 4 + 2, none⟩) hb).trans c2
      have d3 := (hnx.cell (p := ⟨b, off + k * 4 + 3, none⟩) hb).trans c3
      have HZ := Lib.hid hz
      clear hat c0 c1 c2 c3 hz
      go_wp2_with fail
      refine (toRulRule_calls user ref path write _).mono ?_
      rintro e w1 ⟨rfl, hb1⟩
      have hown1 := World.ownsRow.kept hown (grown_of_below hb1 none) (.inr (by simp [Value.ownBlock]))
      obtain ⟨⟨x0, e0⟩, f0⟩ := own2 ruleC_len hown1 (by simp; omega) hlt 0 (by omega)
      obtain ⟨⟨x1, e1⟩, f1⟩ := own2 ruleC_len hown1 (by simp; omega) hlt 1 (by omega)
      obtain ⟨⟨x2, e2⟩, f2⟩ := own2 ruleC_len hown1 (by simp; omega) hlt 2 (by omega)
      obtain ⟨⟨x3, e3⟩, f3⟩ := own2 ruleC_len hown1 (by simp; omega) hlt 3 (by omega)
      simp only [Nat.add_zero] at e0 f0
      go_wp2
      go_roundw
      case rel => exact ⟨k + 1, by omega, by go_num, own_put4 ruleC_len hown1 HZ.out rfl, (((((hnx.trans (hb1.mono hnx.size)).setCell (Nat.le_refl _) _).setCell (Nat.le_refl _) _).setCell (Nat.le_refl _) _).setCell (Nat.le_refl _) _), by have := hb1.size; simp [World.setCell]; omega⟩
      case measure => simp [intOf]; omega
    · go_wp2
      go_ret
      refine ⟨_, rfl, ?_, hnx⟩
      rw [List.take_of_length_le (by omega), show zs.length - k = 0 by omega, List.replicate_zero, List.append_nil] at hown
      exact hown

theorem eqRulRule_calls (user : Int) (ref : ByteArray) (path : ByteArray) (write : Bool) (w : World) :
    Calls Try.prog 16 #[.agg #[.int .i64 user, .string ref, .string path, .bool write], .agg #[.int .i64 user, .string ref, .string path, .bool write]] w fun e w' => e = .returned (.bool true) ∧ Below w.heap.size w w' := by
  go_enter Try.func16, Try.ntmps16
  go_wp2
  go_ret
  exact ⟨rfl, al (al (below0 w) _) _⟩

set_option maxRecDepth 100000 in
theorem eqRulRuleS_calls (u v : Value) (zs : List TRule) (w : World) (hu : Sl 4 ruleC w u zs) (hv : Sl 4 ruleC w v zs) :
    Calls Try.prog 10 #[u, v] w fun e w' => e = .returned (.bool true) ∧ Below w.heap.size w w' := by
  obtain ⟨A, c, rfl, hc, hlc, hat⟩ := rule_at hu
  obtain ⟨A', c', rfl, hc', hlc', hat'⟩ := rule_at hv
  unfold maxLen at hc hc'
  go_enter Try.func10, Try.ntmps10
  go_wp2
  go_loopw [5] (fun i wr => ∃ k : Nat, k ≤ zs.length ∧ i = .int .i64 k ∧ Below w.heap.size w wr) (fun i _ => zs.length - (intOf i).toNat)
  case atStart => exact ⟨0, Nat.zero_le _, rfl, Below.refl _ _⟩
  case round =>
    obtain ⟨k, hk, rfl, hnx⟩ := hrel
    by_cases hlt : k < zs.length
    · obtain ⟨user, ref, path, write, b, off, hz, rfl, hb, c0, c1, c2, c3⟩ := hat k hlt
      obtain ⟨user', ref', path', write', b', off', hz', rfl, hb', c0', c1', c2', c3'⟩ := hat' k hlt
      rw [hz] at hz'
      simp only [Option.some.injEq, TRule.mk.injEq] at hz'
      obtain ⟨rfl, rfl, rfl, rfl⟩ := hz'
      have d0 := (hnx.cell (p := ⟨b, off + k * 4, none⟩) hb).trans c0
      have d1 := (hnx.cell (p := ⟨b, off + k * 4 + 1, none⟩) hb).trans c1
      have d2 := (hnx.cell (p := ⟨b, off + k * 4 + 2, none⟩) hb).trans c2
      have d3 := (hnx.cell (p := ⟨b, off + k * 4 + 3, none⟩) hb).trans c3
      have d0' := (hnx.cell (p := ⟨b', off' + k * 4, none⟩) hb').trans c0'
      have d1' := (hnx.cell (p := ⟨b', off' + k * 4 + 1, none⟩) hb').trans c1'
      have d2' := (hnx.cell (p := ⟨b', off' + k * 4 + 2, none⟩) hb').trans c2'
      have d3' := (hnx.cell (p := ⟨b', off' + k * 4 + 3, none⟩) hb').trans c3'
      clear hat hat' c0 c1 c2 c3 c0' c1' c2' c3' hz
      have h0 : (0 : Int) ≤ (k : Int) := Int.natCast_nonneg _
      have hl : (k : Int) < (zs.length : Int) := by omega
      go_wp2_with fail
      go_still_tail 8, (by kernel_rfl)
      change wpList _ _ _ _ _ wr.drew
      go_wp2_with fail
      refine (eqRulRule_calls user ref path write _).mono ?_
      rintro e w1 ⟨rfl, hb1⟩
      go_wp2
      go_roundw
      case rel => exact ⟨k + 1, by omega, by go_num, (hnx.drew).trans (hb1.mono hnx.size)⟩
      case measure => simp [intOf]; omega
    · go_wp2
      go_ret
      exact ⟨rfl, hnx⟩
end Go.Proofs.Ytmjneiiallgdcaa
