/- Rows of ints: equality, marks. -/
import Derived.Test.YtajkihibineoaaaMem
import Derived.Test.YtajkihibineoaaaBase
import Derived.BigQuiet
import Derived.Deep.QuietTactic
namespace Go.Proofs.Ytajkihibineoaaa
open Go.RowKit

/-- the cells of an int -/
def intC (x : Int) : List Value := [.int .i64 x]
theorem intC_len (x : Int) : (intC x).length = 1 := rfl
theorem intC_flat (xs : List Int) : xs.flatMap intC = xs.map (Value.int .i64) := by
  induction xs with
  | nil => rfl
  | cons x xs ih => simp [List.flatMap_cons, intC, ih]
theorem Try.infoInt : (Try.prog.info? 3).map (fun i => (i.zero, i.size, i.bytes)) = some (some (.int .i64 0), 1, 8) := by kernel_rfl
theorem int_at {w : World} {v : Value} {zs : List Int} (h : Sl 1 intC w v zs) : ∃ A c, v = .slice A zs.length c ∧ c ≤ maxLen ∧ zs.length ≤ c ∧
    ∀ k, k < zs.length → ∃ x b off, zs[k]? = some x ∧ A = some ⟨b, off, none⟩ ∧ b < w.heap.size ∧ w.cell? ⟨b, off + k, none⟩ = some (.int .i64 x) := by
  obtain ⟨A, c, rfl, h1, h2, h3⟩ := h
  refine ⟨A, c, rfl, h2, h1, fun k hk => ?_⟩
  obtain ⟨b, off, rfl, hb, hat⟩ := h3 k _ (List.getElem?_eq_getElem hk)
  refine ⟨zs[k], b, off, List.getElem?_eq_getElem hk, rfl, hb, ?_⟩
  have := hat 0 _ rfl
  rw [Nat.mul_one] at this
  exact this

theorem eqIntS_calls (u v : Value) (zs : List Int) (w : World) (hu : Sl 1 intC w u zs) (hv : Sl 1 intC w v zs) :
    Calls Try.prog 45 #[u, v] w fun e w' => e = .returned (.bool true) ∧ Below w.heap.size w w' := by
  obtain ⟨A, c, rfl, hc, hlc, hat⟩ := int_at hu
  obtain ⟨A', c', rfl, hc', hlc', hat'⟩ := int_at hv
  unfold maxLen at hc hc'
  go_enter Try.func45, Try.ntmps45
  go_wp2
  go_loopw [5] (fun i wr => ∃ k : Nat, k ≤ zs.length ∧ i = .int .i64 k ∧ Below w.heap.size w wr) (fun i _ => zs.length - (intOf i).toNat)
  case atStart => exact ⟨0, Nat.zero_le _, rfl, Below.refl _ _⟩
  case round =>
    obtain ⟨k, hk, rfl, hnx⟩ := hrel
    by_cases hlt : k < zs.length
    · obtain ⟨x, b, off, hz, rfl, hb, c0⟩ := hat k hlt
      obtain ⟨x', b', off', hz', rfl, hb', c0'⟩ := hat' k hlt
      rw [hz] at hz'
      simp only [Option.some.injEq] at hz'
      subst hz'
      have d0 := (hnx.cell (p := ⟨b, off + k, none⟩) hb).trans c0
      have d0' := (hnx.cell (p := ⟨b', off' + k, none⟩) hb').trans c0'
      clear hat hat' c0 c0' hz
      have h0 : (0 : Int) ≤ (k : Int) := Int.natCast_nonneg _
      have hl : (k : Int) < (zs.length : Int) := by omega
      go_wp2_with fail
      go_quiet (fail)
      have hnx2 := below_drewN hnx nq
      clear hnx
      go_wp2
      go_roundw
      case rel => exact ⟨k + 1, by omega, by go_num, hnx2⟩
      case measure => simp [intOf]; omega
    · go_wp2
      go_ret
      exact ⟨rfl, hnx⟩

/-- the numbers that a call of markIntS writes, from number k on -/
def intMark (k n : Nat) : List Int := (List.range n).map fun i => ((k + i : Nat) : Int)
theorem intMark_len (k n : Nat) : (intMark k n).length = n := by simp [intMark]
theorem intMark_get {k n i : Nat} (h : i < n) : (intMark k n)[i]? = some ((k + i : Nat) : Int) := by simp [intMark, h]
theorem intMark_step {zs : List Int} {k i : Nat} (h : i < zs.length) : ((intMark k i ++ zs.drop i).set i ((k + i : Nat) : Int)) = intMark k (i + 1) ++ zs.drop (i + 1) := by
  rw [List.set_append_right _ _ (by rw [intMark_len]; omega), intMark_len, Nat.sub_self, List.drop_eq_getElem_cons h, List.set_cons_zero]
  simp [intMark, List.range_succ]

set_option maxRecDepth 100000 in
theorem markIntS_calls (v : Value) (zs : List Int) (k base : Nat) (w : World) (ho : Own 1 intC 3 base w v zs) (hn : k + zs.length ≤ 8388608) :
    Calls Try.prog 46 #[v, .int .i64 k] w (RetMark 1 intC 3 base v (k + zs.length) (intMark k zs.length) w) := by
  have ho2 : w.ownsRow base 3 1 v zs.length (zs.flatMap intC) := ho
  rcases ho.2 with ⟨rfl, hz⟩ | ⟨g, cap, cur, rfl, hbg, hgg, hnc, hcm, -, -⟩
  · have : zs = [] := List.eq_nil_of_length_eq_zero hz
    subst this
    go_enter Try.func46, Try.ntmps46
    go_wp2
    refine wp_loop_rounds 1 ?_
    rw [rounds_succ]
    go_wp2
    go_ret
    exact ⟨rfl, ho, World.grownBy.refl _ _⟩
  · have hgw : g < w.heap.size := (Array.getElem?_eq_some_iff.1 hgg).1
    unfold maxLen at hcm
    clear hgg
    go_enter Try.func46, Try.ntmps46
    go_wp2
    go_loopw [1, 5] (fun q i wr => ∃ n : Nat, n ≤ zs.length ∧ i = .int .i64 n ∧ q = .int .i64 ((k + n : Nat) : Int) ∧ wr.ownsRow base 3 1 (.slice (some ⟨g, 0, none⟩) zs.length cap) zs.length ((intMark k n ++ zs.drop n).flatMap intC) ∧ w.grownBy wr (some g)) (fun _ i _ => zs.length - (intOf i).toNat)
    case atStart => exact ⟨0, Nat.zero_le _, rfl, rfl, by simpa [intMark] using ho2, World.grownBy.refl _ _⟩
    case round =>
      obtain ⟨n, hn2, rfl, rfl, hown, hgr⟩ := hrel
      by_cases hlt : n < zs.length
      · obtain ⟨⟨x0, e0⟩, f0⟩ := own_cell hown (j := n) (by omega)
        have h1 := hown.stored n (.int .i64 ((k + n : Nat) : Int))
        have HF : Hid ((wr.setCell ⟨g, n, none⟩ (.int .i64 ((k + n : Nat) : Int))).ownsRow base 3 1 (.slice (some ⟨g, 0, none⟩) zs.length cap) zs.length ((intMark k (n + 1) ++ zs.drop (n + 1)).flatMap intC) ∧ w.grownBy (wr.setCell ⟨g, n, none⟩ (.int .i64 ((k + n : Nat) : Int))) (some g)) := by
          refine ⟨?_, grown_trans hgr h1.2⟩
          have h3 := h1.1
          rw [intC_flat, ← List.map_set, intMark_step hlt, ← intC_flat] at h3
          exact h3
        clear h1 hgr hown
        go_wp2
        go_roundw
        case rel => exact ⟨n + 1, by omega, by go_num, by go_num, by simpa using HF.out.1, by simpa using HF.out.2⟩
        case measure => simp [intOf]; omega
      · obtain rfl : n = zs.length := by omega
        go_wp2
        go_ret
        refine ⟨rfl, ?_, hgr⟩
        rw [List.drop_length, List.append_nil] at hown
        have : (intMark k zs.length).length = zs.length := intMark_len _ _
        unfold Own
        rw [this]
        exact hown

theorem heldIntS_calls (v : Value) (k n : Nat) (w : World) (hv : Sl 1 intC w v (intMark k n)) (hn : k + n ≤ 8388608) :
    Calls Try.prog 47 #[v, .int .i64 k] w fun e w' => e = .returned (.int .i64 (k + n : Nat)) ∧ w = w' := by
  obtain ⟨A, c, rfl, hc, hlc, hat⟩ := int_at hv
  rw [intMark_len] at hat hlc ⊢
  unfold maxLen at hc
  clear hv
  go_enter Try.func47, Try.ntmps47
  go_wp2
  go_loop [1, 5] (fun q i => ∃ m : Nat, m ≤ n ∧ i = .int .i64 m ∧ q = .int .i64 ((k + m : Nat) : Int)) (fun _ i => n - (intOf i).toNat)
  case atStart => exact ⟨0, Nat.zero_le _, rfl, rfl⟩
  case round =>
    obtain ⟨m, hm, rfl, rfl⟩ := hrel
    by_cases hlt : m < n
    · obtain ⟨x, b, off, hz, rfl, hb, c0⟩ := hat m hlt
      rw [intMark_get hlt] at hz
      simp only [Option.some.injEq] at hz
      subst hz
      clear hat
      go_wp2
      go_round
      case rel => exact ⟨m + 1, by omega, by go_num, by go_num⟩
      case measure => simp [intOf]; omega
    · obtain rfl : m = n := by omega
      go_wp2
      go_ret
      exact ⟨rfl, rfl⟩
end Go.Proofs.Ytajkihibineoaaa
