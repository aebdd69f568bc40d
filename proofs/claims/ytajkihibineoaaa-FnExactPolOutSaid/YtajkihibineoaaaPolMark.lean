/- Marks written into a pool's items, and read back. -/
import Derived.Test.YtajkihibineoaaaPol3
import Derived.Test.YtajkihibineoaaaMark
namespace Go.Proofs.Ytajkihibineoaaa
open Go.RowKit

/-- the items that a call of markPolItemS writes, from number k on -/
def polMark (k n : Nat) : List (Int × ByteArray) := (List.range n).map fun i => (((k + 2 * i : Nat) : Int), mt (k + 2 * i + 1))
theorem polMark_len (k n : Nat) : (polMark k n).length = n := by simp [polMark]
theorem polMark_get {k n i : Nat} (h : i < n) : (polMark k n)[i]? = some (((k + 2 * i : Nat) : Int), mt (k + 2 * i + 1)) := by simp [polMark, h]
theorem polMark_step {zs : List (Int × ByteArray)} {k i : Nat} (h : i < zs.length) : ((polMark k i ++ zs.drop i).set i (((k + 2 * i : Nat) : Int), mt (k + 2 * i + 1))) = polMark k (i + 1) ++ zs.drop (i + 1) := by
  rw [List.set_append_right _ _ (by rw [polMark_len]; omega), polMark_len, Nat.sub_self, List.drop_eq_getElem_cons h, List.set_cons_zero]
  simp [polMark, List.range_succ]

set_option maxRecDepth 100000 in
set_option maxHeartbeats 400000 in
theorem markPolItemS_calls (v : Value) (zs : List (Int × ByteArray)) (k base : Nat) (w : World) (ho : Own 2 polC 70 base w v zs) (hk : 0 < k) (hn : k + 2 * zs.length ≤ 8388608) :
    Calls Try.prog 41 #[v, .int .i64 k] w (RetMark 2 polC 70 base v (k + 2 * zs.length) (polMark k zs.length) w) := by
  have ho2 : w.ownsRow base 70 2 v zs.length (zs.flatMap polC) := ho
  rcases ho.2 with ⟨rfl, hz⟩ | ⟨g, cap, cur, rfl, hbg, hgg, hnc, hcm, -, -⟩
  · have : zs = [] := List.eq_nil_of_length_eq_zero hz
    subst this
    go_enter Try.func41, Try.ntmps41
    go_wp2
    refine wp_loop_rounds 1 ?_
    rw [rounds_succ]
    go_wp2
    go_ret
    exact ⟨rfl, ho, World.grownBy.refl _ _⟩
  · have hgw : g < w.heap.size := (Array.getElem?_eq_some_iff.1 hgg).1
    unfold maxLen at hcm
    clear hgg
    go_enter Try.func41, Try.ntmps41
    go_wp2
    go_loopw [1, 5] (fun q i wr => ∃ n : Nat, n ≤ zs.length ∧ i = .int .i64 n ∧ q = .int .i64 ((k + 2 * n : Nat) : Int) ∧ wr.ownsRow base 70 2 (.slice (some ⟨g, 0, none⟩) zs.length cap) zs.length ((polMark k n ++ zs.drop n).flatMap polC) ∧ w.grownBy wr (some g)) (fun _ i _ => zs.length - (intOf i).toNat)
    case atStart => exact ⟨0, Nat.zero_le _, rfl, rfl, by simpa [polMark] using ho2, World.grownBy.refl _ _⟩
    case round =>
      obtain ⟨n, hn2, rfl, rfl, hown, hgr⟩ := hrel
      by_cases hlt : n < zs.length
      · have hl : (polMark k n ++ zs.drop n).length = zs.length := by simp [polMark_len]; omega
        obtain ⟨⟨x0, e0⟩, f0⟩ := own2 polC_len hown hl hlt 0 (by omega)
        simp only [Nat.add_zero] at e0 f0
        have HL := Lib.hid hl
        clear hl
        go_wp2_with fail
        refine (markText_int _ (by omega) (by omega) _).mono ?_
        rintro e w1 ⟨rfl, hb1⟩
        have h1 := hown.stored (n * 2) (.int .i64 ((k : Int) + 2 * n))
        have hown1 := h1.1.kept (grown_of_below hb1 none) (.inr (by simp [Value.ownBlock]))
        obtain ⟨⟨x1, e1⟩, f1⟩ := own_cell hown1 (j := n * 2 + 1) (by omega)
        have hgr1 := grown_trans (grown_trans hgr h1.2) (grown_of_below hb1 (some g))
        have h2 := hown1.stored (n * 2 + 1) (.string (mt ((k : Int) + 2 * n + 1).toNat))
        have HF : Hid ((w1.setCell ⟨g, n * 2 + 1, none⟩ (.string (mt ((k : Int) + 2 * n + 1).toNat))).ownsRow base 70 2 (.slice (some ⟨g, 0, none⟩) zs.length cap) zs.length ((polMark k (n + 1) ++ zs.drop (n + 1)).flatMap polC) ∧ w.grownBy (w1.setCell ⟨g, n * 2 + 1, none⟩ (.string (mt ((k : Int) + 2 * n + 1).toNat))) (some g)) := by
          refine ⟨?_, grown_trans hgr1 h2.2⟩
          have h3 := h2.1
          rw [flat_set2 polC_len (a := (((k + 2 * n : Nat) : Int), mt (k + 2 * n + 1))) (by rw [HL.out]; exact hlt) (by rw [show ((k : Int) + 2 * n + 1).toNat = k + 2 * n + 1 by omega]; simp [polC]), polMark_step hlt] at h3
          exact h3
        clear h2 hgr1 hown1 h1 hgr hown
        go_wp2
        go_roundw
        case rel => exact ⟨n + 1, by omega, by go_num, by go_num, HF.out.1, HF.out.2⟩
        case measure => simp [intOf]; omega
      · obtain rfl : n = zs.length := by omega
        go_wp2
        go_ret
        refine ⟨rfl, ?_, hgr⟩
        rw [List.drop_length, List.append_nil] at hown
        have : (polMark k zs.length).length = zs.length := polMark_len _ _
        unfold Own
        rw [this]
        exact hown

theorem heldPolItemS_calls (v : Value) (k n : Nat) (w : World) (hv : Sl 2 polC w v (polMark k n)) (hk : 0 < k) (hn : k + 2 * n ≤ 8388608) :
    Calls Try.prog 42 #[v, .int .i64 k] w fun e w' => e = .returned (.int .i64 (k + 2 * n : Nat)) ∧ Below w.heap.size w w' := by
  obtain ⟨A, c, rfl, hc, hlc, hat⟩ := pol_at hv
  rw [polMark_len] at hat hlc ⊢
  unfold maxLen at hc
  clear hv
  go_enter Try.func42, Try.ntmps42
  go_wp2
  go_loopw [1, 5] (fun q i wr => ∃ m : Nat, m ≤ n ∧ i = .int .i64 m ∧ q = .int .i64 ((k + 2 * m : Nat) : Int) ∧ Below w.heap.size w wr) (fun _ i _ => n - (intOf i).toNat)
  case atStart => exact ⟨0, Nat.zero_le _, rfl, rfl, Below.refl _ _⟩
  case round =>
    obtain ⟨m, hm, rfl, rfl, hnx⟩ := hrel
    by_cases hlt : m < n
    · obtain ⟨id, s, b, off, hz, rfl, hb, c0, c1⟩ := hat m hlt
      rw [polMark_get hlt] at hz
      simp only [Option.some.injEq, Prod.mk.injEq] at hz
      obtain ⟨rfl, rfl⟩ := hz
      have d0 := (hnx.cell (p := ⟨b, off + m * 2, none⟩) hb).trans c0
      have d1 := (hnx.cell (p := ⟨b, off + m * 2 + 1, none⟩) hb).trans c1
      clear hat c0 c1
      have h0 : (0 : Int) ≤ (m : Int) := Int.natCast_nonneg _
      have hl : (m : Int) < (n : Int) := by omega
      have hbr : b < wr.heap.size := Nat.lt_of_lt_of_le hb hnx.size
      have htn : ((k : Int) + 2 * m + 1).toNat = k + 2 * m + 1 := by omega
      go_wp2_with fail
      go_region_held3 (fun w' => w'.cell? ⟨b, off + m * 2 + 1, none⟩ = some (.string (mt (k + 2 * m + 1))) ∧ Below wr.heap.size wr w') (first | exact ⟨d1, (Below.refl _ _).drew⟩ | exact ⟨(hb1.cell (p := ⟨b, off + m * 2 + 1, none⟩) hbr).trans d1, (Below.refl _ _).drew.trans hb1⟩)
        (first | (go_at_call 67; refine (markText_int _ (by omega) (by omega) _).mono ?_; rintro e w1 ⟨rfl, hb1⟩))
      have hw1 : Below wr.heap.size wr w1 := (Below.refl _ _).drew.trans hb1
      clear hb1
      go_wp2
      go_roundw
      case rel => exact ⟨m + 1, by omega, by go_num, by go_num, hnx.trans (hw1.mono hnx.size)⟩
      case measure => simp [intOf]; omega
    · obtain rfl : m = n := by omega
      go_wp2
      go_ret
      exact ⟨rfl, hnx⟩
end Go.Proofs.Ytajkihibineoaaa
