/- impl.TreSize and spec.TreSize: the sum of the lengths. -/
import Derived.Test.YtajkihibineoaaaEditH
import Derived.BigQuiet
import Derived.Deep.QuietTactic
namespace Go.Proofs.Ytajkihibineoaaa
open Go.RowKit

theorem treSize_impl (u : Value) (zs : List TEdit) (w : World) (hu : Sl 3 editC w u zs) (hn : wsum editT zs ≤ 1048576) :
    Calls Try.prog 22 #[u] w fun e w' => e = .returned (.int .i64 (wsum editT zs)) ∧ Below w.heap.size w w' := by
  obtain ⟨A, c, rfl, hc, hlc, hat⟩ := edit_at hu
  unfold maxLen at hc
  go_enter Try.func22, Try.ntmps22
  go_wp2
  go_loopw [3, 8] (fun s i wr => ∃ k : Nat, k ≤ zs.length ∧ i = .int .i64 k ∧ s = .int .i64 (wsum editT (zs.take k)) ∧ Below w.heap.size w wr) (fun _ i _ => zs.length - (intOf i).toNat)
  case atStart => exact ⟨0, Nat.zero_le _, rfl, rfl, Below.refl _ _⟩
  case round =>
    obtain ⟨k, hk, rfl, rfl, hnx⟩ := hrel
    by_cases hlt : k < zs.length
    · obtain ⟨p, q, g, b, off, hz, rfl, hb, c0, c1, c2⟩ := hat k hlt
      have d0 := (hnx.cell (p := ⟨b, off + k * 3, none⟩) hb).trans c0
      have d1 := (hnx.cell (p := ⟨b, off + k * 3 + 1, none⟩) hb).trans c1
      have d2 := (hnx.cell (p := ⟨b, off + k * 3 + 2, none⟩) hb).trans c2
      have st := wsum_step (f := editT) hz
      have hst : wsum editT (zs.take k) + (p.size + q.size) ≤ 1048576 := by have := wsum_le (f := editT) (zs := zs) (k + 1); rw [st] at this; simp only [editT] at this ⊢; omega
      have ST := Lib.hid st
      clear hat c0 c1 c2 hz st
      go_wp2
      go_roundw
      case rel => exact ⟨k + 1, by omega, by go_num, by rw [ST.out]; simp only [editT]; go_num, al hnx _⟩
      case measure => simp [intOf]; omega
    · have e1 := Lib.hid (wsum_all (f := editT) hlt)
      go_wp2
      go_ret
      exact ⟨ret_i (by rw [e1.out]), hnx⟩

theorem treSize_spec (u : Value) (zs : List TEdit) (w : World) (hu : Sl 3 editC w u zs) (hn : wsum editT zs ≤ 1048576) :
    Calls Try.prog 23 #[u] w fun e w' => e = .returned (.int .i64 (wsum editT zs)) ∧ Below w.heap.size w w' := by
  obtain ⟨A, c, rfl, hc, hlc, hat⟩ := edit_at hu
  unfold maxLen at hc
  go_enter Try.func23, Try.ntmps23
  go_wp2
  go_loopw [3, 4] (fun s i wr => ∃ k : Nat, k ≤ zs.length ∧ i = .int .i64 k ∧ s = .int .i64 (wsum editT (zs.take k)) ∧ Below w.heap.size w wr) (fun _ i _ => zs.length - (intOf i).toNat)
  case atStart => exact ⟨0, Nat.zero_le _, rfl, rfl, Below.refl _ _⟩
  case round =>
    obtain ⟨k, hk, rfl, rfl, hnx⟩ := hrel
    by_cases hlt : k < zs.length
    · obtain ⟨p, q, g, b, off, hz, rfl, hb, c0, c1, c2⟩ := hat k hlt
      have d0 := (hnx.cell (p := ⟨b, off + k * 3, none⟩) hb).trans c0
      have d1 := (hnx.cell (p := ⟨b, off + k * 3 + 1, none⟩) hb).trans c1
      have st := wsum_step (f := editT) hz
      have hst : wsum editT (zs.take k) + (p.size + q.size) ≤ 1048576 := by have := wsum_le (f := editT) (zs := zs) (k + 1); rw [st] at this; simp only [editT] at this ⊢; omega
      have ST := Lib.hid st
      have h0 : (0 : Int) ≤ (k : Int) := Int.natCast_nonneg _
      have hl : (k : Int) < (zs.length : Int) := by omega
      clear hat c0 c1 c2 hz st
      go_wp2
      go_quiet (fail)
      have hnx2 := below_drewN hnx nq
      clear hnx
      go_wp2
      go_roundw
      case rel => exact ⟨k + 1, by omega, by go_num, by rw [ST.out]; simp only [editT]; go_num, hnx2⟩
      case measure => simp [intOf]; omega
    · have e1 := Lib.hid (wsum_all (f := editT) hlt)
      go_wp2
      go_ret
      exact ⟨ret_i (by rw [e1.out]), hnx⟩
end Go.Proofs.Ytajkihibineoaaa
