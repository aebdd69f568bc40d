/- The helpers of the laws over pools: the copy of a list of items. -/
import Derived.Test.YtajkihibineoaaaPol2
namespace Go.Proofs.Ytajkihibineoaaa
open Go.RowKit

theorem polZ : (Value.agg #[.int .i64 0, .string ByteArray.empty]).cells = (polC (0, ByteArray.empty)).toArray := rfl

set_option maxRecDepth 100000 in
set_option maxHeartbeats 400000 in
theorem toPolItemS_calls (u : Value) (zs : List (Int × ByteArray)) (w : World) (hu : Sl 2 polC w u zs) (hn : zs.length ≤ 1048576) :
    Calls Try.prog 26 #[u] w (RetOwn 2 polC 70 zs w) := by
  obtain ⟨i0, hi, hz0, hz1, hz2⟩ := info_parts Try.infoImplPol
  obtain ⟨A, c, rfl, hc, hlc, hat⟩ := pol_at hu
  unfold maxLen at hc
  go_enter Try.func26, Try.ntmps26
  go_wp2_with (at_make; refine wpList_make_full _ rfl _ _ 36 rfl w.heap.size 70 i0 _ 2 Try.underlying36 hi hz0 hz1 .i64 .i64 _ _ zs.length rfl rfl rfl rfl (by rw [hz2]; omega) (by unfold maxLen; omega) (Nat.le_refl _) ?_; intro w0 hown0 hgrow0)
  rw [polZ, made_flat polC_len (by omega)] at hown0
  have hb0 := below_of_grown hgrow0
  have hg0 : w.heap.size < w0.heap.size := (hown0.lt w.heap.size rfl).2
  go_loopw [4] (fun i wr => ∃ k : Nat, k ≤ zs.length ∧ i = .int .i64 k ∧ wr.ownsRow w.heap.size 70 2 (.slice (some ⟨w.heap.size, 0, none⟩) zs.length zs.length) zs.length ((zs.take k ++ List.replicate (zs.length - k) (0, ByteArray.empty)).flatMap polC) ∧ Below w.heap.size w wr ∧ w.heap.size < wr.heap.size) (fun i _ => zs.length - (intOf i).toNat)
  case atStart => exact ⟨0, Nat.zero_le _, rfl, by simpa using hown0, hb0, hg0⟩
  case round =>
    obtain ⟨k, hk, rfl, hown, hnx, hgr⟩ := hrel
    by_cases hlt : k < zs.length
    · obtain ⟨id, s, b, off, hz, rfl, hb, c0, c1⟩ := hat k hlt
      have d0 := (hnx.cell (p := ⟨b, off + k * 2, none⟩) hb).trans c0
      have d1 := (hnx.cell (p := ⟨b, off + k * 2 + 1, none⟩) hb).trans c1
      have HZ := Lib.hid hz
      clear hat c0 c1 hz
      go_wp2_with fail
      refine (toPolItem_calls id s _).mono ?_
      rintro e w1 ⟨rfl, hb1⟩
      have hown1 := World.ownsRow.kept hown (grown_of_below hb1 none) (.inr (by simp [Value.ownBlock]))
      obtain ⟨⟨x0, e0⟩, f0⟩ := own2 polC_len hown1 (by simp; omega) hlt 0 (by omega)
      obtain ⟨⟨x1, e1⟩, f1⟩ := own2 polC_len hown1 (by simp; omega) hlt 1 (by omega)
      simp only [Nat.add_zero] at e0 f0
      go_wp2
      go_roundw
      case rel => exact ⟨k + 1, by omega, by go_num, own_put2 polC_len hown1 HZ.out rfl, ((hnx.trans (hb1.mono hnx.size)).setCell (Nat.le_refl _) _).setCell (Nat.le_refl _) _, by have := hb1.size; simp [World.setCell]; omega⟩
      case measure => simp [intOf]; omega
    · go_wp2
      go_ret
      refine ⟨_, rfl, ?_, hnx⟩
      rw [List.take_of_length_le (by omega), show zs.length - k = 0 by omega, List.replicate_zero, List.append_nil] at hown
      exact hown
end Go.Proofs.Ytajkihibineoaaa
