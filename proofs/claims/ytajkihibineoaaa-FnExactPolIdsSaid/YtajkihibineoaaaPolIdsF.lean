/- impl.PolIds and spec.PolIds: the ids of the items, in a row of the call's own. -/
import Derived.Test.YtajkihibineoaaaPolMark
import Derived.Test.YtajkihibineoaaaInt
namespace Go.Proofs.Ytajkihibineoaaa
open Go.RowKit

set_option maxRecDepth 100000 in
set_option maxHeartbeats 400000 in
theorem polIds_spec (u : Value) (zs : List (Int × ByteArray)) (w : World) (hu : Sl 2 polC w u zs) (hn : zs.length ≤ 1048576) :
    Calls Try.prog 43 #[u] w (RetOwn 1 intC 3 (zs.map (·.1)) w) := by
  obtain ⟨i0, hi, hz0, hz1, hz2⟩ := info_parts Try.infoInt
  obtain ⟨A, c, rfl, hc, hlc, hat⟩ := pol_at hu
  unfold maxLen at hc
  go_enter Try.func43, Try.ntmps43
  go_wp2
  go_loopw [3, 4] (fun v i wr => ∃ k : Nat, k ≤ zs.length ∧ i = .int .i64 k ∧ wr.ownsRow w.heap.size 3 1 v k (((zs.take k).map (·.1)).flatMap intC) ∧ Below w.heap.size w wr) (fun _ i _ => zs.length - (intOf i).toNat)
  case atStart => exact ⟨0, Nat.zero_le _, rfl, World.ownsRow_lit w #[] 0 (Nat.le_refl _) (by simp [maxLen]) rfl, al (below0 w) _⟩
  case round =>
    obtain ⟨k, hk, rfl, hown, hnx⟩ := hrel
    by_cases hlt : k < zs.length
    · obtain ⟨id, s, b, off, hz, rfl, hb, c0, c1⟩ := hat k hlt
      have d0 := (hnx.cell (p := ⟨b, off + k * 2, none⟩) hb).trans c0
      have HZ := Lib.hid hz
      clear hat c0 c1 hz
      go_wp2_with (at_builtin; refine wpList_append_own _ rfl _ _ 57 rfl w.heap.size 3 i0 (.int .i64 0) 1 8 Try.underlying57 hi hz0 hz1 hz2 rfl (by decide) _ _ _ rfl (hown.alloc _) ⟨wr.heap.size, 0, none⟩ 1 1 [.int .i64 id] rfl rfl (cell_one_new _ _ _) (by intro u hu; simp at hu; subst hu; rfl) (by unfold maxLen; omega) (by omega) (by have := hnx.size; simp; omega) ?_; intro v1 w1 hown1 hgrow1 _)
      have hb1 := app_step hnx hown (al (below0 _) _) hgrow1
      clear hgrow1 hnx hown
      go_roundw
      case rel => exact ⟨k + 1, by omega, by go_num, by rw [take_one HZ.out]; simpa [intC] using hown1, hb1⟩
      case measure => simp [intOf]; omega
    · go_wp2
      go_ret
      refine ⟨_, rfl, ?_, hnx⟩
      rw [List.take_of_length_le (by omega), show k = (zs.map (·.1)).length by simp; omega] at hown
      exact hown
set_option maxRecDepth 100000 in
set_option maxHeartbeats 400000 in
theorem polIds_impl (u : Value) (zs : List (Int × ByteArray)) (w : World) (hu : Sl 2 polC w u zs) (hn : zs.length ≤ 1048576) :
    Calls Try.prog 44 #[u] w (RetOwn 1 intC 3 (zs.map (·.1)) w) := by
  obtain ⟨i0, hi, hz0, hz1, hz2⟩ := info_parts Try.infoInt
  obtain ⟨A, c, rfl, hc, hlc, hat⟩ := pol_at hu
  unfold maxLen at hc
  go_enter Try.func44, Try.ntmps44
  go_wp2
  go_loopw [3, 8] (fun v i wr => ∃ k : Nat, k ≤ zs.length ∧ i = .int .i64 k ∧ wr.ownsRow w.heap.size 3 1 v k (((zs.take k).map (·.1)).flatMap intC) ∧ Below w.heap.size w wr) (fun _ i _ => zs.length - (intOf i).toNat)
  case atStart => exact ⟨0, Nat.zero_le _, rfl, World.ownsRow_nil _ _ _ _, below0 w⟩
  case round =>
    obtain ⟨k, hk, rfl, hown, hnx⟩ := hrel
    by_cases hlt : k < zs.length
    · obtain ⟨id, s, b, off, hz, rfl, hb, c0, c1⟩ := hat k hlt
      have d0 := (hnx.cell (p := ⟨b, off + k * 2, none⟩) hb).trans c0
      have d1 := (hnx.cell (p := ⟨b, off + k * 2 + 1, none⟩) hb).trans c1
      have HZ := Lib.hid hz
      clear hat c0 c1 hz
      go_wp2_with (at_builtin; refine wpList_append_own _ rfl _ _ 57 rfl w.heap.size 3 i0 (.int .i64 0) 1 8 Try.underlying57 hi hz0 hz1 hz2 rfl (by decide) _ _ _ rfl ((hown.alloc _).alloc _) ⟨wr.heap.size + 1, 0, none⟩ 1 1 [.int .i64 id] rfl rfl (news_new _ #[.int .i64 id] _ _ (by simp)) (by intro u hu; simp at hu; subst hu; rfl) (by unfold maxLen; omega) (by omega) (by have := hnx.size; simp; omega) ?_; intro v1 w1 hown1 hgrow1 _)
      have hb1 := app_step hnx hown (al (al (below0 _) _) _) hgrow1
      clear hgrow1 hnx hown
      go_roundw
      case rel => exact ⟨k + 1, by omega, by go_num, by rw [take_one HZ.out]; simpa [intC] using hown1, hb1⟩
      case measure => simp [intOf]; omega
    · go_wp2
      go_ret
      refine ⟨_, rfl, ?_, hnx⟩
      rw [List.take_of_length_le (by omega), show k = (zs.map (·.1)).length by simp; omega] at hown
      exact hown
end Go.Proofs.Ytajkihibineoaaa
