/- impl.PolOut and spec.PolOut: the items with another id, in a row of the call's own. -/
import Derived.Test.YtajkihibineoaaaPolMark
namespace Go.Proofs.Ytajkihibineoaaa
open Go.RowKit

/-- the items that are not of an id -/
def polNot (x : Int) (zs : List (Int × ByteArray)) : List (Int × ByteArray) := zs.filter fun z => z.1 != x
theorem polNot_len (x : Int) (zs : List (Int × ByteArray)) : (polNot x zs).length ≤ zs.length := List.length_filter_le _ _
theorem polNot_keep {x id : Int} {s : ByteArray} {zs : List (Int × ByteArray)} {k : Nat} (hz : zs[k]? = some (id, s)) (h : ¬ id = x) : polNot x (zs.take (k + 1)) = polNot x (zs.take k) ++ [(id, s)] := by
  rw [take_one hz, polNot, List.filter_append]
  simp [polNot, h]
theorem polNot_drop {x id : Int} {s : ByteArray} {zs : List (Int × ByteArray)} {k : Nat} (hz : zs[k]? = some (id, s)) (h : id = x) : polNot x (zs.take (k + 1)) = polNot x (zs.take k) := by
  rw [take_one hz, polNot, List.filter_append]
  simp [polNot, h]
theorem polNot_take (x : Int) (zs : List (Int × ByteArray)) (k : Nat) : (polNot x (zs.take k)).length ≤ k := Nat.le_trans (polNot_len _ _) (List.length_take_le _ _)

set_option maxRecDepth 100000 in
set_option maxHeartbeats 400000 in
theorem polOut_spec (u : Value) (zs : List (Int × ByteArray)) (x : Int) (w : World) (hu : Sl 2 polC w u zs) (hn : zs.length ≤ 1048576) :
    Calls Try.prog 39 #[u, .int .i64 x] w (RetOwn 2 polC 70 (polNot x zs) w) := by
  obtain ⟨i0, hi, hz0, hz1, hz2⟩ := info_parts Try.infoImplPol
  obtain ⟨A, c, rfl, hc, hlc, hat⟩ := pol_at hu
  unfold maxLen at hc
  go_enter Try.func39, Try.ntmps39
  go_wp2
  go_loopw [5, 6] (fun v i wr => ∃ k : Nat, k ≤ zs.length ∧ i = .int .i64 k ∧ wr.ownsRow w.heap.size 70 2 v (polNot x (zs.take k)).length ((polNot x (zs.take k)).flatMap polC) ∧ Below w.heap.size w wr) (fun _ i _ => zs.length - (intOf i).toNat)
  case atStart => exact ⟨0, Nat.zero_le _, rfl, World.ownsRow_lit w #[] 0 (Nat.le_refl _) (by simp [maxLen]) rfl, al (below0 w) _⟩
  case round =>
    obtain ⟨k, hk, rfl, hown, hnx⟩ := hrel
    have hpl := polNot_take x zs k
    by_cases hlt : k < zs.length
    · obtain ⟨id, s, b, off, hz, rfl, hb, c0, c1⟩ := hat k hlt
      have d0 := (hnx.cell (p := ⟨b, off + k * 2, none⟩) hb).trans c0
      have d1 := (hnx.cell (p := ⟨b, off + k * 2 + 1, none⟩) hb).trans c1
      by_cases hx : id = x
      · have HZ := Lib.hid (polNot_drop hz hx)
        clear hat c0 c1 hz
        go_wp2
        go_roundw
        case rel => exact ⟨k + 1, by omega, by go_num, by rw [HZ.out]; exact hown, hnx⟩
        case measure => simp [intOf]; omega
      · have HZ := Lib.hid (polNot_keep hz hx)
        clear hat c0 c1 hz
        go_wp2_with (at_builtin; refine wpList_append_own _ rfl _ _ 36 rfl w.heap.size 70 i0 _ 2 24 Try.underlying36 hi hz0 hz1 hz2 rfl (by decide) _ _ _ rfl (hown.alloc _) ⟨wr.heap.size, 0, none⟩ 1 1 [.int .i64 id, .string s] rfl rfl (news_new _ #[.int .i64 id, .string s] _ _ (by simp)) (by intro u hu; simp at hu; rcases hu with rfl | rfl <;> rfl) (by unfold maxLen; omega) (by omega) (by have := hnx.size; simp; omega) ?_; intro v1 w1 hown1 hgrow1 _)
        have hb1 := app_step hnx hown (al (below0 _) _) hgrow1
        clear hgrow1 hnx hown
        go_roundw
        case rel => exact ⟨k + 1, by omega, by go_num, by rw [HZ.out]; simpa [polC] using hown1, hb1⟩
        case measure => simp [intOf]; omega
    · go_wp2
      go_ret
      refine ⟨_, rfl, ?_, hnx⟩
      rw [List.take_of_length_le (by omega)] at hown
      exact hown

set_option maxRecDepth 100000 in
set_option maxHeartbeats 400000 in
theorem polOut_impl (u : Value) (zs : List (Int × ByteArray)) (x : Int) (w : World) (hu : Sl 2 polC w u zs) (hn : zs.length ≤ 1048576) :
    Calls Try.prog 40 #[u, .int .i64 x] w (RetOwn 2 polC 70 (polNot x zs) w) := by
  obtain ⟨i0, hi, hz0, hz1, hz2⟩ := info_parts Try.infoImplPol
  obtain ⟨A, c, rfl, hc, hlc, hat⟩ := pol_at hu
  unfold maxLen at hc
  go_enter Try.func40, Try.ntmps40
  go_wp2
  go_loopw [5, 10] (fun v i wr => ∃ k : Nat, k ≤ zs.length ∧ i = .int .i64 k ∧ wr.ownsRow w.heap.size 70 2 v (polNot x (zs.take k)).length ((polNot x (zs.take k)).flatMap polC) ∧ Below w.heap.size w wr) (fun _ i _ => zs.length - (intOf i).toNat)
  case atStart => exact ⟨0, Nat.zero_le _, rfl, World.ownsRow_nil _ _ _ _, below0 w⟩
  case round =>
    obtain ⟨k, hk, rfl, hown, hnx⟩ := hrel
    have hpl := polNot_take x zs k
    by_cases hlt : k < zs.length
    · obtain ⟨id, s, b, off, hz, rfl, hb, c0, c1⟩ := hat k hlt
      have d0 := (hnx.cell (p := ⟨b, off + k * 2, none⟩) hb).trans c0
      have d1 := (hnx.cell (p := ⟨b, off + k * 2 + 1, none⟩) hb).trans c1
      by_cases hx : id = x
      · have HZ := Lib.hid (polNot_drop hz hx)
        clear hat c0 c1 hz
        go_wp2
        go_roundw
        case rel => exact ⟨k + 1, by omega, by go_num, by rw [HZ.out]; exact hown.alloc _, al hnx _⟩
        case measure => simp [intOf]; omega
      · have HZ := Lib.hid (polNot_keep hz hx)
        clear hat c0 c1 hz
        go_wp2_with (at_builtin; refine wpList_append_own _ rfl _ _ 36 rfl w.heap.size 70 i0 _ 2 24 Try.underlying36 hi hz0 hz1 hz2 rfl (by decide) _ _ _ rfl ((hown.alloc _).alloc _) ⟨wr.heap.size + 1, 0, none⟩ 1 1 [.int .i64 id, .string s] rfl rfl (news_new _ #[.int .i64 id, .string s] _ _ (by simp)) (by intro u hu; simp at hu; rcases hu with rfl | rfl <;> rfl) (by unfold maxLen; omega) (by omega) (by have := hnx.size; simp; omega) ?_; intro v1 w1 hown1 hgrow1 _)
        have hb1 := app_step hnx hown (al (al (below0 _) _) _) hgrow1
        clear hgrow1 hnx hown
        go_roundw
        case rel => exact ⟨k + 1, by omega, by go_num, by rw [HZ.out]; simpa [polC] using hown1, hb1⟩
        case measure => simp [intOf]; omega
    · go_wp2
      go_ret
      refine ⟨_, rfl, ?_, hnx⟩
      rw [List.take_of_length_le (by omega)] at hown
      exact hown
end Go.Proofs.Ytajkihibineoaaa
