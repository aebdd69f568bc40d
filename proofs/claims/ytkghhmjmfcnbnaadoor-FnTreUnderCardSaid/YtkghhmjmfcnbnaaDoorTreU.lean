/- TreUnder, spec's and impl's: the files at a path or under it. -/
import Derived.Test.YtkghhmjmfcnbnaaDoorTreI
namespace Go.Proofs.YtkghhmjmfcnbnaaDoor
open Go.RowKit

/-- the files at a path or under it -/
def underF (q : ByteArray) (zs : List TFile) : List TFile := zs.filter fun z => undB q z.path
theorem underF_len (q : ByteArray) (zs : List TFile) : (underF q zs).length ≤ zs.length := List.length_filter_le _ _
theorem underF_keep {q : ByteArray} {z : TFile} {zs : List TFile} {k : Nat} (hz : zs[k]? = some z) (h : undB q z.path = true) : underF q (zs.take (k + 1)) = underF q (zs.take k) ++ [z] := by
  rw [take_one hz, underF, List.filter_append]
  simp [underF, h]
theorem underF_drop {q : ByteArray} {z : TFile} {zs : List TFile} {k : Nat} (hz : zs[k]? = some z) (h : undB q z.path = false) : underF q (zs.take (k + 1)) = underF q (zs.take k) := by
  rw [take_one hz, underF, List.filter_append]
  simp [underF, h]
theorem underF_take (q : ByteArray) (zs : List TFile) (k : Nat) : (underF q (zs.take k)).length ≤ k := Nat.le_trans (underF_len _ _) (List.length_take_le _ _)
theorem underF_fine {q : ByteArray} {zs : List TFile} (h : fileFine zs) : fileFine (underF q zs) := fun z hz => h z (List.mem_filter.1 hz).1

set_option maxRecDepth 100000 in
set_option maxHeartbeats 1000000 in
theorem under_spec (u : Value) (zs : List TFile) (q : ByteArray) (w : World) (hu : Sl 2 fileC w u zs) (hf : fileFine zs) (hn : zs.length ≤ 1048576) (hq : q.size ≤ 1048576) :
    Calls Tryd.prog 20 #[u, .string q] w (RetOwn 2 fileC 55 (underF q zs) w) := by
  obtain ⟨i0, hi, hz0, hz1, hz2⟩ := info_parts Tryd.infoFile
  obtain ⟨A, c, rfl, hc, hlc, hat⟩ := file_z hu
  unfold maxLen at hc
  go_enter Tryd.func20, Tryd.ntmps20
  go_wp2
  go_loopw [5, 6] (fun v i wr => ∃ k : Nat, k ≤ zs.length ∧ i = .int .i64 k ∧ wr.ownsRow w.heap.size 55 2 v (underF q (zs.take k)).length ((underF q (zs.take k)).flatMap fileC) ∧ Below w.heap.size w wr) (fun _ i _ => zs.length - (intOf i).toNat)
  case atStart => exact ⟨0, Nat.zero_le _, rfl, World.ownsRow_lit w #[] 0 (Nat.le_refl _) (by simp [maxLen]) rfl, al (below0 w) _⟩
  case round =>
    obtain ⟨k, hk, rfl, hown, hnx⟩ := hrel
    have hpl := underF_take q zs k
    by_cases hlt : k < zs.length
    · obtain ⟨z, b, off, hz, rfl, hb, c0, c1⟩ := hat k hlt
      have hbr : b < wr.heap.size := Nat.lt_of_lt_of_le hb hnx.size
      have d0 := (hnx.cell (p := ⟨b, off + k * 2, none⟩) hb).trans c0
      have d1 := (hnx.cell (p := ⟨b, off + k * 2 + 1, none⟩) hb).trans c1
      have HU := Lib.hid (fun W => und_spec q z.path (by omega) (by have := (fileFine_get hf hz).1; omega) W)
      cases hx : undB q z.path
      · have HZ := Lib.hid (underF_drop hz hx)
        clear hat c0 c1 hz
        go_wp2_with fail
        refine (HU.out _).mono ?_
        rintro e w1 ⟨rfl, b1⟩
        rw [hx]
        go_wp2
        go_roundw
        case rel => exact ⟨k + 1, by omega, by go_num, by rw [HZ.out]; exact hown.kept (grown_of_below b1 none) (Classical.em _), below_up hnx b1⟩
        case measure => simp [intOf]; omega
      · have HZ := Lib.hid (underF_keep hz hx)
        clear hat c0 c1 hz
        go_wp2_with fail
        refine (HU.out _).mono ?_
        rintro e w1 ⟨rfl, b1⟩
        rw [hx]
        have g0 := (b1.cell (p := ⟨b, off + k * 2, none⟩) hbr).trans d0
        have g1 := (b1.cell (p := ⟨b, off + k * 2 + 1, none⟩) hbr).trans d1
        have hown2 := hown.kept (grown_of_below b1 none) (Classical.em _)
        have hnx2 := below_up hnx b1
        clear d0 d1 hown hnx b1
        go_wp2_with (at_builtin; refine wpList_append_own _ rfl _ _ 26 rfl w.heap.size 55 i0 _ 2 32 Tryd.underlying26 hi hz0 hz1 hz2 rfl (by decide) _ _ _ rfl (hown2.alloc _) ⟨w1.heap.size, 0, none⟩ 1 1 [.string z.path, .string z.bytes] rfl rfl (news_new _ #[.string z.path, .string z.bytes] _ _ (by simp)) (by intro u hu; simp at hu; rcases hu with rfl | rfl <;> rfl) (by unfold maxLen; omega) (by omega) (by have := hnx2.size; simp; omega) ?_; intro v1 w2 hown1 hgrow1 _)
        have hb1 := app_step hnx2 hown2 (al (below0 _) _) hgrow1
        clear hgrow1 hnx2 hown2
        go_wp2
        go_roundw
        case rel => exact ⟨k + 1, by omega, by go_num, by rw [HZ.out]; simpa [fileC] using hown1, hb1⟩
        case measure => simp [intOf]; omega
    · rw [List.take_of_length_le (by omega)] at hown
      have HO := Lib.hid hown
      clear hat hown
      go_wp2
      go_ret
      exact ⟨_, rfl, HO.out, hnx⟩
set_option maxRecDepth 100000 in
set_option maxHeartbeats 1000000 in
theorem under_impl (u : Value) (zs : List TFile) (q : ByteArray) (w : World) (hm : MaxOk w) (hu : Sl 2 fileC w u zs) (hf : fileFine zs) (hn : zs.length ≤ 1048576) (hq : q.size ≤ 1048576) :
    Calls Tryd.prog 18 #[u, .string q] w (RetOwn 2 fileC 55 (underF q zs) w) := by
  obtain ⟨i0, hi, hz0, hz1, hz2⟩ := info_parts Tryd.infoFile
  obtain ⟨A, c, rfl, hc, hlc, hat⟩ := file_z hu
  unfold maxLen at hc
  go_enter Tryd.func18, Tryd.ntmps18
  go_wp2
  go_loopw [5, 10] (fun v i wr => ∃ k : Nat, k ≤ zs.length ∧ i = .int .i64 k ∧ wr.ownsRow w.heap.size 55 2 v (underF q (zs.take k)).length ((underF q (zs.take k)).flatMap fileC) ∧ Below w.heap.size w wr) (fun _ i _ => zs.length - (intOf i).toNat)
  case atStart => exact ⟨0, Nat.zero_le _, rfl, World.ownsRow_nil _ _ _ _, below0 w⟩
  case round =>
    obtain ⟨k, hk, rfl, hown, hnx⟩ := hrel
    have hpl := underF_take q zs k
    by_cases hlt : k < zs.length
    · obtain ⟨z, b, off, hz, rfl, hb, c0, c1⟩ := hat k hlt
      have hbr : b < wr.heap.size := Nat.lt_of_lt_of_le hb hnx.size
      have d0 := (hnx.cell (p := ⟨b, off + k * 2, none⟩) hb).trans c0
      have d1 := (hnx.cell (p := ⟨b, off + k * 2 + 1, none⟩) hb).trans c1
      have hB := al (below0 wr) (.cells #[.string z.path, .string z.bytes] 55)
      have hnew := heap_alloc_new wr (.cells #[.string z.path, .string z.bytes] 55)
      have p0 : (wr.alloc (.cells #[.string z.path, .string z.bytes] 55)).cell? ⟨wr.heap.size, 0, none⟩ = some (.string z.path) := by rw [cell_of_row _ _ 0 _ _ _ hnew]; rfl
      have p1 : (wr.alloc (.cells #[.string z.path, .string z.bytes] 55)).cell? ⟨wr.heap.size, 1, none⟩ = some (.string z.bytes) := by rw [cell_of_row _ _ 1 _ _ _ hnew]; rfl
      have dm := Lib.hid ((hm.below hnx).below hB)
      have HU := Lib.hid (fun W hm => und_impl q z.path (by omega) (by have := (fileFine_get hf hz).1; omega) W hm)
      have hnB := below_up hnx hB
      have hownB := hown.alloc (.cells #[.string z.path, .string z.bytes] 55)
      clear hnew
      cases hx : undB q z.path
      · have HZ := Lib.hid (underF_drop hz hx)
        clear hat c0 c1 hz p0 p1
        go_wp2_with fail
        refine (HU.out _ dm.out).mono ?_
        rintro e w1 ⟨rfl, b1⟩
        rw [hx]
        go_wp2
        go_roundw
        case rel => exact ⟨k + 1, by omega, by go_num, by rw [HZ.out]; exact hownB.kept (grown_of_below b1 none) (Classical.em _), below_up hnB b1⟩
        case measure => simp [intOf]; omega
      · have HZ := Lib.hid (underF_keep hz hx)
        have hp := Lib.hid (And.intro p0 p1)
        clear hat c0 c1 hz p0 p1
        go_wp2_with fail
        refine (HU.out _ dm.out).mono ?_
        rintro e w1 ⟨rfl, b1⟩
        rw [hx]
        have g0 := (b1.cell (p := ⟨wr.heap.size, 0, none⟩) (by simp)).trans hp.out.1
        have g1 := (b1.cell (p := ⟨wr.heap.size, 1, none⟩) (by simp)).trans hp.out.2
        have hown2 := hownB.kept (grown_of_below b1 none) (Classical.em _)
        have hnx2 := below_up hnB b1
        clear d0 d1 hown hnx b1 hownB hnB hB
        go_wp2_with (at_builtin; refine wpList_append_own _ rfl _ _ 26 rfl w.heap.size 55 i0 _ 2 32 Tryd.underlying26 hi hz0 hz1 hz2 rfl (by decide) _ _ _ rfl (hown2.alloc _) ⟨w1.heap.size, 0, none⟩ 1 1 [.string z.path, .string z.bytes] rfl rfl (news_new _ #[.string z.path, .string z.bytes] _ _ (by simp)) (by intro u hu; simp at hu; rcases hu with rfl | rfl <;> rfl) (by unfold maxLen; omega) (by omega) (by have := hnx2.size; simp; omega) ?_; intro v1 w2 hown1 hgrow1 _)
        have hb1 := app_step hnx2 hown2 (al (below0 _) _) hgrow1
        clear hgrow1 hnx2 hown2
        go_wp2
        go_roundw
        case rel => exact ⟨k + 1, by omega, by go_num, by rw [HZ.out]; simpa [fileC] using hown1, hb1⟩
        case measure => simp [intOf]; omega
    · rw [List.take_of_length_le (by omega)] at hown
      have HO := Lib.hid hown
      clear hat hown
      go_wp2
      go_ret
      exact ⟨_, rfl, HO.out, hnx⟩
end Go.Proofs.YtkghhmjmfcnbnaaDoor
