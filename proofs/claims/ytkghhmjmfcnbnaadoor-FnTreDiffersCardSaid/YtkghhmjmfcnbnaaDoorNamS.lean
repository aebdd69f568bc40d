/- spec's l4Name: a name put among others that rise. -/
import Derived.Test.YtkghhmjmfcnbnaaDoorOrdB
import Derived.Test.YtkghhmjmfcnbnaaDoorStrH
import Derived.Test.YtkghhmjmfcnbnaaDoorPthS
namespace Go.Proofs.YtkghhmjmfcnbnaaDoor
open Go.RowKit

theorem bl_toList (a b : ByteArray) : Op.bytesLess a.toList b.toList = bl (toL a) (toL b) := by rw [toL_toList, toL_toList]
theorem bl_back {x s : ByteArray} (h : ¬ x = s) {b : Bool} (e : bl (toL s) (toL x) = b) : Op.bytesLess x.toList s.toList = !b := by
  rw [bl_toList]
  subst e
  rcases bl_tri (toL s) (toL x) with k | k | k
  · rw [bl_asymm k, k]; rfl
  · exact absurd (toL_inj k).symm h
  · rw [bl_asymm k, k]; rfl
theorem beq_toLB (a b : ByteArray) (h : a = b) : (a.toList == b.toList) = true := by rw [h]; simp
set_option maxRecDepth 100000 in
set_option maxHeartbeats 2000000 in
theorem l4Name_calls (v : Value) (zs : List ByteArray) (s : ByteArray) (base : Nat) (w : World) (ho : Own 1 strC 9 base w v zs) (hb : base ≤ w.heap.size) (hn : zs.length ≤ 4194304) :
    Calls Tryd.prog 41 #[v, .string s] w fun e w' => ∃ v', e = .returned v' ∧ Own 1 strC 9 base w' v' (nameB zs s) ∧ Below w.heap.size w w' := by
  obtain ⟨i0, hi, hz0, hz1, hz2⟩ := info_parts Tryd.infoStr
  obtain ⟨A, c, rfl, hc, hlc, hat⟩ := str_at (ho.sl strC_len)
  unfold maxLen at hc
  have HO := Lib.hid ho
  clear ho
  go_enter Tryd.func41, Tryd.ntmps41
  go_wp2
  go_loopw [5, 6, 7] (fun o d i wr => ∃ k : Nat, k ≤ zs.length ∧ i = .int .i64 k ∧ d = .bool (gtB s (zs.take k)) ∧ NotB s zs k ∧ wr.ownsRow w.heap.size 9 1 o (insPB s (zs.take k)).length ((insPB s (zs.take k)).flatMap strC) ∧ Below w.heap.size w wr) (fun _ _ i _ => zs.length - (intOf i).toNat)
  case atStart => exact ⟨0, Nat.zero_le _, rfl, rfl, notB_zero _ _, World.ownsRow_lit w #[] 0 (Nat.le_refl _) (by simp [maxLen]) rfl, al (below0 w) _⟩
  case round =>
    obtain ⟨k, hk, rfl, rfl, hnb, hown, hnx⟩ := hrel
    have hpl : (insPB s (zs.take k)).length ≤ k + 1 := by have h1 := insPB_len s (zs.take k); have h2 := List.length_take_le k zs; omega
    by_cases hlt : k < zs.length
    · obtain ⟨x, b, off, hz, rfl, hbl, c0⟩ := hat k hlt
      have d0 := (hnx.cell (p := ⟨b, off + k, none⟩) hbl).trans c0
      by_cases e1 : x = s
      · have HZ := Lib.hid (nameB_there hz e1)
        have q1 := beq_toLB x s e1
        clear hat c0 hz e1
        go_wp2
        go_ret
        exact ⟨_, rfl, by rw [HZ.out]; exact HO.out.below hnx, hnx⟩
      · have HN := Lib.hid (notB_step hz e1 hnb)
        have q1 := beq_of_ne e1
        have hst := gtB_step (s := s) hz
        clear hnb
        cases e2 : gtB s (zs.take k)
        · rw [e2] at hst
          cases e3 : bl (toL s) (toL x)
          · have q3 := (bl_toList s x).trans e3
            have q4 := bl_back e1 e3
            simp only [Bool.not_false] at q4
            clear e1
            rw [e3] at hst
            have HG := Lib.hid hst
            have HZ := Lib.hid (insPB_none hz e2 e3)
            clear hat c0 hz e2 e3 hst
            go_wp2_with (at_builtin; refine wpList_append_own _ rfl _ _ 24 rfl w.heap.size 9 i0 _ 1 16 Tryd.underlying24 hi hz0 hz1 hz2 rfl (by decide) _ _ _ rfl (hown.alloc _) ⟨wr.heap.size, 0, none⟩ 1 1 [.string x] rfl rfl (news_new _ #[.string x] _ _ (by simp)) (by intro u hu; simp at hu; subst hu; rfl) (by unfold maxLen; omega) (by omega) (by have := hnx.size; simp; omega) ?_; intro v1 w1 hown1 hgrow1 _)
            have hb1 := app_step hnx hown (al (below0 _) _) hgrow1
            clear hgrow1 hnx hown
            go_wp2
            go_roundw
            case rel => exact ⟨k + 1, by omega, by go_num, by rw [HG.out]; rfl, HN.out, by rw [HZ.out]; simpa [strC] using hown1, hb1⟩
            case measure => simp [intOf]; omega
          · have q3 := (bl_toList s x).trans e3
            have q4 := bl_back e1 e3
            simp only [Bool.not_true] at q4
            clear e1
            rw [e3] at hst
            have HG := Lib.hid hst
            have HZ := Lib.hid (insPB_first hz e2 e3)
            clear hat hz e2 e3 hst
            go_wp2_with (first | (at_builtin; refine wpList_append_own _ rfl _ _ 24 rfl w.heap.size 9 i0 _ 1 16 Tryd.underlying24 hi hz0 hz1 hz2 rfl (by decide) _ _ _ rfl (hown.alloc _) ⟨wr.heap.size, 0, none⟩ 1 1 [.string s] rfl rfl (news_new _ #[.string s] _ _ (by simp)) (by intro u hu; simp at hu; subst hu; rfl) (by unfold maxLen; omega) (by omega) (by have := hnx.size; simp; omega) ?_; intro v1 w1 hown1 hgrow1 _; have hb1 := app_step hnx hown (al (below0 _) _) hgrow1; have d1 := (hb1.cell (p := ⟨b, off + k, none⟩) hbl).trans c0; clear hgrow1 hnx hown) | (at_builtin; refine wpList_append_own _ rfl _ _ 24 rfl w.heap.size 9 i0 _ 1 16 Tryd.underlying24 hi hz0 hz1 hz2 rfl (by decide) _ _ _ rfl (hown1.alloc _) ⟨w1.heap.size, 0, none⟩ 1 1 [.string x] rfl rfl (news_new _ #[.string x] _ _ (by simp)) (by intro u hu; simp at hu; subst hu; rfl) (by unfold maxLen; omega) (by omega) (by have := hb1.size; simp; omega) ?_; intro v2 w2 hown2 hgrow2 _))
            have hb2 := app_step hb1 hown1 (al (below0 _) _) hgrow2
            clear hgrow2 hb1 hown1
            go_wp2
            go_roundw
            case rel => exact ⟨k + 1, by omega, by go_num, by rw [HG.out]; rfl, HN.out, by rw [HZ.out]; simpa [strC] using hown2, hb2⟩
            case measure => simp [intOf]; omega
        · clear e1
          rw [e2] at hst
          have HG := Lib.hid hst
          have HZ := Lib.hid (insPB_some hz e2)
          clear hat c0 hz e2 hst
          go_wp2_with (at_builtin; refine wpList_append_own _ rfl _ _ 24 rfl w.heap.size 9 i0 _ 1 16 Tryd.underlying24 hi hz0 hz1 hz2 rfl (by decide) _ _ _ rfl (hown.alloc _) ⟨wr.heap.size, 0, none⟩ 1 1 [.string x] rfl rfl (news_new _ #[.string x] _ _ (by simp)) (by intro u hu; simp at hu; subst hu; rfl) (by unfold maxLen; omega) (by omega) (by have := hnx.size; simp; omega) ?_; intro v1 w1 hown1 hgrow1 _)
          have hb1 := app_step hnx hown (al (below0 _) _) hgrow1
          clear hgrow1 hnx hown
          go_wp2
          go_roundw
          case rel => exact ⟨k + 1, by omega, by go_num, by rw [HG.out]; rfl, HN.out, by rw [HZ.out]; simpa [strC] using hown1, hb1⟩
          case measure => simp [intOf]; omega
    · cases e2 : gtB s (zs.take k)
      · have HZ := Lib.hid (nameB_none hlt hnb e2)
        clear hat hnb e2
        go_wp2_with (at_builtin; refine wpList_append_own _ rfl _ _ 24 rfl w.heap.size 9 i0 _ 1 16 Tryd.underlying24 hi hz0 hz1 hz2 rfl (by decide) _ _ _ rfl (hown.alloc _) ⟨wr.heap.size, 0, none⟩ 1 1 [.string s] rfl rfl (news_new _ #[.string s] _ _ (by simp)) (by intro u hu; simp at hu; subst hu; rfl) (by unfold maxLen; omega) (by omega) (by have := hnx.size; simp; omega) ?_; intro v1 w1 hown1 hgrow1 _)
        have hb1 := app_step hnx hown (al (below0 _) _) hgrow1
        clear hgrow1 hnx hown
        go_wp2
        go_ret
        refine ⟨_, rfl, ?_, hb1⟩
        rw [HZ.out]
        refine Own.mono (base := w.heap.size) ?_ hb
        unfold Own
        simpa [strC] using hown1
      · have HZ := Lib.hid (nameB_some hlt hnb e2)
        clear hat hnb e2
        go_wp2
        go_ret
        refine ⟨_, rfl, ?_, hnx⟩
        rw [HZ.out]
        exact Own.mono (base := w.heap.size) hown hb
end Go.Proofs.YtkghhmjmfcnbnaaDoor
