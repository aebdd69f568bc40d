/- spec's l4Sorted: files put in the order of their paths. -/
import Derived.Test.YtkghhmjmfcnbnaaDoorCopyT
import Derived.Test.YtkghhmjmfcnbnaaDoorTurnL
import Derived.Test.YtkghhmjmfcnbnaaDoorRowK
import Derived.Test.YtkghhmjmfcnbnaaDoorDraw2
import Derived.Deep.RegionHeld3
import Derived.Deep.AppendLies
namespace Go.Proofs.YtkghhmjmfcnbnaaDoor
open Go.RowKit
def SortRel (zs : List TFile) (W : World) (base : Nat) (w : World) (o i : Value) : Prop := ∃ k g cap n : Nat, n = (sortT (zs.take k)).length ∧ k ≤ zs.length ∧ i = .int .i64 k ∧ o = .slice (some ⟨g, 0, none⟩) n cap ∧ Own 2 fileC 55 base w o (sortT (zs.take k)) ∧ Below W.heap.size W w
theorem sl_drop0T {α : Type} {sz : Nat} {C : α → List Value} {w : World} {b n c : Nat} {zs : List α} (h : Sl sz C w (.slice (some ⟨b, 0, none⟩) n c) zs) (k : Nat) (hk : k ≤ n) :
    Sl sz C w (.slice (if c = k then some ⟨b, 0, none⟩ else some ⟨b, k * sz, none⟩) (n - k) (c - k)) (zs.drop k) := by
  split
  · obtain ⟨A', c', e, h1, h2, h3⟩ := h
    simp only [Value.slice.injEq] at e
    obtain ⟨rfl, rfl, rfl⟩ := e
    refine ⟨_, c - k, by rw [List.length_drop], by rw [List.length_drop]; omega, by omega, fun j a hj => ?_⟩
    rw [List.getElem?_drop] at hj
    have := (List.getElem?_eq_some_iff.1 hj).1
    omega
  · have := sl_drop h k hk
    rwa [Nat.zero_add] at this
theorem row_pos {w : World} {base n sz : Nat} {e : TypeId} {v : Value} {xs : List Value} (h : w.ownsRow base e sz v n xs) (hn : 0 < n) : ∃ g cap, v = .slice (some ⟨g, 0, none⟩) n cap := by
  rcases h.2 with ⟨_, h0⟩ | ⟨g, cap, _, e, _⟩
  · omega
  · exact ⟨g, cap, e⟩
theorem row_mono {w : World} {base base' n sz : Nat} {e : TypeId} {v : Value} {xs : List Value} (h : w.ownsRow base e sz v n xs) (hb : base' ≤ base) : w.ownsRow base' e sz v n xs :=
  ⟨h.1, h.2.imp id fun ⟨g, cap, cur, h1, h2, h3⟩ => ⟨g, cap, cur, h1, Nat.le_trans hb h2, h3⟩⟩
theorem file_at0 {w : World} {g n c : Nat} {zs : List TFile} (h : Sl 2 fileC w (.slice (some ⟨g, 0, none⟩) n c) zs) : n = zs.length ∧ c ≤ maxLen ∧ zs.length ≤ c ∧ ∀ k, k < zs.length → ∃ z : TFile, zs[k]? = some z ∧ g < w.heap.size ∧ w.cell? ⟨g, k * 2, none⟩ = some (.string z.path) ∧ w.cell? ⟨g, k * 2 + 1, none⟩ = some (.string z.bytes) := by
  obtain ⟨A, c', e, h1, h2, h3⟩ := file_z h
  simp only [Value.slice.injEq] at e
  obtain ⟨rfl, rfl, rfl⟩ := e
  refine ⟨rfl, h1, h2, fun k hk => ?_⟩
  obtain ⟨z, b, off, hz, e, hb, c0, c1⟩ := h3 k hk
  simp only [Option.some.injEq, Addr.mk.injEq, and_true] at e
  obtain ⟨rfl, rfl⟩ := e
  rw [Nat.zero_add] at c0 c1
  exact ⟨z, hz, hb, c0, c1⟩
set_option maxRecDepth 100000 in
set_option maxHeartbeats 4000000 in
theorem l4Sorted_calls (u : Value) (zs : List TFile) (w : World) (hu : Sl 2 fileC w u zs) (hn : zs.length ≤ 1048576) :
    Calls Tryd.prog 85 #[u] w (RetOwn 2 fileC 55 (sortT zs) w) := by
  obtain ⟨i0, hi, hz0, hz1, hz2⟩ := info_parts Tryd.infoFile
  obtain ⟨A, c, rfl, hc, hlc, hat⟩ := file_z hu
  unfold maxLen at hc
  go_enter Tryd.func85, Tryd.ntmps85
  go_wp2
  go_loopw [3, 4] (fun o i wr => SortRel zs w w.heap.size wr o i) (fun _ i _ => zs.length - (intOf i).toNat)
  case atStart => exact ⟨0, _, 0, 0, rfl, Nat.zero_le _, rfl, rfl, World.ownsRow_lit w #[] 0 (Nat.le_refl _) (by simp [maxLen]) rfl, al (below0 w) _⟩
  case round =>
    obtain ⟨k, g, cap, n, hnM, hk, rfl, rfl, hown, hnx⟩ := hrel
    have hsl : (sortT (zs.take k)).length ≤ k := by rw [sortT_len]; exact List.length_take_le _ _
    by_cases hlt : k < zs.length
    · obtain ⟨z, b, off, hz, rfl, hbl, c0, c1⟩ := hat k hlt
      have hbr : b < wr.heap.size := Nat.lt_of_lt_of_le hbl hnx.size
      have d0 := (hnx.cell (p := ⟨b, off + k * 2, none⟩) hbl).trans c0
      have d1 := (hnx.cell (p := ⟨b, off + k * 2 + 1, none⟩) hbl).trans c1
      have hl : (k : Int) < (zs.length : Int) := by omega
      have HZ := Lib.hid (sortT_take hz)
      generalize hM : sortT (zs.take k) = M at HZ hown hsl hnM
      subst hnM
      have HO := Lib.hid hown
      obtain ⟨-, hc', hlc', hat'⟩ := file_at0 (hown.sl fileC_len)
      unfold maxLen at hc'
      clear hown hat c0 c1 hz hM
      obtain ⟨wo, rfl⟩ : ∃ wo : World, wo = wr := ⟨_, rfl⟩
      go_wp2
      go_loopw [5] (fun j wr => ∃ m : Nat, m ≤ M.length ∧ j = .int .i64 m ∧ AheadT z M m ∧ Below wo.heap.size wo wr) (fun j _ => M.length - (intOf j).toNat)
      case atStart => exact ⟨0, Nat.zero_le _, rfl, aheadT_zero _ _, below0 _⟩
      case round =>
        obtain ⟨m, hm, rfl, hah, hnx2⟩ := hrel
        have dd0 := (hnx2.cell (p := ⟨b, off + k * 2, none⟩) hbr).trans d0
        have dd1 := (hnx2.cell (p := ⟨b, off + k * 2 + 1, none⟩) hbr).trans d1
        by_cases hlm : m < M.length
        · obtain ⟨y, hy, hbl', e0, e1⟩ := hat' m hlm
          have f0 := (hnx2.cell (p := ⟨g, m * 2, none⟩) hbl').trans e0
          have hl2 : (m : Int) < (M.length : Int) := by omega
          cases e6 : Op.bytesLess y.path.toList z.path.toList
          · go_wp2_with fail
            go_quiet (fail)
            have hq := below_up hnx2 (below_drewN (below0 wr) nq)
            have HI : Hid (insT z M = M.take m ++ z :: M.drop m) := insT_at hah (fun y' hy' => by
              rw [hy] at hy'
              simp only [Option.some.injEq] at hy'
              subst hy'
              rw [← toL_toList, ← toL_toList]; exact e6)
            generalize wr.drewN nq = w2 at hq ⊢
            go_wp2_with fail
            have sM := (HO.out.below hq).sl fileC_len
            have sT := sl_take sM m (by omega)
            have sD := sl_drop0T sM m (by omega)
            rw [if_neg (by omega)] at sD
            refine (l4Copy_rowN _ (M.drop m) (M.length - m) _ sD (by rw [List.length_drop]; omega) List.length_drop).mono ?_
            rintro e w3 ⟨g3, cap3, rfl, own3, b3⟩
            have hn3 := below_up hq b3
            have k0 := (hn3.cell (p := ⟨b, off + k * 2, none⟩) hbr).trans d0
            have k1 := (hn3.cell (p := ⟨b, off + k * 2 + 1, none⟩) hbr).trans d1
            have sT3 := sT.below b3
            have hfl : ((M.drop m).flatMap fileC).length = (M.length - m) * 2 := by rw [flat_len fileC_len, List.length_drop]
            have hD35 : ∀ w' : World, w'.ownsRow w2.heap.size 55 2 (.slice (some ⟨g3, 0, none⟩) (M.length - m) cap3) (M.length - m) ((M.drop m).flatMap fileC) → Own 2 fileC 55 w2.heap.size w' (.slice (some ⟨g3, 0, none⟩) (M.length - m) cap3) (M.drop m) := fun w' h => by unfold Own; rw [List.length_drop]; exact h
            have i1 : (0 : Int) ≤ (m : Int) := Int.natCast_nonneg _
            have i2 : (m : Int) ≤ (cap : Int) := by omega
            have hkt : (M.take m).length = m := by rw [List.length_take]; omega
            have hkd : (M.drop m).length = M.length - m := List.length_drop
            have hone : ∀ u ∈ [Value.string z.path, Value.string z.bytes], u.oneCell' = true := by intro u hu; simp at hu; rcases hu with rfl | rfl <;> rfl
            have hkB : ∀ w', Below w3.drew.heap.size w3.drew w' → (w'.cell? ⟨b, off + k * 2, none⟩ = some (.string z.path) ∧ w'.cell? ⟨b, off + k * 2 + 1, none⟩ = some (.string z.bytes)) := fun w' hb => ⟨(((Below.refl _ _).drew.trans hb).cell (p := ⟨b, off + k * 2, none⟩) (Nat.lt_of_lt_of_le hbr hn3.size)).trans k0, (((Below.refl _ _).drew.trans hb).cell (p := ⟨b, off + k * 2 + 1, none⟩) (Nat.lt_of_lt_of_le hbr hn3.size)).trans k1⟩
            have hkC : ∀ w', Below w3.heap.size w3 w' → (w'.cell? ⟨b, off + k * 2, none⟩ = some (.string z.path) ∧ w'.cell? ⟨b, off + k * 2 + 1, none⟩ = some (.string z.bytes)) := fun w' hb => ⟨(hb.cell (p := ⟨b, off + k * 2, none⟩) (Nat.lt_of_lt_of_le hbr hn3.size)).trans k0, (hb.cell (p := ⟨b, off + k * 2 + 1, none⟩) (Nat.lt_of_lt_of_le hbr hn3.size)).trans k1⟩
            have hsB : ∀ w', Below w3.drew.heap.size w3.drew w' → Sl 2 fileC w' (.slice (some ⟨g, 0, none⟩) m cap) (M.take m) := fun w' hb => sT3.below ((Below.refl _ _).drew.trans hb)
            clear sT sD sM
            go_wp2_with fail
            go_region_held3 (fun w' => w'.cell? ⟨b, off + k * 2, none⟩ = some (.string z.path) ∧ w'.cell? ⟨b, off + k * 2 + 1, none⟩ = some (.string z.bytes)) (first | exact hkB _ (Below.refl _ _) | exact hkB _ (al (below0 _) _) | exact hkB _ b4 | exact hkB _ (al b4 _) | exact hkB _ (below_up (al (below0 _) _) b4) | exact hkC _ (below_up (al (below0 w3) _).drew b4) | exact hkC _ B6 | exact hkC _ B5)
              (first | (go_at_call 65; refine (l4Copy_rowN _ (M.take m) m _ ?_ (by omega) hkt).mono ?_; (first | exact hsB _ (Below.refl _ _) | exact hsB _ (al (below0 _) _)); rintro e w4 ⟨g4, cap4, rfl, own4', b4⟩; have own4 : w4.ownsRow w3.heap.size 55 2 (.slice (some ⟨g4, 0, none⟩) m cap4) m ((M.take m).flatMap fileC) := row_mono own4' (by simp)) | (refine step_append_ownT (by rfl) _ _ 26 (by rfl) w3.heap.size 55 i0 _ 2 32 Tryd.underlying26 hi hz0 hz1 hz2 rfl (by decide) _ _ _ (by rfl) (World.ownsRow.alloc own4 _) ⟨w4.heap.size, 0, none⟩ 1 1 [.string z.path, .string z.bytes] (by rfl) rfl (news_new _ #[.string z.path, .string z.bytes] _ _ rfl) hone (by unfold maxLen; omega) (by omega) ((al b4 (.cells #[.string z.path, .string z.bytes] 55)).size) ?_; intro v5 w5 own5 hg5 _; have BX := below_up (Below.refl w3.heap.size w3).drew (al b4 (.cells #[.string z.path, .string z.bytes] 55)); have B5 := app_step (W := w3) (below_up (Below.refl w3.heap.size w3).drew b4) own4 (al (below0 w4) (.cells #[.string z.path, .string z.bytes] 55)) hg5; have own35 := ((own3.kept (grown_of_below BX none) (Classical.em _)).kept hg5 (Or.inr (fun e => by have h1 := (World.ownsRow.lt own3 _ rfl).2; have h2 := (World.ownsRow.lt own4 _ e.symm).1; omega)))) | (refine step_append_ownT (by rfl) _ _ 26 (by rfl) w3.heap.size 55 i0 _ 2 32 Tryd.underlying26 hi hz0 hz1 hz2 rfl (by decide) _ _ _ (by rfl) own4 ⟨w3.heap.size, 0, none⟩ 1 1 [.string z.path, .string z.bytes] (by rfl) rfl (World.news_of_block (cs := #[.string z.path, .string z.bytes]) ((b4.block _ (by simp)).trans (heap_alloc_new _ _))) hone (by unfold maxLen; omega) (by omega) ((below_up (al (below0 w3) (.cells #[.string z.path, .string z.bytes] 55)).drew b4).size) ?_; intro v5 w5 own5 hg5 _; have BX := below_up (al (below0 w3) (.cells #[.string z.path, .string z.bytes] 55)).drew b4; have B5 := app_step (W := w3) BX own4 (below0 w4) hg5; have own35 := ((own3.kept (grown_of_below BX none) (Classical.em _)).kept hg5 (Or.inr (fun e => by have h1 := (World.ownsRow.lt own3 _ rfl).2; have h2 := (World.ownsRow.lt own4 _ e.symm).1; omega)))) | (refine step_append_ownT (by rfl) _ _ 26 (by rfl) w3.heap.size 55 i0 _ 2 32 Tryd.underlying26 hi hz0 hz1 hz2 rfl (by decide) _ _ _ (by rfl) own5 ⟨g3, 0, none⟩ (M.length - m) cap3 ((M.drop m).flatMap fileC) (by rfl) hfl (news_sl fileC_len (by omega) (Own.sl fileC_len (hD35 _ own35))) (one_file _) (by unfold maxLen; omega) (by omega) (B5.size) ?_; intro v6 w6 own6 hg6 _; have B6 := app_step B5 own5 (below0 w5) hg6))
            all_goals (
              have own7 : Own 2 fileC 55 w.heap.size w6 v6 (insT z M) := by
                rw [HI.out]
                refine Own.mono (base := w3.heap.size) ?_ (Nat.le_trans hnx.size hn3.size)
                unfold Own
                have e1 : (M.take m ++ z :: M.drop m).length = m + 1 + (M.length - m) := by simp; omega
                rw [e1]
                simpa [fileC] using own6
              rw [← HZ.out] at own7
              have BB := below_up hnx (below_up hn3 B6)
              have hpos : 0 < (sortT (zs.take (k + 1))).length := by rw [sortT_len, List.length_take]; omega
              obtain ⟨g7, cap7, rfl⟩ := row_pos own7 hpos
              have H7 := Lib.hid (And.intro own7 BB)
              clear hfl hD35 own6 own7 BB hg6 B6 own5 own35 hg5 B5 BX own4 own4' b4 hkB hkC hsB
              go_wp2
              go_roundw
              case rel => exact ⟨k + 1, g7, cap7, _, rfl, by omega, by go_num, rfl, H7.out.1, H7.out.2⟩
              case measure => simp [intOf]; omega)
          · have HA := Lib.hid (aheadT_step hy (by rw [← toL_toList, ← toL_toList]; exact e6) hah)
            go_wp2_with fail
            go_quiet (fail)
            have hq := below_up hnx2 (below_drewN (below0 wr) nq)
            generalize wr.drewN nq = w2 at hq ⊢
            go_wp2
            go_roundw
            case rel => exact ⟨m + 1, by omega, by go_num, HA.out, hq⟩
            case measure => simp [intOf]; omega
        · have hl2 : ¬ (m : Int) < (M.length : Int) := by omega
          have HI : Hid (insT z M = M.take m ++ z :: M.drop m) := insT_at hah (fun y' hy' => by rw [List.getElem?_eq_none (by omega)] at hy'; cases hy')
          go_wp2_with fail
          go_quiet (fail)
          have hq := below_up hnx2 (below_drewN (below0 wr) nq)
          generalize wr.drewN nq = w2 at hq ⊢
          by_cases hcm : m = cap
          · subst hcm
            go_wp2_with fail
            have sM := (HO.out.below hq).sl fileC_len
            have sT := sl_take sM m (by omega)
            have sD := sl_drop0T sM m (by omega)
            rw [if_pos rfl, Nat.sub_self, show M.length - m = 0 by omega] at sD
            refine (l4Copy_rowN _ (M.drop m) 0 _ sD (by rw [List.length_drop]; omega) (by rw [List.length_drop]; omega)).mono ?_
            rintro e w3 ⟨g3, cap3, rfl, own3, b3⟩
            have hn3 := below_up hq b3
            have k0 := (hn3.cell (p := ⟨b, off + k * 2, none⟩) hbr).trans d0
            have k1 := (hn3.cell (p := ⟨b, off + k * 2 + 1, none⟩) hbr).trans d1
            have sT3 := sT.below b3
            have hfl : ((M.drop m).flatMap fileC).length = 0 * 2 := by rw [flat_len fileC_len, List.length_drop]; omega
            have hD35 : ∀ w' : World, w'.ownsRow w2.heap.size 55 2 (.slice (some ⟨g3, 0, none⟩) 0 cap3) 0 ((M.drop m).flatMap fileC) → Own 2 fileC 55 w2.heap.size w' (.slice (some ⟨g3, 0, none⟩) 0 cap3) (M.drop m) := fun w' h => by unfold Own; rw [List.length_drop, show M.length - m = 0 by omega]; exact h
            have i1 : (0 : Int) ≤ (m : Int) := Int.natCast_nonneg _
            have i2 : (m : Int) ≤ (m : Int) := by omega
            have hkt : (M.take m).length = m := by rw [List.length_take]; omega
            have hkd : (M.drop m).length = M.length - m := List.length_drop
            have hone : ∀ u ∈ [Value.string z.path, Value.string z.bytes], u.oneCell' = true := by intro u hu; simp at hu; rcases hu with rfl | rfl <;> rfl
            have hkB : ∀ w', Below w3.drew.heap.size w3.drew w' → (w'.cell? ⟨b, off + k * 2, none⟩ = some (.string z.path) ∧ w'.cell? ⟨b, off + k * 2 + 1, none⟩ = some (.string z.bytes)) := fun w' hb => ⟨(((Below.refl _ _).drew.trans hb).cell (p := ⟨b, off + k * 2, none⟩) (Nat.lt_of_lt_of_le hbr hn3.size)).trans k0, (((Below.refl _ _).drew.trans hb).cell (p := ⟨b, off + k * 2 + 1, none⟩) (Nat.lt_of_lt_of_le hbr hn3.size)).trans k1⟩
            have hkC : ∀ w', Below w3.heap.size w3 w' → (w'.cell? ⟨b, off + k * 2, none⟩ = some (.string z.path) ∧ w'.cell? ⟨b, off + k * 2 + 1, none⟩ = some (.string z.bytes)) := fun w' hb => ⟨(hb.cell (p := ⟨b, off + k * 2, none⟩) (Nat.lt_of_lt_of_le hbr hn3.size)).trans k0, (hb.cell (p := ⟨b, off + k * 2 + 1, none⟩) (Nat.lt_of_lt_of_le hbr hn3.size)).trans k1⟩
            have hsB : ∀ w', Below w3.drew.heap.size w3.drew w' → Sl 2 fileC w' (.slice (some ⟨g, 0, none⟩) m m) (M.take m) := fun w' hb => sT3.below ((Below.refl _ _).drew.trans hb)
            clear sT sD sM
            go_wp2_with fail
            go_region_held3 (fun w' => w'.cell? ⟨b, off + k * 2, none⟩ = some (.string z.path) ∧ w'.cell? ⟨b, off + k * 2 + 1, none⟩ = some (.string z.bytes)) (first | exact hkB _ (Below.refl _ _) | exact hkB _ (al (below0 _) _) | exact hkB _ b4 | exact hkB _ (al b4 _) | exact hkB _ (below_up (al (below0 _) _) b4) | exact hkC _ (below_up (al (below0 w3) _).drew b4) | exact hkC _ B6 | exact hkC _ B5)
              (first | (go_at_call 65; refine (l4Copy_rowN _ (M.take m) m _ ?_ (by omega) hkt).mono ?_; (first | exact hsB _ (Below.refl _ _) | exact hsB _ (al (below0 _) _)); rintro e w4 ⟨g4, cap4, rfl, own4', b4⟩; have own4 : w4.ownsRow w3.heap.size 55 2 (.slice (some ⟨g4, 0, none⟩) m cap4) m ((M.take m).flatMap fileC) := row_mono own4' (by simp)) | (refine step_append_ownT (by rfl) _ _ 26 (by rfl) w3.heap.size 55 i0 _ 2 32 Tryd.underlying26 hi hz0 hz1 hz2 rfl (by decide) _ _ _ (by rfl) (World.ownsRow.alloc own4 _) ⟨w4.heap.size, 0, none⟩ 1 1 [.string z.path, .string z.bytes] (by rfl) rfl (news_new _ #[.string z.path, .string z.bytes] _ _ rfl) hone (by unfold maxLen; omega) (by omega) ((al b4 (.cells #[.string z.path, .string z.bytes] 55)).size) ?_; intro v5 w5 own5 hg5 _; have BX := below_up (Below.refl w3.heap.size w3).drew (al b4 (.cells #[.string z.path, .string z.bytes] 55)); have B5 := app_step (W := w3) (below_up (Below.refl w3.heap.size w3).drew b4) own4 (al (below0 w4) (.cells #[.string z.path, .string z.bytes] 55)) hg5; have own35 := ((own3.kept (grown_of_below BX none) (Classical.em _)).kept hg5 (Or.inr (fun e => by have h1 := (World.ownsRow.lt own3 _ rfl).2; have h2 := (World.ownsRow.lt own4 _ e.symm).1; omega)))) | (refine step_append_ownT (by rfl) _ _ 26 (by rfl) w3.heap.size 55 i0 _ 2 32 Tryd.underlying26 hi hz0 hz1 hz2 rfl (by decide) _ _ _ (by rfl) own4 ⟨w3.heap.size, 0, none⟩ 1 1 [.string z.path, .string z.bytes] (by rfl) rfl (World.news_of_block (cs := #[.string z.path, .string z.bytes]) ((b4.block _ (by simp)).trans (heap_alloc_new _ _))) hone (by unfold maxLen; omega) (by omega) ((below_up (al (below0 w3) (.cells #[.string z.path, .string z.bytes] 55)).drew b4).size) ?_; intro v5 w5 own5 hg5 _; have BX := below_up (al (below0 w3) (.cells #[.string z.path, .string z.bytes] 55)).drew b4; have B5 := app_step (W := w3) BX own4 (below0 w4) hg5; have own35 := ((own3.kept (grown_of_below BX none) (Classical.em _)).kept hg5 (Or.inr (fun e => by have h1 := (World.ownsRow.lt own3 _ rfl).2; have h2 := (World.ownsRow.lt own4 _ e.symm).1; omega)))) | (refine step_append_ownT (by rfl) _ _ 26 (by rfl) w3.heap.size 55 i0 _ 2 32 Tryd.underlying26 hi hz0 hz1 hz2 rfl (by decide) _ _ _ (by rfl) own5 ⟨g3, 0, none⟩ 0 cap3 ((M.drop m).flatMap fileC) (by rfl) hfl (news_sl fileC_len (by omega) (Own.sl fileC_len (hD35 _ own35))) (one_file _) (by unfold maxLen; omega) (by omega) (B5.size) ?_; intro v6 w6 own6 hg6 _; have B6 := app_step B5 own5 (below0 w5) hg6))
            all_goals (
              have own7 : Own 2 fileC 55 w.heap.size w6 v6 (insT z M) := by
                rw [HI.out]
                refine Own.mono (base := w3.heap.size) ?_ (Nat.le_trans hnx.size hn3.size)
                unfold Own
                have e1 : (M.take m ++ z :: M.drop m).length = m + 1 + 0 := by simp; omega
                rw [e1]
                simpa [fileC] using own6
              rw [← HZ.out] at own7
              have BB := below_up hnx (below_up hn3 B6)
              have hpos : 0 < (sortT (zs.take (k + 1))).length := by rw [sortT_len, List.length_take]; omega
              obtain ⟨g7, cap7, rfl⟩ := row_pos own7 hpos
              have H7 := Lib.hid (And.intro own7 BB)
              clear hfl hD35 own6 own7 BB hg6 B6 own5 own35 hg5 B5 BX own4 own4' b4 hkB hkC hsB
              go_wp2
              go_roundw
              case rel => exact ⟨k + 1, g7, cap7, _, rfl, by omega, by go_num, rfl, H7.out.1, H7.out.2⟩
              case measure => simp [intOf]; omega)
          · go_wp2_with fail
            have sM := (HO.out.below hq).sl fileC_len
            have sT := sl_take sM m (by omega)
            have sD := sl_drop0T sM m (by omega)
            rw [if_neg (by omega)] at sD
            refine (l4Copy_rowN _ (M.drop m) (M.length - m) _ sD (by rw [List.length_drop]; omega) List.length_drop).mono ?_
            rintro e w3 ⟨g3, cap3, rfl, own3, b3⟩
            have hn3 := below_up hq b3
            have k0 := (hn3.cell (p := ⟨b, off + k * 2, none⟩) hbr).trans d0
            have k1 := (hn3.cell (p := ⟨b, off + k * 2 + 1, none⟩) hbr).trans d1
            have sT3 := sT.below b3
            have hfl : ((M.drop m).flatMap fileC).length = (M.length - m) * 2 := by rw [flat_len fileC_len, List.length_drop]
            have hD35 : ∀ w' : World, w'.ownsRow w2.heap.size 55 2 (.slice (some ⟨g3, 0, none⟩) (M.length - m) cap3) (M.length - m) ((M.drop m).flatMap fileC) → Own 2 fileC 55 w2.heap.size w' (.slice (some ⟨g3, 0, none⟩) (M.length - m) cap3) (M.drop m) := fun w' h => by unfold Own; rw [List.length_drop]; exact h
            have i1 : (0 : Int) ≤ (m : Int) := Int.natCast_nonneg _
            have i2 : (m : Int) ≤ (cap : Int) := by omega
            have hkt : (M.take m).length = m := by rw [List.length_take]; omega
            have hkd : (M.drop m).length = M.length - m := List.length_drop
            have hone : ∀ u ∈ [Value.string z.path, Value.string z.bytes], u.oneCell' = true := by intro u hu; simp at hu; rcases hu with rfl | rfl <;> rfl
            have hkB : ∀ w', Below w3.drew.heap.size w3.drew w' → (w'.cell? ⟨b, off + k * 2, none⟩ = some (.string z.path) ∧ w'.cell? ⟨b, off + k * 2 + 1, none⟩ = some (.string z.bytes)) := fun w' hb => ⟨(((Below.refl _ _).drew.trans hb).cell (p := ⟨b, off + k * 2, none⟩) (Nat.lt_of_lt_of_le hbr hn3.size)).trans k0, (((Below.refl _ _).drew.trans hb).cell (p := ⟨b, off + k * 2 + 1, none⟩) (Nat.lt_of_lt_of_le hbr hn3.size)).trans k1⟩
            have hkC : ∀ w', Below w3.heap.size w3 w' → (w'.cell? ⟨b, off + k * 2, none⟩ = some (.string z.path) ∧ w'.cell? ⟨b, off + k * 2 + 1, none⟩ = some (.string z.bytes)) := fun w' hb => ⟨(hb.cell (p := ⟨b, off + k * 2, none⟩) (Nat.lt_of_lt_of_le hbr hn3.size)).trans k0, (hb.cell (p := ⟨b, off + k * 2 + 1, none⟩) (Nat.lt_of_lt_of_le hbr hn3.size)).trans k1⟩
            have hsB : ∀ w', Below w3.drew.heap.size w3.drew w' → Sl 2 fileC w' (.slice (some ⟨g, 0, none⟩) m cap) (M.take m) := fun w' hb => sT3.below ((Below.refl _ _).drew.trans hb)
            clear sT sD sM
            go_wp2_with fail
            go_region_held3 (fun w' => w'.cell? ⟨b, off + k * 2, none⟩ = some (.string z.path) ∧ w'.cell? ⟨b, off + k * 2 + 1, none⟩ = some (.string z.bytes)) (first | exact hkB _ (Below.refl _ _) | exact hkB _ (al (below0 _) _) | exact hkB _ b4 | exact hkB _ (al b4 _) | exact hkB _ (below_up (al (below0 _) _) b4) | exact hkC _ (below_up (al (below0 w3) _).drew b4) | exact hkC _ B6 | exact hkC _ B5)
              (first | (go_at_call 65; refine (l4Copy_rowN _ (M.take m) m _ ?_ (by omega) hkt).mono ?_; (first | exact hsB _ (Below.refl _ _) | exact hsB _ (al (below0 _) _)); rintro e w4 ⟨g4, cap4, rfl, own4', b4⟩; have own4 : w4.ownsRow w3.heap.size 55 2 (.slice (some ⟨g4, 0, none⟩) m cap4) m ((M.take m).flatMap fileC) := row_mono own4' (by simp)) | (refine step_append_ownT (by rfl) _ _ 26 (by rfl) w3.heap.size 55 i0 _ 2 32 Tryd.underlying26 hi hz0 hz1 hz2 rfl (by decide) _ _ _ (by rfl) (World.ownsRow.alloc own4 _) ⟨w4.heap.size, 0, none⟩ 1 1 [.string z.path, .string z.bytes] (by rfl) rfl (news_new _ #[.string z.path, .string z.bytes] _ _ rfl) hone (by unfold maxLen; omega) (by omega) ((al b4 (.cells #[.string z.path, .string z.bytes] 55)).size) ?_; intro v5 w5 own5 hg5 _; have BX := below_up (Below.refl w3.heap.size w3).drew (al b4 (.cells #[.string z.path, .string z.bytes] 55)); have B5 := app_step (W := w3) (below_up (Below.refl w3.heap.size w3).drew b4) own4 (al (below0 w4) (.cells #[.string z.path, .string z.bytes] 55)) hg5; have own35 := ((own3.kept (grown_of_below BX none) (Classical.em _)).kept hg5 (Or.inr (fun e => by have h1 := (World.ownsRow.lt own3 _ rfl).2; have h2 := (World.ownsRow.lt own4 _ e.symm).1; omega)))) | (refine step_append_ownT (by rfl) _ _ 26 (by rfl) w3.heap.size 55 i0 _ 2 32 Tryd.underlying26 hi hz0 hz1 hz2 rfl (by decide) _ _ _ (by rfl) own4 ⟨w3.heap.size, 0, none⟩ 1 1 [.string z.path, .string z.bytes] (by rfl) rfl (World.news_of_block (cs := #[.string z.path, .string z.bytes]) ((b4.block _ (by simp)).trans (heap_alloc_new _ _))) hone (by unfold maxLen; omega) (by omega) ((below_up (al (below0 w3) (.cells #[.string z.path, .string z.bytes] 55)).drew b4).size) ?_; intro v5 w5 own5 hg5 _; have BX := below_up (al (below0 w3) (.cells #[.string z.path, .string z.bytes] 55)).drew b4; have B5 := app_step (W := w3) BX own4 (below0 w4) hg5; have own35 := ((own3.kept (grown_of_below BX none) (Classical.em _)).kept hg5 (Or.inr (fun e => by have h1 := (World.ownsRow.lt own3 _ rfl).2; have h2 := (World.ownsRow.lt own4 _ e.symm).1; omega)))) | (refine step_append_ownT (by rfl) _ _ 26 (by rfl) w3.heap.size 55 i0 _ 2 32 Tryd.underlying26 hi hz0 hz1 hz2 rfl (by decide) _ _ _ (by rfl) own5 ⟨g3, 0, none⟩ (M.length - m) cap3 ((M.drop m).flatMap fileC) (by rfl) hfl (news_sl fileC_len (by omega) (Own.sl fileC_len (hD35 _ own35))) (one_file _) (by unfold maxLen; omega) (by omega) (B5.size) ?_; intro v6 w6 own6 hg6 _; have B6 := app_step B5 own5 (below0 w5) hg6))
            all_goals (
              have own7 : Own 2 fileC 55 w.heap.size w6 v6 (insT z M) := by
                rw [HI.out]
                refine Own.mono (base := w3.heap.size) ?_ (Nat.le_trans hnx.size hn3.size)
                unfold Own
                have e1 : (M.take m ++ z :: M.drop m).length = m + 1 + (M.length - m) := by simp; omega
                rw [e1]
                simpa [fileC] using own6
              rw [← HZ.out] at own7
              have BB := below_up hnx (below_up hn3 B6)
              have hpos : 0 < (sortT (zs.take (k + 1))).length := by rw [sortT_len, List.length_take]; omega
              obtain ⟨g7, cap7, rfl⟩ := row_pos own7 hpos
              have H7 := Lib.hid (And.intro own7 BB)
              clear hfl hD35 own6 own7 BB hg6 B6 own5 own35 hg5 B5 BX own4 own4' b4 hkB hkC hsB
              go_wp2
              go_roundw
              case rel => exact ⟨k + 1, g7, cap7, _, rfl, by omega, by go_num, rfl, H7.out.1, H7.out.2⟩
              case measure => simp [intOf]; omega)
    · obtain rfl : k = zs.length := by omega
      rw [List.take_length] at hown
      have HO := Lib.hid hown
      clear hown hat
      go_wp2
      go_ret
      exact ⟨_, rfl, HO.out, hnx⟩
end Go.Proofs.YtkghhmjmfcnbnaaDoor
