/- impl's TreTurn, by a plain function. -/
import Derived.Test.YtkghhmjmfcnbnaaDoorTurnT
import Derived.Test.YtkghhmjmfcnbnaaDoorInsT
import Derived.Test.YtkghhmjmfcnbnaaDoorTreI

namespace Go.Proofs.YtkghhmjmfcnbnaaDoor
open Go.RowKit

theorem insert_calls (zs : List TFile) (f : TFile) (v : Value) (base i vb : Nat) (w : World) (ho : Own 2 fileC 55 base w v zs) (hb : base ≤ w.heap.size) (hi : i ≤ zs.length) (hn : zs.length ≤ 1048000)
    (hvb : w.heap[vb]? = some (.cells #[.string f.path, .string f.bytes] 55 (0, 0))) (hne : v.ownBlock ≠ some vb) :
    Calls Tryd.prog 62 #[v, .int .i64 (i : Int), .slice (some ⟨vb, 0, none⟩) 1 1] w fun e w' => ∃ v', e = .returned v' ∧ Own 2 fileC 55 base w' v' (zs.take i ++ f :: zs.drop i) ∧ w.grownBy w' v.ownBlock := by
  by_cases h : i = zs.length
  · subst h
    rw [List.take_length, List.drop_length]
    exact insert_end zs f v base zs.length vb w rfl ho hb hn hvb
  · obtain ⟨g, cap, rfl⟩ := row_pos ho (by omega)
    by_cases hr : zs.length + 1 ≤ cap
    · exact insert_shift zs f base g cap zs.length i vb w rfl ho (by omega) hr hn hvb (fun e => hne (by rw [e]; rfl))
    · exact insert_grow zs f base g cap zs.length i vb w rfl ho hb (by omega) (by omega) hn hvb
set_option maxRecDepth 100000 in
set_option maxHeartbeats 4000000 in
theorem treTurn_impl (u v : Value) (zs : List TFile) (es : List TEdit) (w : World) (hm : MaxOk w) (hu : Sl 2 fileC w u zs) (hv : Sl 3 editC w v es) (hf : fileFine zs) (he : editFine es) :
    Calls Tryd.prog 31 #[u, v] w (TreTurnPost zs es w) := by
  obtain ⟨A, c, rfl, hc, hlc, -⟩ := file_z hu
  obtain ⟨A', c', rfl, hc', hlc', hat⟩ := edit_z hv
  unfold maxLen at hc hc'
  have HT := Lib.hid (tre_impl _ zs w hm hu hf)
  cases h1 : treB zs
  · have HN := Lib.hid (turnT_no1 (es := es) h1)
    rw [h1] at HT
    clear hat
    go_enter Tryd.func31, Tryd.ntmps31
    go_wp2_with fail
    refine HT.out.mono ?_
    rintro e w1 ⟨rfl, b1⟩
    go_wp2
    go_ret2
    exact post_none HN.out (World.ownsRow_nil _ _ _ _) b1
  · rw [h1] at HT
    by_cases h4 : es.length ≤ 4
    · have hrise := treB_rise h1
      have hlen := treB_len h1
      have i4 : ¬ (4 : Int) < (es.length : Int) := by omega
      go_enter Tryd.func31, Tryd.ntmps31
      go_wp2_with fail
      refine HT.out.mono ?_
      rintro e w1 ⟨rfl, b1⟩
      go_wp2_with fail
      refine (cloneFiles_calls _ zs _ (hu.below b1) (by omega)).mono ?_
      rintro e w2 ⟨v2, rfl, own2, b2⟩
      have B2 := below_up b1 b2
      have own2 := Lib.hid (own2.mono b1.size)
      clear b1 b2 HT
      go_wp2
      go_loopw [6, 22] (fun o i wr => ∃ (k : Nat) (cur : List TFile), k ≤ es.length ∧ i = .int .i64 k ∧ turnL zs (es.take k) = some cur ∧ Own 2 fileC 55 w.heap.size wr o cur ∧ Below w.heap.size w wr) (fun _ i _ => es.length - (intOf i).toNat)
      case atStart => exact ⟨0, zs, Nat.zero_le _, rfl, rfl, own2.out, B2⟩
      case round =>
        obtain ⟨k, cur, hk, rfl, hcur, hown, hnx⟩ := hrel
        obtain ⟨hrc, hcl⟩ := turnL_rise hrise hcur
        have hcl2 : cur.length ≤ 64 := by have := List.length_take_le k es; omega
        by_cases hlt : k < es.length
        · obtain ⟨z, b, off, hz, rfl, hbl, c0, c1, c2⟩ := hat k hlt
          have d0 := (hnx.cell (p := ⟨b, off + k * 3, none⟩) hbl).trans c0
          have d1 := (hnx.cell (p := ⟨b, off + k * 3 + 1, none⟩) hbl).trans c1
          have d2 := (hnx.cell (p := ⟨b, off + k * 3 + 2, none⟩) hbl).trans c2
          have HS := Lib.hid (turnL_step hz hcur)
          have HX := Lib.hid (fun h => turnL_stop hz hcur h)
          have hB := al (below0 wr) (.cells #[.string z.path, .string z.bytes, .bool z.gone] 49)
          have hnew := heap_alloc_new wr (.cells #[.string z.path, .string z.bytes, .bool z.gone] 49)
          have HF := Lib.hid (find_calls _ cur z.path _ ((hown.sl fileC_len).below hB) (by omega))
          rcases findI_spec cur z.path with ⟨f1, f2⟩ | ⟨m, f, hzm, f1, f2⟩
          · rw [f1] at HF
            cases hg : z.gone
            · have ht := turn1_s3 hg f1
              have HO := Lib.hid hown
              obtain ⟨A3, c3, hfo, hc3, hlc3, hat3⟩ := file_z (hown.sl fileC_len)
              subst hfo
              unfold maxLen at hc3
              rw [ht] at HS
              rw [hg] at d2 hnew HF hB
              clear hat c0 c1 c2 hz hcur hown HX
              go_wp2_with fail
              refine HF.out.mono ?_
              rintro e w3 ⟨rfl, b3⟩
              have hblk := (b3.block wr.heap.size (by simp)).trans hnew
              have e0 : w3.cell? ⟨wr.heap.size, 0, none⟩ = some (.string z.path) := by rw [cell_of_row _ _ 0 _ _ _ hblk]; rfl
              have e1 : w3.cell? ⟨wr.heap.size, 1, none⟩ = some (.string z.bytes) := by rw [cell_of_row _ _ 1 _ _ _ hblk]; rfl
              have e2 : w3.cell? ⟨wr.heap.size, 2, none⟩ = some (.bool false) := by rw [cell_of_row _ _ 2 _ _ _ hblk]; rfl
              have hn3 := below_up hnx (below_up hB b3)
              have o3 := Lib.hid (HO.out.below (below_up hB b3))
              have hbl3 : wr.heap.size < w3.heap.size := (Array.getElem?_eq_some_iff.1 hblk).1
              clear b3
              obtain ⟨A4, c4, e4, hc4, hlc4, hat4⟩ := file_z (o3.out.sl fileC_len)
              simp only [Value.slice.injEq, true_and] at e4
              obtain ⟨rfl, rfl⟩ := e4
              clear hat3 hblk hnew
              obtain ⟨wo, rfl⟩ : ∃ wo : World, wo = wr := ⟨_, rfl⟩
              go_wp2
              go_loopw [9] (fun j wr => ∃ m : Nat, m ≤ cur.length ∧ j = .int .i64 m ∧ AheadT ⟨z.path, z.bytes⟩ cur m ∧ Below w3.heap.size w3 wr) (fun j _ => cur.length - (intOf j).toNat)
              case atStart => exact ⟨0, Nat.zero_le _, rfl, aheadT_zero _ _, below0 _⟩
              case round =>
                obtain ⟨m, hm2, rfl, hah, hnx2⟩ := hrel
                have g0 := (hnx2.cell (p := ⟨wo.heap.size, 0, none⟩) hbl3).trans e0
                have g1 := (hnx2.cell (p := ⟨wo.heap.size, 1, none⟩) hbl3).trans e1
                by_cases hlm : m < cur.length
                · obtain ⟨y, b4, off4, hy, rfl, hbl4, k0, k1⟩ := hat4 m hlm
                  have p0 := (hnx2.cell (p := ⟨b4, off4 + m * 2, none⟩) hbl4).trans k0
                  have hl2 : (m : Int) < (cur.length : Int) := by omega
                  cases e6 : Op.bytesLess y.path.toList z.path.toList
                  · have HI : Hid (insT ⟨z.path, z.bytes⟩ cur = cur.take m ++ ⟨z.path, z.bytes⟩ :: cur.drop m) := insT_at hah (fun y' hy' => by
                      rw [hy] at hy'
                      simp only [Option.some.injEq] at hy'
                      subst hy'
                      rw [← toL_toList, ← toL_toList]; exact e6)
                    go_wp2_with fail
                    go_quiet (fail)
                    have hq := below_up hnx2 (below_drewN (below0 wr) nq)
                    generalize wr.drewN nq = w5 at hq ⊢
                    have h0 := (hq.cell (p := ⟨wo.heap.size, 0, none⟩) hbl3).trans e0
                    have h1' := (hq.cell (p := ⟨wo.heap.size, 1, none⟩) hbl3).trans e1
                    have o5 := o3.out.below hq
                    have hn5 := below_up hn3 hq
                    have HInS := Lib.hid (insert_calls cur ⟨z.path, z.bytes⟩ _ w.heap.size m w5.heap.size _ (Own.below o5 (al (below0 w5) (.cells #[.string z.path, .string z.bytes] 55))) (al hn5 (.cells #[.string z.path, .string z.bytes] 55)).size (by omega) (by omega) (heap_alloc_new w5 _) (fun e => by have := (o5.lt _ e).2; omega))
                    have o6 := Lib.hid (Own.below o5 (al (below0 w5) (.cells #[.string z.path, .string z.bytes] 55)))
                    have hn6 := al hn5 (.cells #[.string z.path, .string z.bytes] 55)
                    clear o5 hn5
                    go_wp2_with fail
                    refine HInS.out.mono ?_
                    rintro e w7 ⟨v7, rfl, own7, hg7⟩
                    have own8 := own7
                    rw [← HI.out] at own8
                    have H7 := Lib.hid (And.intro own8 (below_mark hn6 o6.out (Nat.le_refl _) hg7))
                    clear own7 own8 hg7
                    go_wp2
                    go_roundw
                    case rel => exact ⟨k + 1, _, by omega, by go_num, HS.out, H7.out.1, H7.out.2⟩
                    case measure => simp [intOf]; omega
                  · have HA := Lib.hid (aheadT_step (e := ⟨z.path, z.bytes⟩) hy (by rw [← toL_toList, ← toL_toList]; exact e6) hah)
                    go_wp2_with fail
                    go_quiet (fail)
                    have hq := below_up hnx2 (below_drewN (below0 wr) nq)
                    generalize wr.drewN nq = w5 at hq ⊢
                    go_wp2
                    go_roundw
                    case rel => exact ⟨m + 1, by omega, by go_num, HA.out, hq⟩
                    case measure => simp [intOf]; omega
                · have hl2 : ¬ (m : Int) < (cur.length : Int) := by omega
                  have HI : Hid (insT ⟨z.path, z.bytes⟩ cur = cur.take m ++ ⟨z.path, z.bytes⟩ :: cur.drop m) := insT_at hah (fun y' hy' => by rw [List.getElem?_eq_none (by omega)] at hy'; cases hy')
                  go_wp2_with fail
                  go_quiet (fail)
                  have hq := below_up hnx2 (below_drewN (below0 wr) nq)
                  generalize wr.drewN nq = w5 at hq ⊢
                  have h0 := (hq.cell (p := ⟨wo.heap.size, 0, none⟩) hbl3).trans e0
                  have h1' := (hq.cell (p := ⟨wo.heap.size, 1, none⟩) hbl3).trans e1
                  have o5 := o3.out.below hq
                  have hn5 := below_up hn3 hq
                  have HInS := Lib.hid (insert_calls cur ⟨z.path, z.bytes⟩ _ w.heap.size m w5.heap.size _ (Own.below o5 (al (below0 w5) (.cells #[.string z.path, .string z.bytes] 55))) (al hn5 (.cells #[.string z.path, .string z.bytes] 55)).size (by omega) (by omega) (heap_alloc_new w5 _) (fun e => by have := (o5.lt _ e).2; omega))
                  have o6 := Lib.hid (Own.below o5 (al (below0 w5) (.cells #[.string z.path, .string z.bytes] 55)))
                  have hn6 := al hn5 (.cells #[.string z.path, .string z.bytes] 55)
                  clear o5 hn5
                  go_wp2_with fail
                  refine HInS.out.mono ?_
                  rintro e w7 ⟨v7, rfl, own7, hg7⟩
                  have own8 := own7
                  rw [← HI.out] at own8
                  have H7 := Lib.hid (And.intro own8 (below_mark hn6 o6.out (Nat.le_refl _) hg7))
                  clear own7 own8 hg7
                  go_wp2
                  go_roundw
                  case rel => exact ⟨k + 1, _, by omega, by go_num, HS.out, H7.out.1, H7.out.2⟩
                  case measure => simp [intOf]; omega
            · have ht := turn1_n1 hg f1
              have HO := Lib.hid hown
              rw [hg] at d2 hnew HF hB
              clear hat c0 c1 c2 hz hcur hown
              go_wp2_with fail
              refine HF.out.mono ?_
              rintro e w3 ⟨rfl, b3⟩
              have hblk := (b3.block wr.heap.size (by simp)).trans hnew
              have e0 : w3.cell? ⟨wr.heap.size, 0, none⟩ = some (.string z.path) := by rw [cell_of_row _ _ 0 _ _ _ hblk]; rfl
              have e1 : w3.cell? ⟨wr.heap.size, 1, none⟩ = some (.string z.bytes) := by rw [cell_of_row _ _ 1 _ _ _ hblk]; rfl
              have e2 : w3.cell? ⟨wr.heap.size, 2, none⟩ = some (.bool true) := by rw [cell_of_row _ _ 2 _ _ _ hblk]; rfl
              have hn3 := below_up hnx (below_up hB b3)
              have o3 := Lib.hid (HO.out.below (below_up hB b3))
              have hbl3 : wr.heap.size < w3.heap.size := (Array.getElem?_eq_some_iff.1 hblk).1
              clear b3
              have HN := Lib.hid (turnT_no3 (HX.out ht))
              clear hblk
              go_wp2
              all_goals (
                go_ret2
                exact post_none HN.out (World.ownsRow_nil _ _ _ _) hn3)
          · rw [f1] at HF
            have hml := (List.getElem?_eq_some_iff.1 hzm).1
            obtain ⟨g, cap, hgo⟩ := row_pos hown (by omega)
            subst hgo
            cases hg : z.gone
            · have ht := turn1_s2 hg f1
              have HO := Lib.hid hown
              have HFl := Lib.hid (flat_bytes (s := z.bytes) hzm f2)
              rw [ht] at HS
              rw [hg] at d2 hnew HF hB
              have q1 : (0 : Int) ≤ (m : Int) := Int.natCast_nonneg _
              have q2 : (m : Int) < (cur.length : Int) := by omega
              clear hat c0 c1 c2 hz hcur hown HX
              go_wp2_with fail
              refine HF.out.mono ?_
              rintro e w3 ⟨rfl, b3⟩
              have hblk := (b3.block wr.heap.size (by simp)).trans hnew
              have e0 : w3.cell? ⟨wr.heap.size, 0, none⟩ = some (.string z.path) := by rw [cell_of_row _ _ 0 _ _ _ hblk]; rfl
              have e1 : w3.cell? ⟨wr.heap.size, 1, none⟩ = some (.string z.bytes) := by rw [cell_of_row _ _ 1 _ _ _ hblk]; rfl
              have e2 : w3.cell? ⟨wr.heap.size, 2, none⟩ = some (.bool false) := by rw [cell_of_row _ _ 2 _ _ _ hblk]; rfl
              have hn3 := below_up hnx (below_up hB b3)
              have o3 := Lib.hid (HO.out.below (below_up hB b3))
              have hbl3 : wr.heap.size < w3.heap.size := (Array.getElem?_eq_some_iff.1 hblk).1
              clear b3
              have ow : w3.ownsRow w.heap.size 55 2 (.slice (some ⟨g, 0, none⟩) cur.length cap) cur.length (cur.flatMap fileC) := o3.out
              obtain ⟨⟨x1, g1⟩, g2⟩ := own_cell ow (j := m * 2 + 1) (by omega)
              have hst := ow.stored (m * 2 + 1) (.string z.bytes)
              rw [HFl.out] at hst
              have hlo := (World.ownsRow.lt ow _ rfl).1
              have H7 : Hid (Own 2 fileC 55 w.heap.size (w3.setCell ⟨g, m * 2 + 1, none⟩ (.string z.bytes)) (.slice (some ⟨g, 0, none⟩) cur.length cap) (cur.set m ⟨z.path, z.bytes⟩) ∧ Below w.heap.size w (w3.setCell ⟨g, m * 2 + 1, none⟩ (.string z.bytes))) :=
                ⟨by unfold Own; rw [List.length_set]; exact hst.1, hn3.setCell (p := ⟨g, m * 2 + 1, none⟩) hlo _⟩
              clear hst ow hblk
              go_wp2
              go_roundw
              case rel => exact ⟨k + 1, _, by omega, by go_num, HS.out, H7.out.1, H7.out.2⟩
              case measure => simp [intOf]; omega
            · by_cases hs : toL z.bytes = []
              · have ht := turn1_s1 hg f1 hs
                have t1 := empty_yes hs
                obtain ⟨n1, hn1⟩ : ∃ n1, Hid (cur.length = n1 + 1) := ⟨cur.length - 1, Lib.hid (by omega)⟩
                have HO := Lib.hid hown
                rw [ht] at HS
                rw [hg] at d2 hnew HF hB
                have q4 : IntKind.i64.wrap ((m : Int) + 1) = (m : Int) + 1 := IntWalk.i64_in _ (by omega)
                clear hat c0 c1 c2 hz hcur hown HX hs
                go_wp2_with fail
                refine HF.out.mono ?_
                rintro e w3 ⟨rfl, b3⟩
                have hblk := (b3.block wr.heap.size (by simp)).trans hnew
                have e0 : w3.cell? ⟨wr.heap.size, 0, none⟩ = some (.string z.path) := by rw [cell_of_row _ _ 0 _ _ _ hblk]; rfl
                have e1 : w3.cell? ⟨wr.heap.size, 1, none⟩ = some (.string z.bytes) := by rw [cell_of_row _ _ 1 _ _ _ hblk]; rfl
                have e2 : w3.cell? ⟨wr.heap.size, 2, none⟩ = some (.bool true) := by rw [cell_of_row _ _ 2 _ _ _ hblk]; rfl
                have hn3 := below_up hnx (below_up hB b3)
                have o3 := Lib.hid (HO.out.below (below_up hB b3))
                have hbl3 : wr.heap.size < w3.heap.size := (Array.getElem?_eq_some_iff.1 hblk).1
                clear b3
                have HD := delete_calls cur w.heap.size g cap m n1 w3 hn1.out (by have := o3.out; unfold Own at this; rw [hn1.out] at this; exact this) (by have := hn1.out; omega) (by omega)
                rw [← hn1.out] at HD
                have HD := Lib.hid HD
                clear hblk
                go_wp2_with fail
                refine HD.out.mono ?_
                rintro e w4 ⟨v4, rfl, own4, hg4⟩
                have H7 := Lib.hid (And.intro own4 (below_mark hn3 o3.out (Nat.le_refl _) hg4))
                clear own4 hg4
                go_wp2
                go_roundw
                case rel => exact ⟨k + 1, _, by omega, by go_num, HS.out, H7.out.1, H7.out.2⟩
                case measure => simp [intOf]; omega
              · have ht := turn1_n2 (L := cur) hg hs
                have t1 := empty_no hs
                have HO := Lib.hid hown
                rw [hg] at d2 hnew HF hB
                clear hat c0 c1 c2 hz hcur hown hs
                go_wp2_with fail
                refine HF.out.mono ?_
                rintro e w3 ⟨rfl, b3⟩
                have hblk := (b3.block wr.heap.size (by simp)).trans hnew
                have e0 : w3.cell? ⟨wr.heap.size, 0, none⟩ = some (.string z.path) := by rw [cell_of_row _ _ 0 _ _ _ hblk]; rfl
                have e1 : w3.cell? ⟨wr.heap.size, 1, none⟩ = some (.string z.bytes) := by rw [cell_of_row _ _ 1 _ _ _ hblk]; rfl
                have e2 : w3.cell? ⟨wr.heap.size, 2, none⟩ = some (.bool true) := by rw [cell_of_row _ _ 2 _ _ _ hblk]; rfl
                have hn3 := below_up hnx (below_up hB b3)
                have o3 := Lib.hid (HO.out.below (below_up hB b3))
                have hbl3 : wr.heap.size < w3.heap.size := (Array.getElem?_eq_some_iff.1 hblk).1
                clear b3
                have HN := Lib.hid (turnT_no3 (HX.out ht))
                clear hblk
                go_wp2
                all_goals (
                  go_ret2
                  exact post_none HN.out (World.ownsRow_nil _ _ _ _) hn3)
        · obtain rfl : k = es.length := by omega
          have hcur2 := hcur
          rw [List.take_length] at hcur2
          have hfc := turn_fine hrise hf he hcur2
          have HC := Lib.hid (tre_impl _ cur wr (hm.below hnx) (hown.sl fileC_len) hfc)
          have HO := Lib.hid hown
          have HQ := Lib.hid hcur2
          clear hat hown hcur hcur2
          cases h5 : treB cur
          · have HN := Lib.hid (turnT_no4 HQ.out h5)
            rw [h5] at HC
            go_wp2_with fail
            refine HC.out.mono ?_
            rintro e w3 ⟨rfl, b3⟩
            have B3 := below_up hnx b3
            go_wp2
            go_ret2
            exact post_none HN.out (World.ownsRow_nil _ _ _ _) B3
          · have HN := Lib.hid (turnT_yes h1 h4 HQ.out h5)
            rw [h5] at HC
            go_wp2_with fail
            refine HC.out.mono ?_
            rintro e w3 ⟨rfl, b3⟩
            have B3 := below_up hnx b3
            have HP := Lib.hid (cloneFiles_calls _ cur w3 ((HO.out.below b3).sl fileC_len) (by omega))
            go_wp2_with fail
            refine HP.out.mono ?_
            rintro e w4 ⟨v4, rfl, own4, b4⟩
            have O4 := Lib.hid (own4.mono B3.size)
            have B4 := below_up B3 b4
            go_wp2
            go_ret2
            exact post_some HN.out O4.out B4
    · have HN := Lib.hid (turnT_no2 (L := zs) h4)
      have i4 : (4 : Int) < (es.length : Int) := by omega
      clear hat
      go_enter Tryd.func31, Tryd.ntmps31
      go_wp2_with fail
      refine HT.out.mono ?_
      rintro e w1 ⟨rfl, b1⟩
      go_wp2
      go_ret2
      exact post_none HN.out (World.ownsRow_nil _ _ _ _) b1
end Go.Proofs.YtkghhmjmfcnbnaaDoor
