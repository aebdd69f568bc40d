/- impl's TreDiffers. -/
import Derived.Test.YtkghhmjmfcnbnaaDoorOrdI
import Derived.Test.YtkghhmjmfcnbnaaDoorDifS
namespace Go.Proofs.YtkghhmjmfcnbnaaDoor
open Go.RowKit

set_option maxRecDepth 100000 in
set_option maxHeartbeats 4000000 in
theorem treDif_impl (u v : Value) (a b : List TFile) (w : World) (hu : Sl 2 fileC w u a) (hv : Sl 2 fileC w v b) (ha : a.length ≤ 1048576) (hb : b.length ≤ 1048576) :
    Calls Tryd.prog 29 #[u, v] w (RetOwn 1 strC 9 (difB a b) w) := by
  obtain ⟨i0, hi, hz0, hz1, hz2⟩ := info_parts Tryd.infoStr
  obtain ⟨A, c, rfl, hc, hlc, hat⟩ := file_z hu
  obtain ⟨A', c', rfl, hc', hlc', hat'⟩ := file_z hv
  unfold maxLen at hc hc'
  go_enter Tryd.func29, Tryd.ntmps29
  go_wp2
  go_loopw [5, 13] (fun o i wr => ∃ k : Nat, k ≤ a.length ∧ i = .int .i64 k ∧ Own 1 strC 9 w.heap.size wr o (selL (difF b) (·.path) (a.take k)) ∧ Below w.heap.size w wr) (fun _ i _ => a.length - (intOf i).toNat)
  case atStart => exact ⟨0, Nat.zero_le _, rfl, World.ownsRow_nil _ _ _ _, below0 w⟩
  case round =>
    obtain ⟨k, hk, rfl, hown, hnx⟩ := hrel
    have hpl := selL_take (difF b) (·.path) a k
    by_cases hlt : k < a.length
    · obtain ⟨z, bb, off, hz, rfl, hbl, c0, c1⟩ := hat k hlt
      have hbr : bb < wr.heap.size := Nat.lt_of_lt_of_le hbl hnx.size
      have d0 := (hnx.cell (p := ⟨bb, off + k * 2, none⟩) hbl).trans c0
      have d1 := (hnx.cell (p := ⟨bb, off + k * 2 + 1, none⟩) hbl).trans c1
      have HV := Lib.hid (fun W hs => find_calls (.slice A' b.length c') b z.path W hs hb)
      have HO := Lib.hid hown
      have hl : (k : Int) < (a.length : Int) := by omega
      clear hown
      have hB := al (below0 wr) (.cells #[.string z.path, .string z.bytes] 55)
      have hnew := heap_alloc_new wr (.cells #[.string z.path, .string z.bytes] 55)
      have p0 : (wr.alloc (.cells #[.string z.path, .string z.bytes] 55)).cell? ⟨wr.heap.size, 0, none⟩ = some (.string z.path) := by rw [cell_of_row _ _ 0 _ _ _ hnew]; rfl
      have p1 : (wr.alloc (.cells #[.string z.path, .string z.bytes] 55)).cell? ⟨wr.heap.size, 1, none⟩ = some (.string z.bytes) := by rw [cell_of_row _ _ 1 _ _ _ hnew]; rfl
      have hp := Lib.hid (And.intro p0 p1)
      have hnB := below_up hnx hB
      clear hnew p0 p1
      rcases findI_cases b z.path with ⟨h1, h2⟩ | ⟨k', f, hz', h1, h2⟩
      · have HZ := Lib.hid (selL_keep (f := (·.path)) hz (difF_no h2))
        rw [h1] at HV
        clear hat hat' c0 c1 hz h1 h2
        go_wp2_with fail
        obtain ⟨p0, p1⟩ := hp.out
        refine (HV.out _ (hv.below hnB)).mono ?_
        rintro e w1 ⟨rfl, b1⟩
        have hq1 := below_up hB b1
        have g0 := (b1.cell (p := ⟨wr.heap.size, 0, none⟩) (by simp)).trans p0
        have g1 := (b1.cell (p := ⟨wr.heap.size, 1, none⟩) (by simp)).trans p1
        go_wp2_with fail
        go_quiet (fail)
        have hq := below_up hq1 (below_drewN (below0 w1) nq)
        have k0 : (w1.drewN nq).cell? ⟨wr.heap.size, 0, none⟩ = some (.string z.path) := g0
        generalize w1.drewN nq = w2 at hq k0 ⊢
        have own2 := HO.out.below hq
        unfold Own at own2
        have hn2 := below_up hnx hq
        go_wp2_with (at_builtin; refine wpList_append_own _ rfl _ _ 24 rfl w.heap.size 9 i0 _ 1 16 Tryd.underlying24 hi hz0 hz1 hz2 rfl (by decide) _ _ _ rfl (own2.alloc _) ⟨w2.heap.size, 0, none⟩ 1 1 [.string z.path] rfl rfl (news_new _ #[.string z.path] _ _ (by simp)) (by intro u hu; simp at hu; subst hu; rfl) (by unfold maxLen; omega) (by omega) (by have := hn2.size; simp; omega) ?_; intro v3 w3 own3 hg3 _)
        have b3 := app_step hn2 own2 (al (below0 _) _) hg3
        clear hg3 own2
        go_wp2
        go_roundw
        case rel => exact ⟨k + 1, by omega, by go_num, by rw [HZ.out]; unfold Own; simpa [strC] using own3, b3⟩
        case measure => simp [intOf]; omega
      · rw [h1] at HV
        have hk' := (List.getElem?_eq_some_iff.1 hz').1
        have hk2 : (k' : Int) < (b.length : Int) := by omega
        obtain ⟨z', b', off', hz2, rfl, hbl', e0, e1⟩ := hat' k' hk'
        rw [hz'] at hz2
        simp only [Option.some.injEq] at hz2
        subst hz2
        have f1 := (hnB.cell (p := ⟨b', off' + k' * 2 + 1, none⟩) hbl').trans e1
        have hbB : b' < (wr.alloc (.cells #[.string z.path, .string z.bytes] 55)).heap.size := Nat.lt_of_lt_of_le hbl' hnB.size
        by_cases hx : f.bytes = z.bytes
        · have HZ := Lib.hid (selL_drop (f := (·.path)) hz (difF_eq h2 hx))
          have hbq := beq_of_eq hx
          clear hat hat' c0 c1 e0 e1 hz hz' h1 h2 hx
          go_wp2_with fail
          obtain ⟨p0, p1⟩ := hp.out
          refine (HV.out _ (hv.below hnB)).mono ?_
          rintro e w1 ⟨rfl, b1⟩
          have hq1 := below_up hB b1
          have g0 := (b1.cell (p := ⟨wr.heap.size, 0, none⟩) (by simp)).trans p0
          have g1 := (b1.cell (p := ⟨wr.heap.size, 1, none⟩) (by simp)).trans p1
          have f2 := (b1.cell (p := ⟨b', off' + k' * 2 + 1, none⟩) hbB).trans f1
          go_wp2_with fail
          go_quiet (fail)
          have hq := below_up hq1 (below_drewN (below0 w1) nq)
          have k0 : (w1.drewN nq).cell? ⟨wr.heap.size, 0, none⟩ = some (.string z.path) := g0
          generalize w1.drewN nq = w2 at hq k0 ⊢
          have own2 := HO.out.below hq
          unfold Own at own2
          have hn2 := below_up hnx hq
          go_wp2
          go_roundw
          case rel => exact ⟨k + 1, by omega, by go_num, by rw [HZ.out]; exact own2, hn2⟩
          case measure => simp [intOf]; omega
        · have HZ := Lib.hid (selL_keep (f := (·.path)) hz (difF_ne h2 hx))
          have hbq := beq_of_ne hx
          clear hat hat' c0 c1 e0 e1 hz hz' h1 h2 hx
          go_wp2_with fail
          obtain ⟨p0, p1⟩ := hp.out
          refine (HV.out _ (hv.below hnB)).mono ?_
          rintro e w1 ⟨rfl, b1⟩
          have hq1 := below_up hB b1
          have g0 := (b1.cell (p := ⟨wr.heap.size, 0, none⟩) (by simp)).trans p0
          have g1 := (b1.cell (p := ⟨wr.heap.size, 1, none⟩) (by simp)).trans p1
          have f2 := (b1.cell (p := ⟨b', off' + k' * 2 + 1, none⟩) hbB).trans f1
          go_wp2_with fail
          go_quiet (fail)
          have hq := below_up hq1 (below_drewN (below0 w1) nq)
          have k0 : (w1.drewN nq).cell? ⟨wr.heap.size, 0, none⟩ = some (.string z.path) := g0
          generalize w1.drewN nq = w2 at hq k0 ⊢
          have own2 := HO.out.below hq
          unfold Own at own2
          have hn2 := below_up hnx hq
          go_wp2_with (at_builtin; refine wpList_append_own _ rfl _ _ 24 rfl w.heap.size 9 i0 _ 1 16 Tryd.underlying24 hi hz0 hz1 hz2 rfl (by decide) _ _ _ rfl (own2.alloc _) ⟨w2.heap.size, 0, none⟩ 1 1 [.string z.path] rfl rfl (news_new _ #[.string z.path] _ _ (by simp)) (by intro u hu; simp at hu; subst hu; rfl) (by unfold maxLen; omega) (by omega) (by have := hn2.size; simp; omega) ?_; intro v3 w3 own3 hg3 _)
          have b3 := app_step hn2 own2 (al (below0 _) _) hg3
          clear hg3 own2
          go_wp2
          go_roundw
          case rel => exact ⟨k + 1, by omega, by go_num, by rw [HZ.out]; unfold Own; simpa [strC] using own3, b3⟩
          case measure => simp [intOf]; omega
    · obtain rfl : k = a.length := by omega
      rw [List.take_length] at hown
      have hB := hnx
      obtain ⟨wo, rfl⟩ : ∃ wo : World, wo = wr := ⟨_, rfl⟩
      have HO := Lib.hid hown
      have hml := selL_len (difF b) (·.path) a
      generalize hM : selL (difF b) (·.path) a = M at HO hml
      clear hown
      go_wp2
      go_loopw [5, 41] (fun o i wr => ∃ k : Nat, k ≤ b.length ∧ i = .int .i64 k ∧ Own 1 strC 9 w.heap.size wr o (M ++ selL (newF a) (·.path) (b.take k)) ∧ Below w.heap.size w wr) (fun _ i _ => b.length - (intOf i).toNat)
      case atStart => exact ⟨0, Nat.zero_le _, rfl, by rw [selL_nil, List.append_nil]; exact HO.out, hB⟩
      case round =>
        obtain ⟨k, hk, rfl, hown, hnx⟩ := hrel
        have hpl : (M ++ selL (newF a) (·.path) (b.take k)).length ≤ a.length + k := by
          have h2 := selL_take (newF a) (·.path) b k
          rw [List.length_append]
          omega
        by_cases hlt : k < b.length
        · obtain ⟨z, bb, off, hz, rfl, hbl, c0, c1⟩ := hat' k hlt
          have d0 := (hnx.cell (p := ⟨bb, off + k * 2, none⟩) hbl).trans c0
          have d1 := (hnx.cell (p := ⟨bb, off + k * 2 + 1, none⟩) hbl).trans c1
          have HV := Lib.hid (fun W hs => find_calls (.slice A a.length c) a z.path W hs ha)
          have HO := Lib.hid hown
          clear hown
          have hB := al (below0 wr) (.cells #[.string z.path, .string z.bytes] 55)
          have hnew := heap_alloc_new wr (.cells #[.string z.path, .string z.bytes] 55)
          have p0 : (wr.alloc (.cells #[.string z.path, .string z.bytes] 55)).cell? ⟨wr.heap.size, 0, none⟩ = some (.string z.path) := by rw [cell_of_row _ _ 0 _ _ _ hnew]; rfl
          have p1 : (wr.alloc (.cells #[.string z.path, .string z.bytes] 55)).cell? ⟨wr.heap.size, 1, none⟩ = some (.string z.bytes) := by rw [cell_of_row _ _ 1 _ _ _ hnew]; rfl
          have hp := Lib.hid (And.intro p0 p1)
          have hnB := below_up hnx hB
          clear hnew p0 p1
          rcases findI_cases a z.path with ⟨h1, h2⟩ | ⟨k', f, hz', h1, h2⟩
          · have HZ := Lib.hid (show M ++ selL (newF a) (·.path) (b.take (k + 1)) = M ++ selL (newF a) (·.path) (b.take k) ++ [z.path] by rw [selL_keep hz (newF_no h2), List.append_assoc])
            rw [h1] at HV
            clear hat hat' c0 c1 hz h1 h2
            go_wp2_with fail
            obtain ⟨p0, p1⟩ := hp.out
            refine (HV.out _ (hu.below hnB)).mono ?_
            rintro e w1 ⟨rfl, b1⟩
            have hq1 := below_up hB b1
            have g0 := (b1.cell (p := ⟨wr.heap.size, 0, none⟩) (by simp)).trans p0
            have g1 := (b1.cell (p := ⟨wr.heap.size, 1, none⟩) (by simp)).trans p1
            have k0 := g0
            have hq := hq1
            have own2 := HO.out.below hq
            unfold Own at own2
            have hn2 := below_up hnx hq
            obtain ⟨w2, rfl⟩ : ∃ w2 : World, w2 = w1 := ⟨_, rfl⟩
            go_wp2_with (at_builtin; refine wpList_append_own _ rfl _ _ 24 rfl w.heap.size 9 i0 _ 1 16 Tryd.underlying24 hi hz0 hz1 hz2 rfl (by decide) _ _ _ rfl (own2.alloc _) ⟨w2.heap.size, 0, none⟩ 1 1 [.string z.path] rfl rfl (news_new _ #[.string z.path] _ _ (by simp)) (by intro u hu; simp at hu; subst hu; rfl) (by unfold maxLen; omega) (by omega) (by have := hn2.size; simp; omega) ?_; intro v3 w3 own3 hg3 _)
            have b3 := app_step hn2 own2 (al (below0 _) _) hg3
            clear hg3 own2
            go_wp2
            go_roundw
            case rel => exact ⟨k + 1, by omega, by go_num, by rw [HZ.out]; unfold Own; simpa [strC, Nat.add_assoc] using own3, b3⟩
            case measure => simp [intOf]; omega
          · have HZ := Lib.hid (show M ++ selL (newF a) (·.path) (b.take (k + 1)) = M ++ selL (newF a) (·.path) (b.take k) by rw [selL_drop hz (newF_yes h2)])
            rw [h1] at HV
            clear hat hat' c0 c1 hz h1 h2 hz'
            go_wp2_with fail
            obtain ⟨p0, p1⟩ := hp.out
            refine (HV.out _ (hu.below hnB)).mono ?_
            rintro e w1 ⟨rfl, b1⟩
            have hq1 := below_up hB b1
            have g0 := (b1.cell (p := ⟨wr.heap.size, 0, none⟩) (by simp)).trans p0
            have g1 := (b1.cell (p := ⟨wr.heap.size, 1, none⟩) (by simp)).trans p1
            have k0 := g0
            have hq := hq1
            have own2 := HO.out.below hq
            unfold Own at own2
            have hn2 := below_up hnx hq
            obtain ⟨w2, rfl⟩ : ∃ w2 : World, w2 = w1 := ⟨_, rfl⟩
            go_wp2
            go_roundw
            case rel => exact ⟨k + 1, by omega, by go_num, by rw [HZ.out]; exact own2, hn2⟩
            case measure => simp [intOf]; omega
        · obtain rfl : k = b.length := by omega
          rw [List.take_length] at hown
          have HO2 := Lib.hid (ordered_calls _ _ w.heap.size _ hown (by rw [List.length_append]; have := selL_len (newF a) (·.path) b; omega))
          have HO := Lib.hid hown
          have hnH := Lib.hid hnx
          clear hown hat hat'
          go_wp2_with fail
          refine HO2.out.mono ?_
          rintro e w2 ⟨v2, rfl, own2, hg2⟩
          go_wp2
          go_ret
          refine ⟨_, rfl, ?_, below_mark hnH.out HO.out (Nat.le_refl _) hg2⟩
          have h5 := own2.mono hnH.out.size
          rw [← hM] at h5
          exact h5
end Go.Proofs.YtkghhmjmfcnbnaaDoor
