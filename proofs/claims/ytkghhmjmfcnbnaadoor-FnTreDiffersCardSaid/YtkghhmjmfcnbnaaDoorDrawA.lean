/- The drawing of trees that may be none. -/
import Derived.Test.YtkghhmjmfcnbnaaDoorDrawT
namespace Go.Proofs.YtkghhmjmfcnbnaaDoor
open Go.RowKit

/-- the length of a slice -/
def lenOf : Value → Nat
  | .slice _ n _ => n
  | _ => 0
set_option maxRecDepth 100000 in
set_option maxHeartbeats 4000000 in
theorem l20AnyFiles_calls (W : World) (g : Nat) (v : Value) (bs : List UInt8) (p : Nat) (n : Int) (w : World) (hr : Rd W g v bs p w) (hp : p ≤ 50000) (hn1 : 1 ≤ n) (hn2 : n ≤ 1000) :
    Calls Tryd.prog 50 #[.pointer (some ⟨g, 0, none⟩), .int .i64 n] w (DrawFs 61 30 W g v bs p w) := by
  obtain ⟨i0, hi, hz0, hz1, hz2⟩ := info_parts Tryd.infoFile
  have hlt := hr.lt
  go_enter Tryd.func50, Tryd.ntmps50
  go_wp2_with fail
  refine (l20Files_calls W g v bs p _ hr (by omega)).mono ?_
  rintro e w1 ⟨u1, zs, q1, hl1, hs1, hq1, rfl, own1, hr1, hg1⟩
  go_wp2_with fail
  refine (pick_calls W g v bs q1 n _ hr1 (by omega) (by omega) (by omega)).mono ?_
  rintro e w2 ⟨x, hx, rfl, hr2, hg2⟩
  have own2 := own1.grown hg2 (Or.inr (fun e => by have := (own1.lt g e).1; omega))
  have G2 := grown_trans hg1 hg2
  by_cases h0 : 0 < x
  · have H2 := Lib.hid (And.intro own2 (And.intro hr2 G2))
    clear own2 own1 hg1 hg2
    go_wp2
    go_ret
    exact ⟨_, zs, q1 + 1, by omega, hs1, by omega, rfl, H2.out.1, H2.out.2.1, H2.out.2.2⟩
  · obtain rfl : x = 0 := by omega
    clear own1 hg1 hg2
    go_wp2_with fail
    refine (pick_calls W g v bs (q1 + 1) 4 _ hr2 (by omega) (by omega) (by omega)).mono ?_
    rintro e w3 ⟨y, hy, rfl, hr3, hg3⟩
    have own3 := own2.grown hg3 (Or.inr (fun e => by have := (own2.lt g e).1; omega))
    have G3 := grown_trans G2 hg3
    clear own2 hg3 G2 hr2
    obtain ⟨m, rfl⟩ := Int.eq_ofNat_of_zero_le hy.1
    have hm4 : m = 0 ∨ m = 1 ∨ m = 2 ∨ m = 3 := by omega
    have z3 := G3.size
    rcases hm4 with rfl | rfl | rfl | rfl
    · go_wp2_with fail
      refine (anyPath_calls W g v bs (q1 + 1 + 1) 2 _ hr3 (by omega) (by omega) (by omega)).mono ?_
      rintro e w4 ⟨s4, q4, hs4, hq4, rfl, hr4, hg4⟩
      have own4 := own3.grown hg4 (Or.inr (fun e => by have := (own3.lt g e).1; omega))
      have G4 := grown_trans G3 hg4
      go_wp2_with fail
      refine (l20Bytes_calls W g v bs q4 _ hr4 (by omega)).mono ?_
      rintro e w5 ⟨s5, q5, hs5, hq5, rfl, hr5, hg5⟩
      have own5 := own4.grown hg5 (Or.inr (fun e => by have := (own4.lt g e).1; omega))
      have G5 := grown_trans G4 hg5
      have z5 := G5.size
      unfold Own at own5
      have hWw := hr.bel.size
      go_wp2_with (at_builtin; refine wpList_append_own _ rfl _ _ 26 rfl w.heap.size 55 i0 _ 2 32 Tryd.underlying26 hi hz0 hz1 hz2 rfl (by decide) _ _ _ rfl (own5.alloc _) ⟨w5.heap.size, 0, none⟩ 1 1 [.string s4, .string s5] rfl rfl (news_new _ #[.string s4, .string s5] _ _ (by simp)) (by intro u hu; simp at hu; rcases hu with rfl | rfl <;> rfl) (by unfold maxLen; omega) (by omega) (by simp; omega) ?_; intro v7 w7 own7 hg7 _)
      have hnn := fun j e => (World.ownsRow.lt own5 j e).1
      have hr7 := (hr5.al _).grown hg7 (fun j e => by have := hnn j e; omega)
      have G7 := grown_new (grown_trans G5 (alloc_grown w5 _ _)) hg7 hnn
      have own8 : Own 2 fileC 55 w.heap.size w7 v7 (zs ++ [⟨s4, s5⟩]) := by unfold Own; simpa [fileC] using own7
      have H7 := Lib.hid (And.intro own8 (And.intro hr7 G7))
      clear hg7 own7 own8 hr7 G7 own5 own4 own3 hg4 hg5
      go_wp2
      go_ret
      exact ⟨v7, zs ++ [⟨s4, s5⟩], q5, by simp; omega, trShort_app hs1 (trShort_one (by omega) (by omega)), by omega, rfl, H7.out.1, H7.out.2.1, H7.out.2.2⟩
    · by_cases hz : 0 < zs.length
      · obtain ⟨g1, c1, hu1⟩ := row_pos own3 hz
        subst hu1
        have hzi : (0 : Int) < (zs.length : Int) := by omega
        go_wp2_with fail
        refine (pick_calls W g v bs (q1 + 1 + 1) (zs.length : Int) _ hr3 (by omega) (by omega) (by omega)).mono ?_
        rintro e w4 ⟨y4, hy4, rfl, hr4, hg4⟩
        obtain ⟨m4, rfl⟩ := Int.eq_ofNat_of_zero_le hy4.1
        have own4 := own3.grown hg4 (Or.inr (fun e => by have := (own3.lt g e).1; omega))
        have G4 := grown_trans G3 hg4
        have ow : w4.ownsRow w.heap.size 55 2 (.slice (some ⟨g1, 0, none⟩) zs.length c1) zs.length (zs.flatMap fileC) := own4
        obtain ⟨⟨x1, f1⟩, f2⟩ := own_cell ow (j := m4 * 2 + 1) (by omega)
        have hst := ow.stored (m4 * 2 + 1) (.string ⟨#[49, 50, 51, 52, 53, 54, 55]⟩)
        obtain ⟨z, hzm⟩ : ∃ z, zs[m4]? = some z := ⟨_, List.getElem?_eq_getElem (by omega)⟩
        rw [flat_bytes (s := ⟨#[49, 50, 51, 52, 53, 54, 55]⟩) hzm rfl] at hst
        have hlo : w.heap.size ≤ g1 := (World.ownsRow.lt ow _ rfl).1
        have own8 : Own 2 fileC 55 w.heap.size (w4.setCell ⟨g1, m4 * 2 + 1, none⟩ (.string ⟨#[49, 50, 51, 52, 53, 54, 55]⟩)) (.slice (some ⟨g1, 0, none⟩) zs.length c1) (zs.set m4 ⟨z.path, ⟨#[49, 50, 51, 52, 53, 54, 55]⟩⟩) := by unfold Own; rw [List.length_set]; exact hst.1
        have hr8 := hr4.set_new (b := g1) (by omega) (Nat.le_trans hr.bel.size hlo) (m4 * 2 + 1) (.string ⟨#[49, 50, 51, 52, 53, 54, 55]⟩)
        have G8 := set_new_grown G4 hlo (m4 * 2 + 1) (.string ⟨#[49, 50, 51, 52, 53, 54, 55]⟩)
        have H7 := Lib.hid (And.intro own8 (And.intro hr8 G8))
        have hsh : trShort (zs.set m4 ⟨z.path, ⟨#[49, 50, 51, 52, 53, 54, 55]⟩⟩) := fun x hx => by
          rcases List.mem_or_eq_of_mem_set hx with h | rfl
          · exact hs1 x h
          · exact ⟨(hs1 z (List.mem_of_getElem? hzm)).1, Nat.le_refl 7⟩
        have hmi : (m4 : Int) < (zs.length : Int) := by omega
        clear own8 hr8 G8 hst ow own4 own3 hg4
        go_wp2
        go_ret
        exact ⟨_, _, q1 + 1 + 1 + 1, by rw [List.length_set]; omega, hsh, by omega, rfl, H7.out.1, H7.out.2.1, H7.out.2.2⟩
      · obtain ⟨A, c1, rfl, hc1, hlc1, -⟩ := file_z (own3.sl fileC_len)
        have hzi : ¬ (0 : Int) < (zs.length : Int) := by omega
        have H7 := Lib.hid (And.intro own3 (And.intro hr3 G3))
        clear own3 G3
        go_wp2
        go_ret
        exact ⟨_, zs, q1 + 1 + 1, by omega, hs1, by omega, rfl, H7.out.1, H7.out.2.1, H7.out.2.2⟩
    · by_cases hz : 1 < zs.length
      · obtain ⟨g1, c1, hu1⟩ := row_pos own3 (by omega)
        subst hu1
        have hzi : (1 : Int) < (zs.length : Int) := by omega
        obtain ⟨-, hc1, -, hat⟩ := file_at0 (own3.sl fileC_len)
        obtain ⟨z, hzm, -, k0, k1⟩ := hat 1 hz
        obtain ⟨z0, hzm0, -, -, -⟩ := hat 0 (by omega)
        have ow : w3.ownsRow w.heap.size 55 2 (.slice (some ⟨g1, 0, none⟩) zs.length c1) zs.length (zs.flatMap fileC) := own3
        obtain ⟨⟨x1, f1⟩, f2⟩ := own_cell ow (j := 0) (by omega)
        obtain ⟨⟨x2, f3⟩, f4⟩ := own_cell ow (j := 1) (by omega)
        have hst := ow.stored 0 (.string z.path)
        have hst2 := hst.1.stored 1 (.string z.bytes)
        have hfl := flat_set2 (C := fileC) fileC_len (zs := zs) (k := 0) (a := z) (u := .string z.path) (v := .string z.bytes) (by omega) rfl
        simp only [Nat.zero_mul, Nat.zero_add] at hfl
        rw [hfl] at hst2
        have hlo : w.heap.size ≤ g1 := (World.ownsRow.lt ow _ rfl).1
        have own8 : Own 2 fileC 55 w.heap.size ((w3.setCell ⟨g1, 0, none⟩ (.string z.path)).setCell ⟨g1, 1, none⟩ (.string z.bytes)) (.slice (some ⟨g1, 0, none⟩) zs.length c1) (zs.set 0 z) := by unfold Own; rw [List.length_set]; exact hst2.1
        have hgn : g1 ≠ g := by omega
        have hr8 := (hr3.set_new (b := g1) hgn (Nat.le_trans hr.bel.size hlo) 0 (.string z.path)).set_new (b := g1) hgn (Nat.le_trans hr.bel.size hlo) 1 (.string z.bytes)
        have G8 := set_new_grown (set_new_grown G3 hlo 0 (.string z.path)) hlo 1 (.string z.bytes)
        have H7 := Lib.hid (And.intro own8 (And.intro hr8 G8))
        have hsh : trShort (zs.set 0 z) := fun x hx => by
          rcases List.mem_or_eq_of_mem_set hx with h | rfl
          · exact hs1 x h
          · exact hs1 x (List.mem_of_getElem? hzm)
        clear own8 hr8 G8 hst hst2 ow own3 hat
        go_wp2
        go_ret
        exact ⟨_, _, q1 + 1 + 1, by rw [List.length_set]; omega, hsh, by omega, rfl, H7.out.1, H7.out.2.1, H7.out.2.2⟩
      · obtain ⟨A, c1, rfl, hc1, hlc1, -⟩ := file_z (own3.sl fileC_len)
        have hzi : ¬ (1 : Int) < (zs.length : Int) := by omega
        have H7 := Lib.hid (And.intro own3 (And.intro hr3 G3))
        clear own3 G3
        go_wp2
        go_ret
        exact ⟨_, zs, q1 + 1 + 1, by omega, hs1, by omega, rfl, H7.out.1, H7.out.2.1, H7.out.2.2⟩
    · have H3 := Lib.hid (And.intro own3 (And.intro hr3 G3))
      clear own3 G3
      go_wp2
      go_loopw [5] (fun u wr => ∃ ys : List TFile, ys.length ≤ 61 ∧ trShort ys ∧ Own 2 fileC 55 w.heap.size wr u ys ∧ Rd W g v bs (q1 + 1 + 1) wr ∧ w.grownBy wr (some g)) (fun u _ => 61 - lenOf u)
      case atStart => exact ⟨zs, by omega, hs1, H3.out.1, H3.out.2.1, H3.out.2.2⟩
      case round =>
        obtain ⟨ys, hyl, hys, hown, hrr, hG⟩ := hrel
        obtain ⟨A, c1, rfl, hc1, hlc1, -⟩ := file_z (hown.sl fileC_len)
        by_cases hlt : ys.length ≤ 60
        · have hli : (ys.length : Int) ≤ 60 := by omega
          have hzz := hG.size
          have hWw := hr.bel.size
          unfold Own at hown
          go_wp2_with (at_builtin; refine wpList_append_own _ rfl _ _ 26 rfl w.heap.size 55 i0 _ 2 32 Tryd.underlying26 hi hz0 hz1 hz2 rfl (by decide) _ _ _ rfl (hown.alloc _) ⟨wr.heap.size, 0, none⟩ 1 1 [.string ⟨#[97]⟩, .string ByteArray.empty] rfl rfl (news_new _ #[.string ⟨#[97]⟩, .string ByteArray.empty] _ _ (by simp)) (by intro u hu; simp at hu; rcases hu with rfl | rfl <;> rfl) (by unfold maxLen; omega) (by omega) (by simp; omega) ?_; intro v7 w7 own7 hg7 _)
          have hnn := fun j e => (World.ownsRow.lt hown j e).1
          have hr7 := (hrr.al _).grown hg7 (fun j e => by have := hnn j e; omega)
          have G7 := grown_new (grown_trans hG (alloc_grown wr _ _)) hg7 hnn
          have own8 : Own 2 fileC 55 w.heap.size w7 v7 (ys ++ [⟨⟨#[97]⟩, ByteArray.empty⟩]) := by unfold Own; simpa [fileC] using own7
          obtain ⟨A7, c7, rfl, hc7, hlc7, -⟩ := file_z (own8.sl fileC_len)
          have H7 := Lib.hid (And.intro own8 (And.intro hr7 G7))
          clear hg7 own7 own8 hr7 G7 hown
          go_wp2
          go_roundw
          case rel => exact ⟨_, by simp; omega, trShort_app hys (trShort_one (by decide) (by decide)), H7.out.1, H7.out.2.1, H7.out.2.2⟩
          case measure => simp [lenOf]; omega
        · have hli : ¬ (ys.length : Int) ≤ 60 := by omega
          have H7 := Lib.hid (And.intro hown (And.intro hrr hG))
          clear hown hG
          go_wp2
          go_ret
          exact ⟨_, ys, q1 + 1 + 1, hyl, hys, by omega, rfl, H7.out.1, H7.out.2.1, H7.out.2.2⟩
end Go.Proofs.YtkghhmjmfcnbnaaDoor
