/- The drawing of a tree and edits. -/
import Derived.Test.YtkghhmjmfcnbnaaDoorDrawTT
namespace Go.Proofs.YtkghhmjmfcnbnaaDoor
open Go.RowKit

theorem own_grownSe {w w' : World} {g base : Nat} {u : Value} {zs : List TEdit} (h : Own 3 editC 49 base w u zs) (hb : g < base) (hg : w.grownBy w' (some g)) : Own 3 editC 49 base w' u zs :=
  h.grown hg (Or.inr (fun e => by have := (h.lt g e).1; omega))
theorem flat_path {L : List TEdit} {f : TEdit} {s : ByteArray} (hz : L[0]? = some f) : (L.flatMap editC).set 0 (.string s) = (L.set 0 ⟨s, f.bytes, f.gone⟩).flatMap editC := by
  cases L with
  | nil => simp at hz
  | cons x r =>
    simp only [List.getElem?_cons_zero, Option.some.injEq] at hz
    subst hz
    simp [editC]
set_option maxRecDepth 100000 in
set_option maxHeartbeats 4000000 in
theorem drawTreTurn_calls (v : Value) (bs : List UInt8) (w : World) (hs : Sl 1 byteC w v bs) : Calls Tryd.prog 32 #[v] w (DrawFE w) := by
  obtain ⟨i0, hi, hz0, hz1, hz2⟩ := info_parts Tryd.infoEdit
  go_enter Tryd.func32, Tryd.ntmps32
  go_wp2_with fail
  refine (l20Open_calls w v bs w hs (below0 w)).mono ?_
  rintro e w1 ⟨g, v1, bs1, rfl, hr, hb, hg⟩
  have hlt := hr.lt
  go_wp2_with fail
  refine (l20AnyFiles_calls w g v1 bs1 0 12 _ hr (by omega) (by omega) (by omega)).mono ?_
  rintro e w2 ⟨u, zs, q, hl, hsh, hq, rfl, own2, hr2, hg2⟩
  go_wp2_with fail
  refine (l20Edits_calls w g v1 bs1 q _ hr2 (by omega)).mono ?_
  rintro e w3 ⟨u3, es, q3, ⟨hl3, hl31⟩, hsh3, hq3, rfl, own3, hr3, hg3⟩
  obtain ⟨A, c, rfl, hc, hlc, -⟩ := file_z (own2.sl fileC_len)
  have o3 := own_grownSl own2 hlt hg3
  have e3 := own3
  have hg2s := hg2.size
  have hl2 : g < w2.heap.size := Nat.lt_of_lt_of_le hlt hg2s
  have hne : ∀ k, (Value.slice A zs.length c).ownBlock = some k → k < w2.heap.size := fun k h => (own2.lt k h).2
  clear own2 own3 hg2
  go_wp2_with fail
  refine (pick_calls w g v1 bs1 q3 8 _ hr3 (by omega) (by omega) (by omega)).mono ?_
  rintro e w4 ⟨y, hy, rfl, hr4, hg4⟩
  have o4 := own_grownSl o3 hlt hg4
  have e4 := own_grownSe e3 hl2 hg4
  have G4 := grown_trans hg3 hg4
  clear o3 e3 hg3 hg4
  have hshE : ∀ x ∈ es, x.path.size ≤ 11 ∧ x.bytes.size ≤ 7 := fun x hx => by have := hsh3 x hx; omega
  by_cases hz : 0 < zs.length
  · have hzi : (0 : Int) < (zs.length : Int) := by omega
    by_cases hy0 : y = 0
    · subst hy0
      go_wp2_with fail
      refine (anyPath_calls w g v1 bs1 (q3 + 1) 2 _ hr4 (by omega) (by omega) (by omega)).mono ?_
      rintro e w5 ⟨s5, q5, hs5, hq5, rfl, hr5, hg5⟩
      have o5 := own_grownSl o4 hlt hg5
      have e5 := own_grownSe e4 hl2 hg5
      have G5 := grown_trans G4 hg5
      go_wp2_with fail
      refine (l20Bytes_calls w g v1 bs1 q5 _ hr5 (by omega)).mono ?_
      rintro e w6 ⟨s6, q6, hs6, hq6, rfl, hr6, hg6⟩
      have o6 := own_grownSl o5 hlt hg6
      have e6 := own_grownSe e5 hl2 hg6
      have G6 := grown_trans G5 hg6
      go_wp2_with fail
      refine (pick_calls w g v1 bs1 q6 2 _ hr6 (by omega) (by omega) (by omega)).mono ?_
      rintro e w7 ⟨y7, hy7, rfl, hr7, hg7⟩
      have o7 := own_grownSl o6 hlt hg7
      have e7 := own_grownSe e6 hl2 hg7
      have G7 := grown_trans G6 hg7
      unfold Own at e7
      have z7 := G7.size
      clear o4 e4 o5 e5 o6 e6 hg5 hg6 hg7
      go_wp2_with (at_builtin; refine wpList_append_own _ rfl _ _ 47 rfl w2.heap.size 49 i0 _ 3 40 Tryd.underlying47 hi hz0 hz1 hz2 rfl (by decide) _ _ _ rfl (e7.alloc _) ⟨w7.heap.size, 0, none⟩ 1 1 [.string s5, .string s6, .bool (y7 == 0)] rfl rfl (news_new _ #[.string s5, .string s6, .bool (y7 == 0)] _ _ (by simp)) (by intro u hu; simp at hu; rcases hu with rfl | rfl | rfl <;> rfl) (by unfold maxLen; omega) (by omega) (by simp; omega) ?_; intro v8 w8 own8 hg8 _)
      have hnn := fun j e => (World.ownsRow.lt e7 j e).1
      have hr8 := (hr7.al _).grown hg8 (fun j e => by have := hnn j e; have := hr.bel.size; omega)
      have o8 : Own 2 fileC 55 w1.heap.size w8 (.slice A zs.length c) zs := (o7.below (al (below0 w7) _)).grown hg8 (by
        cases hub : (Value.slice A zs.length c).ownBlock with
        | none => exact Or.inl rfl
        | some k => exact Or.inr (fun e => by have h1 := hne k hub; have h2 := hnn k e.symm; omega))
      have e8 : Own 3 editC 49 w2.heap.size w8 v8 (es ++ [⟨s5, s6, y7 == 0⟩]) := by unfold Own; simpa [editC] using own8
      have hsh8 : ∀ x ∈ es ++ [(⟨s5, s6, y7 == 0⟩ : TEdit)], x.path.size ≤ 11 ∧ x.bytes.size ≤ 7 := fun x hx => by
        rcases List.mem_append.1 hx with h | h
        · exact hshE x h
        · simp at h; subst h; exact ⟨hs5, Nat.le_trans hs6 (by omega)⟩
      have hl8 : (es ++ [(⟨s5, s6, y7 == 0⟩ : TEdit)]).length ≤ 5 ∧ 1 ≤ (es ++ [(⟨s5, s6, y7 == 0⟩ : TEdit)]).length := by simp; omega
      clear own8 hg8 o7 e7
      generalize es ++ [(⟨s5, s6, y7 == 0⟩ : TEdit)] = fs at e8 hsh8 hl8
      obtain ⟨hl81, hl82⟩ := hl8
      go_wp2_with fail
      refine (pick_calls w g v1 bs1 (q6 + 1) 3 _ hr8 (by omega) (by omega) (by omega)).mono ?_
      rintro e wa ⟨ya, hya, rfl, ra, ga⟩
      have oa := own_grownSl o8 hlt ga
      have ea := own_grownSe e8 hl2 ga
      by_cases hya0 : ya = 0
      · subst hya0
        clear o8 e8 hr8 ga
        go_wp2_with fail
        refine (pick_calls w g v1 bs1 ((q6 + 1) + 1) (zs.length : Int) _ ra (by omega) (by omega) (by omega)).mono ?_
        rintro e wb ⟨yb, hyb, rfl, rb, gb⟩
        have ob := own_grownSl oa hlt gb
        have eb := own_grownSe ea hl2 gb
        obtain ⟨m, rfl⟩ := Int.eq_ofNat_of_zero_le hyb.1
        have hmi : (m : Int) < (zs.length : Int) := by omega
        obtain ⟨A', c', eq, -, -, hat⟩ := file_z (ob.sl fileC_len)
        simp only [Value.slice.injEq, true_and] at eq
        obtain ⟨rfl, rfl⟩ := eq
        obtain ⟨z, bz, oz, hzm, rfl, hbl, k0, -⟩ := hat m (by omega)
        obtain ⟨gE, cE, hE⟩ := row_pos eb (by omega)
        subst hE
        obtain ⟨f0, hf0⟩ : ∃ f0, fs[0]? = some f0 := ⟨_, List.getElem?_eq_getElem (by omega)⟩
        have ow : wb.ownsRow w2.heap.size 49 3 (.slice (some ⟨gE, 0, none⟩) (fs).length cE) (fs).length ((fs).flatMap editC) := eb
        obtain ⟨⟨x1, fx1⟩, fx2⟩ := own_cell ow (j := 0) (by omega)
        have hst := ow.stored 0 (.string z.path)
        rw [flat_path hf0] at hst
        have hlo : w2.heap.size ≤ gE := (World.ownsRow.lt ow _ rfl).1
        have hbz : bz < w2.heap.size := hne bz rfl
        have sF : Sl 2 fileC (wb.setCell ⟨gE, 0, none⟩ (.string z.path)) (.slice (some ⟨bz, oz, none⟩) zs.length c) zs := (ob.sl fileC_len).grown hst.2 (Or.inr (by simp [Value.ownBlock]; omega))
        have sE : Own 3 editC 49 w2.heap.size (wb.setCell ⟨gE, 0, none⟩ (.string z.path)) (.slice (some ⟨gE, 0, none⟩) (fs).length cE) ((fs).set 0 ⟨z.path, f0.bytes, f0.gone⟩) := by unfold Own; rw [List.length_set]; exact hst.1
        have BF : Below w.heap.size w (wb.setCell ⟨gE, 0, none⟩ (.string z.path)) := rb.bel.setCell (p := ⟨gE, 0, none⟩) (Nat.le_trans (Nat.le_trans hr.bel.size hg2s) hlo) _
        have hsE : ∀ x ∈ (fs).set 0 ⟨z.path, f0.bytes, f0.gone⟩, x.path.size ≤ 11 ∧ x.bytes.size ≤ 7 := fun x hx => by
          rcases List.mem_or_eq_of_mem_set hx with h | rfl
          · exact hsh8 x h
          · exact ⟨(hsh z (List.mem_of_getElem? hzm)).1, (hsh8 f0 (List.mem_of_getElem? hf0)).2⟩
        have HH := Lib.hid (And.intro sF (And.intro (sE.sl editC_len) BF))
        have hli : (0 : Int) < ((fs).length : Int) := by omega
        clear sF sE BF hst ow eb ob ea oa gb hat
        go_wp2
        go_ret2
        exact ⟨_, _, zs, _, hl, hsh, by rw [List.length_set]; omega, hsE, rfl, HH.out.1, HH.out.2.1, HH.out.2.2⟩
      · have hyab : (ya == 0) = false := by simpa using hya0
        have HH := Lib.hid (And.intro (oa.sl fileC_len) (And.intro (ea.sl editC_len) ra.bel))
        clear oa ea o8 e8 hr8 ga hya0
        go_wp2
        go_ret2
        exact ⟨_, _, zs, fs, hl, hsh, by omega, hsh8, rfl, HH.out.1, HH.out.2.1, HH.out.2.2⟩
    · have hyb : (y == 0) = false := by simpa using hy0
      clear hy0
      go_wp2_with fail
      refine (pick_calls w g v1 bs1 (q3 + 1) 3 _ hr4 (by omega) (by omega) (by omega)).mono ?_
      rintro e wa ⟨ya, hya, rfl, ra, ga⟩
      have oa := own_grownSl o4 hlt ga
      have ea := own_grownSe e4 hl2 ga
      by_cases hya0 : ya = 0
      · subst hya0
        clear o4 e4 hr4 ga
        go_wp2_with fail
        refine (pick_calls w g v1 bs1 ((q3 + 1) + 1) (zs.length : Int) _ ra (by omega) (by omega) (by omega)).mono ?_
        rintro e wb ⟨yb, hyb, rfl, rb, gb⟩
        have ob := own_grownSl oa hlt gb
        have eb := own_grownSe ea hl2 gb
        obtain ⟨m, rfl⟩ := Int.eq_ofNat_of_zero_le hyb.1
        have hmi : (m : Int) < (zs.length : Int) := by omega
        obtain ⟨A', c', eq, -, -, hat⟩ := file_z (ob.sl fileC_len)
        simp only [Value.slice.injEq, true_and] at eq
        obtain ⟨rfl, rfl⟩ := eq
        obtain ⟨z, bz, oz, hzm, rfl, hbl, k0, -⟩ := hat m (by omega)
        obtain ⟨gE, cE, hE⟩ := row_pos eb (by omega)
        subst hE
        obtain ⟨f0, hf0⟩ : ∃ f0, es[0]? = some f0 := ⟨_, List.getElem?_eq_getElem (by omega)⟩
        have ow : wb.ownsRow w2.heap.size 49 3 (.slice (some ⟨gE, 0, none⟩) (es).length cE) (es).length ((es).flatMap editC) := eb
        obtain ⟨⟨x1, fx1⟩, fx2⟩ := own_cell ow (j := 0) (by omega)
        have hst := ow.stored 0 (.string z.path)
        rw [flat_path hf0] at hst
        have hlo : w2.heap.size ≤ gE := (World.ownsRow.lt ow _ rfl).1
        have hbz : bz < w2.heap.size := hne bz rfl
        have sF : Sl 2 fileC (wb.setCell ⟨gE, 0, none⟩ (.string z.path)) (.slice (some ⟨bz, oz, none⟩) zs.length c) zs := (ob.sl fileC_len).grown hst.2 (Or.inr (by simp [Value.ownBlock]; omega))
        have sE : Own 3 editC 49 w2.heap.size (wb.setCell ⟨gE, 0, none⟩ (.string z.path)) (.slice (some ⟨gE, 0, none⟩) (es).length cE) ((es).set 0 ⟨z.path, f0.bytes, f0.gone⟩) := by unfold Own; rw [List.length_set]; exact hst.1
        have BF : Below w.heap.size w (wb.setCell ⟨gE, 0, none⟩ (.string z.path)) := rb.bel.setCell (p := ⟨gE, 0, none⟩) (Nat.le_trans (Nat.le_trans hr.bel.size hg2s) hlo) _
        have hsE : ∀ x ∈ (es).set 0 ⟨z.path, f0.bytes, f0.gone⟩, x.path.size ≤ 11 ∧ x.bytes.size ≤ 7 := fun x hx => by
          rcases List.mem_or_eq_of_mem_set hx with h | rfl
          · exact hshE x h
          · exact ⟨(hsh z (List.mem_of_getElem? hzm)).1, (hshE f0 (List.mem_of_getElem? hf0)).2⟩
        have HH := Lib.hid (And.intro sF (And.intro (sE.sl editC_len) BF))
        have hli : (0 : Int) < ((es).length : Int) := by omega
        clear sF sE BF hst ow eb ob ea oa gb hat
        go_wp2
        go_ret2
        exact ⟨_, _, zs, _, hl, hsh, by rw [List.length_set]; omega, hsE, rfl, HH.out.1, HH.out.2.1, HH.out.2.2⟩
      · have hyab : (ya == 0) = false := by simpa using hya0
        have HH := Lib.hid (And.intro (oa.sl fileC_len) (And.intro (ea.sl editC_len) ra.bel))
        clear oa ea o4 e4 hr4 ga hya0
        go_wp2
        go_ret2
        exact ⟨_, _, zs, es, hl, hsh, by omega, hshE, rfl, HH.out.1, HH.out.2.1, HH.out.2.2⟩
  · have hzi : ¬ (0 : Int) < (zs.length : Int) := by omega
    by_cases hy0 : y = 0
    · subst hy0
      go_wp2_with fail
      refine (anyPath_calls w g v1 bs1 (q3 + 1) 2 _ hr4 (by omega) (by omega) (by omega)).mono ?_
      rintro e w5 ⟨s5, q5, hs5, hq5, rfl, hr5, hg5⟩
      have o5 := own_grownSl o4 hlt hg5
      have e5 := own_grownSe e4 hl2 hg5
      have G5 := grown_trans G4 hg5
      go_wp2_with fail
      refine (l20Bytes_calls w g v1 bs1 q5 _ hr5 (by omega)).mono ?_
      rintro e w6 ⟨s6, q6, hs6, hq6, rfl, hr6, hg6⟩
      have o6 := own_grownSl o5 hlt hg6
      have e6 := own_grownSe e5 hl2 hg6
      have G6 := grown_trans G5 hg6
      go_wp2_with fail
      refine (pick_calls w g v1 bs1 q6 2 _ hr6 (by omega) (by omega) (by omega)).mono ?_
      rintro e w7 ⟨y7, hy7, rfl, hr7, hg7⟩
      have o7 := own_grownSl o6 hlt hg7
      have e7 := own_grownSe e6 hl2 hg7
      have G7 := grown_trans G6 hg7
      unfold Own at e7
      have z7 := G7.size
      clear o4 e4 o5 e5 o6 e6 hg5 hg6 hg7
      go_wp2_with (at_builtin; refine wpList_append_own _ rfl _ _ 47 rfl w2.heap.size 49 i0 _ 3 40 Tryd.underlying47 hi hz0 hz1 hz2 rfl (by decide) _ _ _ rfl (e7.alloc _) ⟨w7.heap.size, 0, none⟩ 1 1 [.string s5, .string s6, .bool (y7 == 0)] rfl rfl (news_new _ #[.string s5, .string s6, .bool (y7 == 0)] _ _ (by simp)) (by intro u hu; simp at hu; rcases hu with rfl | rfl | rfl <;> rfl) (by unfold maxLen; omega) (by omega) (by simp; omega) ?_; intro v8 w8 own8 hg8 _)
      have hnn := fun j e => (World.ownsRow.lt e7 j e).1
      have hr8 := (hr7.al _).grown hg8 (fun j e => by have := hnn j e; have := hr.bel.size; omega)
      have o8 : Own 2 fileC 55 w1.heap.size w8 (.slice A zs.length c) zs := (o7.below (al (below0 w7) _)).grown hg8 (by
        cases hub : (Value.slice A zs.length c).ownBlock with
        | none => exact Or.inl rfl
        | some k => exact Or.inr (fun e => by have h1 := hne k hub; have h2 := hnn k e.symm; omega))
      have e8 : Own 3 editC 49 w2.heap.size w8 v8 (es ++ [⟨s5, s6, y7 == 0⟩]) := by unfold Own; simpa [editC] using own8
      have hsh8 : ∀ x ∈ es ++ [(⟨s5, s6, y7 == 0⟩ : TEdit)], x.path.size ≤ 11 ∧ x.bytes.size ≤ 7 := fun x hx => by
        rcases List.mem_append.1 hx with h | h
        · exact hshE x h
        · simp at h; subst h; exact ⟨hs5, Nat.le_trans hs6 (by omega)⟩
      have hl8 : (es ++ [(⟨s5, s6, y7 == 0⟩ : TEdit)]).length ≤ 5 ∧ 1 ≤ (es ++ [(⟨s5, s6, y7 == 0⟩ : TEdit)]).length := by simp; omega
      clear own8 hg8 o7 e7
      generalize es ++ [(⟨s5, s6, y7 == 0⟩ : TEdit)] = fs at e8 hsh8 hl8
      obtain ⟨hl81, hl82⟩ := hl8
      have HH := Lib.hid (And.intro (o8.sl fileC_len) (And.intro (e8.sl editC_len) hr8.bel))
      clear o8 e8 hr8
      go_wp2
      go_ret2
      exact ⟨_, _, zs, fs, hl, hsh, by omega, hsh8, rfl, HH.out.1, HH.out.2.1, HH.out.2.2⟩
    · have hyb : (y == 0) = false := by simpa using hy0
      clear hy0
      have HH := Lib.hid (And.intro (o4.sl fileC_len) (And.intro (e4.sl editC_len) hr4.bel))
      clear o4 e4 hr4
      go_wp2
      go_ret2
      exact ⟨_, _, zs, es, hl, hsh, by omega, hshE, rfl, HH.out.1, HH.out.2.1, HH.out.2.2⟩
end Go.Proofs.YtkghhmjmfcnbnaaDoor
