/- spec's l4Turn: one edit. -/
import Derived.Test.YtkghhmjmfcnbnaaDoorSortS
import Derived.Test.YtkghhmjmfcnbnaaDoorEditH
import Derived.Outline
import Derived.IntWalk
import Derived.OwnWalk
import Derived.Deep.RegionHeld3
import Derived.Deep.AppendLies
namespace Go.Proofs.YtkghhmjmfcnbnaaDoor
open Go.RowKit

/-- a call of l4Turn -/
def TurnPost (L : List TFile) (e : TEdit) (base : Nat) (w : World) (en : Ending) (w' : World) : Prop :=
  ((turn1 L e = none ∧ ∃ v', en = .returned (.tuple #[v', .bool false])) ∨ ∃ M v', turn1 L e = some M ∧ en = .returned (.tuple #[v', .bool true]) ∧ Own 2 fileC 55 base w' v' M) ∧ Below w.heap.size w w'
theorem turn1_n1 {L : List TFile} {e : TEdit} (hg : e.gone = true) (h : findI L e.path = -1) : turn1 L e = none := by unfold turn1; rw [if_pos hg, if_pos (.inl (by rw [h]; decide))]
theorem turn1_n2 {L : List TFile} {e : TEdit} (hg : e.gone = true) (h : ¬ toL e.bytes = []) : turn1 L e = none := by unfold turn1; rw [if_pos hg, if_pos (.inr h)]
theorem turn1_s1 {L : List TFile} {e : TEdit} {k : Nat} (hg : e.gone = true) (h : findI L e.path = (k : Nat)) (hb : toL e.bytes = []) : turn1 L e = some (L.take k ++ L.drop (k + 1)) := by
  unfold turn1
  rw [if_pos hg, h, if_neg, Int.toNat_natCast]
  rintro (h1 | h1)
  · omega
  · exact h1 hb
theorem turn1_s2 {L : List TFile} {e : TEdit} {k : Nat} (hg : e.gone = false) (h : findI L e.path = (k : Nat)) : turn1 L e = some (L.set k ⟨e.path, e.bytes⟩) := by
  unfold turn1
  rw [if_neg (by rw [hg]; simp), h, if_neg (by omega), Int.toNat_natCast]
theorem turn1_s3 {L : List TFile} {e : TEdit} (hg : e.gone = false) (h : findI L e.path = -1) : turn1 L e = some (insT ⟨e.path, e.bytes⟩ L) := by
  unfold turn1
  rw [if_neg (by rw [hg]; simp), h, if_pos (by decide)]
theorem flat_bytes {L : List TFile} {f : TFile} {p s : ByteArray} {k : Nat} (hz : L[k]? = some f) (hp : f.path = p) : (L.flatMap fileC).set (k * 2 + 1) (.string s) = (L.set k ⟨p, s⟩).flatMap fileC := by
  have hk := (List.getElem?_eq_some_iff.1 hz).1
  have h := flat_set2 (C := fileC) fileC_len (a := (⟨p, s⟩ : TFile)) (u := .string p) (v := .string s) hk rfl
  have h0 := flat_get (C := fileC) fileC_len (j := 0) hz rfl
  rw [Nat.add_zero, hp] at h0
  have h1 : (L.flatMap fileC).set (k * 2) (.string p) = L.flatMap fileC := by
    obtain ⟨hl, hv⟩ := List.getElem?_eq_some_iff.1 h0
    rw [← hv]
    exact List.set_getElem_self hl
  rw [h1] at h
  exact h
set_option maxRecDepth 100000 in
set_option maxHeartbeats 4000000 in
theorem l4Turn_calls (u : Value) (L : List TFile) (e : TEdit) (base : Nat) (w : World) (ho : Own 2 fileC 55 base w u L) (hb : base ≤ w.heap.size) (hr : RiseT L) (hn : L.length ≤ 1048000) :
    Calls Tryd.prog 66 #[u, .agg #[.string e.path, .string e.bytes, .bool e.gone]] w (TurnPost L e base w) := by
  obtain ⟨i0, hi, hz0, hz1, hz2⟩ := info_parts Tryd.infoFile
  obtain ⟨p, s, b⟩ := e
  have hB := al (below0 w) (.cells #[.string p, .string s, .bool b] 49)
  have hnew := heap_alloc_new w (.cells #[.string p, .string s, .bool b] 49)
  have o1 := ho.below hB
  have s1 := o1.sl fileC_len
  obtain ⟨A, c, rfl, hc, hlc, hat⟩ := file_z s1
  unfold maxLen at hc
  have hF := Lib.hid (l4Find_calls _ L p _ s1 (by omega))
  rcases findI_spec L p with ⟨h1, h2⟩ | ⟨k, f, hz, h1, h2⟩
  · rw [h1] at hF
    cases b
    · skip
      have HT := Lib.hid (turn1_s3 (L := L) (e := ⟨p, s, false⟩) rfl h1)
      have HSo : Hid (sortT (L ++ [⟨p, s⟩]) = insT ⟨p, s⟩ L) := by show _ = _; rw [sortT_snoc, sortT_rise hr]
      have hone : ∀ u ∈ [Value.string p, Value.string s], u.oneCell' = true := by intro u hu; simp at hu; rcases hu with rfl | rfl <;> rfl
      have hkC : ∀ w', Below ((w.alloc (.cells #[.string p, .string s, .bool false] 49))).heap.size (w.alloc (.cells #[.string p, .string s, .bool false] 49)) w' → (w'.cell? ⟨w.heap.size, 0, none⟩ = some (.string p) ∧ w'.cell? ⟨w.heap.size, 1, none⟩ = some (.string s)) := fun w' hb => by
        have hblk := (hb.block w.heap.size (by simp)).trans hnew
        exact ⟨by rw [cell_of_row _ _ 0 _ _ _ hblk]; rfl, by rw [cell_of_row _ _ 1 _ _ _ hblk]; rfl⟩
      have hsB : ∀ w', Below ((w.alloc (.cells #[.string p, .string s, .bool false] 49))).drew.heap.size ((w.alloc (.cells #[.string p, .string s, .bool false] 49))).drew w' → Sl 2 fileC w' (.slice A L.length c) L := fun w' hb => s1.below ((Below.refl _ _).drew.trans hb)
      have hszB : ((w.alloc (.cells #[.string p, .string s, .bool false] 49))).heap.size = w.heap.size + 1 := by simp
      clear hnew hat o1 ho s1
      go_enter Tryd.func66, Tryd.ntmps66
      go_wp2_with fail
      refine hF.out.mono ?_
      rintro e w1 ⟨rfl, rfl⟩
      go_wp2_with fail
      go_region_held3 (fun w' => w'.cell? ⟨w.heap.size, 0, none⟩ = some (.string p) ∧ w'.cell? ⟨w.heap.size, 1, none⟩ = some (.string s)) (first | exact hkC _ (Below.refl _ _) | exact hkC _ (Below.refl _ _).drew | exact hkC _ (al (below0 _) _) | exact hkC _ (al (below0 _) _).drew | exact hkC _ (below_up (Below.refl _ _).drew b4) | exact hkC _ (al (below_up (Below.refl _ _).drew b4) _) | exact hkC _ (below_up (al (below0 _) _).drew b4) | exact hkC _ B6 | exact hkC _ B5)
        (first | (go_at_call 65; refine (l4Copy_rowN _ L L.length _ ?_ (by omega) rfl).mono ?_; (first | exact hsB _ (Below.refl _ _) | exact hsB _ (al (below0 _) _)); rintro e w4 ⟨g4, cap4, rfl, own4', b4⟩; have own4 : w4.ownsRow ((w.alloc (.cells #[.string p, .string s, .bool false] 49))).heap.size 55 2 (.slice (some ⟨g4, 0, none⟩) L.length cap4) L.length (L.flatMap fileC) := row_mono own4' (by simp)) | (go_at_call 85; refine (l4Sorted_calls _ (L ++ [⟨p, s⟩]) _ (Own.sl (base := ((w.alloc (.cells #[.string p, .string s, .bool false] 49))).heap.size) (e := 55) fileC_len (by unfold Own; simpa [fileC] using own5)) (by rw [List.length_append]; simp; omega)).mono ?_; rintro e w6 ⟨v6, rfl, own6, b6⟩; have B6 := below_up B5 b6) | (refine step_append_ownT (by rfl) _ _ 26 (by rfl) ((w.alloc (.cells #[.string p, .string s, .bool false] 49))).heap.size 55 i0 _ 2 32 Tryd.underlying26 hi hz0 hz1 hz2 rfl (by decide) _ _ _ (by rfl) (World.ownsRow.alloc own4 _) ⟨w4.heap.size, 0, none⟩ 1 1 [.string p, .string s] (by rfl) rfl (news_new _ #[.string p, .string s] _ _ rfl) hone (by unfold maxLen; omega) (by omega) ((al b4 (.cells #[.string p, .string s] 55)).size) ?_; intro v5 w5 own5 hg5 _; have B5 := app_step (W := (w.alloc (.cells #[.string p, .string s, .bool false] 49))) (below_up (Below.refl ((w.alloc (.cells #[.string p, .string s, .bool false] 49))).heap.size (w.alloc (.cells #[.string p, .string s, .bool false] 49))).drew b4) own4 (al (below0 w4) (.cells #[.string p, .string s] 55)) hg5) | (refine step_append_ownT (by rfl) _ _ 26 (by rfl) ((w.alloc (.cells #[.string p, .string s, .bool false] 49))).heap.size 55 i0 _ 2 32 Tryd.underlying26 hi hz0 hz1 hz2 rfl (by decide) _ _ _ (by rfl) own4 ⟨w.heap.size + 1, 0, none⟩ 1 1 [.string p, .string s] (by rfl) rfl (by have hh := (b4.block ((w.alloc (.cells #[.string p, .string s, .bool false] 49))).heap.size (by simp)).trans (heap_alloc_new ((w.alloc (.cells #[.string p, .string s, .bool false] 49))) (.cells #[.string p, .string s] 55)); rw [hszB] at hh; exact World.news_of_block (cs := #[.string p, .string s]) hh) hone (by unfold maxLen; omega) (by omega) ((below_up (al (below0 (w.alloc (.cells #[.string p, .string s, .bool false] 49))) (.cells #[.string p, .string s] 55)).drew b4).size) ?_; intro v5 w5 own5 hg5 _; have B5 := app_step (W := (w.alloc (.cells #[.string p, .string s, .bool false] 49))) (below_up (al (below0 (w.alloc (.cells #[.string p, .string s, .bool false] 49))) (.cells #[.string p, .string s] 55)).drew b4) own4 (below0 w4) hg5))
      all_goals (
        rw [HSo.out] at own6
        have own7 := Own.mono own6 (Nat.le_trans hb (Nat.le_trans hB.size B5.size))
        have BBx := below_up hB B6
        have H7 := Lib.hid (And.intro own7 BBx)
        clear own6 own7 BBx B6 b6 own5 hg5 B5 own4 own4' b4 hkC hsB
        go_wp2
        go_ret2
        exact ⟨.inr ⟨_, _, HT.out, rfl, H7.out.1⟩, H7.out.2⟩)
    · skip
      have HT := Lib.hid (turn1_n1 (L := L) (e := ⟨p, s, true⟩) rfl h1)
      clear hnew hat o1 ho s1
      go_enter Tryd.func66, Tryd.ntmps66
      go_wp2_with fail
      refine hF.out.mono ?_
      rintro e w1 ⟨rfl, rfl⟩
      go_wp2
      go_ret2
      exact ⟨.inl ⟨HT.out, _, rfl⟩, hB⟩
  · rw [h1] at hF
    have hkl := (List.getElem?_eq_some_iff.1 hz).1
    cases b
    · skip
      have HT := Lib.hid (turn1_s2 (L := L) (e := ⟨p, s, false⟩) rfl h1)
      have HC := Lib.hid (l4Copy_rowN _ L L.length _ s1 (by omega) rfl)
      have HFl := Lib.hid (flat_bytes (s := s) hz h2)
      have q2 : (k : Int) < (L.length : Int) := by omega
      have q1 : (0 : Int) ≤ (k : Int) := Int.natCast_nonneg _
      clear hat ho s1 o1
      go_enter Tryd.func66, Tryd.ntmps66
      go_wp2_with fail
      refine hF.out.mono ?_
      rintro e w1 ⟨rfl, rfl⟩
      go_wp2_with fail
      refine HC.out.mono ?_
      rintro e w2 ⟨g2, cap2, rfl, own2, b2⟩
      have hblk := (b2.block w.heap.size (by simp)).trans hnew
      have e1 : w2.cell? ⟨w.heap.size, 1, none⟩ = some (.string s) := by rw [cell_of_row _ _ 1 _ _ _ hblk]; rfl
      obtain ⟨⟨x1, f1⟩, f2⟩ := own_cell own2 (j := k * 2 + 1) (by omega)
      have hst := own2.stored (k * 2 + 1) (.string s)
      rw [HFl.out] at hst
      have hB2 := below_up hB b2
      have hlo := (World.ownsRow.lt own2 _ rfl).1
      have H7 : Hid (Own 2 fileC 55 base (w2.setCell ⟨g2, k * 2 + 1, none⟩ (.string s)) (.slice (some ⟨g2, 0, none⟩) L.length cap2) (L.set k ⟨p, s⟩) ∧ Below w.heap.size w (w2.setCell ⟨g2, k * 2 + 1, none⟩ (.string s))) :=
        ⟨Own.mono (by unfold Own; rw [List.length_set]; exact hst.1) (Nat.le_trans hb hB.size), hB2.setCell (p := ⟨g2, k * 2 + 1, none⟩) (Nat.le_trans hB.size hlo) _⟩
      clear hst own2 b2 hB2 hblk hnew
      go_wp2
      go_ret2
      exact ⟨.inr ⟨_, _, HT.out, rfl, H7.out.1⟩, H7.out.2⟩
    · by_cases hs : toL s = []
      · skip
        obtain ⟨g, c', e⟩ := row_pos (show w.ownsRow base 55 2 (.slice A L.length c) L.length (L.flatMap fileC) from ho) (by omega)
        simp only [Value.slice.injEq, true_and] at e
        obtain ⟨rfl, rfl⟩ := e
        have HT := Lib.hid (turn1_s1 (L := L) (e := ⟨p, s, true⟩) rfl h1 hs)
        have t1 := empty_yes hs
        have hkt : (L.take k).length = k := by rw [List.length_take]; omega
        have HC := Lib.hid (l4Copy_rowN _ (L.take k) k _ (sl_take s1 k (by omega)) (by omega) hkt)
        have sD := sl_drop0T s1 (k + 1) (by omega)
        have hfl : ((L.drop (k + 1)).flatMap fileC).length = (L.length - (k + 1)) * 2 := by rw [flat_len fileC_len, List.length_drop]
        have hs1 := Lib.hid s1
        have q1 : (0 : Int) ≤ (k : Int) := Int.natCast_nonneg _
        have q2 : (k : Int) < (L.length : Int) := by omega
        have q3 : (k : Int) ≤ (c : Int) := by omega
        have q8 : (k : Int) ≤ (k : Int) + 1 := by omega
        have q4 : IntKind.i64.wrap ((k : Int) + 1) = (k : Int) + 1 := IntWalk.i64_in _ (by omega)
        have q5 : (0 : Int) ≤ (k : Int) + 1 := by omega
        have q6 : (k : Int) + 1 ≤ (L.length : Int) := by omega
        have q7 : ((k : Int) + 1).toNat = k + 1 := by omega
        clear hnew hat o1 ho s1 hs
        have hT : ∀ w', Below ((w.alloc (.cells #[.string p, .string s, .bool true] 49))).heap.size ((w.alloc (.cells #[.string p, .string s, .bool true] 49))) w' → Sl 2 fileC w' (.slice (some ⟨g, 0, none⟩) k c) (L.take k) := fun w' hb => (sl_take hs1.out k (by omega)).below hb
        by_cases hck : c = k + 1
        · rw [if_pos hck] at sD
          subst hck
          have hl0 : L.length - (k + 1) = 0 := by omega
          rw [hl0] at hfl
          go_enter Tryd.func66, Tryd.ntmps66
          go_wp2_with fail
          refine hF.out.mono ?_
          rintro e w1 ⟨rfl, rfl⟩
          go_wp2_with fail
          go_region_held3 (fun _ => True) (trivial)
            (first | (go_at_call 65; refine (l4Copy_rowN _ (L.take k) k _ ?_ (by omega) hkt).mono ?_; (first | exact hT _ (Below.refl _ _) | exact hT _ (Below.refl _ _).drew); rintro e w2 ⟨g2, cap2, rfl, own2', b2⟩; have own2 : w2.ownsRow ((w.alloc (.cells #[.string p, .string s, .bool true] 49))).heap.size 55 2 (.slice (some ⟨g2, 0, none⟩) k cap2) k ((L.take k).flatMap fileC) := row_mono own2' (by first | exact Nat.le_refl _ | simp); have bb2 : Below ((w.alloc (.cells #[.string p, .string s, .bool true] 49))).heap.size ((w.alloc (.cells #[.string p, .string s, .bool true] 49))) w2 := (by first | exact b2 | exact below_up (Below.refl _ _).drew b2); have hnews := news_sl fileC_len (by decide) (sD.below bb2)) | (refine step_append_ownT (by rfl) _ _ 26 (by rfl) ((w.alloc (.cells #[.string p, .string s, .bool true] 49))).heap.size 55 i0 _ 2 32 Tryd.underlying26 hi hz0 hz1 hz2 rfl (by decide) _ _ _ (by rfl) own2 ⟨g, 0, none⟩ 0 0 ((L.drop (k + 1)).flatMap fileC) (by rfl) hfl hnews (one_file _) (by unfold maxLen; omega) (by omega) (bb2.size) ?_; intro v3 w3 own3 hg3 _))
          all_goals (
            have B3 := app_step (W := w) (below_up hB bb2) (row_mono own2 hB.size) (below0 _) hg3
            have own7 : Own 2 fileC 55 base w3 v3 (L.take k ++ L.drop (k + 1)) := by
              refine Own.mono (base := ((w.alloc (.cells #[.string p, .string s, .bool true] 49))).heap.size) ?_ (Nat.le_trans hb hB.size)
              unfold Own
              rw [List.length_append, hkt, List.length_drop, hl0, List.flatMap_append]
              exact own3
            have H7 := Lib.hid (And.intro own7 B3)
            clear own7 B3 own3 hg3 own2 own2' b2 bb2 hnews
            go_wp2
            go_ret2
            exact ⟨.inr ⟨_, _, HT.out, rfl, H7.out.1⟩, H7.out.2⟩)
        · rw [if_neg hck] at sD
          go_enter Tryd.func66, Tryd.ntmps66
          go_wp2_with fail
          refine hF.out.mono ?_
          rintro e w1 ⟨rfl, rfl⟩
          go_wp2_with fail
          go_region_held3 (fun _ => True) (trivial)
            (first | (go_at_call 65; refine (l4Copy_rowN _ (L.take k) k _ ?_ (by omega) hkt).mono ?_; (first | exact hT _ (Below.refl _ _) | exact hT _ (Below.refl _ _).drew); rintro e w2 ⟨g2, cap2, rfl, own2', b2⟩; have own2 : w2.ownsRow ((w.alloc (.cells #[.string p, .string s, .bool true] 49))).heap.size 55 2 (.slice (some ⟨g2, 0, none⟩) k cap2) k ((L.take k).flatMap fileC) := row_mono own2' (by first | exact Nat.le_refl _ | simp); have bb2 : Below ((w.alloc (.cells #[.string p, .string s, .bool true] 49))).heap.size ((w.alloc (.cells #[.string p, .string s, .bool true] 49))) w2 := (by first | exact b2 | exact below_up (Below.refl _ _).drew b2); have hnews := news_sl fileC_len (by decide) (sD.below bb2)) | (refine step_append_ownT (by rfl) _ _ 26 (by rfl) ((w.alloc (.cells #[.string p, .string s, .bool true] 49))).heap.size 55 i0 _ 2 32 Tryd.underlying26 hi hz0 hz1 hz2 rfl (by decide) _ _ _ (by rfl) own2 ⟨g, (k + 1) * 2, none⟩ (L.length - (k + 1)) (c - (k + 1)) ((L.drop (k + 1)).flatMap fileC) (by rfl) hfl hnews (one_file _) (by unfold maxLen; omega) (by omega) (bb2.size) ?_; intro v3 w3 own3 hg3 _))
          all_goals (
            have B3 := app_step (W := w) (below_up hB bb2) (row_mono own2 hB.size) (below0 _) hg3
            have own7 : Own 2 fileC 55 base w3 v3 (L.take k ++ L.drop (k + 1)) := by
              refine Own.mono (base := ((w.alloc (.cells #[.string p, .string s, .bool true] 49))).heap.size) ?_ (Nat.le_trans hb hB.size)
              unfold Own
              rw [List.length_append, hkt, List.length_drop, List.flatMap_append]
              exact own3
            have H7 := Lib.hid (And.intro own7 B3)
            clear own7 B3 own3 hg3 own2 own2' b2 bb2 hnews
            go_wp2
            go_ret2
            exact ⟨.inr ⟨_, _, HT.out, rfl, H7.out.1⟩, H7.out.2⟩)
      · skip
        have HT := Lib.hid (turn1_n2 (L := L) (e := ⟨p, s, true⟩) rfl hs)
        have t1 := empty_no hs
        clear hnew hat o1 ho s1 hs
        go_enter Tryd.func66, Tryd.ntmps66
        go_wp2_with fail
        refine hF.out.mono ?_
        rintro e w1 ⟨rfl, rfl⟩
        go_wp2
        go_ret2
        exact ⟨.inl ⟨HT.out, _, rfl⟩, hB⟩
end Go.Proofs.YtkghhmjmfcnbnaaDoor
