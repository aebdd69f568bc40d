/- impl's ordered: the library's Sort and Compact by their contracts, then a copy. -/
import Derived.Test.YtkghhmjmfcnbnaaDoorDifL
import Derived.Test.YtkghhmjmfcnbnaaDoorStrH
import Derived.Test.YtkghhmjmfcnbnaaDoorCopyT
import Derived.Test.YtkghhmjmfcnbnaaDoorRowK
import Derived.Test.YtkghhmjmfcnbnaaDoorShelf
import Derived.Sort.OwnSorted
namespace Go.Proofs.YtkghhmjmfcnbnaaDoor
open Go.RowKit Go.Sort

theorem enc_toL (zs : List ByteArray) : (zs.map toL).map encStr = zs.flatMap strC := by
  rw [strC_flat, List.map_map]
  exact List.map_congr_left fun x _ => congrArg Value.string (mkB_toL x)
theorem enc_mkB (L : List By) : (L.map mkB).flatMap strC = L.map encStr := by
  rw [strC_flat, List.map_map]; rfl
theorem compact_len (L : List By) : (Lib.compact L).length ≤ L.length := by
  unfold Lib.compact Lib.compactUpTo
  rw [List.length_map]
  have := List.length_filter_le (Lib.keeps L.toArray) (List.range L.length)
  rw [List.length_range] at this
  exact this
theorem grow_none (w : World) : grow w #[] = w := by simp [grow]
/-- texts in order -/
def sortB (zs : List ByteArray) : List By := (zs.map toL).mergeSort fun x y => decide (x ≤ y)
theorem sortB_len (zs : List ByteArray) : (sortB zs).length = zs.length := by unfold sortB; rw [List.length_mergeSort, List.length_map]
theorem compact_sortB (zs : List ByteArray) : (Lib.compact (sortB zs)).map mkB = setB zs := by unfold sortB setB; rw [sorted_set]
theorem sort_calls (zs : List ByteArray) (base g cap : Nat) (w : World) (ho : Own 1 strC 9 base w (.slice (some ⟨g, 0, none⟩) zs.length cap) zs) (hn : zs.length ≤ 4194304) :
    Calls Tryd.prog 72 #[.slice (some ⟨g, 0, none⟩) zs.length cap] w fun e w' => e = .returned (.tuple #[]) ∧ Own 1 strC 9 base w' (.slice (some ⟨g, 0, none⟩) zs.length cap) ((sortB zs).map mkB) ∧ w.grownBy w' (some g) := by
  obtain ⟨cur, hbg, hgg, hnc, hcm, hcs, htk⟩ := own_cur (show w.ownsRow base 9 1 (.slice (some ⟨g, 0, none⟩) zs.length cap) zs.length (zs.flatMap strC) from ho)
  have hl : (zs.map toL).length = zs.length := List.length_map _
  have e1 : cur.toList.take (zs.map toL).length = (zs.map toL).map encStr := by rw [enc_toL, ← htk, hl, Nat.mul_one]
  have hS := Go.Proofs.Tryd.slices_Sort_string g 0 cap (zs.map toL) w (holds_of_block hgg e1) (Array.getElem?_eq_some_iff.1 hgg).1 (by rw [hl]; omega)
  rw [hl] at hS
  refine hS.mono ?_
  rintro e w' ⟨rfl, n, os, rfl⟩
  refine ⟨rfl, ?_, grownBy_sorted _⟩
  have h2 := ownsRow_sorted (n := n) (os := os) (ts := sortB zs) (ss := zs.map toL) (by rw [sortB_len, hl]) hbg hgg (by rw [hl]; exact hnc) hcm hcs
  unfold Own
  rw [enc_mkB, List.length_map, sortB_len]
  rw [hl] at h2
  exact h2
theorem compact_calls (L : List By) (base g cap : Nat) (w : World) (ho : Own 1 strC 9 base w (.slice (some ⟨g, 0, none⟩) L.length cap) (L.map mkB)) (hn : L.length ≤ 4194304) :
    Calls Tryd.prog 73 #[.slice (some ⟨g, 0, none⟩) L.length cap] w fun e w' => e = .returned (.slice (some ⟨g, 0, none⟩) (Lib.compact L).length cap) ∧ Own 1 strC 9 base w' (.slice (some ⟨g, 0, none⟩) (Lib.compact L).length cap) ((Lib.compact L).map mkB) ∧ w.grownBy w' (some g) := by
  have ho2 : w.ownsRow base 9 1 (.slice (some ⟨g, 0, none⟩) L.length cap) L.length (L.map encStr) := by
    unfold Own at ho
    rw [enc_mkB, List.length_map] at ho
    exact ho
  obtain ⟨cur, hbg, hgg, hnc, hcm, hcs, htk⟩ := own_cur ho2
  have hle := compact_len L
  have hS := Go.Proofs.Tryd.slices_Compact_string g 0 cap L w (holds_of_block hgg (by rw [Nat.mul_one] at htk; exact htk)) (by omega) hnc
  refine hS.mono ?_
  rintro e w' ⟨rfl, n, rfl⟩
  have hlen : (Lib.compact L ++ List.replicate (L.length - (Lib.compact L).length) []).length = L.length := by rw [List.length_append, List.length_replicate]; omega
  have h2 := ownsRow_sorted (n := n) (os := #[]) (ts := Lib.compact L ++ List.replicate (L.length - (Lib.compact L).length) []) (ss := L) hlen hbg hgg hnc hcm hcs
  have h3 := grownBy_sorted (w := w) (g := g) (n := n) (os := #[]) (Lib.compact L ++ List.replicate (L.length - (Lib.compact L).length) []).toArray
  rw [grow_none] at h2 h3
  refine ⟨rfl, ?_, h3⟩
  have h4 := own_shrink h2 hle
  unfold Own
  rw [enc_mkB, List.length_map]
  rw [Nat.mul_one, List.map_append, List.take_append_of_le_length (by rw [List.length_map]; exact Nat.le_refl _), List.take_of_length_le (by rw [List.length_map]; exact Nat.le_refl _)] at h4
  exact h4
set_option maxRecDepth 100000 in
set_option maxHeartbeats 1000000 in
theorem ordered_calls (v : Value) (zs : List ByteArray) (base : Nat) (w : World) (ho : Own 1 strC 9 base w v zs) (hn : zs.length ≤ 4194304) :
    Calls Tryd.prog 46 #[v] w fun e w' => ∃ v', e = .returned v' ∧ Own 1 strC 9 w.heap.size w' v' (setB zs) ∧ w.grownBy w' v.ownBlock := by
  obtain ⟨i0, hi, hz0, hz1, hz2⟩ := info_parts Tryd.infoStr
  rcases ho.2 with ⟨rfl, hz⟩ | ⟨g, cap, cur, rfl, hbg, hgg, hnc, hcm, -, -⟩
  · obtain rfl := List.eq_nil_of_length_eq_zero hz
    go_enter Tryd.func46, Tryd.ntmps46
    go_wp2_with fail
    refine (Go.Proofs.Tryd.slices_Sort_string_none none 0 _).mono ?_
    rintro e w1 ⟨rfl, rfl⟩
    go_wp2_with fail
    refine (Go.Proofs.Tryd.slices_Compact_string_empty none 0 _).mono ?_
    rintro e w2 ⟨rfl, rfl⟩
    go_wp2
    go_ret
    exact ⟨_, rfl, World.ownsRow_nil _ _ _ _, World.grownBy.refl _ _⟩
  · have hgw : g < w.heap.size := (Array.getElem?_eq_some_iff.1 hgg).1
    clear hgg
    have HS := Lib.hid (sort_calls zs base g cap w ho hn)
    have hsl := sortB_len zs
    have hle := compact_len (sortB zs)
    unfold maxLen at hcm
    go_enter Tryd.func46, Tryd.ntmps46
    go_wp2_with fail
    refine HS.out.mono ?_
    rintro e w1 ⟨rfl, ho1, hg1⟩
    rw [← hsl] at ho1
    have HC := Lib.hid (compact_calls (sortB zs) base g cap w1 ho1 (by omega))
    rw [hsl] at HC
    have z1 := hg1.size
    have HG1 := Lib.hid hg1
    clear ho1 hg1
    go_wp2_with fail
    refine HC.out.mono ?_
    rintro e w2 ⟨rfl, ho2, hg2⟩
    have z2 := hg2.size
    have hnew := news_sl strC_len (by omega) (ho2.sl strC_len)
    rw [compact_sortB] at ho2 hnew
    have hcl : (Lib.compact (sortB zs)).length = (setB zs).length := by rw [← compact_sortB, List.length_map]
    rw [hcl] at hle ⊢
    have HG2 := Lib.hid (grown_trans HG1.out hg2)
    have h1c : ∀ u ∈ (setB zs).flatMap strC, u.oneCell' = true := by rw [strC_flat]; exact one_str _
    have hfl : ((setB zs).flatMap strC).length = (setB zs).length * 1 := flat_len strC_len _
    generalize hys : setB zs = ys at hnew hle hcl h1c hfl ⊢
    clear ho2 hg2 ho HS HC
    go_wp2_with (at_builtin; refine wpList_append_own _ rfl _ _ 24 rfl w.heap.size 9 i0 _ 1 16 Tryd.underlying24 hi hz0 hz1 hz2 rfl (by decide) _ 0 [] rfl (World.ownsRow_nil _ _ _ _) ⟨g, 0, none⟩ ys.length cap (ys.flatMap strC) rfl hfl hnew h1c (by unfold maxLen; omega) (by omega) (by omega) ?_; intro v1 w3 hown3 hgrow3 _)
    go_ret
    have hg3 : w2.grownBy w3 none := hgrow3
    refine ⟨_, rfl, by rw [hys]; unfold Own; simpa using hown3, ?_⟩
    exact grown_trans HG2.out (grown_of_below (below_of_grown hg3) _)
end Go.Proofs.YtkghhmjmfcnbnaaDoor
