/- slices.Delete at files. -/
import Derived.Test.YtkghhmjmfcnbnaaDoorCopyT
import Derived.Test.YtkghhmjmfcnbnaaDoorRowK
import Derived.Test.YtkghhmjmfcnbnaaDoorSortS
import Derived.IntWalk
import Derived.OwnWalk
import Derived.Deep.RegionHeld3
namespace Go.Proofs.YtkghhmjmfcnbnaaDoor
open Go.RowKit

theorem run_clear_rowT {P : Program} {w : World} {base n cap size g a c : Nat} {t e ty : TypeId} {xs : List Value} (z : Value) (ht : P.underlying t = some (.slice e)) (hv : ∀ w, (zeroValue e).run P w = .ok z w) (hz : z.cells.size = size) (hs : 0 < size)
    (h1 : ∀ u ∈ z.cells.toList, u.oneCell' = true) (hown : w.ownsRow base e size (.slice (some ⟨g, 0, none⟩) n cap) n xs) (ha : a < n) :
    ∃ w', (Builtin.clear_ #[t] ty #[.slice (some ⟨g, a * size, none⟩) (n - a) c]).run P w = .ok (.tuple #[]) w' ∧ w'.ownsRow base e size (.slice (some ⟨g, 0, none⟩) a cap) a (xs.take (a * size)) ∧ w.grownBy w' (some g) := by
  obtain ⟨hl, ⟨h, _⟩ | ⟨g', cap', cur, e1, hb, hg, hnc, hcm, hcs, htk⟩⟩ := hown
  · cases h
  · simp only [Value.slice.injEq, Option.some.injEq, Addr.mk.injEq, and_true, true_and] at e1
    obtain ⟨rfl, rfl⟩ := e1
    have hzl : (Builtin.zeroCells z.cells (n - a)).toList.length = (n - a) * size := by simp [Builtin.zeroCells, hz]
    have hms : a * size + (n - a) * size = n * size := by rw [← Nat.add_mul]; congr 1; omega
    have hcn : n * size ≤ cap * size := Nat.mul_le_mul_right _ hnc
    have has : a * size ≤ n * size := Nat.mul_le_mul_right _ (by omega)
    have hmac : min a cap = a := Nat.min_eq_left (by omega)
    have hone : ∀ v ∈ (Builtin.zeroCells z.cells (n - a)).toList, v.oneCell' = true := by
      intro v hv'
      simp only [Builtin.zeroCells, Array.toList_map, List.mem_map] at hv'
      obtain ⟨i, _, rfl⟩ := hv'
      have hi : i % z.cells.size < z.cells.size := Nat.mod_lt _ (by omega)
      rw [getElem!_pos z.cells _ hi]
      exact h1 _ (by simp)
    have hst := run_storeCells_at (P := P) g (a * size) e (Builtin.zeroCells z.cells (n - a)).toList 0 cur w hg (by rw [hzl, hcs]; omega) hone
    refine ⟨w.setRow g (cur.toList.take (a * size + 0) ++ (Builtin.zeroCells z.cells (n - a)).toList ++ cur.toList.drop (a * size + 0 + (Builtin.zeroCells z.cells (n - a)).toList.length)).toArray, ?_, ?_, ⟨rfl, rfl, rfl, by simp, fun k _ hr => setRow_other w g k _ (fun e => hr (by rw [e]))⟩⟩
    · obtain ⟨m, hm⟩ : ∃ m, n - a = m + 1 := ⟨n - a - 1, by omega⟩
      rw [hm] at hst ⊢
      simp [Builtin.clear_, run_underlying ht, hv, hst]
    · refine ⟨by rw [List.length_take, hl]; omega, .inr ⟨g, cap, _, rfl, hb, setRow_heap w g cur _ e (0, 0) hg, by omega, hcm, ?_, ?_⟩⟩
      · simp [hzl, hcs, hmac]; omega
      · rw [← htk]
        simp [List.take_take, Nat.min_eq_left has, hcs, hmac]

/-- append within the capacity, at a step of a region that draws its order -/
theorem step_append_fitsT {P : Program} (w : World) {ops : Array Oper} {o : Oper} {a : Act} {K : Act → World → Prop} {Q : Exit → Act → World → Prop} {E : Prop}
    (hgd : o.guard = none) (s x : Operand) (t : TypeId) (hop : o.op = Op.call { callee := Callee.builtin Builtin.append, args := #[s, x], argTypes := #[t, t] })
    (base : Nat) (e : TypeId) (i : TypeInfo) (size : Nat) (h1 : P.underlying t = some (.slice e)) (h2 : P.info? e = some i) (h4 : i.size = size)
    (g k cap : Nat) (xs : List Value) (hs : a.eval s = .slice (some ⟨g, 0, none⟩) k cap) (hown : w.ownsRow base e size (.slice (some ⟨g, 0, none⟩) k cap) k xs) (ad : Addr) (m c : Nat) (news : List Value) (hx : a.eval x = .slice (some ad) m c) (hn : news.length = m * size)
    (hc : ∀ j u, news[j]? = some u → w.cell? (ad.add j) = some u) (h1c : ∀ u ∈ news, u.oneCell' = true) (b1 : k + m ≤ cap)
    (hK : ∀ w', w'.ownsRow base e size (.slice (some ⟨g, 0, none⟩) (k + m) cap) (k + m) (xs ++ news) → w.grownBy w' (some g) → K (a.put o.dst (.slice (some ⟨g, 0, none⟩) (k + m) cap)) w') :
    if Region.wanted o (yielded ops a.tmps) = true then Oper.wp P o a w K Q else E := by
  have hw : Region.wanted o (yielded ops a.tmps) = true := by simp [Region.wanted, hgd]
  rw [if_pos hw]
  obtain ⟨w', hrun, r1, r2⟩ := run_append_fits (P := P) w base t o.type e i size h1 h2 h4 g k cap xs hown ad m c news hn hc h1c b1
  unfold Oper.wp
  simp [execOp, hop, resolve, invoke, builtin, hs, hx, hrun, Result.andThen]
  exact hK w' r1 r2

set_option maxRecDepth 100000 in
set_option maxHeartbeats 4000000 in
theorem delete_calls (zs : List TFile) (base g cap k n1 : Nat) (w : World) (hl : zs.length = n1 + 1) (ho : w.ownsRow base 55 2 (.slice (some ⟨g, 0, none⟩) (n1 + 1) cap) (n1 + 1) (zs.flatMap fileC)) (hk : k < n1 + 1) (hn : zs.length ≤ 1048576) :
    Calls Tryd.prog 61 #[.slice (some ⟨g, 0, none⟩) (n1 + 1) cap, .int .i64 (k : Int), .int .i64 ((k : Int) + 1)] w fun e w' => ∃ v', e = .returned v' ∧ Own 2 fileC 55 base w' v' (zs.take k ++ zs.drop (k + 1)) ∧ w.grownBy w' (some g) := by
  obtain ⟨i0, hi, hz0, hz1, hz2⟩ := info_parts Tryd.infoFile
  obtain ⟨cur, hbg, hgg, hnc, hcm, hcs, -⟩ := own_cur ho
  unfold maxLen at hcm
  have hown := own_shrink ho (m := k) (by omega)
  rw [flat_takeK fileC_len] at hown
  have hsl : Sl 2 fileC w (.slice (some ⟨g, 0, none⟩) (n1 + 1) cap) zs := Own.sl (base := base) (e := 55) fileC_len (by unfold Own; rw [hl]; exact ho)
  have sD := sl_drop0T hsl (k + 1) (by omega)
  have q1 : (0 : Int) ≤ (k : Int) := Int.natCast_nonneg _
  have q2 : (k : Int) < (n1 : Int) + 1 := by omega
  have q3 : (k : Int) ≤ (cap : Int) := by omega
  have q4 : ((k : Int) == (k : Int) + 1) = false := beq_eq_false_iff_ne.2 (by omega)
  have q5 : (0 : Int) ≤ (k : Int) + 1 := by omega
  have q6 : (k : Int) + 1 ≤ (n1 : Int) + 1 := by omega
  have q7 : ((k : Int) + 1).toNat = k + 1 := by omega
  have q8 : (k : Int) ≤ (k : Int) + 1 := by omega
  clear ho hgg hcs hsl
  by_cases hck : cap = k + 1
  · rw [if_pos hck] at sD
    obtain rfl : n1 = k := by omega
    have hd : zs.drop (n1 + 1) = [] := List.drop_of_length_le (by omega)
    have hnews : ∀ j u, ([] : List Value)[j]? = some u → w.cell? ((⟨g, 0, none⟩ : Addr).add j) = some u := fun j u h => by simp at h
    have hfl : ([] : List Value).length = 0 * 2 := rfl
    subst hck
    go_enter Tryd.func61, Tryd.ntmps61
    go_wp2_with fail
    go_region_held3 (fun _ => True) (trivial)
      (first | (refine step_append_fitsT _ (by rfl) _ _ 26 (by rfl) base 55 i0 2 Tryd.underlying26 hi hz1 g n1 (n1 + 1) _ (by rfl) hown ⟨g, 0, none⟩ 0 0 ([] : List Value) (by rfl) hfl hnews (by intro u hu; simp at hu) (by omega) ?_; intro w1 own1 hg1) | fail)
    have own2 : w1.ownsRow base 55 2 (.slice (some ⟨g, 0, none⟩) n1 (n1 + 1)) n1 ((zs.take n1 ++ zs.drop (n1 + 1)).flatMap fileC) := by
      have e : n1 + 0 = n1 := by omega
      rw [e] at own1
      rw [hd]
      simpa using own1
    obtain ⟨ys, own3, hys⟩ := own_stretch own2 (m := n1 + 1) (by omega) hnc
    obtain ⟨w2, hrun, own4, hg4⟩ := run_clear_rowT (P := Tryd.prog) (t := 26) (ty := 0) (size := 2) (c := 1) (.agg #[.string ByteArray.empty, .string ByteArray.empty]) Tryd.underlying26 (fun w => by rfl) rfl (by omega) (by intro u hu; simp [Value.cells] at hu; rcases hu with rfl | rfl <;> rfl) own3 (show n1 < n1 + 1 by omega)
    rw [hys] at own4
    rw [Nat.add_sub_cancel_left] at hrun
    have r1 : (n1 : Int) ≤ (n1 : Int) + 1 := by omega
    have r2 : (0 : Int) ≤ (n1 : Int) := Int.natCast_nonneg _
    have r3 : (n1 : Int) + 1 ≤ (n1 : Int) + 1 := by omega
    have r4 : ¬ (n1 + 1 = n1) := by omega
    have H7 : Hid (Own 2 fileC 55 base w2 (.slice (some ⟨g, 0, none⟩) n1 (n1 + 1)) (zs.take n1 ++ zs.drop (n1 + 1)) ∧ w.grownBy w2 (some g)) := by
      refine ⟨?_, grown_trans (by first | exact hg1 | exact grown_trans (grown_of_below (Below.refl _ _).drew _) hg1) hg4⟩
      unfold Own
      have e : (zs.take n1 ++ zs.drop (n1 + 1)).length = n1 := by rw [List.length_append, List.length_take, List.length_drop]; omega
      rw [e]
      exact own4
    clear own1 own2 own3 own4 hg1 hg4 hys hnews hown
    go_wp2_with fail
    go_ret
    exact ⟨_, rfl, H7.out.1, H7.out.2⟩
  · rw [if_neg hck] at sD
    have hnews := news_sl fileC_len (by decide) sD
    have hfl : ((zs.drop (k + 1)).flatMap fileC).length = (n1 - k) * 2 := by rw [flat_len fileC_len, List.length_drop, hl]; omega
    have q9 : k + (n1 - k) = n1 := by omega
    go_enter Tryd.func61, Tryd.ntmps61
    go_wp2_with fail
    go_region_held3 (fun _ => True) (trivial)
      (first | (refine step_append_fitsT _ (by rfl) _ _ 26 (by rfl) base 55 i0 2 Tryd.underlying26 hi hz1 g k cap _ (by rfl) hown ⟨g, (k + 1) * 2, none⟩ (n1 - k) (cap - (k + 1)) ((zs.drop (k + 1)).flatMap fileC) (by rfl) hfl hnews (one_file _) (by omega) ?_; intro w1 own1 hg1) | fail)
    have own2 : w1.ownsRow base 55 2 (.slice (some ⟨g, 0, none⟩) n1 cap) n1 ((zs.take k ++ zs.drop (k + 1)).flatMap fileC) := by
      have e : k + (n1 - k) = n1 := by omega
      rw [e] at own1
      rw [List.flatMap_append]
      exact own1
    obtain ⟨ys, own3, hys⟩ := own_stretch own2 (m := n1 + 1) (by omega) hnc
    obtain ⟨w2, hrun, own4, hg4⟩ := run_clear_rowT (P := Tryd.prog) (t := 26) (ty := 0) (size := 2) (c := cap - n1) (.agg #[.string ByteArray.empty, .string ByteArray.empty]) Tryd.underlying26 (fun w => by rfl) rfl (by omega) (by intro u hu; simp [Value.cells] at hu; rcases hu with rfl | rfl <;> rfl) own3 (show n1 < n1 + 1 by omega)
    rw [hys] at own4
    rw [Nat.add_sub_cancel_left] at hrun
    have r1 : (n1 : Int) ≤ (n1 : Int) + 1 := by omega
    have r2 : (0 : Int) ≤ (n1 : Int) := Int.natCast_nonneg _
    have r3 : (n1 : Int) + 1 ≤ (cap : Int) := by omega
    have r4 : ¬ (cap = n1) := by omega
    have H7 : Hid (Own 2 fileC 55 base w2 (.slice (some ⟨g, 0, none⟩) n1 cap) (zs.take k ++ zs.drop (k + 1)) ∧ w.grownBy w2 (some g)) := by
      refine ⟨?_, grown_trans (by first | exact hg1 | exact grown_trans (grown_of_below (Below.refl _ _).drew _) hg1) hg4⟩
      unfold Own
      have e : (zs.take k ++ zs.drop (k + 1)).length = n1 := by rw [List.length_append, List.length_take, List.length_drop]; omega
      rw [e]
      exact own4
    clear own1 own2 own3 own4 hg1 hg4 hys hnews hown
    go_wp2_with fail
    go_ret
    exact ⟨_, rfl, H7.out.1, H7.out.2⟩
end Go.Proofs.YtkghhmjmfcnbnaaDoor
