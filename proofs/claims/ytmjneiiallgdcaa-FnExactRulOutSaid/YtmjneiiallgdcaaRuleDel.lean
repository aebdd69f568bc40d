/- slices.DeleteFunc at rules. -/
import Derived.Test.YtmjneiiallgdcaaRuleOutG
namespace Go.Proofs.Ytmjneiiallgdcaa
open Go.RowKit

theorem rule_cells {w : World} {b n c k : Nat} {zs : List TRule} {z : TRule} (h : Sl 4 ruleC w (.slice (some ⟨b, 0, none⟩) n c) zs) (hz : zs[k]? = some z) :
    w.cell? ⟨b, k * 4, none⟩ = some (.int .i64 z.user) ∧ w.cell? ⟨b, k * 4 + 1, none⟩ = some (.string z.ref) ∧ w.cell? ⟨b, k * 4 + 2, none⟩ = some (.string z.path) ∧ w.cell? ⟨b, k * 4 + 3, none⟩ = some (.bool z.write) := by
  obtain ⟨A', c', e, h1, h2, h3⟩ := h
  simp only [Value.slice.injEq] at e
  obtain ⟨rfl, rfl, rfl⟩ := e
  obtain ⟨b', off, e2, hb, hat⟩ := h3 _ _ hz
  simp only [Option.some.injEq, Addr.mk.injEq, and_true] at e2
  obtain ⟨rfl, rfl⟩ := e2
  have a0 := hat 0 _ rfl
  have a1 := hat 1 _ rfl
  have a2 := hat 2 _ rfl
  have a3 := hat 3 _ rfl
  simp only [Nat.zero_add, Nat.add_zero] at a0 a1 a2 a3
  exact ⟨a0, a1, a2, a3⟩
theorem RBox.grown {w w' : World} {g : Nat} {row : Option Nat} {r : TRule} (h : RBox w g r) (hg : w.grownBy w' row) (hn : some g ≠ row) : RBox w' g r := by
  have hc : ∀ o, w'.cell? ⟨g, o, none⟩ = w.cell? ⟨g, o, none⟩ := fun o => by simp only [World.cell?]; rw [hg.block g h.1 hn]
  exact ⟨Nat.lt_of_lt_of_le h.1 hg.size, (hc 0).trans h.2.1, (hc 1).trans h.2.2.1, (hc 2).trans h.2.2.2.1, (hc 3).trans h.2.2.2.2⟩
/-- how far the deletion is: the first a are what is kept of the first b, the rest from b on is as it was -/
def DelAt (zs ys : List TRule) (r : TRule) (a b : Nat) : Prop := a < b ∧ b ≤ zs.length ∧ ys.length = zs.length ∧ ys.take a = ruleNot r (zs.take b) ∧ ys.drop b = zs.drop b
theorem DelAt.get {zs ys : List TRule} {r : TRule} {a b : Nat} (h : DelAt zs ys r a b) (hb : b < zs.length) : ∃ z, zs[b]? = some z ∧ ys[b]? = some z := by
  obtain ⟨_, _, h1, _, h2⟩ := h
  refine ⟨zs[b], List.getElem?_eq_getElem hb, ?_⟩
  have := congrArg (fun l => l[0]?) h2
  simpa [List.getElem?_drop, hb, h1] using this
theorem DelAt.drop1 {zs ys : List TRule} {r z : TRule} {a b : Nat} (h : DelAt zs ys r a b) (hz : zs[b]? = some z) (hx : ruleEq z r = true) : DelAt zs ys r a (b + 1) := by
  obtain ⟨h0, h1, h2, h3, h4⟩ := h
  have hb := (List.getElem?_eq_some_iff.1 hz).1
  refine ⟨by omega, hb, h2, by rw [ruleNot_drop hz hx]; exact h3, ?_⟩
  have := congrArg (List.drop 1) h4
  simpa [List.drop_drop, Nat.add_comm] using this
theorem DelAt.keep1 {zs ys : List TRule} {r z : TRule} {a b : Nat} (h : DelAt zs ys r a b) (hz : zs[b]? = some z) (hx : ruleEq z r = false) : DelAt zs (ys.set a z) r (a + 1) (b + 1) := by
  obtain ⟨h0, h1, h2, h3, h4⟩ := h
  have hb := (List.getElem?_eq_some_iff.1 hz).1
  refine ⟨by omega, hb, by simpa using h2, ?_, ?_⟩
  · rw [ruleNot_keep hz hx, ← h3, List.take_set, take_one (a := ys[a]'(by omega)) (List.getElem?_eq_getElem (by omega)), List.set_append_right _ _ (by simp; omega)]
    simp [Nat.min_eq_left (show a ≤ ys.length by omega)]
  · have := congrArg (List.drop 1) h4
    rw [List.drop_set_of_lt (by omega)]
    simpa [List.drop_drop, Nat.add_comm] using this
theorem ruleI_some {zs : List TRule} {r : TRule} (h : ¬ ruleI zs r = -1) : ∃ k : Nat, ruleI zs r = (k : Int) ∧ k < zs.length ∧ DelAt zs zs r k (k + 1) := by
  unfold ruleI at h ⊢
  cases hf : zs.findIdx? (fun z => ruleEq z r) with
  | none => simp [hf] at h
  | some k =>
    obtain ⟨hk, h1, h2⟩ := List.findIdx?_eq_some_iff_getElem.1 hf
    refine ⟨k, rfl, hk, by omega, hk, rfl, ?_, rfl⟩
    rw [ruleNot_drop (List.getElem?_eq_getElem hk) h1]
    unfold ruleNot
    rw [List.filter_eq_self.2]
    intro z hz
    obtain ⟨j, hj, rfl⟩ := List.mem_take_iff_getElem.1 hz
    have := h2 j (by omega)
    simpa using this
theorem ruleI_neg {zs : List TRule} {r : TRule} (h : ruleI zs r = -1) : ruleNot r zs = zs := by
  unfold ruleI at h
  cases hf : zs.findIdx? (fun z => ruleEq z r) with
  | some k => simp [hf] at h
  | none =>
    have := List.findIdx?_eq_none_iff.1 hf
    unfold ruleNot
    rw [List.filter_eq_self.2]
    intro z hz
    simpa using this z hz
theorem flat_take {α : Type} {sz : Nat} {C : α → List Value} (hl : ∀ a, (C a).length = sz) (zs : List α) (k : Nat) : (zs.flatMap C).take (k * sz) = (zs.take k).flatMap C := by
  induction zs generalizing k with
  | nil => simp
  | cons z zs ih =>
    cases k with
    | zero => simp
    | succ k =>
      have h := ih k
      simp only [List.flatMap_cons, List.take_succ_cons]
      rw [List.take_append, hl, List.take_of_length_le (by rw [hl, Nat.add_mul]; omega), show (k + 1) * sz - sz = k * sz by rw [Nat.add_mul]; omega, h]
theorem run_clear_row {P : Program} {w : World} {base n cap size g a c : Nat} {t e ty : TypeId} {xs : List Value} (z : Value) (ht : P.underlying t = some (.slice e)) (hv : ∀ w, (zeroValue e).run P w = .ok z w) (hz : z.cells.size = size) (hs : 0 < size)
    (h1 : ∀ u ∈ z.cells.toList, u.oneCell' = true) (hown : w.ownsRow base e size (.slice (some ⟨g, 0, none⟩) n cap) n xs) (ha : a < n) :
    ∃ w', (Builtin.clear_ #[t] ty #[.slice (some ⟨g, a * size, none⟩) (n - a) c]).run P w = .ok (.tuple #[]) w' ∧ w'.ownsRow base e size (.slice (some ⟨g, 0, none⟩) a cap) a (xs.take (a * size)) ∧ w.grownBy w' (some g) := by
  obtain ⟨hl, ⟨h, _⟩ | ⟨g', cap', cur, e1, hb, hg, hnc, hcm, hcs, htk⟩⟩ := hown
  · cases h
  · simp only [Value.slice.injEq, Option.some.injEq, Addr.mk.injEq, and_true, true_and] at e1
    obtain ⟨rfl, rfl⟩ := e1
    have hzl : (Builtin.zeroCells z.cells (n - a)).toList.length = (n - a) * size := by simp [Builtin.zeroCells, hz]
    have hms : a * size + (n - a) * size = n * size := by rw [← Nat.add_mul]; congr 1; omega
    have hcn : n * size ≤ cap * size := Nat.mul_le_mul_right _ hnc
    have has : a * size ≤ n * size := Nat.mul_le_mul_right _ (by omega)
    have hmac : min a cap = a := Nat.min_eq_left (by omega)
    have hone : ∀ v ∈ (Builtin.zeroCells z.cells (n - a)).toList, v.oneCell' = true := by
      intro v hv'
      simp only [Builtin.zeroCells, Array.toList_map, List.mem_map] at hv'
      obtain ⟨i, _, rfl⟩ := hv'
      have hi : i % z.cells.size < z.cells.size := Nat.mod_lt _ (by omega)
      rw [getElem!_pos z.cells _ hi]
      exact h1 _ (by simp)
    have hst := run_storeCells_at (P := P) g (a * size) e (Builtin.zeroCells z.cells (n - a)).toList 0 cur w hg (by rw [hzl, hcs]; omega) hone
    refine ⟨w.setRow g (cur.toList.take (a * size + 0) ++ (Builtin.zeroCells z.cells (n - a)).toList ++ cur.toList.drop (a * size + 0 + (Builtin.zeroCells z.cells (n - a)).toList.length)).toArray, ?_, ?_, ⟨rfl, rfl, rfl, by simp, fun k _ hr => setRow_other w g k _ (fun e => hr (by rw [e]))⟩⟩
    · obtain ⟨m, hm⟩ : ∃ m, n - a = m + 1 := ⟨n - a - 1, by omega⟩
      rw [hm] at hst ⊢
      simp [Builtin.clear_, run_underlying ht, hv, hst]
    · refine ⟨by rw [List.length_take, hl]; omega, .inr ⟨g, cap, _, rfl, hb, setRow_heap w g cur _ e (0, 0) hg, by omega, hcm, ?_, ?_⟩⟩
      · simp [hzl, hcs, hmac]; omega
      · rw [← htk]
        simp [List.take_take, Nat.min_eq_left has, hcs, hmac]

set_option maxRecDepth 100000 in
set_option maxHeartbeats 1000000 in
theorem deleteFunc_calls (u : Value) (zs : List TRule) (r : TRule) (g base : Nat) (w : World) (ho : Own 4 ruleC 31 base w u zs) (hg : RBox w g r) (hgb : g < base) (hn : zs.length ≤ 1048576) :
    Calls Try.prog 13 #[u, .func (.func 15) #[] #[.pointer (some ⟨g, 0, none⟩)]] w (fun e w' => ∃ v, e = .returned v ∧ Own 4 ruleC 31 base w' v (ruleNot r zs) ∧ w.grownBy w' u.ownBlock) := by
  rcases ho.2 with ⟨rfl, hz⟩ | ⟨gr, cap, cur, rfl, hbg, hgg, hnc, hcm, -, -⟩
  · have : zs = [] := List.eq_nil_of_length_eq_zero hz
    subst this
    go_enter Try.func13, Try.ntmps13
    go_wp2_with fail
    refine (ruleIndex_calls _ [] r g _ hg (ho.sl ruleC_len) hn).mono ?_
    rintro e w1 ⟨rfl, hb1⟩
    have : ruleI [] r = -1 := rfl
    rw [this]
    go_wp2
    go_ret
    exact ⟨_, rfl, ho.below hb1, grown_of_below hb1 _⟩
  · have hgw : gr < w.heap.size := (Array.getElem?_eq_some_iff.1 hgg).1
    have hne : g ≠ gr := by omega
    unfold maxLen at hcm
    clear hgg
    go_enter Try.func13, Try.ntmps13
    go_wp2_with fail
    refine (ruleIndex_calls _ zs r g _ hg (ho.sl ruleC_len) hn).mono ?_
    rintro e w1 ⟨rfl, hb1⟩
    have ho1 := ho.below hb1
    have hg1 := hg.below hb1
    have hz1 := hb1.size
    by_cases hi : ruleI zs r = -1
    · rw [hi]
      have hnn := ruleI_neg hi
      go_wp2
      go_ret
      exact ⟨_, rfl, by rw [hnn]; exact ho1, grown_of_below hb1 _⟩
    · obtain ⟨k, hk, hkl, hd⟩ := ruleI_some hi
      rw [hk]
      clear hi hk
      have hkn : ((k : Int) == -1) = false := beq_eq_false_iff_ne.2 (by omega)
      go_wp2
      go_loopw [5, 6] (fun i j wr => ∃ (a b : Nat) (ys : List TRule), i = .int .i64 a ∧ j = .int .i64 b ∧ DelAt zs ys r a b ∧ wr.ownsRow base 31 4 (.slice (some ⟨gr, 0, none⟩) zs.length cap) zs.length (ys.flatMap ruleC) ∧ w1.grownBy wr (some gr) ∧ RBox wr g r) (fun _ j _ => zs.length - (intOf j).toNat)
      case atStart => exact ⟨k, k + 1, zs, rfl, by go_num, hd, ho1, World.grownBy.refl _ _, hg1⟩
      case round =>
        obtain ⟨a, b, ys, rfl, rfl, hd, hown, hgr, hbx⟩ := hrel
        have hab := hd.1
        have hbl := hd.2.1
        have hyl := hd.2.2.1
        have hO : Own 4 ruleC 31 base wr (.slice (some ⟨gr, 0, none⟩) zs.length cap) ys := by unfold Own; rw [hyl]; exact hown
        have hgrw := hgr.size
        by_cases hlt : b < zs.length
        · obtain ⟨z, hz, hyz⟩ := hd.get hlt
          obtain ⟨d0, d1, d2, d3⟩ := rule_cells (hO.sl ruleC_len) hyz
          have HO := Lib.hid hO
          have HD := Lib.hid hd
          have HB := Lib.hid hbx
          have HG := Lib.hid hgr
          have HN := Lib.hid hown
          clear hO hd hbx hgr hown
          go_wp2_with fail
          refine (out1_box z r g _ (HB.out.below (al (below0 wr) _))).mono ?_
          rintro e w2 ⟨rfl, hb2⟩
          have hB2 := below_up (al (below0 wr) _) hb2
          have hown2 := HN.out.kept (grown_of_below hB2 none) (.inr (by simp [Value.ownBlock]))
          have hbx2 := HB.out.below hB2
          have hgr2 := grown_trans HG.out (grown_of_below hB2 (some gr))
          by_cases hx : ruleEq z r = true
          · have HD2 := Lib.hid (HD.out.drop1 hz hx)
            rw [hx]
            clear hb2 hB2
            go_wp2
            go_roundw
            case rel => exact ⟨a, b + 1, ys, rfl, by go_num, HD2.out, hown2, hgr2, hbx2⟩
            case measure => simp [intOf]; omega
          · have hx' : ruleEq z r = false := by simpa using hx
            have HD2 := Lib.hid (HD.out.keep1 hz hx')
            rw [hx']
            have hbk := (hb2.block wr.heap.size (by simp)).trans (heap_alloc_new wr _)
            have e0 : w2.cell? ⟨wr.heap.size, 0, none⟩ = some (.int .i64 z.user) := by rw [cell_of_row w2 _ 0 _ _ _ hbk]; rfl
            have e1 : w2.cell? ⟨wr.heap.size, 1, none⟩ = some (.string z.ref) := by rw [cell_of_row w2 _ 1 _ _ _ hbk]; rfl
            have e2 : w2.cell? ⟨wr.heap.size, 2, none⟩ = some (.string z.path) := by rw [cell_of_row w2 _ 2 _ _ _ hbk]; rfl
            have e3 : w2.cell? ⟨wr.heap.size, 3, none⟩ = some (.bool z.write) := by rw [cell_of_row w2 _ 3 _ _ _ hbk]; rfl
            obtain ⟨⟨x0, s0⟩, f0⟩ := own_cell hown2 (j := a * 4) (by omega)
            obtain ⟨⟨x1, s1⟩, f1⟩ := own_cell hown2 (j := a * 4 + 1) (by omega)
            obtain ⟨⟨x2, s2⟩, f2⟩ := own_cell hown2 (j := a * 4 + 2) (by omega)
            obtain ⟨⟨x3, s3⟩, f3⟩ := own_cell hown2 (j := a * 4 + 3) (by omega)
            clear hbk hb2 hB2 d0 d1 d2 d3
            have HX := Lib.hid (And.intro hown2 (And.intro hbx2 hgr2))
            clear hown2 hbx2 hgr2
            go_wp2
            obtain ⟨hown2, hbx2, hgr2⟩ := HX.out
            have h1 := hown2.stored (a * 4) (.int .i64 z.user)
            have h2 := h1.1.stored (a * 4 + 1) (.string z.ref)
            have h3 := h2.1.stored (a * 4 + 2) (.string z.path)
            have h4 := h3.1.stored (a * 4 + 3) (.bool z.write)
            have h5 := h4.1
            rw [flat_set4 ruleC_len (a := z) (by omega) rfl] at h5
            have hall := grown_trans (grown_trans (grown_trans h1.2 h2.2) h3.2) h4.2
            exact ⟨⟨a + 1, b + 1, ys.set a z, by go_num, by go_num, HD2.out, h5, grown_trans hgr2 hall, hbx2.grown hall (by simp; omega)⟩, by simp [intOf]; omega⟩
        · obtain rfl : b = zs.length := by omega
          have hT := hd.2.2.2.1
          rw [List.take_length] at hT
          have HN := Lib.hid hown
          have HG := Lib.hid hgr
          have HB := Lib.hid hb1
          clear hown hgr hO hbx hd hg ho hg1 ho1 hb1
          obtain ⟨w', hrun, hown', hgr'⟩ := run_clear_row (P := Try.prog) (t := 27) (ty := 0) (size := 4) (c := cap - a) (.agg #[.int .i64 0, .string ByteArray.empty, .string ByteArray.empty, .bool false]) Try.underlying27 (fun w => by rfl) rfl (by omega) (by intro u hu; simp [Value.cells] at hu; rcases hu with rfl | rfl | rfl <;> rfl) HN.out hab
          have HR := Lib.hid (And.intro hown' hgr')
          clear hown' hgr'
          go_wp2_with fail
          go_ret
          refine ⟨_, rfl, ?_, ?_⟩
          · have h6 := HR.out.1
            rw [flat_take ruleC_len, hT] at h6
            unfold Own
            rw [show (ruleNot r zs).length = a by rw [← hT, List.length_take]; omega]
            exact h6
          · exact grown_trans (grown_trans (grown_of_below HB.out _) HG.out) HR.out.2
end Go.Proofs.Ytmjneiiallgdcaa
