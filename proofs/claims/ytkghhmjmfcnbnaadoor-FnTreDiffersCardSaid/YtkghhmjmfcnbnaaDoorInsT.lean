/- slices.Insert of one file. -/
import Derived.Test.YtkghhmjmfcnbnaaDoorDelT
import Derived.Lib.Overlaps
import Derived.Lib.AppendZerosOnto
import Derived.Laws.Externs
namespace Go.Proofs.YtkghhmjmfcnbnaaDoor
open Go.RowKit

theorem splice_ins {α : Type} {C P Q R Y : List α} (hC : C = P ++ (Q ++ R)) (hY : Y.length = 2) (hR : 2 ≤ R.length) : (splice (splice C (P.length + 2) Q) P.length Y).take (P.length + 2 + Q.length) = P ++ (Y ++ Q) := by
  have e1 : C.take (P.length + 2) = P ++ (Q ++ R).take 2 := by rw [hC, List.take_append, List.take_of_length_le (by omega), show P.length + 2 - P.length = 2 by omega]
  have e2 : ((Q ++ R).take 2).length = 2 := by rw [List.length_take, List.length_append]; omega
  unfold splice
  rw [e1]
  generalize (Q ++ R).take 2 = T at e2
  generalize C.drop (P.length + 2 + Q.length) = D
  have e3 : ((P ++ T) ++ (Q ++ D)).take P.length = P := by rw [List.append_assoc, List.take_left]
  have e4 : ((P ++ T) ++ (Q ++ D)).drop (P.length + Y.length) = Q ++ D := by rw [hY, ← e2, ← List.length_append, List.drop_left]
  rw [e3, e4, show P.length + 2 + Q.length = (P ++ (Y ++ Q)).length by simp; omega, show P ++ (Y ++ (Q ++ D)) = (P ++ (Y ++ Q)) ++ D by simp, List.take_left]
theorem splice_new {α : Type} {C P Q Z Y : List α} (hC : C = P ++ Z) (hY : Y.length = 2) : (splice (splice C P.length Y) (P.length + 2) Q).take (P.length + 2 + Q.length) = P ++ (Y ++ Q) := by
  unfold splice
  have e1 : C.take P.length = P := by rw [hC, List.take_left]
  rw [e1]
  generalize C.drop (P.length + Y.length) = D
  have e3 : (P ++ (Y ++ D)).take (P.length + 2) = P ++ Y := by rw [← hY, ← List.length_append, ← List.append_assoc, List.take_left]
  rw [e3]
  generalize (P ++ (Y ++ D)).drop (P.length + 2 + Q.length) = E
  rw [show P.length + 2 + Q.length = (P ++ (Y ++ Q)).length by simp; omega, show P ++ Y ++ (Q ++ E) = (P ++ (Y ++ Q)) ++ E by simp, List.take_left]
/-- a copy whose run is known, for the walk -/
theorem wp_copy_runT {P : Program} (w : World) {o : Oper} {a : Act} {K : Act → World → Prop} {Q : Exit → Act → World → Prop} (d s : Operand) (t t' : TypeId)
    (ho : o.op = .call { callee := .builtin .copy, args := #[d, s], argTypes := #[t, t'] }) (v u : Value) (hd : a.eval d = v) (hs : a.eval s = u) {v' : Value} {w' : World}
    (hr : (Builtin.copy_ #[t, t'] o.type #[v, u]).run P w = .ok v' w') (h : K (a.put o.dst v') w') : o.wp P a w K Q := by
  unfold Oper.wp execOp
  simp only [ho, resolve, invoke, builtin, Sem.run_bind, Sem.run_pure, Result.andThen_ok, List.map_toArray, List.map_cons, List.map_nil, hd, hs, hr]
  exact h
theorem step_copy_runT {P : Program} {ops : Array Oper} {o : Oper} {a : Act} {w : World} {K : Act → World → Prop} {Q : Exit → Act → World → Prop} {E : Prop}
    (hg : o.guard = none) (d x : Operand) (dT sT : TypeId) (hop : o.op = Op.call { callee := Callee.builtin Builtin.copy, args := #[d, x], argTypes := #[dT, sT] })
    (v u : Value) (hd : a.eval d = v) (hx : a.eval x = u) {v' : Value} {w' : World} (hr : (Builtin.copy_ #[dT, sT] o.type #[v, u]).run P w = .ok v' w') (hK : K (a.put o.dst v') w') :
    if Region.wanted o (yielded ops a.tmps) = true then Oper.wp P o a w K Q else E := by
  have hw : Region.wanted o (yielded ops a.tmps) = true := by simp [Region.wanted, hg]
  rw [if_pos hw]
  exact wp_copy_runT w d x dT sT hop v u hd hx hr hK
theorem wpList_copy_runT {P : Program} (w : World) {ops : Array Oper} {rest : List Oper} {o : Oper} {a : Act} {Q : Exit → Act → World → Prop} (hgd : o.guard = none) (d s : Operand) (t t' : TypeId)
    (ho : o.op = .call { callee := .builtin .copy, args := #[d, s], argTypes := #[t, t'] }) (v u : Value) (hd : a.eval d = v) (hs : a.eval s = u) {v' : Value} {w' : World}
    (hr : (Builtin.copy_ #[t, t'] o.type #[v, u]).run P w = .ok v' w') (h : wpList P ops Q rest (a.put o.dst v') w') : wpList P ops Q (o :: rest) a w :=
  wpList_plain hgd fun _ hK => wp_copy_runT w d s t t' ho v u hd hs hr (hK _ _ h)

set_option maxRecDepth 100000 in
set_option maxHeartbeats 4000000 in
theorem insert_shift (zs : List TFile) (f : TFile) (base g cap n i vb : Nat) (w : World) (hl : zs.length = n) (ho : w.ownsRow base 55 2 (.slice (some ⟨g, 0, none⟩) n cap) n (zs.flatMap fileC)) (hin : i < n) (hroom : n + 1 ≤ cap) (hn : n ≤ 1048000)
    (hvb : w.heap[vb]? = some (.cells #[.string f.path, .string f.bytes] 55 (0, 0))) (hne : vb ≠ g) :
    Calls Tryd.prog 62 #[.slice (some ⟨g, 0, none⟩) n cap, .int .i64 (i : Int), .slice (some ⟨vb, 0, none⟩) 1 1] w fun e w' => ∃ v', e = .returned v' ∧ Own 2 fileC 55 base w' v' (zs.take i ++ f :: zs.drop i) ∧ w.grownBy w' (some g) := by
  obtain ⟨i0, hi, hz0, hz1, hz2⟩ := info_parts Tryd.infoFile
  obtain ⟨cur, hbg, hgg, hnc, hcm, hcs, htk⟩ := own_cur ho
  unfold maxLen at hcm
  have hsz : (Tryd.prog.info? 55).map (·.size) = some 2 := by rw [hi]; simp [hz1]
  have hov : ∀ lb cb, (callFunc 83 #[.slice (some ⟨vb, 0, none⟩) 1 1, .slice (some ⟨g, (i + 1) * 2, none⟩) lb cb]).run Tryd.prog w = .ok (.value (.bool false)) w := fun lb cb => by
    rw [run_callFunc_extern Tryd.func83 (by kernel_rfl) (by kernel_rfl) (by kernel_rfl) (e := Extern.SlicesOverlaps.overlaps #[26, 26] #[4]) (by kernel_rfl),
      Lib.run_overlaps_apart w 26 4 55 Tryd.underlying26 2 (fun w => by rfl) ⟨vb, 0, none⟩ ⟨g, (i + 1) * 2, none⟩ 1 1 lb cb hne 55 55 2 (cap * 2) (by simp [World.shape?, hvb]) (by simp [World.shape?, hgg, hcs]) (by omega) (frozen_of_row w vb 0 _ _ hvb) (frozen_of_row w vb 2 _ _ hvb)]
    rfl
  have q1 : ¬ ((i : Int) = (n : Int)) := by omega
  have q2 : (0 : Int) ≤ (i : Int) := Int.natCast_nonneg _
  have q3 : (i : Int) ≤ (n : Int) := by omega
  have q4 : ¬ ((cap : Int) < (n : Int) + 1) := by omega
  have q5 : ((i : Int) == (n : Int)) = false := beq_eq_false_iff_ne.2 q1
  have q6 : ((i : Int) + 1).toNat = i + 1 := by omega
  have q7 : ((n : Int) + 1).toNat = n + 1 := by omega
  have q8 : (0 : Int) ≤ (i : Int) + 1 := by omega
  have q9 : (i : Int) + 1 ≤ (n : Int) + 1 := by omega
  have q10 : (n : Int) + 1 ≤ (cap : Int) := by omega
  have q11 : (0 : Int) ≤ (n : Int) + 1 := by omega
  have q12 : ¬ (cap = i) := by omega
  have q13 : ¬ (cap = i + 1) := by omega
  have q14 : (i : Int) ≤ (n : Int) + 1 := by omega
  have q15 : IntKind.i64.wrap ((i : Int) + 1) = (i : Int) + 1 := IntWalk.i64_in _ (by omega)
  have hxl : (zs.flatMap fileC).length = n * 2 := by rw [flat_len fileC_len, hl]
  have hone : ∀ u ∈ [Value.string f.path, Value.string f.bytes], u.oneCell' = true := by intro u hu; simp at hu; rcases hu with rfl | rfl <;> rfl
  obtain ⟨X, hX⟩ : ∃ X, X = zs.flatMap fileC := ⟨_, rfl⟩
  rw [← hX] at htk hxl
  have hcl : cur.toList.length = cap * 2 := by rw [Array.length_toList, hcs]
  have hxd : (X.drop (i * 2)).length = (n - i) * 2 := by rw [List.length_drop, hxl]; omega
  have hsrc : ∀ j v, (X.drop (i * 2))[j]? = some v → w.drew.cell? ((⟨g, i * 2, none⟩ : Addr).add j) = some v := fun j v hj => by
    rw [List.getElem?_drop, ← htk, List.getElem?_take] at hj
    split at hj
    · rw [Go.WideShapes.add_plain]
      show w.cell? _ = _
      rw [cell_of_row w g _ cur _ (0, 0) hgg]
      simpa using hj
    · cases hj
  have hoX : ∀ v ∈ X.drop (i * 2), v.oneCell' = true := fun v hv => by
    have := List.mem_of_mem_drop hv
    rw [hX] at this
    exact one_file zs v this
  have hcp1 : ∀ ty dc sc, (Builtin.copy_ #[26, 26] ty #[.slice (some ⟨g, (i + 1) * 2, none⟩) (n - i) dc, .slice (some ⟨g, i * 2, none⟩) (n + 1 - i) sc]).run Tryd.prog w.drew = _ := fun ty dc sc =>
    run_copy_rowK w.drew 26 26 ty 55 2 g ((i + 1) * 2) (n - i) dc ⟨g, i * 2, none⟩ (n + 1 - i) sc cur 55 (X.drop (i * 2)) Tryd.underlying26 hsz hgg
      (by rw [hxd]; congr 1; exact (Nat.min_eq_right (by omega)).symm) hsrc (by rw [hxd, hcs]; omega) hoX
  obtain ⟨C1, hC1⟩ : ∃ C1 : Array Value, C1 = (splice cur.toList ((i + 1) * 2) (X.drop (i * 2))).toArray := ⟨_, rfl⟩
  simp only [← hC1] at hcp1
  have hC1l : C1.size = cap * 2 := by rw [hC1, List.size_toArray, length_splice _ _ _ (by rw [hxd, hcl]; omega), hcl]
  obtain ⟨W1, hW1⟩ : ∃ W1, W1 = w.drew.setRow g C1 := ⟨_, rfl⟩
  have hg1 : W1.heap[g]? = some (.cells C1 55 (0, 0)) := by rw [hW1]; exact setRow_heap w.drew g cur C1 _ _ hgg
  have hv1 : W1.heap[vb]? = some (.cells #[.string f.path, .string f.bytes] 55 (0, 0)) := by rw [hW1]; exact (setRow_other w.drew g vb C1 hne).trans hvb
  have hcp2 : ∀ ty dc, (Builtin.copy_ #[26, 26] ty #[.slice (some ⟨g, i * 2, none⟩) (n + 1 - i) dc, .slice (some ⟨vb, 0, none⟩) 1 1]).run Tryd.prog W1 = _ := fun ty dc =>
    run_copy_rowK W1 26 26 ty 55 2 g (i * 2) (n + 1 - i) dc ⟨vb, 0, none⟩ 1 1 C1 55 [.string f.path, .string f.bytes] Tryd.underlying26 hsz hg1
      (by rw [show Nat.min 1 (n + 1 - i) = 1 from Nat.min_eq_left (by omega)]; rfl) (World.news_of_block (cs := #[.string f.path, .string f.bytes]) hv1) (by rw [hC1l]; simp; omega) hone
  have hfin : Hid (Own 2 fileC 55 base (W1.setRow g (splice C1.toList (i * 2) [Value.string f.path, Value.string f.bytes]).toArray) (.slice (some ⟨g, 0, none⟩) (n + 1) cap) (zs.take i ++ f :: zs.drop i) ∧ w.grownBy (W1.setRow g (splice C1.toList (i * 2) [Value.string f.path, Value.string f.bytes]).toArray) (some g)) := by
    have e0 : (zs.take i ++ f :: zs.drop i).length = n + 1 := by simp; omega
    refine ⟨?_, ?_⟩
    · unfold Own
      rw [e0]
      have h1 := own_of_cur (n := n + 1) hbg (setRow_heap W1 g C1 (splice C1.toList (i * 2) [Value.string f.path, Value.string f.bytes]).toArray _ _ hg1) hroom hcm (by rw [List.size_toArray, length_splice _ _ _ (by simp [hC1l]; omega), Array.length_toList, hC1l])
      have h2 : (splice C1.toList (i * 2) [Value.string f.path, Value.string f.bytes]).toArray.toList.take ((n + 1) * 2) = (zs.take i ++ f :: zs.drop i).flatMap fileC := by
        have hP : ((zs.take i).flatMap fileC).length = i * 2 := by rw [flat_len fileC_len, List.length_take]; congr 1; omega
        have hQ : (zs.drop i).flatMap fileC = X.drop (i * 2) := by rw [hX, flat_dropK fileC_len]
        have hPX : X.take (i * 2) = (zs.take i).flatMap fileC := by rw [hX, flat_takeK fileC_len]
        have hc0 : cur.toList = (zs.take i).flatMap fileC ++ (X.drop (i * 2) ++ cur.toList.drop (n * 2)) := by
          rw [← hPX, ← List.append_assoc, List.take_append_drop, ← htk, List.take_append_drop]
        have h3 := splice_ins (Y := [Value.string f.path, Value.string f.bytes]) hc0 rfl (by rw [List.length_drop, hcl]; omega)
        rw [hP, hxd, show i * 2 + 2 = (i + 1) * 2 by omega, show (i + 1) * 2 + (n - i) * 2 = (n + 1) * 2 by omega] at h3
        rw [hC1]
        show (splice (splice cur.toList ((i + 1) * 2) (X.drop (i * 2))) (i * 2) [Value.string f.path, Value.string f.bytes]).take ((n + 1) * 2) = _
        rw [h3, List.flatMap_append, List.flatMap_cons, hQ]; rfl
      rw [h2] at h1
      exact h1
    · rw [hW1]
      refine ⟨rfl, rfl, rfl, by simp [World.setRow], fun k hk hr => ?_⟩
      have hkg : k ≠ g := fun e => hr (by rw [e])
      rw [setRow_other _ g k _ hkg, setRow_other _ g k _ hkg]; rfl
  subst hW1
  clear hC1 hX htk hxl hcl hxd hsrc hoX hC1l hg1 hv1 hone ho hgg hvb hcs
  go_enter Tryd.func62, Tryd.ntmps62
  go_wp2_with (simp only [hov])
  go_region_held3 (fun _ => True) (trivial)
    (first | (refine step_copy_runT (by rfl) _ _ 26 26 (by rfl) _ _ (by rfl) (by rfl) (hcp1 _ (cap - (i + 1)) (cap - i)) ?_) | fail)
  go_wp2_with (at_builtin; refine wpList_copy_runT _ rfl _ _ 26 26 rfl _ _ rfl rfl (hcp2 _ (cap - i)) ?_)
  go_wp2
  go_ret
  exact ⟨_, rfl, hfin.out.1, hfin.out.2⟩

set_option maxRecDepth 100000 in
set_option maxHeartbeats 4000000 in
theorem insert_end (zs : List TFile) (f : TFile) (v : Value) (base n vb : Nat) (w : World) (hl : zs.length = n) (ho : w.ownsRow base 55 2 v n (zs.flatMap fileC)) (hb : base ≤ w.heap.size) (hn : n ≤ 1048000)
    (hvb : w.heap[vb]? = some (.cells #[.string f.path, .string f.bytes] 55 (0, 0))) :
    Calls Tryd.prog 62 #[v, .int .i64 (n : Int), .slice (some ⟨vb, 0, none⟩) 1 1] w fun e w' => ∃ v', e = .returned v' ∧ Own 2 fileC 55 base w' v' (zs ++ [f]) ∧ w.grownBy w' v.ownBlock := by
  obtain ⟨i0, hi, hz0, hz1, hz2⟩ := info_parts Tryd.infoFile
  have hone : ∀ u ∈ [Value.string f.path, Value.string f.bytes], u.oneCell' = true := by intro u hu; simp at hu; rcases hu with rfl | rfl <;> rfl
  have hnews := World.news_of_block (cs := #[.string f.path, .string f.bytes]) hvb
  have HO := Lib.hid ho
  have HF : Hid (∀ (v' : Value) (w' : World), w'.ownsRow base 55 2 v' (n + 1) (zs.flatMap fileC ++ [Value.string f.path, Value.string f.bytes]) → Own 2 fileC 55 base w' v' (zs ++ [f])) := by
    intro v' w' h
    unfold Own
    rw [List.length_append, List.length_singleton, hl, List.flatMap_append]
    simpa [fileC] using h
  rcases ho.2 with ⟨rfl, h0⟩ | ⟨g, cap, cur, rfl, hbg, hgg, hnc, hcm, -, -⟩
  · subst h0
    clear hvb ho
    go_enter Tryd.func62, Tryd.ntmps62
    go_wp2_with (at_builtin; refine wpList_append_own _ rfl _ _ 26 rfl base 55 i0 _ 2 32 Tryd.underlying26 hi hz0 hz1 hz2 rfl (by decide) _ 0 _ rfl HO.out ⟨vb, 0, none⟩ 1 1 [.string f.path, .string f.bytes] rfl rfl hnews hone (by unfold maxLen; omega) (by omega) hb ?_; intro v3 w3 own3 hg3 _)
    go_ret
    exact ⟨_, rfl, HF.out _ _ own3, hg3⟩
  · unfold maxLen at hcm
    clear hvb ho hgg
    go_enter Tryd.func62, Tryd.ntmps62
    go_wp2_with (at_builtin; refine wpList_append_own _ rfl _ _ 26 rfl base 55 i0 _ 2 32 Tryd.underlying26 hi hz0 hz1 hz2 rfl (by decide) _ _ _ rfl HO.out ⟨vb, 0, none⟩ 1 1 [.string f.path, .string f.bytes] rfl rfl hnews hone (by unfold maxLen; omega) (by omega) hb ?_; intro v3 w3 own3 hg3 _)
    all_goals (
      go_ret
      exact ⟨_, rfl, HF.out _ _ own3, hg3⟩)

set_option maxRecDepth 100000 in
set_option maxHeartbeats 4000000 in
theorem insert_grow (zs : List TFile) (f : TFile) (base g cap n i vb : Nat) (w : World) (hl : zs.length = n) (ho : w.ownsRow base 55 2 (.slice (some ⟨g, 0, none⟩) n cap) n (zs.flatMap fileC)) (hb : base ≤ w.heap.size) (hin : i < n) (hroom : cap < n + 1) (hn : n ≤ 1048000)
    (hvb : w.heap[vb]? = some (.cells #[.string f.path, .string f.bytes] 55 (0, 0))) :
    Calls Tryd.prog 62 #[.slice (some ⟨g, 0, none⟩) n cap, .int .i64 (i : Int), .slice (some ⟨vb, 0, none⟩) 1 1] w fun e w' => ∃ v', e = .returned v' ∧ Own 2 fileC 55 base w' v' (zs.take i ++ f :: zs.drop i) ∧ w.grownBy w' (some g) := by
  obtain ⟨i0, hi, hz0, hz1, hz2⟩ := info_parts Tryd.infoFile
  obtain ⟨cur, hbg, hgg, hnc, hcm, hcs, htk⟩ := own_cur ho
  unfold maxLen at hcm
  have hsz : (Tryd.prog.info? 55).map (·.size) = some 2 := by rw [hi]; simp [hz1]
  have hgl : g < w.heap.size := (Array.getElem?_eq_some_iff.1 hgg).1
  have hvl : vb < w.heap.size := (Array.getElem?_eq_some_iff.1 hvb).1
  have hone : ∀ u ∈ [Value.string f.path, Value.string f.bytes], u.oneCell' = true := by intro u hu; simp at hu; rcases hu with rfl | rfl <;> rfl
  obtain ⟨X, hX⟩ : ∃ X, X = zs.flatMap fileC := ⟨_, rfl⟩
  have hxl : X.length = n * 2 := by rw [hX, flat_len fileC_len, hl]
  rw [← hX] at htk
  have hxd : (X.drop (i * 2)).length = (n - i) * 2 := by rw [List.length_drop, hxl]; omega
  have hxt : (X.take (i * 2)).length = i * 2 := by rw [List.length_take, hxl]; omega
  have hcell : ∀ (W : World), W.heap[g]? = some (.cells cur 55 (0, 0)) → ∀ k v, X[k]? = some v → W.cell? ⟨g, k, none⟩ = some v := fun W hW k v hk => by
    rw [← htk, List.getElem?_take] at hk
    split at hk
    · rw [cell_of_row W g _ cur _ (0, 0) hW]
      simpa using hk
    · cases hk
  have hoX : ∀ v ∈ X.drop (i * 2), v.oneCell' = true := fun v hv => by
    have := List.mem_of_mem_drop hv
    rw [hX] at this
    exact one_file zs v this
  have hold : (Builtin.firstCells i0.size i (.slice (some ⟨g, 0, none⟩) i cap)).run Tryd.prog w.drew = .ok (X.take (i * 2)).toArray w.drew := by
    rw [hz1]
    exact run_firstCells_some w.drew 2 i ⟨g, 0, none⟩ i cap (X.take (i * 2)) hxt (fun j v hj => by
      rw [Go.WideShapes.add_plain, Nat.zero_add]
      rw [List.getElem?_take] at hj
      split at hj
      · exact hcell w.drew hgg j v hj
      · cases hj)
  have hkk : (n : Int) + 1 - (i : Int) = ((n + 1 - i : Nat) : Int) := by omega
  obtain ⟨G, hG⟩ : ∃ G, G = grownCap w (n + 1) cap 55 := ⟨_, rfl⟩
  obtain ⟨ROW, hROW⟩ : ∃ ROW : Array Value, ROW = (X.take (i * 2)).toArray ++ Builtin.zeroCells (Value.agg #[.string ByteArray.empty, .string ByteArray.empty]).cells (n + 1 - i) ++ Builtin.zeroCells (Value.agg #[.string ByteArray.empty, .string ByteArray.empty]).cells (G - (n + 1)) := ⟨_, rfl⟩
  have hGn : n + 1 ≤ G := by rw [hG]; exact grownCap_ge w _ _ _
  have hGm : G ≤ maxLen := by rw [hG]; exact grownCap_le_maxLen w (n + 1) cap _ (by unfold maxLen; omega)
  have hRs : ROW.size = G * 2 := by
    rw [hROW, Array.size_append, Array.size_append, List.size_toArray, hxt, size_zeroCells, size_zeroCells]
    have : (Value.agg #[Value.string ByteArray.empty, Value.string ByteArray.empty]).cells.size = 2 := rfl
    rw [this]
    omega
  have hrz : ∀ ty, (Builtin.append_ #[26, 3] ty #[.slice (some ⟨g, 0, none⟩) i cap, .int .i64 ((n : Int) + 1 - (i : Int))]).run Tryd.prog w = .ok (.slice (some ⟨w.heap.size, 0, none⟩) (n + 1) G) (w.drew.alloc (.cells ROW 55)) := fun ty => by
    have h := Lib.run_append_grow_zeros w 26 3 ty 55 i0 _ .i64 .i64 Tryd.underlying26 Tryd.underlying3 hi hz0 (some ⟨g, 0, none⟩) i cap (X.take (i * 2)) hold (n + 1 - i) (by omega) (by omega) (by omega) (by omega) (by rw [hz2]; omega) (by rw [hz2, show i + (n + 1 - i) = n + 1 by omega]; exact growslice_fits hroom (by omega))
    rw [show i + (n + 1 - i) = n + 1 by omega, ← hG, ← hROW] at h
    rw [hkk]
    exact h
  obtain ⟨C1, hC1⟩ : ∃ C1 : Array Value, C1 = (splice ROW.toList (i * 2) [Value.string f.path, Value.string f.bytes]).toArray := ⟨_, rfl⟩
  have hC1s : C1.size = G * 2 := by rw [hC1, List.size_toArray, length_splice _ _ _ (by simp [hRs]; omega), Array.length_toList, hRs]
  have hcpA : ∀ (W : World), W.heap[w.heap.size]? = some (.cells ROW 55 (0, 0)) → W.heap[vb]? = some (.cells #[.string f.path, .string f.bytes] 55 (0, 0)) → ∀ ty dc, (Builtin.copy_ #[26, 26] ty #[.slice (some ⟨w.heap.size, i * 2, none⟩) (n + 1 - i) dc, .slice (some ⟨vb, 0, none⟩) 1 1]).run Tryd.prog W = .ok (goInt 1) (W.setRow w.heap.size C1) := fun W h1 h2 ty dc => by
    have h := run_copy_rowK (P := Tryd.prog) W 26 26 ty 55 2 w.heap.size (i * 2) (n + 1 - i) dc ⟨vb, 0, none⟩ 1 1 ROW 55 [.string f.path, .string f.bytes] Tryd.underlying26 hsz h1
      (by rw [show Nat.min 1 (n + 1 - i) = 1 from Nat.min_eq_left (by omega)]; rfl) (World.news_of_block (cs := #[.string f.path, .string f.bytes]) h2) (by rw [hRs]; simp; omega) hone
    rw [show Nat.min 1 (n + 1 - i) = 1 from Nat.min_eq_left (by omega), ← hC1] at h
    exact h
  have hcpB : ∀ (W : World), W.heap[w.heap.size]? = some (.cells C1 55 (0, 0)) → W.heap[g]? = some (.cells cur 55 (0, 0)) → ∀ ty dc sc, (Builtin.copy_ #[26, 26] ty #[.slice (some ⟨w.heap.size, (i + 1) * 2, none⟩) (n - i) dc, .slice (some ⟨g, i * 2, none⟩) (n - i) sc]).run Tryd.prog W = .ok (goInt ((n - i : Nat) : Int)) (W.setRow w.heap.size (splice C1.toList ((i + 1) * 2) (X.drop (i * 2))).toArray) := fun W h1 h2 ty dc sc => by
    have h := run_copy_rowK (P := Tryd.prog) W 26 26 ty 55 2 w.heap.size ((i + 1) * 2) (n - i) dc ⟨g, i * 2, none⟩ (n - i) sc C1 55 (X.drop (i * 2)) Tryd.underlying26 hsz h1
      (by rw [hxd]; congr 1; exact (Nat.min_self _).symm) (fun j v hj => by rw [Go.WideShapes.add_plain]; exact hcell W h2 _ v (by rwa [List.getElem?_drop] at hj)) (by rw [hxd, hC1s]; omega) hoX
    rw [show Nat.min (n - i) (n - i) = n - i from Nat.min_self _] at h
    exact h
  have hfin : Hid (∀ W : World, Below w.heap.size w W → W.heap[w.heap.size]? = some (.cells C1 55 (0, 0)) → Own 2 fileC 55 base (W.setRow w.heap.size (splice C1.toList ((i + 1) * 2) (X.drop (i * 2))).toArray) (.slice (some ⟨w.heap.size, 0, none⟩) (n + 1) G) (zs.take i ++ f :: zs.drop i) ∧ w.grownBy (W.setRow w.heap.size (splice C1.toList ((i + 1) * 2) (X.drop (i * 2))).toArray) (some g)) := by
    intro W hB h1
    have e0 : (zs.take i ++ f :: zs.drop i).length = n + 1 := by simp; omega
    refine ⟨?_, grown_of_below (below_setRow hB (Nat.le_refl _) _) _⟩
    unfold Own
    rw [e0]
    have h2 := own_of_cur (n := n + 1) hb (setRow_heap W w.heap.size C1 (splice C1.toList ((i + 1) * 2) (X.drop (i * 2))).toArray _ _ h1) hGn hGm (by rw [List.size_toArray, length_splice _ _ _ (by rw [hxd, Array.length_toList, hC1s]; omega), Array.length_toList, hC1s])
    have h3 : (splice C1.toList ((i + 1) * 2) (X.drop (i * 2))).toArray.toList.take ((n + 1) * 2) = (zs.take i ++ f :: zs.drop i).flatMap fileC := by
      have hQ : (zs.drop i).flatMap fileC = X.drop (i * 2) := by rw [hX, flat_dropK fileC_len]
      have hPX : X.take (i * 2) = (zs.take i).flatMap fileC := by rw [hX, flat_takeK fileC_len]
      have hR : ROW.toList = X.take (i * 2) ++ (Builtin.zeroCells (Value.agg #[.string ByteArray.empty, .string ByteArray.empty]).cells (n + 1 - i) ++ Builtin.zeroCells (Value.agg #[.string ByteArray.empty, .string ByteArray.empty]).cells (G - (n + 1))).toList := by
        rw [hROW, Array.append_assoc, Array.toList_append]
      have h4 := splice_new (Q := X.drop (i * 2)) (Y := [Value.string f.path, Value.string f.bytes]) hR rfl
      rw [hxt, hxd, show i * 2 + 2 = (i + 1) * 2 by omega, show (i + 1) * 2 + (n - i) * 2 = (n + 1) * 2 by omega] at h4
      rw [hC1]
      show (splice (splice ROW.toList (i * 2) [Value.string f.path, Value.string f.bytes]) ((i + 1) * 2) (X.drop (i * 2))).take ((n + 1) * 2) = _
      rw [h4, List.flatMap_append, List.flatMap_cons, hQ, hPX]; rfl
    rw [h3] at h2
    exact h2
  have q1 : ¬ ((i : Int) = (n : Int)) := by omega
  have q2 : (0 : Int) ≤ (i : Int) := Int.natCast_nonneg _
  have q3 : (i : Int) ≤ (n : Int) := by omega
  have q4 : (cap : Int) < (n : Int) + 1 := by omega
  have q5 : ((i : Int) == (n : Int)) = false := beq_eq_false_iff_ne.2 q1
  have q6 : ((i : Int) + 1).toNat = i + 1 := by omega
  have q8 : (0 : Int) ≤ (i : Int) + 1 := by omega
  have q9 : (i : Int) + 1 ≤ (n : Int) + 1 := by omega
  have q12 : ¬ (cap = i) := by omega
  have q13 : ¬ (G = i) := by omega
  have q16 : ¬ (G = i + 1) := by omega
  have q14 : (i : Int) ≤ (n : Int) + 1 := by omega
  have q15 : IntKind.i64.wrap ((i : Int) + 1) = (i : Int) + 1 := IntWalk.i64_in _ (by omega)
  have q17 : (i : Int) ≤ (cap : Int) := by omega
  have hA1 : (w.alloc (.cells ROW 55)).heap[w.heap.size]? = some (.cells ROW 55 (0, 0)) := heap_alloc_new w _
  have hA2 : (w.alloc (.cells ROW 55)).heap[vb]? = some (.cells #[.string f.path, .string f.bytes] 55 (0, 0)) := ((al (below0 w) (.cells ROW 55)).block vb hvl).trans hvb
  have hA3 : (w.alloc (.cells ROW 55)).heap[g]? = some (.cells cur 55 (0, 0)) := ((al (below0 w) (.cells ROW 55)).block g hgl).trans hgg
  have hB1 : ((w.alloc (.cells ROW 55)).drew.setRow w.heap.size C1).heap[w.heap.size]? = some (.cells C1 55 (0, 0)) := setRow_heap (w.alloc (.cells ROW 55)).drew w.heap.size ROW C1 _ _ hA1
  have hB2 : ((w.alloc (.cells ROW 55)).drew.setRow w.heap.size C1).heap[g]? = some (.cells cur 55 (0, 0)) := (setRow_other (w.alloc (.cells ROW 55)).drew w.heap.size g C1 (by omega)).trans hA3
  have hB3 : Below w.heap.size w ((w.alloc (.cells ROW 55)).drew.setRow w.heap.size C1) := below_setRow (al (below0 w) (.cells ROW 55)).drew (Nat.le_refl _) C1
  have HB := Lib.hid (And.intro hB1 (And.intro hB2 hB3))
  clear hB1 hB2 hB3
  have hcpA1 := hcpA (w.alloc (.cells ROW 55)).drew hA1 hA2
  have HA := Lib.hid (And.intro hA1 (And.intro hA2 hA3))
  have hHid := Lib.hid (And.intro hcpA hcpB)
  clear hA1 hA2 hA3 hcpA hcpB hROW hC1 hRs hC1s hG hold hoX hcell hxt hxd htk hxl hX hone ho hgg hvb hcs hkk
  go_enter Tryd.func62, Tryd.ntmps62
  go_wp2_with (at_builtin; refine Lib.wpList_append_run _ rfl _ _ _ _ rfl _ _ rfl rfl _ _ (hrz _) ?_)
  go_region_held3 (fun _ => True) (trivial)
    (first | (refine step_copy_runT (by rfl) _ _ 26 26 (by rfl) _ _ (by rfl) (by rfl) (hHid.out.2 ((w.alloc (.cells ROW 55)).drew.setRow w.heap.size C1).drew HB.out.1 HB.out.2.1 _ (G - (i + 1)) (cap - i)) ?_) | fail)
  go_wp2
  go_ret
  have h7 := hfin.out ((w.alloc (.cells ROW 55)).drew.setRow w.heap.size C1).drew HB.out.2.2.drew HB.out.1
  exact ⟨_, rfl, h7.1, h7.2⟩
end Go.Proofs.YtkghhmjmfcnbnaaDoor
