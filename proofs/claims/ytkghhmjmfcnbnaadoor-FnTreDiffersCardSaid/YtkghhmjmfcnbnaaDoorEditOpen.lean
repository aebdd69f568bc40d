/- An argument of a law that is a []TreEdit: read as a list. By program (gen_help.py). -/
import Derived.Test.YtkghhmjmfcnbnaaDoorEditH
import Derived.Test.YtkghhmjmfcnbnaaDoorOpenS
namespace Go.Proofs.YtkghhmjmfcnbnaaDoor
open Go.ChangeShapes Go.WideShapes Go.ChangeAt Go.RowKit

instance : Inhabited TEdit := ⟨⟨ByteArray.empty, ByteArray.empty, false⟩⟩
set_option maxRecDepth 100000 in
theorem open_edit {W : World} {base : Nat} {v : Value} {H : Type} {enc : TypeId × Value → H} {d : DataW H} {ps : List MemPlace} (hval : Value.okWide Tryd.prog W .any base 56 v)
    (h : DataW.Trod enc Tryd.prog W 0 (fun _ => true) true 56 v d ps) (hlt : ∀ x ∈ ps, x.block < W.heap.size) :
    ∃ zs : List TEdit, Sl 3 editC W v zs ∧ ∀ z ∈ zs, z.path.size ≤ maxLen ∧ z.bytes.size ≤ maxLen := by
  obtain ⟨a0, len, cap, rfl⟩ := okWide_slice Tryd.underlying56 hval
  obtain ⟨fuel, hf⟩ := h
  rcases open_slice_fields Tryd.underlying56 Tryd.underlying85 (by kernel_rfl) (by kernel_rfl) hf with ⟨hcs, -⟩ | ⟨a, len', cap', m, Pl, hcs, hl, hm, hmm, hx, hi⟩
  · simp [Value.cells] at hcs
    obtain ⟨rfl, rfl, rfl⟩ := hcs
    exact ⟨[], Sl.nil_ W, fun z hz => by cases hz⟩
  · simp [Value.cells] at hcs
    obtain ⟨rfl, rfl, rfl⟩ := hcs
    simp only [if_true] at hmm
    subst hmm
    have hx2 : ps = MemPlace.row a (m * 3) ++ (List.range m).flatMap Pl := hx
    have hex : ∀ i, i < m → ∃ p : TEdit, (W.cell? (a.add (i * 3)) = some (.string p.path) ∧ W.cell? (a.add (i * 3 + 1)) = some (.string p.bytes) ∧ W.cell? (a.add (i * 3 + 2)) = some (.bool p.gone)) ∧ p.path.size ≤ maxLen ∧ p.bytes.size ≤ maxLen := fun i hlt' => by
      obtain ⟨n0, v0, y0, c0, t0⟩ := hi i hlt' 0 _ rfl
      obtain ⟨x0, e0, _, w0⟩ := DataW.trod_string Tryd.underlying9 t0
      simp only [List.cons.injEq, and_true] at e0
      subst e0
      obtain ⟨n1, v1, y1, c1, t1⟩ := hi i hlt' 1 _ rfl
      obtain ⟨x1, e1, _, w1⟩ := DataW.trod_string Tryd.underlying9 t1
      simp only [List.cons.injEq, and_true] at e1
      subst e1
      obtain ⟨n2, v2, y2, c2, t2⟩ := hi i hlt' 2 _ rfl
      obtain ⟨x2, e2, _⟩ := DataW.trod_bool Tryd.underlying4 t2
      simp only [List.cons.injEq, and_true] at e2
      subst e2
      exact ⟨⟨x0, x1, x2⟩, ⟨c0, c1, c2⟩, w0, w1⟩
    obtain ⟨f, hfz⟩ := Go.Deep.choose_lt hex
    refine ⟨(List.range len).map f, ⟨some a, m, by simp, by simpa using hl, hm, fun k z hk => ?_⟩, fun z hz => ?_⟩
    · obtain ⟨hkl, hv⟩ := List.getElem?_eq_some_iff.1 hk
      simp only [List.getElem_map, List.getElem_range] at hv
      simp only [List.length_map, List.length_range] at hkl
      obtain ⟨⟨c0, c1, c2⟩, _⟩ := hfz k (by omega)
      have hmem := hlt (.cell a.block a.off) (by
        rw [hx2]
        exact List.mem_append_left _ (MemPlace.mem_row.2 ⟨0, by omega, by simp⟩))
      have hspot := World.cell?_spot (hfz 0 (by omega)).1.1
      obtain ⟨b, off, spot⟩ := a
      have hsp : spot = none := by simpa [Addr.add] using hspot
      subst hsp
      subst hv
      refine ⟨b, off, rfl, hmem, fun j u hj => ?_⟩
      rw [Go.WideShapes.add_plain] at c0 c1 c2
      match j, hj with
      | 0, hj => simp [editC] at hj; rw [← hj]; exact c0
      | 1, hj => simp [editC] at hj; rw [← hj]; exact c1
      | 2, hj => simp [editC] at hj; rw [← hj]; exact c2
    · obtain ⟨i, hi2, rfl⟩ := List.mem_map.1 hz
      exact (hfz i (by have := List.mem_range.1 hi2; omega)).2
end Go.Proofs.YtkghhmjmfcnbnaaDoor
