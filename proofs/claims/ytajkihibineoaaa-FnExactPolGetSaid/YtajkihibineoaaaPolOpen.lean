/- An argument of a law that is a pool: read as a list of items. -/
import Derived.Test.YtajkihibineoaaaPol3
namespace Go.Proofs.Ytajkihibineoaaa
open Go.ChangeShapes Go.WideShapes Go.ChangeAt Go.RowKit

set_option maxRecDepth 100000 in
/-- an argument that is a pool -/
theorem open_pol {W : World} {base : Nat} {v : Value} {H : Type} {enc : TypeId × Value → H} {d : DataW H} {ps : List MemPlace} (hval : Value.okWide Try.prog W .any base 33 v)
    (h : DataW.Trod enc Try.prog W 0 (fun _ => true) true 33 v d ps) (hlt : ∀ x ∈ ps, x.block < W.heap.size) :
    ∃ zs : List (Int × ByteArray), Sl 2 polC W v zs ∧ ∀ z ∈ zs, (Lit.int .i64 z.1).wf = true ∧ z.2.size ≤ maxLen := by
  obtain ⟨a0, len, cap, rfl⟩ := okWide_slice Try.underlying33 hval
  obtain ⟨fuel, hf⟩ := h
  rcases Go.Deep.open_slice_pairs Try.underlying33 Try.underlying69 (by kernel_rfl) (by kernel_rfl) (by kernel_rfl) (by kernel_rfl) (by kernel_rfl) hf with ⟨hcs, -⟩ | ⟨a, len', cap', m, n, V0, V1, D0, D1, P0, P1, hcs, _, hl, hm, hmm, hx, hi⟩
  · simp [Value.cells] at hcs
    obtain ⟨rfl, rfl, rfl⟩ := hcs
    exact ⟨[], Sl.nil_ W, fun z hz => by cases hz⟩
  · simp [Value.cells] at hcs
    obtain ⟨rfl, rfl, rfl⟩ := hcs
    simp only [if_true] at hmm
    subst hmm
    have hex : ∀ i, i < m → ∃ p : Int × ByteArray, (V0 i = .int .i64 p.1 ∧ V1 i = .string p.2) ∧ (Lit.int .i64 p.1).wf = true ∧ p.2.size ≤ maxLen := fun i hlt' => by
      obtain ⟨_, _, t0, t1⟩ := hi i hlt'
      obtain ⟨x, e0, _, w0⟩ := DataW.trod_int Try.underlying3 t0
      obtain ⟨s, e1, _, w1⟩ := DataW.trod_string Try.underlying9 t1
      simp only [List.cons.injEq, and_true] at e0 e1
      exact ⟨(x, s), ⟨e0, e1⟩, w0, w1⟩
    obtain ⟨f, hfz⟩ := Go.Deep.choose_lt hex
    refine ⟨(List.range len).map f, ⟨some a, m, by simp, by simpa using hl, hm, fun k z hk => ?_⟩, fun z hz => ?_⟩
    · obtain ⟨hkl, hv⟩ := List.getElem?_eq_some_iff.1 hk
      simp only [List.getElem_map, List.getElem_range] at hv
      simp only [List.length_map, List.length_range] at hkl
      obtain ⟨c0, c1, _, _⟩ := hi k (by omega)
      obtain ⟨⟨e0, e1⟩, _⟩ := hfz k (by omega)
      have hmem := hlt (.cell a.block a.off) (by
        simp only [Prod.mk.injEq] at hx
        rw [hx.2]
        exact List.mem_append_left _ (MemPlace.mem_row.2 ⟨0, by omega, by simp⟩))
      have hspot := World.cell?_spot (hi 0 (by omega)).1
      obtain ⟨b, off, spot⟩ := a
      have hsp : spot = none := by simpa [Addr.add] using hspot
      subst hsp
      subst hv
      refine ⟨b, off, rfl, hmem, fun j u hj => ?_⟩
      rw [Go.WideShapes.add_plain] at c0 c1
      match j, hj with
      | 0, hj => simp [polC] at hj; rw [← hj, ← e0]; exact c0
      | 1, hj => simp [polC] at hj; rw [← hj, ← e1]; exact c1
    · obtain ⟨i, hi2, rfl⟩ := List.mem_map.1 hz
      exact (hfz i (by have := List.mem_range.1 hi2; omega)).2

end Go.Proofs.Ytajkihibineoaaa
