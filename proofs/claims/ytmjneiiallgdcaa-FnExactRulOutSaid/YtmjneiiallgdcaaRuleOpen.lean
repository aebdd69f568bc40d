/- An argument of a law that is a []RulRule: read as a list. By program (gen_help.py). -/
import Derived.Test.YtmjneiiallgdcaaRuleH
import Derived.Test.YtmjneiiallgdcaaOpenS
namespace Go.Proofs.Ytmjneiiallgdcaa
open Go.ChangeShapes Go.WideShapes Go.ChangeAt Go.RowKit

instance : Inhabited TRule := ⟨⟨0, ByteArray.empty, ByteArray.empty, false⟩⟩
set_option maxRecDepth 100000 in
theorem open_rule {W : World} {base : Nat} {v : Value} {H : Type} {enc : TypeId × Value → H} {d : DataW H} {ps : List MemPlace} (hval : Value.okWide Try.prog W .any base 22 v)
    (h : DataW.Trod enc Try.prog W 0 (fun _ => true) true 22 v d ps) (hlt : ∀ x ∈ ps, x.block < W.heap.size) :
    ∃ zs : List TRule, Sl 4 ruleC W v zs ∧ ∀ z ∈ zs, (Lit.int .i64 z.user).wf = true ∧ z.ref.size ≤ maxLen ∧ z.path.size ≤ maxLen := by
  obtain ⟨a0, len, cap, rfl⟩ := okWide_slice Try.underlying22 hval
  obtain ⟨fuel, hf⟩ := h
  rcases open_slice_fields Try.underlying22 Try.underlying24 (by kernel_rfl) (by kernel_rfl) hf with ⟨hcs, -⟩ | ⟨a, len', cap', m, Pl, hcs, hl, hm, hmm, hx, hi⟩
  · simp [Value.cells] at hcs
    obtain ⟨rfl, rfl, rfl⟩ := hcs
    exact ⟨[], Sl.nil_ W, fun z hz => by cases hz⟩
  · simp [Value.cells] at hcs
    obtain ⟨rfl, rfl, rfl⟩ := hcs
    simp only [if_true] at hmm
    subst hmm
    have hx2 : ps = MemPlace.row a (m * 4) ++ (List.range m).flatMap Pl := hx
    have hex : ∀ i, i < m → ∃ p : TRule, (W.cell? (a.add (i * 4)) = some (.int .i64 p.user) ∧ W.cell? (a.add (i * 4 + 1)) = some (.string p.ref) ∧ W.cell? (a.add (i * 4 + 2)) = some (.string p.path) ∧ W.cell? (a.add (i * 4 + 3)) = some (.bool p.write)) ∧ (Lit.int .i64 p.user).wf = true ∧ p.ref.size ≤ maxLen ∧ p.path.size ≤ maxLen := fun i hlt' => by
      obtain ⟨n0, v0, y0, c0, t0⟩ := hi i hlt' 0 _ rfl
      obtain ⟨x0, e0, _, w0⟩ := DataW.trod_int Try.underlying3 t0
      simp only [List.cons.injEq, and_true] at e0
      subst e0
      obtain ⟨n1, v1, y1, c1, t1⟩ := hi i hlt' 1 _ rfl
      obtain ⟨x1, e1, _, w1⟩ := DataW.trod_string Try.underlying9 t1
      simp only [List.cons.injEq, and_true] at e1
      subst e1
      obtain ⟨n2, v2, y2, c2, t2⟩ := hi i hlt' 2 _ rfl
      obtain ⟨x2, e2, _, w2⟩ := DataW.trod_string Try.underlying9 t2
      simp only [List.cons.injEq, and_true] at e2
      subst e2
      obtain ⟨n3, v3, y3, c3, t3⟩ := hi i hlt' 3 _ rfl
      obtain ⟨x3, e3, _⟩ := DataW.trod_bool Try.underlying4 t3
      simp only [List.cons.injEq, and_true] at e3
      subst e3
      exact ⟨⟨x0, x1, x2, x3⟩, ⟨c0, c1, c2, c3⟩, w0, w1, w2⟩
    obtain ⟨f, hfz⟩ := Go.Deep.choose_lt hex
    refine ⟨(List.range len).map f, ⟨some a, m, by simp, by simpa using hl, hm, fun k z hk => ?_⟩, fun z hz => ?_⟩
    · obtain ⟨hkl, hv⟩ := List.getElem?_eq_some_iff.1 hk
      simp only [List.getElem_map, List.getElem_range] at hv
      simp only [List.length_map, List.length_range] at hkl
      obtain ⟨⟨c0, c1, c2, c3⟩, _⟩ := hfz k (by omega)
      have hmem := hlt (.cell a.block a.off) (by
        rw [hx2]
        exact List.mem_append_left _ (MemPlace.mem_row.2 ⟨0, by omega, by simp⟩))
      have hspot := World.cell?_spot (hfz 0 (by omega)).1.1
      obtain ⟨b, off, spot⟩ := a
      have hsp : spot = none := by simpa [Addr.add] using hspot
      subst hsp
      subst hv
      refine ⟨b, off, rfl, hmem, fun j u hj => ?_⟩
      rw [Go.WideShapes.add_plain] at c0 c1 c2 c3
      match j, hj with
      | 0, hj => simp [ruleC] at hj; rw [← hj]; exact c0
      | 1, hj => simp [ruleC] at hj; rw [← hj]; exact c1
      | 2, hj => simp [ruleC] at hj; rw [← hj]; exact c2
      | 3, hj => simp [ruleC] at hj; rw [← hj]; exact c3
    · obtain ⟨i, hi2, rfl⟩ := List.mem_map.1 hz
      exact (hfz i (by have := List.mem_range.1 hi2; omega)).2
end Go.Proofs.Ytmjneiiallgdcaa
