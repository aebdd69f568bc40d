/- An argument of a law that is a []byte: read as a list. -/
import Derived.Test.YtkghhmjmfcnbnaaDoorDraw
import Derived.Deep.Slices
import Derived.ChangeSame
import Derived.ProofKit
namespace Go.Proofs.YtkghhmjmfcnbnaaDoor
open Go.ChangeShapes Go.WideShapes Go.ChangeAt Go.RowKit

set_option maxRecDepth 100000 in
theorem open_bytes {W : World} {base : Nat} {v : Value} {H : Type} {enc : TypeId × Value → H} {d : DataW H} {ps : List MemPlace} (hval : Value.okWide Tryd.prog W .any base 33 v)
    (h : DataW.Trod enc Tryd.prog W 0 (fun _ => true) true 33 v d ps) (hlt : ∀ x ∈ ps, x.block < W.heap.size) :
    ∃ zs : List UInt8, Sl 1 byteC W v zs := by
  obtain ⟨a0, len, cap, rfl⟩ := okWide_slice Tryd.underlying33 hval
  obtain ⟨fuel, hf⟩ := h
  rcases Go.Deep.open_slice1 Tryd.underlying33 (by kernel_rfl) hf with ⟨hcs, -⟩ | ⟨a, len', cap', m, n, V, D, P0, hcs, _, hl, hm, hmm, hx, hi⟩
  · simp [Value.cells] at hcs
    obtain ⟨rfl, rfl, rfl⟩ := hcs
    exact ⟨[], Sl.nil_ W⟩
  · simp [Value.cells] at hcs
    obtain ⟨rfl, rfl, rfl⟩ := hcs
    simp only [if_true] at hmm
    subst hmm
    have hex : ∀ i, i < m → ∃ p : UInt8, V i = .int .u8 (p.toNat : Int) := fun i hlt' => by
      obtain ⟨_, t0⟩ := hi i hlt'
      obtain ⟨x, e0, _, w0⟩ := DataW.trod_int Tryd.underlying5 t0
      simp only [List.cons.injEq, and_true] at e0
      have hb : 0 ≤ x ∧ x < 256 := by simp [Lit.wf, IntKind.min, IntKind.max, IntKind.signed, go_sem] at w0; omega
      exact ⟨UInt8.ofNat x.toNat, by rw [e0]; simp; omega⟩
    obtain ⟨f, hfz⟩ := Go.Deep.choose_lt hex
    refine ⟨(List.range len).map f, ⟨some a, m, by simp, by simpa using hl, hm, fun k z hk => ?_⟩⟩
    obtain ⟨hkl, hv⟩ := List.getElem?_eq_some_iff.1 hk
    simp only [List.getElem_map, List.getElem_range] at hv
    simp only [List.length_map, List.length_range] at hkl
    obtain ⟨c0, _⟩ := hi k (by omega)
    have e0 := hfz k (by omega)
    have hmem := hlt (.cell a.block a.off) (by
      simp only [Prod.mk.injEq] at hx
      rw [hx.2]
      exact List.mem_append_left _ (MemPlace.mem_row.2 ⟨0, by omega, by simp⟩))
    have hspot := World.cell?_spot (hi 0 (by omega)).1
    obtain ⟨b, off, spot⟩ := a
    have hsp : spot = none := by simpa [Addr.add] using hspot
    subst hsp
    subst hv
    refine ⟨b, off, rfl, hmem, fun j u hj => ?_⟩
    rw [Go.WideShapes.add_plain] at c0
    match j, hj with
    | 0, hj => simp [byteC] at hj; rw [← hj, ← e0, Nat.mul_one]; exact c0
end Go.Proofs.YtkghhmjmfcnbnaaDoor
