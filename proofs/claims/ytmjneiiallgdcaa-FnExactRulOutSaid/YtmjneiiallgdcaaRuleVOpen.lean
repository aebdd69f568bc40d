/- An argument of a law that is one rule. -/
import Derived.Test.YtmjneiiallgdcaaRuleOpen
import Derived.Test.YtmjneiiallgdcaaRuleOutF
namespace Go.Proofs.Ytmjneiiallgdcaa
open Go.ChangeShapes Go.WideShapes Go.ChangeAt Go.RowKit Go.Deep

set_option maxRecDepth 100000 in
theorem open_ruleV {W : World} {base : Nat} {v : Value} {H : Type} {enc : TypeId × Value → H} {d : DataW H} {ps : List MemPlace} (hval : Value.okWide Try.prog W .any base 24 v)
    (h : DataW.Trod enc Try.prog W 0 (fun _ => true) true 24 v d ps) (_ : ∀ x ∈ ps, x.block < W.heap.size) :
    ∃ r : TRule, v = ruleV r ∧ r.ref.size ≤ maxLen ∧ r.path.size ≤ maxLen := by
  obtain ⟨cs, rfl, hcs⟩ := okWide_struct Try.underlying24 hval
  obtain ⟨fuel, hf⟩ := h
  obtain ⟨ys, n, -, -, -, hyl, hfs⟩ := DataW.trod_struct Try.underlying24 hf
  have c4 : (Try.prog).cellsOf 24 = 4 := by kernel_rfl
  have ci : (Try.prog).cellsOf 3 = 1 := by kernel_rfl
  have cst : (Try.prog).cellsOf 9 = 1 := by kernel_rfl
  have cb : (Try.prog).cellsOf 4 = 1 := by kernel_rfl
  rw [c4] at hcs
  obtain ⟨l⟩ := cs
  match l, hcs with
  | [a, b, c, e], _ =>
    have t0 := hfs 0 _ rfl
    have t1 := hfs 1 _ rfl
    have t2 := hfs 2 _ rfl
    have t3 := hfs 3 _ rfl
    simp only [Value.cells] at t0 t1 t2 t3
    simp at hyl
    rw [List.getElem?_eq_getElem (by omega)] at t0 t1 t2 t3
    obtain ⟨x0, e0, _, _⟩ := DataW.trod_int Try.underlying3 t0
    obtain ⟨x1, e1, _, w1⟩ := DataW.trod_string Try.underlying9 t1
    obtain ⟨x2, e2, _, w2⟩ := DataW.trod_string Try.underlying9 t2
    obtain ⟨x3, e3, _⟩ := DataW.trod_bool Try.underlying4 t3
    simp [ci, cst, cb] at e0 e1 e2 e3
    subst e0 e1 e2 e3
    exact ⟨⟨x0, x1, x2, x3⟩, rfl, w1, w2⟩
end Go.Proofs.Ytmjneiiallgdcaa
