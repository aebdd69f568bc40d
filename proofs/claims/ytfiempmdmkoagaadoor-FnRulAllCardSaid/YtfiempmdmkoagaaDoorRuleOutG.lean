/- impl.RulOut: cloneRules, slices.IndexFunc, slices.DeleteFunc. -/
import Derived.Test.YtfiempmdmkoagaaDoorRuleOutF
namespace Go.Proofs.YtfiempmdmkoagaaDoor
open Go.RowKit

theorem sl_news {α : Type} {sz : Nat} {C : α → List Value} {w : World} {ad : Addr} {n c : Nat} {zs : List α} (hl : ∀ a, (C a).length = sz) (hz : 0 < sz) (h : Sl sz C w (.slice (some ad) n c) zs) :
    ∀ j u, (zs.flatMap C)[j]? = some u → w.cell? (ad.add j) = some u := by
  intro j u hj
  obtain ⟨A', c', e, h1, h2, h3⟩ := h
  simp only [Value.slice.injEq] at e
  obtain ⟨rfl, rfl, rfl⟩ := e
  have hjl : j < zs.length * sz := by rw [← flat_len hl zs]; exact (List.getElem?_eq_some_iff.1 hj).1
  have hk : j / sz < zs.length := Nat.div_lt_of_lt_mul (by rwa [Nat.mul_comm])
  have hr : j % sz < sz := Nat.mod_lt _ hz
  have hsum : j / sz * sz + j % sz = j := by rw [Nat.mul_comm]; exact Nat.div_add_mod j sz
  have hu' : (C zs[j / sz])[j % sz]? = some ((C zs[j / sz])[j % sz]'(by rw [hl]; exact hr)) := List.getElem?_eq_getElem _
  have hf := flat_get hl (List.getElem?_eq_getElem hk) hu'
  rw [hsum, hj] at hf
  obtain ⟨b, off, e2, hb, hat⟩ := h3 _ _ (List.getElem?_eq_getElem hk)
  simp only [Option.some.injEq] at e2
  subst e2
  rw [Go.WideShapes.add_plain, ← hsum, ← Nat.add_assoc, hf]
  exact hat _ _ hu'
theorem one_rule (zs : List TRule) : ∀ u ∈ zs.flatMap ruleC, u.oneCell' = true := by
  intro u hu
  obtain ⟨z, _, h⟩ := List.mem_flatMap.1 hu
  simp [ruleC] at h
  rcases h with rfl | rfl | rfl | rfl <;> rfl

/-- the place of the first rule that is r, -1 for none -/
def ruleI (zs : List TRule) (r : TRule) : Int := match zs.findIdx? (fun z => ruleEq z r) with | some i => (i : Int) | none => -1
theorem ruleI_hit {zs : List TRule} {r z : TRule} {k : Nat} (hz : zs[k]? = some z) (h : ruleEq z r = true) (hall : ∀ z ∈ zs.take k, ruleEq z r = false) : ruleI zs r = k := by
  obtain ⟨hlt, hv⟩ := List.getElem?_eq_some_iff.1 hz
  have : zs.findIdx? (fun z => ruleEq z r) = some k := by
    rw [List.findIdx?_eq_some_iff_getElem]
    refine ⟨hlt, by rw [hv]; exact h, fun j hj => ?_⟩
    have := hall (zs[j]'(by omega)) (List.mem_take_iff_getElem.2 ⟨j, by omega, rfl⟩)
    simp [this]
  simp [ruleI, this]
theorem ruleI_none {zs : List TRule} {r : TRule} (hall : ∀ z ∈ zs, ruleEq z r = false) : ruleI zs r = -1 := by
  have : zs.findIdx? (fun z => ruleEq z r) = none := by
    rw [List.findIdx?_eq_none_iff]
    exact hall
  simp [ruleI, this]
/-- no rule of the first k is r -/
def NoRule (zs : List TRule) (r : TRule) (k : Nat) : Prop := ∀ z ∈ zs.take k, ruleEq z r = false
theorem noRule_step {zs : List TRule} {r z : TRule} {k : Nat} (hz : zs[k]? = some z) (h : ruleEq z r = false) (hall : NoRule zs r k) : NoRule zs r (k + 1) := by
  unfold NoRule
  rw [take_one hz]
  intro y hy
  rcases List.mem_append.1 hy with h1 | h1
  · exact hall y h1
  · simp at h1; subst h1; exact h
/-- the cells of the rule r in block g -/
def RBox (w : World) (g : Nat) (r : TRule) : Prop := g < w.heap.size ∧ w.cell? ⟨g, 0, none⟩ = some (.int .i64 r.user) ∧ w.cell? ⟨g, 1, none⟩ = some (.string r.ref) ∧ w.cell? ⟨g, 2, none⟩ = some (.string r.path) ∧ w.cell? ⟨g, 3, none⟩ = some (.bool r.write)
theorem RBox.below {w w' : World} {g : Nat} {r : TRule} (h : RBox w g r) (hb : Below w.heap.size w w') : RBox w' g r :=
  ⟨Nat.lt_of_lt_of_le h.1 hb.size, (hb.cell (p := ⟨g, 0, none⟩) h.1).trans h.2.1, (hb.cell (p := ⟨g, 1, none⟩) h.1).trans h.2.2.1, (hb.cell (p := ⟨g, 2, none⟩) h.1).trans h.2.2.2.1, (hb.cell (p := ⟨g, 3, none⟩) h.1).trans h.2.2.2.2⟩
end Go.Proofs.YtfiempmdmkoagaaDoor
