/- Copies of files: spec's l4Copy, impl's cloneFiles. -/
import Derived.Test.YtkghhmjmfcnbnaaFileH
import Derived.Test.YtkghhmjmfcnbnaaTreS
namespace Go.Proofs.Ytkghhmjmfcnbnaa
open Go.RowKit

theorem news_sl {α : Type} {sz : Nat} {C : α → List Value} {w : World} {ad : Addr} {n c : Nat} {zs : List α} (hl : ∀ a, (C a).length = sz) (hz : 0 < sz) (h : Sl sz C w (.slice (some ad) n c) zs) :
    ∀ j u, (zs.flatMap C)[j]? = some u → w.cell? (ad.add j) = some u := by
  intro j u hj
  obtain ⟨A', c', e, h1, h2, h3⟩ := h
  simp only [Value.slice.injEq] at e
  obtain ⟨rfl, rfl, rfl⟩ := e
  have hjl : j < zs.length * sz := by rw [← flat_len hl zs]; exact (List.getElem?_eq_some_iff.1 hj).1
  have hk : j / sz < zs.length := Nat.div_lt_of_lt_mul (by rwa [Nat.mul_comm])
  have hr : j % sz < sz := Nat.mod_lt _ hz
  have hsum : j / sz * sz + j % sz = j := by rw [Nat.mul_comm]; exact Nat.div_add_mod j sz
  have hu' : (C zs[j / sz])[j % sz]? = some ((C zs[j / sz])[j % sz]'(by rw [hl]; exact hr)) := List.getElem?_eq_getElem _
  have hf := flat_get hl (List.getElem?_eq_getElem hk) hu'
  rw [hsum, hj] at hf
  obtain ⟨b, off, e2, hb, hat⟩ := h3 _ _ (List.getElem?_eq_getElem hk)
  simp only [Option.some.injEq] at e2
  subst e2
  rw [Go.WideShapes.add_plain, ← hsum, ← Nat.add_assoc, hf]
  exact hat _ _ hu'
theorem one_file (zs : List TFile) : ∀ u ∈ zs.flatMap fileC, u.oneCell' = true := by
  intro u hu
  obtain ⟨z, _, h⟩ := List.mem_flatMap.1 hu
  simp [fileC] at h
  rcases h with rfl | rfl <;> rfl
theorem one_str (zs : List ByteArray) : ∀ u ∈ zs.map Value.string, u.oneCell' = true := by
  intro u hu
  obtain ⟨z, _, h⟩ := List.mem_map.1 hu
  subst h; rfl
theorem sl_none {α : Type} {sz : Nat} {C : α → List Value} {w : World} {n c : Nat} {zs : List α} (h : Sl sz C w (.slice none n c) zs) : zs = [] := by
  obtain ⟨A', c', e, h1, h2, h3⟩ := h
  cases zs with
  | nil => rfl
  | cons z zs =>
    obtain ⟨b, off, e2, _⟩ := h3 0 z rfl
    simp only [Value.slice.injEq] at e
    rw [e2] at e
    cases e.1
end Go.Proofs.Ytkghhmjmfcnbnaa
