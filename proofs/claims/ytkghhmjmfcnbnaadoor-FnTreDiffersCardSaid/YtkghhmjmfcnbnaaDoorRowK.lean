/- Rows of the call's own: cut, stretched, copied within. No program stands in it. -/
import Derived.Test.YtkghhmjmfcnbnaaDoorMem
import Derived.Laws.CopyOwn
import Derived.OwnWalk
namespace Go.Proofs.YtkghhmjmfcnbnaaDoor
open Go.RowKit

section
variable {w : World} {base g n cap sz m : Nat} {e : TypeId} {xs : List Value}
/-- the cells of the block of an own row -/
theorem own_cur (h : w.ownsRow base e sz (.slice (some ⟨g, 0, none⟩) n cap) n xs) : ∃ cur : Array Value, base ≤ g ∧ w.heap[g]? = some (.cells cur e (0, 0)) ∧ n ≤ cap ∧ cap ≤ maxLen ∧ cur.size = cap * sz ∧ cur.toList.take (n * sz) = xs := by
  rcases h.2 with ⟨h', _⟩ | ⟨g', cap', cur, h', hb, hg, hnc, hcm, hcs, htake⟩
  · simp at h'
  · simp only [Value.slice.injEq, Option.some.injEq, Addr.mk.injEq, and_true, true_and] at h'
    obtain ⟨rfl, rfl⟩ := h'
    exact ⟨cur, hb, hg, hnc, hcm, hcs, htake⟩
theorem own_of_cur {cur : Array Value} (hb : base ≤ g) (hg : w.heap[g]? = some (.cells cur e (0, 0))) (hnc : n ≤ cap) (hcm : cap ≤ maxLen) (hcs : cur.size = cap * sz) : w.ownsRow base e sz (.slice (some ⟨g, 0, none⟩) n cap) n (cur.toList.take (n * sz)) := by
  have : n * sz ≤ cap * sz := Nat.mul_le_mul_right _ hnc
  exact ⟨by rw [List.length_take, Array.length_toList]; omega, .inr ⟨g, cap, cur, rfl, hb, hg, hnc, hcm, hcs, rfl⟩⟩
theorem own_shrink (h : w.ownsRow base e sz (.slice (some ⟨g, 0, none⟩) n cap) n xs) (hm : m ≤ n) : w.ownsRow base e sz (.slice (some ⟨g, 0, none⟩) m cap) m (xs.take (m * sz)) := by
  obtain ⟨cur, hb, hg, hnc, hcm, hcs, ht⟩ := own_cur h
  have h2 := own_of_cur (n := m) hb hg (by omega) hcm hcs
  rw [← ht, List.take_take, Nat.min_eq_left (Nat.mul_le_mul_right _ hm)]
  exact h2
theorem own_stretch (h : w.ownsRow base e sz (.slice (some ⟨g, 0, none⟩) n cap) n xs) (hm : n ≤ m) (hc : m ≤ cap) : ∃ ys, w.ownsRow base e sz (.slice (some ⟨g, 0, none⟩) m cap) m ys ∧ ys.take (n * sz) = xs := by
  obtain ⟨cur, hb, hg, hnc, hcm, hcs, ht⟩ := own_cur h
  exact ⟨_, own_of_cur (n := m) hb hg hc hcm hcs, by rw [List.take_take, Nat.min_eq_left (Nat.mul_le_mul_right _ hm)]; exact ht⟩
end
theorem flat_takeK {α : Type} {sz : Nat} {C : α → List Value} (hl : ∀ a, (C a).length = sz) (zs : List α) (k : Nat) : (zs.flatMap C).take (k * sz) = (zs.take k).flatMap C := by
  induction zs generalizing k with
  | nil => simp
  | cons z zs ih =>
    cases k with
    | zero => simp
    | succ k =>
      have h := ih k
      simp only [List.flatMap_cons, List.take_succ_cons]
      rw [List.take_append, hl, List.take_of_length_le (by rw [hl, Nat.add_mul]; omega), show (k + 1) * sz - sz = k * sz by rw [Nat.add_mul]; omega, h]
theorem flat_dropK {α : Type} {sz : Nat} {C : α → List Value} (hl : ∀ a, (C a).length = sz) (zs : List α) (k : Nat) : (zs.flatMap C).drop (k * sz) = (zs.drop k).flatMap C := by
  induction zs generalizing k with
  | nil => simp
  | cons z zs ih =>
    cases k with
    | zero => simp
    | succ k =>
      have h := ih k
      simp only [List.flatMap_cons, List.drop_succ_cons]
      rw [List.drop_append, hl, List.drop_of_length_le (by rw [hl, Nat.add_mul]; omega), show (k + 1) * sz - sz = k * sz by rw [Nat.add_mul]; omega, h]; rfl
/-- copy within rows whose elements take more cells than one -/
theorem run_copy_rowK {P : Program} (w : World) (dT sT ty elem : TypeId) (size g o dLen dCap : Nat) (a : Addr) (sLen sCap : Nat) (cur : Array Value) (t : TypeId) (cs : List Value)
    (hu : P.underlying dT = some (.slice elem)) (hs : (P.info? elem).map (·.size) = some size)
    (hg : w.heap[g]? = some (.cells cur t (0, 0))) (hn : cs.length = Nat.min sLen dLen * size)
    (hsrc : ∀ j v, cs[j]? = some v → w.cell? (a.add j) = some v) (hfit : o + cs.length ≤ cur.size) (h1 : ∀ v ∈ cs, v.oneCell' = true) :
    (Builtin.copy_ #[dT, sT] ty #[.slice (some ⟨g, o, none⟩) dLen dCap, .slice (some a) sLen sCap]).run P w =
      .ok (goInt ((Nat.min sLen dLen : Nat) : Int)) (w.setRow g (splice cur.toList o cs).toArray) := by
  have hl := run_loadCells_list (P := P) w a cs hsrc
  have hst := run_storeCells_at P g o t cs 0 cur w hg (by simpa using hfit) h1
  cases hq : P.info? elem with
  | none => simp [hq] at hs
  | some i =>
    have hi : i.size = size := by simpa [hq] using hs
    rw [hn] at hl
    simp only [Nat.add_zero] at hst
    have e : (splice cur.toList o cs).toArray = (cur.toList.take o ++ cs ++ cur.toList.drop (o + cs.length)).toArray := by unfold splice; rw [List.append_assoc]
    rw [e]
    simp [Builtin.copy_, run_underlying hu, Builtin.lenOf, Builtin.firstCells, sizeOf, typeInfo, hq, hi, hl, hst]
end Go.Proofs.YtkghhmjmfcnbnaaDoor
