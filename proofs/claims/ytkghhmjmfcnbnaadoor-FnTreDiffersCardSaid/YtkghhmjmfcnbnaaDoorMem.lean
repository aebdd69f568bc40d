/- The words for memory that this seat's walks use: a slice value that reads as a list of elements ('Sl'), rows that the call owns, and how both are kept. No program stands in it. -/
import Derived.WalkKit
import Derived.WalkSpells
import Derived.WalkLawsBesides
import Derived.ProofKit
import Derived.Lib.Hide
import Derived.Deep.Slices
namespace Go.Proofs.YtkghhmjmfcnbnaaDoor
open Go.RowKit

/-! ### lists of cells -/
section
variable {α : Type} {sz : Nat} {C : α → List Value}
theorem flat_len (hl : ∀ a, (C a).length = sz) (zs : List α) : (zs.flatMap C).length = zs.length * sz := by
  induction zs with
  | nil => simp
  | cons a zs ih => rw [List.flatMap_cons, List.length_append, ih, hl, List.length_cons, Nat.succ_mul, Nat.add_comm]

theorem flat_get (hl : ∀ a, (C a).length = sz) {zs : List α} {k j : Nat} {a : α} {u : Value} (hk : zs[k]? = some a) (hj : (C a)[j]? = some u) : (zs.flatMap C)[k * sz + j]? = some u := by
  induction zs generalizing k with
  | nil => simp at hk
  | cons b zs ih =>
    rw [List.flatMap_cons]
    have hjl : j < sz := by have := (List.getElem?_eq_some_iff.1 hj).1; rw [hl] at this; exact this
    cases k with
    | zero =>
      simp only [List.getElem?_cons_zero, Option.some.injEq] at hk
      subst hk
      rw [Nat.zero_mul, Nat.zero_add, List.getElem?_append_left (by rw [hl]; exact hjl)]
      exact hj
    | succ k =>
      rw [List.getElem?_cons_succ] at hk
      rw [List.getElem?_append_right (by rw [hl, Nat.succ_mul]; omega), hl, show (k + 1) * sz + j - sz = k * sz + j by rw [Nat.succ_mul]; omega]
      exact ih hk

theorem flat_set2 (hl : ∀ a, (C a).length = 2) {zs : List α} {k : Nat} {a : α} {u v : Value} (hk : k < zs.length) (ha : C a = [u, v]) :
    ((zs.flatMap C).set (k * 2) u).set (k * 2 + 1) v = (zs.set k a).flatMap C := by
  induction zs generalizing k with
  | nil => simp at hk
  | cons b zs ih =>
    have hb : ∃ x y, C b = [x, y] := by
      have := hl b
      match h : C b, this with
      | [x, y], _ => exact ⟨x, y, rfl⟩
    obtain ⟨x, y, hb⟩ := hb
    cases k with
    | zero => simp [List.flatMap_cons, hb, ha]
    | succ k =>
      have := ih (k := k) (by simpa using hk)
      rw [show (k + 1) * 2 = k * 2 + 1 + 1 by omega]
      simp [List.flatMap_cons, hb, this]

theorem flat_set3 (hl : ∀ a, (C a).length = 3) {zs : List α} {k : Nat} {a : α} {u v x : Value} (hk : k < zs.length) (ha : C a = [u, v, x]) :
    (((zs.flatMap C).set (k * 3) u).set (k * 3 + 1) v).set (k * 3 + 2) x = (zs.set k a).flatMap C := by
  induction zs generalizing k with
  | nil => simp at hk
  | cons b zs ih =>
    have hb : ∃ x y z, C b = [x, y, z] := by
      have := hl b
      match h : C b, this with
      | [x, y, z], _ => exact ⟨x, y, z, rfl⟩
    obtain ⟨x', y', z', hb⟩ := hb
    cases k with
    | zero => simp [List.flatMap_cons, hb, ha]
    | succ k =>
      have := ih (k := k) (by simpa using hk)
      rw [show (k + 1) * 3 = k * 3 + 1 + 1 + 1 by omega]
      simp [List.flatMap_cons, hb, this]

theorem flat_set4 (hl : ∀ a, (C a).length = 4) {zs : List α} {k : Nat} {a : α} {u v x y : Value} (hk : k < zs.length) (ha : C a = [u, v, x, y]) :
    ((((zs.flatMap C).set (k * 4) u).set (k * 4 + 1) v).set (k * 4 + 2) x).set (k * 4 + 3) y = (zs.set k a).flatMap C := by
  induction zs generalizing k with
  | nil => simp at hk
  | cons b zs ih =>
    have hb : ∃ x y z t, C b = [x, y, z, t] := by
      have := hl b
      match h : C b, this with
      | [x, y, z, t], _ => exact ⟨x, y, z, t, rfl⟩
    obtain ⟨x', y', z', t', hb⟩ := hb
    cases k with
    | zero => simp [List.flatMap_cons, hb, ha]
    | succ k =>
      have := ih (k := k) (by simpa using hk)
      rw [show (k + 1) * 4 = k * 4 + 1 + 1 + 1 + 1 by omega]
      simp [List.flatMap_cons, hb, this]

theorem made_flat (hl : ∀ a, (C a).length = sz) (hp : 0 < sz) (a : α) (n : Nat) : (madeCells (C a).toArray (n * sz)).toList = (List.replicate n a).flatMap C := by
  apply List.ext_getElem?
  intro i
  have hlen : ((List.replicate n a).flatMap C).length = n * sz := by rw [flat_len hl, List.length_replicate]
  by_cases hi : i < n * sz
  · have hk : i / sz < n := (Nat.div_lt_iff_lt_mul hp).2 hi
    have hm : i % sz < (C a).length := by rw [hl]; exact Nat.mod_lt _ hp
    have h1 := flat_get hl (zs := List.replicate n a) (k := i / sz) (j := i % sz) (a := a) (u := (C a)[i % sz]) (by rw [List.getElem?_replicate, if_pos hk]) (List.getElem?_eq_getElem hm)
    rw [show i / sz * sz + i % sz = i by rw [Nat.mul_comm]; exact Nat.div_add_mod i sz] at h1
    rw [h1]
    have e : (C a).toArray.size = sz := by simpa using hl a
    simp only [madeCells, Array.toList_map, Array.toList_range, List.getElem?_map, List.getElem?_range hi, Option.map_some]
    rw [e]
    simp [hm]
  · rw [List.getElem?_eq_none (by rw [Array.length_toList, size_madeCells]; omega), List.getElem?_eq_none (by rw [hlen]; omega)]

theorem set_fill {zs : List α} {k : Nat} {z a : α} (hk : zs[k]? = some a) : (zs.take k ++ List.replicate (zs.length - k) z).set k a = zs.take (k + 1) ++ List.replicate (zs.length - (k + 1)) z := by
  obtain ⟨hlt, hv⟩ := List.getElem?_eq_some_iff.1 hk
  have e : zs.length - k = (zs.length - (k + 1)) + 1 := by omega
  rw [e, List.replicate_succ, List.take_succ_eq_append_getElem hlt, hv, List.set_append_right _ _ (by simp; omega)]
  simp [List.length_take, Nat.min_eq_left (Nat.le_of_lt hlt)]
end

/-! ### a slice that reads as a list -/
/-- from offset o on block b holds the values l -/
def At (w : World) (b o : Nat) (l : List Value) : Prop := ∀ j u, l[j]? = some u → w.cell? ⟨b, o + j, none⟩ = some u

/-- the slice value v reads in w as the elements zs, sz cells each -/
def Sl {α : Type} (sz : Nat) (C : α → List Value) (w : World) (v : Value) (zs : List α) : Prop :=
  ∃ A c, v = .slice A zs.length c ∧ zs.length ≤ c ∧ c ≤ maxLen ∧ (∀ k a, zs[k]? = some a → ∃ b off, A = some ⟨b, off, none⟩ ∧ b < w.heap.size ∧ At w b (off + k * sz) (C a))

/-- the slice value v is a row of the call's own (from block base on) that holds just zs -/
def Own {α : Type} (sz : Nat) (C : α → List Value) (e : TypeId) (base : Nat) (w : World) (v : Value) (zs : List α) : Prop :=
  w.ownsRow base e sz v zs.length (zs.flatMap C)

theorem below_of_grown {w w' : World} (h : w.grownBy w' none) : Below w.heap.size w w' := ⟨h.os, h.tape, h.output, h.size, fun k hk => h.block k hk (by simp)⟩
theorem grown_of_below {w w' : World} (h : Below w.heap.size w w') (row : Option Nat) : w.grownBy w' row := ⟨h.os, h.tape, h.output, h.size, fun k hk _ => h.block k hk⟩
theorem grown_trans {a b c : World} {row : Option Nat} (h : a.grownBy b row) (k : b.grownBy c row) : a.grownBy c row :=
  ⟨k.os.trans h.os, k.tape.trans h.tape, k.output.trans h.output, Nat.le_trans h.size k.size, fun i hi hn => (k.block i (Nat.lt_of_lt_of_le hi h.size) hn).trans (h.block i hi hn)⟩
theorem below_up {a b c : World} (h : Below a.heap.size a b) (k : Below b.heap.size b c) : Below a.heap.size a c := h.trans (k.mono h.size)

theorem below0 (w : World) : Below w.heap.size w w := Below.refl _ _
theorem al {a w : World} (h : Below a.heap.size a w) (o : Obj) : Below a.heap.size a (w.alloc o) := h.alloc h.size o
theorem bcell {B : Nat} {W w1 : World} (hb : Below B W w1) : (∀ b o, b < B → w1.cell? ⟨b, o, none⟩ = W.cell? ⟨b, o, none⟩) ∧ (∀ b o, b < B → w1.frozen? ⟨b, o, none⟩ = W.frozen? ⟨b, o, none⟩) :=
  ⟨fun b o h => hb.cell (p := ⟨b, o, none⟩) h, fun b o h => hb.frozen (p := ⟨b, o, none⟩) h⟩

section
variable {α : Type} {sz : Nat} {C : α → List Value} {w w' : World} {v : Value} {zs : List α}
theorem Sl.nil_ (w : World) : Sl sz C w (.slice none 0 0) ([] : List α) := ⟨none, 0, rfl, Nat.le_refl _, by simp [maxLen], fun k a h => by simp at h⟩
theorem Sl.keep (h : Sl sz C w v zs) (hs : w.heap.size ≤ w'.heap.size) (hk : ∀ b o, b < w.heap.size → v.ownBlock = some b → w'.cell? ⟨b, o, none⟩ = w.cell? ⟨b, o, none⟩) : Sl sz C w' v zs := by
  obtain ⟨A, c, rfl, h1, h2, h3⟩ := h
  refine ⟨A, c, rfl, h1, h2, fun k a hka => ?_⟩
  obtain ⟨b, off, rfl, hb, hat⟩ := h3 k a hka
  exact ⟨b, off, rfl, Nat.lt_of_lt_of_le hb hs, fun j u hj => (hk b _ hb rfl).trans (hat j u hj)⟩
theorem Sl.below (h : Sl sz C w v zs) (hb : Below w.heap.size w w') : Sl sz C w' v zs := h.keep hb.size fun b o hl _ => hb.cell (p := ⟨b, o, none⟩) hl
theorem Sl.grown {row : Option Nat} (h : Sl sz C w v zs) (hg : w.grownBy w' row) (hne : v.ownBlock = none ∨ v.ownBlock ≠ row) : Sl sz C w' v zs :=
  h.keep hg.size fun b o hl hv => World.cell?_of_block (hg.block b hl (by
    rcases hne with hne | hne
    · rw [hne] at hv; cases hv
    · rw [hv] at hne; exact hne))
theorem Own.sl (hl : ∀ a, (C a).length = sz) {e : TypeId} {base : Nat} (h : Own sz C e base w v zs) : Sl sz C w v zs := by
  have h0 : w.ownsRow base e sz v zs.length (zs.flatMap C) := h
  rcases h.2 with ⟨rfl, hn⟩ | ⟨g, cap, cur, rfl, _, hg, hnc, hcm, _, _⟩
  · have : zs = [] := List.eq_nil_of_length_eq_zero hn
    subst this
    exact Sl.nil_ w
  · refine ⟨some ⟨g, 0, none⟩, cap, rfl, hnc, hcm, fun k a hka => ⟨g, 0, rfl, (Array.getElem?_eq_some_iff.1 hg).1, fun j u hj => ?_⟩⟩
    have h1 := h0.cells (g := g) rfl (k * sz + j) u (flat_get hl hka hj)
    rw [Go.WideShapes.add_plain] at h1
    rw [show 0 + k * sz + j = 0 + (k * sz + j) by omega]
    exact h1
theorem Own.lt {e : TypeId} {base : Nat} (h : Own sz C e base w v zs) : ∀ k, v.ownBlock = some k → base ≤ k ∧ k < w.heap.size := World.ownsRow.lt h
theorem Own.grown {e : TypeId} {base : Nat} {row : Option Nat} (h : Own sz C e base w v zs) (hg : w.grownBy w' row) (hne : v.ownBlock = none ∨ v.ownBlock ≠ row) : Own sz C e base w' v zs := World.ownsRow.kept h hg hne
theorem Own.below {e : TypeId} {base : Nat} (h : Own sz C e base w v zs) (hb : Below w.heap.size w w') : Own sz C e base w' v zs :=
  World.ownsRow.kept h (grown_of_below hb none) (by cases hv : v.ownBlock <;> simp)
theorem Own.mono {e : TypeId} {base base' : Nat} (h : Own sz C e base w v zs) (hb : base' ≤ base) : Own sz C e base' w v zs :=
  ⟨h.1, h.2.imp id fun ⟨g, cap, cur, a1, a2, a3⟩ => ⟨g, cap, cur, a1, Nat.le_trans hb a2, a3⟩⟩
/-- two values whose blocks are told apart -/
theorem own_ne {e e' : TypeId} {base base' : Nat} {β : Type} {sz' : Nat} {C' : β → List Value} {v' : Value} {ys : List β} (h : Own sz C e base w v zs) (h' : Own sz' C' e' base' w' v' ys) (hs : w'.heap.size ≤ base) : v.ownBlock = none ∨ v.ownBlock ≠ v'.ownBlock := by
  cases hv : v.ownBlock with
  | none => exact .inl rfl
  | some g =>
    refine .inr fun he => ?_
    have a := (h.lt g hv).1
    have b := (h'.lt g he.symm).2
    omega
theorem sl_ne {e : TypeId} {base : Nat} {β : Type} {sz' : Nat} {C' : β → List Value} {v' : Value} {ys : List β} (h : Own sz C e base w v zs) (h' : Sl sz' C' w' v' ys) (hs : w'.heap.size ≤ base) (hy : ys ≠ []) : v.ownBlock ≠ v'.ownBlock := by
  obtain ⟨A, c, rfl, _, _, h3⟩ := h'
  obtain ⟨y, hy0⟩ : ∃ y, ys[0]? = some y := by
    cases ys with
    | nil => exact absurd rfl hy
    | cons y _ => exact ⟨y, rfl⟩
  obtain ⟨b, off, rfl, hb, _⟩ := h3 0 y hy0
  intro he
  have := (h.lt b (by rw [he]; rfl)).1
  omega

/-- a cell of an owned row of two-cell elements: it is there, and it may be written -/
theorem own2 {e : TypeId} {base g n cap : Nat} {C : α → List Value} (hl : ∀ a, (C a).length = sz) (h : w.ownsRow base e sz (.slice (some ⟨g, 0, none⟩) n cap) n (zs.flatMap C)) (hn : zs.length = n) {k : Nat} (hk : k < n) (j : Nat) (hj : j < sz) :
    (∃ u, w.cell? ⟨g, k * sz + j, none⟩ = some u) ∧ w.frozen? ⟨g, k * sz + j, none⟩ = false := by
  have hlt : k * sz + j < n * sz := by
    have : (k + 1) * sz ≤ n * sz := Nat.mul_le_mul_right _ hk
    rw [Nat.succ_mul] at this; omega
  refine ⟨?_, h.frozenAt _⟩
  have hlen : k * sz + j < (zs.flatMap C).length := by rw [flat_len hl, hn]; exact hlt
  exact ⟨_, (h.cellAt _ hlt).trans (List.getElem?_eq_getElem hlen)⟩
end

theorem own_cell {w : World} {e : TypeId} {base sz g n cap j : Nat} {xs : List Value} (h : w.ownsRow base e sz (.slice (some ⟨g, 0, none⟩) n cap) n xs) (hj : j < n * sz) : (∃ u, w.cell? ⟨g, j, none⟩ = some u) ∧ w.frozen? ⟨g, j, none⟩ = false :=
  ⟨⟨_, (h.cellAt j hj).trans (List.getElem?_eq_getElem (by rw [h.1]; exact hj))⟩, h.frozenAt j⟩
/-- a round of a copy: element k is stored cell by cell -/
theorem own_put2 {α : Type} {C : α → List Value} {w : World} {e : TypeId} {base g n cap k : Nat} {zs : List α} {z a : α} {u v : Value} (hl : ∀ a, (C a).length = 2) (h : w.ownsRow base e 2 (.slice (some ⟨g, 0, none⟩) n cap) n ((zs.take k ++ List.replicate (zs.length - k) z).flatMap C))
    (hz : zs[k]? = some a) (ha : C a = [u, v]) :
    ((w.setCell ⟨g, k * 2, none⟩ u).setCell ⟨g, k * 2 + 1, none⟩ v).ownsRow base e 2 (.slice (some ⟨g, 0, none⟩) n cap) n ((zs.take (k + 1) ++ List.replicate (zs.length - (k + 1)) z).flatMap C) := by
  have h2 := ((h.stored (k * 2) u).1.stored (k * 2 + 1) v).1
  have hk := (List.getElem?_eq_some_iff.1 hz).1
  rw [flat_set2 hl (by simp; omega) ha, set_fill hz] at h2
  exact h2
theorem own_put3 {α : Type} {C : α → List Value} {w : World} {e : TypeId} {base g n cap k : Nat} {zs : List α} {z a : α} {u v x : Value} (hl : ∀ a, (C a).length = 3) (h : w.ownsRow base e 3 (.slice (some ⟨g, 0, none⟩) n cap) n ((zs.take k ++ List.replicate (zs.length - k) z).flatMap C))
    (hz : zs[k]? = some a) (ha : C a = [u, v, x]) :
    (((w.setCell ⟨g, k * 3, none⟩ u).setCell ⟨g, k * 3 + 1, none⟩ v).setCell ⟨g, k * 3 + 2, none⟩ x).ownsRow base e 3 (.slice (some ⟨g, 0, none⟩) n cap) n ((zs.take (k + 1) ++ List.replicate (zs.length - (k + 1)) z).flatMap C) := by
  have h2 := (((h.stored (k * 3) u).1.stored (k * 3 + 1) v).1.stored (k * 3 + 2) x).1
  have hk := (List.getElem?_eq_some_iff.1 hz).1
  rw [flat_set3 hl (by simp; omega) ha, set_fill hz] at h2
  exact h2
theorem own_put4 {α : Type} {C : α → List Value} {w : World} {e : TypeId} {base g n cap k : Nat} {zs : List α} {z a : α} {u v x y : Value} (hl : ∀ a, (C a).length = 4) (h : w.ownsRow base e 4 (.slice (some ⟨g, 0, none⟩) n cap) n ((zs.take k ++ List.replicate (zs.length - k) z).flatMap C))
    (hz : zs[k]? = some a) (ha : C a = [u, v, x, y]) :
    ((((w.setCell ⟨g, k * 4, none⟩ u).setCell ⟨g, k * 4 + 1, none⟩ v).setCell ⟨g, k * 4 + 2, none⟩ x).setCell ⟨g, k * 4 + 3, none⟩ y).ownsRow base e 4 (.slice (some ⟨g, 0, none⟩) n cap) n ((zs.take (k + 1) ++ List.replicate (zs.length - (k + 1)) z).flatMap C) := by
  have h2 := ((((h.stored (k * 4) u).1.stored (k * 4 + 1) v).1.stored (k * 4 + 2) x).1.stored (k * 4 + 3) y).1
  have hk := (List.getElem?_eq_some_iff.1 hz).1
  rw [flat_set4 hl (by simp; omega) ha, set_fill hz] at h2
  exact h2

theorem take_one {α : Type} {zs : List α} {k : Nat} {a : α} (h : zs[k]? = some a) : zs.take (k + 1) = zs.take k ++ [a] := by
  obtain ⟨hlt, hv⟩ := List.getElem?_eq_some_iff.1 h
  rw [List.take_succ_eq_append_getElem hlt, hv]
/-- old memory behind an append onto a row of the call's own -/
theorem app_step {W wr w0 w1 : World} {e : TypeId} {sz n : Nat} {v : Value} {xs : List Value} (hnx : Below W.heap.size W wr) (hown : wr.ownsRow W.heap.size e sz v n xs) (hw : Below wr.heap.size wr w0) (hg : w0.grownBy w1 v.ownBlock) : Below W.heap.size W w1 :=
  (below_up hnx hw).grown hg (Nat.le_trans hnx.size hw.size) fun k hk => (hown.lt k hk).1
/-- what lay there before v was made is kept where v's own row is written -/
theorem sl_older {α β : Type} {sz sz' : Nat} {C : α → List Value} {C' : β → List Value} {w w' w0 w1 : World} {u v : Value} {ys : List α} {zs : List β} {e : TypeId} {base : Nat} (h : Sl sz C w u ys) (h0 : Sl sz C w0 u ys) (ho : Own sz' C' e base w1 v zs) (hs : w0.heap.size ≤ base) (hg : w.grownBy w' v.ownBlock) : Sl sz C w' u ys := by
  by_cases hy : ys = []
  · subst hy
    obtain ⟨A, c, rfl, h1, h2, _⟩ := h
    exact ⟨A, c, rfl, h1, h2, fun k a hk => by simp at hk⟩
  · exact h.grown hg (.inr (sl_ne ho h0 hs hy).symm)
/-- what was made behind v is kept where v's own row is written -/
theorem own_newer {α β : Type} {sz sz' : Nat} {C : α → List Value} {C' : β → List Value} {w w' w1 : World} {u v : Value} {ys : List α} {zs : List β} {e e' : TypeId} {base base' : Nat} (h : Own sz C e base w u ys) (ho : Own sz' C' e' base' w1 v zs) (hs : w1.heap.size ≤ base) (hg : w.grownBy w' v.ownBlock) : Own sz C e base w' u ys :=
  h.grown hg (own_ne h ho hs)
/-- old memory where an own row is written -/
theorem below_mark {α : Type} {sz : Nat} {C : α → List Value} {W w w' w1 : World} {v : Value} {zs : List α} {e : TypeId} {base : Nat} (h : Below W.heap.size W w) (ho : Own sz C e base w1 v zs) (hs : W.heap.size ≤ base) (hg : w.grownBy w' v.ownBlock) : Below W.heap.size W w' :=
  h.grown hg h.size fun k hk => Nat.le_trans hs (ho.lt k hk).1
/-- the cells of a new block -/
theorem news_new (w : World) (cs : Array Value) (t : TypeId) (n : Nat) (hn : n = w.heap.size) : ∀ j u, cs.toList[j]? = some u → (w.alloc (.cells cs t)).cell? ((⟨n, 0, none⟩ : Addr).add j) = some u := by
  intro j u hu
  subst hn
  rw [Go.WideShapes.add_plain, Nat.zero_add, World.cell?_alloc_new]
  simpa using hu
/-- a call that writes into the row of v alone and returns a number -/
def RetMark {α : Type} (sz : Nat) (C : α → List Value) (t : TypeId) (base : Nat) (v : Value) (r : Nat) (zs : List α) (w : World) (e : Ending) (w' : World) : Prop :=
  e = .returned (.int .i64 r) ∧ Own sz C t base w' v zs ∧ w.grownBy w' v.ownBlock

/-- a call that hands back a row of its own -/
def RetOwn {α : Type} (sz : Nat) (C : α → List Value) (t : TypeId) (zs : List α) (w : World) (e : Ending) (w' : World) : Prop :=
  ∃ v, e = .returned v ∧ Own sz C t w.heap.size w' v zs ∧ Below w.heap.size w w'
end Go.Proofs.YtkghhmjmfcnbnaaDoor
