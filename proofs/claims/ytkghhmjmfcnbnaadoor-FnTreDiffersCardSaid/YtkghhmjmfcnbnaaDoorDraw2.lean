/- The drawing of an input out of a code: the opened reader; texts picked out of a literal. -/
import Derived.Test.YtkghhmjmfcnbnaaDoorDraw
namespace Go.Proofs.YtkghhmjmfcnbnaaDoor
open Go.RowKit

/-- a call that opens a reader -/
def OpenPost (W w : World) (e : Ending) (w' : World) : Prop := ∃ (g : Nat) (v : Value) (bs : List UInt8), e = .returned (.pointer (some ⟨g, 0, none⟩)) ∧ Rd W g v bs 0 w' ∧ Below w.heap.size w w' ∧ w.heap.size ≤ g
theorem sl_take {α : Type} {sz : Nat} {C : α → List Value} {w : World} {A : Option Addr} {n c : Nat} {zs : List α} (h : Sl sz C w (.slice A n c) zs) (k : Nat) (hk : k ≤ n) : Sl sz C w (.slice A k c) (zs.take k) := by
  obtain ⟨A', c', e, h1, h2, h3⟩ := h
  simp only [Value.slice.injEq] at e
  obtain ⟨rfl, rfl, rfl⟩ := e
  refine ⟨A, c, by rw [List.length_take, Nat.min_eq_left hk], by rw [List.length_take, Nat.min_eq_left hk]; omega, h2, fun j a hj => ?_⟩
  have hjk : j < k := by have := (List.getElem?_eq_some_iff.1 hj).1; simp at this; omega
  rw [List.getElem?_take, if_pos hjk] at hj
  exact h3 j a hj
theorem sl_drop {α : Type} {sz : Nat} {C : α → List Value} {w : World} {b off n c : Nat} {zs : List α} (h : Sl sz C w (.slice (some ⟨b, off, none⟩) n c) zs) (k : Nat) (hk : k ≤ n) : Sl sz C w (.slice (some ⟨b, off + k * sz, none⟩) (n - k) (c - k)) (zs.drop k) := by
  obtain ⟨A', c', e, h1, h2, h3⟩ := h
  simp only [Value.slice.injEq] at e
  obtain ⟨rfl, rfl, rfl⟩ := e
  refine ⟨_, c - k, by rw [List.length_drop], by rw [List.length_drop]; omega, by omega, fun j a hj => ?_⟩
  rw [List.getElem?_drop] at hj
  obtain ⟨b', off', e', hb, hat⟩ := h3 (k + j) a hj
  simp only [Option.some.injEq, Addr.mk.injEq, and_true] at e'
  obtain ⟨rfl, rfl⟩ := e'
  exact ⟨b, off + k * sz, rfl, hb, by rwa [show off + k * sz + j * sz = off + (k + j) * sz by rw [Nat.add_mul]; omega]⟩

set_option maxRecDepth 100000 in
theorem l20Open_calls (W : World) (v : Value) (bs : List UInt8) (w : World) (hs : Sl 1 byteC W v bs) (hb : Below W.heap.size W w) :
    Calls Tryd.prog 49 #[v] w (OpenPost W w) := by
  obtain ⟨A, c, rfl, hc, hlc, hat⟩ := byte_at hs
  unfold maxLen at hc
  by_cases h : (2000 : Int) < bs.length
  · have ht := sl_take hs 2000 (by omega)
    have HT := Lib.hid ht
    clear ht hat
    go_enter Tryd.func49, Tryd.ntmps49
    go_wp2
    go_ret
    exact ⟨w.heap.size, _, bs.take 2000, rfl, ⟨heap_alloc_new w _, hb.size, HT.out, al hb _, by simp; omega⟩, al (below0 w) _, Nat.le_refl _⟩
  · have HT := Lib.hid hs
    clear hat
    go_enter Tryd.func49, Tryd.ntmps49
    go_wp2
    go_ret
    exact ⟨w.heap.size, _, bs, rfl, ⟨heap_alloc_new w _, hb.size, HT.out, al hb _, by omega⟩, al (below0 w) _, Nat.le_refl _⟩

/-- is each cell a text no longer than B -/
def strsB (B : Nat) (l : List Value) : Bool := l.all fun v => match v with | .string s => decide (s.size ≤ B) | _ => false
theorem lit_str {w w1 : World} {arr : Array Value} {t g m : Nat} (B : Nat) (hg : (w.alloc (.cells arr t)).grownBy w1 (some g)) (hgw : g < w.heap.size) (hall : strsB B arr.toList = true) (hm : m < arr.size) : ∃ s : ByteArray, w1.cell? ⟨w.heap.size, m, none⟩ = some (.string s) ∧ s.size ≤ B := by
  have hb : w1.heap[w.heap.size]? = some (.cells arr t (0, 0)) := (hg.block w.heap.size (by simp) (by simp; omega)).trans (heap_alloc_new w _)
  have hc := cell_of_row w1 w.heap.size m arr t (0, 0) hb
  have hmem : arr[m] ∈ arr.toList := by simp
  have h1 := List.all_eq_true.1 hall _ hmem
  rw [hc, Array.getElem?_eq_getElem hm]
  split at h1
  · rename_i s hs; exact ⟨s, by rw [hs], by simpa using h1⟩
  · cases h1
/-- a call that draws some text -/
def DrawStr (W : World) (g : Nat) (v : Value) (bs : List UInt8) (p k B : Nat) (w : World) (e : Ending) (w' : World) : Prop :=
  ∃ (s : ByteArray) (q : Nat), s.size ≤ B ∧ q ≤ p + k ∧ e = .returned (.string s) ∧ Rd W g v bs q w' ∧ w.grownBy w' (some g)
theorem Rd.al {W : World} {g : Nat} {v : Value} {bs : List UInt8} {p : Nat} {w : World} (h : Rd W g v bs p w) (o : Obj) : Rd W g v bs p (w.alloc o) := h.below ((Below.refl _ _).alloc (Nat.le_refl _) o)
theorem alloc_grown (w : World) (o : Obj) (row : Option Nat) : w.grownBy (w.alloc o) row := World.grownBy_alloc w o row

set_option maxRecDepth 100000 in
theorem l20Bytes_calls (W : World) (g : Nat) (v : Value) (bs : List UInt8) (p : Nat) (w : World) (hr : Rd W g v bs p w) (hp : p ≤ 100000) :
    Calls Tryd.prog 64 #[.pointer (some ⟨g, 0, none⟩)] w (DrawStr W g v bs p 1 6 w) := by
  have hlt := hr.lt
  go_enter Tryd.func64, Tryd.ntmps64
  go_wp2_with fail
  refine (pick_calls W g v bs p 7 _ (Rd.al hr _) (by omega) (by omega) hp).mono ?_
  rintro e w1 ⟨x, hx, rfl, hr1, hg1⟩
  obtain ⟨m, rfl⟩ := Int.eq_ofNat_of_zero_le hx.1
  obtain ⟨s, hs, hsz⟩ := lit_str 6 hg1 hlt rfl (m := m) (by simp; omega)
  have hm : m < 7 := by omega
  have HG := Lib.hid (grown_trans (alloc_grown w _ _) hg1)
  clear hg1
  go_wp2
  go_ret
  exact ⟨s, p + 1, hsz, by omega, rfl, hr1, HG.out⟩
set_option maxRecDepth 100000 in
theorem l20Path_calls (W : World) (g : Nat) (v : Value) (bs : List UInt8) (p : Nat) (w : World) (hr : Rd W g v bs p w) (hp : p ≤ 100000) :
    Calls Tryd.prog 75 #[.pointer (some ⟨g, 0, none⟩)] w (DrawStr W g v bs p 1 5 w) := by
  have hlt := hr.lt
  go_enter Tryd.func75, Tryd.ntmps75
  go_wp2_with fail
  refine (pick_calls W g v bs p 10 _ (Rd.al hr _) (by omega) (by omega) hp).mono ?_
  rintro e w1 ⟨x, hx, rfl, hr1, hg1⟩
  obtain ⟨m, rfl⟩ := Int.eq_ofNat_of_zero_le hx.1
  obtain ⟨s, hs, hsz⟩ := lit_str 5 hg1 hlt rfl (m := m) (by simp; omega)
  have hm : m < 10 := by omega
  have HG := Lib.hid (grown_trans (alloc_grown w _ _) hg1)
  clear hg1
  go_wp2
  go_ret
  exact ⟨s, p + 1, hsz, by omega, rfl, hr1, HG.out⟩
end Go.Proofs.YtkghhmjmfcnbnaaDoor
