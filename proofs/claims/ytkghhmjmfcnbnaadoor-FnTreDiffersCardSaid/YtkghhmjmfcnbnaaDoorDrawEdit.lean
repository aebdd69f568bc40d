/- The drawing of edits. -/
import Derived.Test.YtkghhmjmfcnbnaaDoorDraw2
import Derived.Test.YtkghhmjmfcnbnaaDoorEditH
namespace Go.Proofs.YtkghhmjmfcnbnaaDoor
open Go.RowKit

/-- a call that draws some edit -/
def DrawEd (W : World) (g : Nat) (v : Value) (bs : List UInt8) (p : Nat) (w : World) (e : Ending) (w' : World) : Prop :=
  ∃ (a s : ByteArray) (b : Bool) (q : Nat), a.size ≤ 6 ∧ s.size ≤ 6 ∧ q ≤ p + 3 ∧ e = .returned (.agg #[.string a, .string s, .bool b]) ∧ Rd W g v bs q w' ∧ w.grownBy w' (some g)
theorem Rd.set_new {W : World} {g : Nat} {v : Value} {bs : List UInt8} {p : Nat} {w : World} (h : Rd W g v bs p w) {b : Nat} (hb : b ≠ g) (hW : W.heap.size ≤ b) (o : Nat) (u : Value) : Rd W g v bs p (w.setCell ⟨b, o, none⟩ u) :=
  ⟨(heap_setCell_other w ⟨b, o, none⟩ g u (fun e => hb e.symm)).trans h.blk, h.old, h.sl, h.bel.setCell hW _, h.len⟩
theorem set_new_grown {w w1 : World} {row : Option Nat} (h : w.grownBy w1 row) {b : Nat} (hb : w.heap.size ≤ b) (o : Nat) (u : Value) : w.grownBy (w1.setCell ⟨b, o, none⟩ u) row :=
  ⟨h.os, h.tape, h.output, by simp [World.setCell]; exact h.size, fun k hk hr => (heap_setCell_other w1 ⟨b, o, none⟩ k u (fun (e : k = b) => by omega)).trans (h.block k hk hr)⟩
theorem set3_block {w : World} {b : Nat} {t : TypeId} {x y z : Value} (h : w.heap[b]? = some (.cells #[x, y, z] t (0, 0))) (x' y' z' : Value) :
    (((w.setCell ⟨b, 0, none⟩ x').setCell ⟨b, 1, none⟩ y').setCell ⟨b, 2, none⟩ z').heap[b]? = some (.cells #[x', y', z'] t (0, 0)) :=
  heap_setCell_same _ b 2 _ _ z' (heap_setCell_same _ b 1 _ _ y' (heap_setCell_same w b 0 _ _ x' h))

set_option maxRecDepth 100000 in
theorem l20Edit_calls (W : World) (g : Nat) (v : Value) (bs : List UInt8) (p : Nat) (w : World) (hr : Rd W g v bs p w) (hp : p ≤ 90000) :
    Calls Tryd.prog 82 #[.pointer (some ⟨g, 0, none⟩)] w (DrawEd W g v bs p w) := by
  have hlt := hr.lt
  go_enter Tryd.func82, Tryd.ntmps82
  go_wp2_with fail
  refine (l20Path_calls W g v bs p _ (Rd.al hr _) (by omega)).mono ?_
  rintro e w1 ⟨a, q1, ha, hq1, rfl, hr1, hg1⟩
  have G1 := grown_trans (alloc_grown w _ (some g)) hg1
  have z1 : w.heap.size < w1.heap.size := by have := hg1.size; simp at this; omega
  go_wp2_with fail
  refine (l20Bytes_calls W g v bs q1 _ hr1 (by omega)).mono ?_
  rintro e w2 ⟨s, q2, hs, hq2, rfl, hr2, hg2⟩
  have G2 := grown_trans G1 hg2
  have z2 := hg2.size
  have G3 := grown_trans G2 (alloc_grown w2 (.cells #[.string a, .string s, .bool false] 49) (some g))
  go_wp2_with fail
  refine (pick_calls W g v bs q2 5 _ (Rd.al hr2 _) (by omega) (by omega) (by omega)).mono ?_
  rintro e w3 ⟨x, hx, rfl, hr3, hg3⟩
  have G4 := grown_trans G3 hg3
  have z3 := hg3.size
  have hb : w3.heap[w2.heap.size]? = some (.cells #[.string a, .string s, .bool false] 49 (0, 0)) := (hg3.block w2.heap.size (by simp) (by simp; have := hr2.lt; omega)).trans (heap_alloc_new w2 _)
  have hcell : w3.cell? ⟨w2.heap.size, 0, none⟩ = some (.string a) := by rw [cell_of_row w3 w2.heap.size 0 _ _ _ hb]; rfl
  have hB : w3.heap[w.heap.size]? = some (.cells #[.string ByteArray.empty, .string ByteArray.empty, .bool false] 49 (0, 0)) :=
    (hg3.block w.heap.size (by simp; omega) (by simp; omega)).trans ((alloc_grown w2 _ (some g)).block w.heap.size (by omega) (by simp; omega) |>.trans ((hg2.block w.heap.size z1 (by simp; omega)).trans ((hg1.block w.heap.size (by simp) (by simp; omega)).trans (heap_alloc_new w _))))
  have b0 : w3.cell? ⟨w.heap.size, 0, none⟩ = some (.string ByteArray.empty) := by rw [cell_of_row w3 _ 0 _ _ _ hB]; rfl
  have b1 : w3.cell? ⟨w.heap.size, 1, none⟩ = some (.string ByteArray.empty) := by rw [cell_of_row w3 _ 1 _ _ _ hB]; rfl
  have b2 : w3.cell? ⟨w.heap.size, 2, none⟩ = some (.bool false) := by rw [cell_of_row w3 _ 2 _ _ _ hB]; rfl
  have c0 : w3.cell? ⟨w2.heap.size, 0, none⟩ = some (.string a) := by rw [cell_of_row w3 _ 0 _ _ _ hb]; rfl
  have c1 : w3.cell? ⟨w2.heap.size, 1, none⟩ = some (.string s) := by rw [cell_of_row w3 _ 1 _ _ _ hb]; rfl
  have c2 : w3.cell? ⟨w2.heap.size, 2, none⟩ = some (.bool false) := by rw [cell_of_row w3 _ 2 _ _ _ hb]; rfl
  have f0 := frozen_of_row w3 w.heap.size 0 _ _ hB
  have f1 := frozen_of_row w3 w.heap.size 1 _ _ hB
  have f2 := frozen_of_row w3 w.heap.size 2 _ _ hB
  have hR := fun u v b => ((hr3.set_new (b := w.heap.size) (by omega) (by have := hr.bel.size; omega) 0 (.string u)).set_new (b := w.heap.size) (by omega) (by have := hr.bel.size; omega) 1 (.string v)).set_new (b := w.heap.size) (by omega) (by have := hr.bel.size; omega) 2 (.bool b)
  have hG := fun u v b => set_new_grown (set_new_grown (set_new_grown G4 (b := w.heap.size) (Nat.le_refl _) 0 (.string u)) (b := w.heap.size) (Nat.le_refl _) 1 (.string v)) (b := w.heap.size) (Nat.le_refl _) 2 (.bool b)
  have hF := fun u v b => set3_block hB (.string u) (.string v) (.bool b)
  have HH := Lib.hid (And.intro hR (And.intro hG hF))
  clear hR hG hF
  by_cases h : x = 0
  · have hq : (x == 0) = true := by simpa using h
    go_wp2
    obtain ⟨hR, hG, hF⟩ := HH.out
    refine bodyPost_ret (results_cell_row rfl _ _ w.heap.size _ _ (0, 0) _ rfl (hF a ByteArray.empty true) rfl rfl rfl) rfl ?_
    exact ⟨a, ByteArray.empty, true, q2 + 1, by omega, by decide, by omega, rfl, hR _ _ _, hG _ _ _⟩
  · have hq : (x == 0) = false := by simpa using h
    go_wp2
    obtain ⟨hR, hG, hF⟩ := HH.out
    refine bodyPost_ret (results_cell_row rfl _ _ w.heap.size _ _ (0, 0) _ rfl (hF a s false) rfl rfl rfl) rfl ?_
    exact ⟨a, s, false, q2 + 1, by omega, hs, by omega, rfl, hR _ _ _, hG _ _ _⟩
end Go.Proofs.YtkghhmjmfcnbnaaDoor
