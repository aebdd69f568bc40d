/- The drawing of a rule: its first statement is one drawn region of four picks, walked by an invariant. -/
import Derived.Test.YtfiempmdmkoagaaDoorDrawP
import Derived.Test.YtfiempmdmkoagaaDoorInv

namespace Go.Proofs.YtfiempmdmkoagaaDoor
open Go.RowKit

theorem Rd.set_new {W : World} {g : Nat} {v : Value} {bs : List UInt8} {p : Nat} {w : World} (h : Rd W g v bs p w) {b : Nat} (hb : b ≠ g) (hW : W.heap.size ≤ b) (o : Nat) (u : Value) : Rd W g v bs p (w.setCell ⟨b, o, none⟩ u) :=
  ⟨(heap_setCell_other w ⟨b, o, none⟩ g u (fun e => hb e.symm)).trans h.blk, h.old, h.sl, h.bel.setCell hW _, h.len⟩
theorem set_new_grown {w w1 : World} {row : Option Nat} (h : w.grownBy w1 row) {b : Nat} (hb : w.heap.size ≤ b) (o : Nat) (u : Value) : w.grownBy (w1.setCell ⟨b, o, none⟩ u) row :=
  ⟨h.os, h.tape, h.output, by simp [World.setCell]; exact h.size, fun k hk hr => (heap_setCell_other w1 ⟨b, o, none⟩ k u (fun (e : k = b) => by omega)).trans (h.block k hk hr)⟩
theorem set4_block {w : World} {b : Nat} {t : TypeId} {x y z u : Value} (h : w.heap[b]? = some (.cells #[x, y, z, u] t (0, 0))) (x' y' z' u' : Value) :
    ((((w.setCell ⟨b, 0, none⟩ x').setCell ⟨b, 1, none⟩ y').setCell ⟨b, 2, none⟩ z').setCell ⟨b, 3, none⟩ u').heap[b]? = some (.cells #[x', y', z', u'] t (0, 0)) :=
  heap_setCell_same _ b 3 _ _ u' (heap_setCell_same _ b 2 _ _ z' (heap_setCell_same _ b 1 _ _ y' (heap_setCell_same w b 0 _ _ x' h)))

/-- in every world that grows out of w by g's own writing -/
def Ever (g : Nat) (w : World) (F : World → Prop) : Prop := ∀ w', w.grownBy w' (some g) → F w'
theorem Ever.on {g : Nat} {w w' : World} {F : World → Prop} (h : Ever g w F) (hg : w.grownBy w' (some g)) : Ever g w' F := fun w2 h2 => h w2 (grown_trans hg h2)
theorem Ever.now {g : Nat} {w : World} {F : World → Prop} (h : Ever g w F) : F w := h w (grown_of_below (Below.refl _ _) _)
/-- n texts of at most B bytes lie in block b -/
def Strs (g b n B : Nat) (w : World) : Prop := Ever g w fun w' => ∀ k, k < n → ∃ s : ByteArray, w'.cell? ⟨b, k, none⟩ = some (.string s) ∧ s.size ≤ B
theorem strs_new {w : World} {g B : Nat} {arr : Array Value} {t : Nat} (hgw : g < w.heap.size) (hall : strsB B arr.toList = true) : Strs g w.heap.size arr.size B (w.alloc (.cells arr t)) :=
  fun _ hg _ hk => lit_str B hg hgw hall hk

/-- what an operation of a drawing leaves -/
inductive Kd where
  | ptr | num (n : Nat) | sl (n B : Nat) | at (B : Nat) | str (B : Nat) | bool | rule | box | any
/-- what that says of the value -/
def Kd.says (w0 : World) (g : Nat) : Kd → Value → World → Prop
  | .ptr, v, _ => v = .pointer (some ⟨g, 0, none⟩)
  | .num n, v, _ => ∃ m : Nat, m < n ∧ v = .int .i64 (m : Int)
  | .sl n B, v, w => ∃ b, v = .slice (some ⟨b, 0, none⟩) n n ∧ Strs g b n B w
  | .at B, v, w => ∃ b k n, v = .pointer (some ⟨b, k, none⟩) ∧ k < n ∧ Strs g b n B w
  | .str B, v, _ => ∃ s : ByteArray, s.size ≤ B ∧ v = .string s
  | .bool, v, _ => ∃ c, v = .bool c
  | .rule, v, _ => ∃ (m : Nat) (s t : ByteArray) (c : Bool), m < 4 ∧ s.size ≤ 4 ∧ t.size ≤ 11 ∧ v = .agg #[.int .i64 (m : Int), .string s, .string t, .bool c]
  | .box, v, w => ∃ b, v = .pointer (some ⟨b, 0, none⟩) ∧ w0.heap.size ≤ b ∧ Ever g w fun w' => w'.heap[b]? = some (.cells #[.int .i64 0, .string ByteArray.empty, .string ByteArray.empty, .bool false] 40 (0, 0))
  | .any, _, _ => True
theorem Kd.keep {w0 : World} {g : Nat} {w w' : World} (hg : w.grownBy w' (some g)) : ∀ {k : Kd} {v : Value}, k.says w0 g v w → k.says w0 g v w'
  | .ptr, _, h => h
  | .num _, _, h => h
  | .sl _ _, _, ⟨b, e, h⟩ => ⟨b, e, h.on hg⟩
  | .at _, _, ⟨b, k, n, e, hk, h⟩ => ⟨b, k, n, e, hk, h.on hg⟩
  | .str _, _, h => h
  | .bool, _, h => h
  | .rule, _, h => h
  | .box, _, ⟨b, e, hb, h⟩ => ⟨b, e, hb, h.on hg⟩
  | .any, _, _ => trivial

/-- what the operations of l20Rule's first statement leave, in order -/
def rkd : Nat → Kd
  | 0 => .ptr | 1 => .num 4 | 2 => .sl 4 4 | 3 => .ptr | 4 => .num 4 | 5 => .at 4 | 6 => .str 4 | 7 => .sl 5 11 | 8 => .ptr | 9 => .num 5 | 10 => .at 11 | 11 => .str 11
  | 12 => .ptr | 13 => .num 2 | 14 => .bool | 15 => .rule | 16 => .box | _ => .any
/-- the temporary of an operation -/
def rdst (i : Nat) : Nat := if i = 16 then 5 else i + 6
theorem rdst_ne {i j : Nat} (h : j ≠ i) : rdst j ≠ rdst i := by unfold rdst; split <;> split <;> omega
/-- the frame -/
def frR (g : Nat) (n : Int) (b0 : Nat) (x : Nat → Value) : Act :=
  { tmps := #[.pointer (some ⟨g, 0, none⟩), .int .i64 n, undef, undef, .pointer (some ⟨b0, 0, none⟩), x 5, x 6, x 7, x 8, x 9, x 10, x 11, x 12, x 13, x 14, x 15, x 16, x 17, x 18, x 19, x 20, x 21,
      undef, undef, undef, undef, undef, undef, undef, undef, undef, undef, undef, undef, undef, undef, undef, undef, undef, undef, undef, undef, undef, undef, undef, undef, undef, undef, undef], defers := [] }
/-- how many picks have come up -/
def rdone (L : Nat → Bool) : Nat := (L 1).toNat + (L 4).toNat + (L 9).toNat + (L 13).toNat
structure RJ (W : World) (g : Nat) (v : Value) (bs : List UInt8) (p : Nat) (w0 : World) (L : Nat → Bool) (x : Nat → Value) (w : World) : Prop where
  grown : w0.grownBy w (some g)
  rd : ∃ q, q ≤ p + rdone L ∧ Rd W g v bs q w
  f : ∀ i, L i = true → (rkd i).says w0 g (x (rdst i)) w
theorem RJ.step {W : World} {g : Nat} {v : Value} {bs : List UInt8} {p : Nat} {w0 : World} {L : Nat → Bool} {x : Nat → Value} {w w' : World} {i : Nat} {u : Value} (h : RJ W g v bs p w0 L x w)
    (hg : w.grownBy w' (some g)) (hn : (rkd i).says w0 g u w') (hr : ∃ q, q ≤ p + rdone (upd L i true) ∧ Rd W g v bs q w') : RJ W g v bs p w0 (upd L i true) (upd x (rdst i) u) w' := by
  refine ⟨grown_trans h.grown hg, hr, fun j hj => ?_⟩
  by_cases e : j = i
  · subst e; rw [upd_same]; exact hn
  · rw [upd_other _ _ e] at hj
    rw [upd_other _ _ (rdst_ne e)]
    exact Kd.keep hg (h.f j hj)
/-- behind the statement -/
def RFin (W : World) (g : Nat) (v : Value) (bs : List UInt8) (p : Nat) (w0 : World) (n : Int) (b0 : Nat) (a : Act) (w : World) : Prop :=
  ∃ (x : Nat → Value) (b m q : Nat) (s t : ByteArray) (c : Bool), a = frR g n b0 x ∧ x 5 = .pointer (some ⟨b, 0, none⟩) ∧ w0.heap.size ≤ b ∧ m < 4 ∧ s.size ≤ 4 ∧ t.size ≤ 11 ∧ q ≤ p + 4 ∧
    w.heap[b]? = some (.cells #[.int .i64 (m : Int), .string s, .string t, .bool c] 40 (0, 0)) ∧ Rd W g v bs q w ∧ w0.grownBy w (some g)
/-- the invariant -/
def RInv (W : World) (g : Nat) (v : Value) (bs : List UInt8) (p : Nat) (w0 : World) (n : Int) (b0 : Nat) (L : Nat → Bool) (a : Act) (w : World) : Prop :=
  (L 17 = true ∧ (∀ j, j < 17 → L j = true) ∧ RFin W g v bs p w0 n b0 a w) ∨ (L 17 = false ∧ ∃ x, a = frR g n b0 x ∧ RJ W g v bs p w0 L x w)
theorem RInv.live {W : World} {g : Nat} {v : Value} {bs : List UInt8} {p : Nat} {w0 : World} {n : Int} {b0 : Nat} {L : Nat → Bool} {a : Act} {w : World} (h : RInv W g v bs p w0 n b0 L a w) {i : Nat} (hi : L i = false) (hlt : i < 18) :
    L 17 = false ∧ ∃ x, a = frR g n b0 x ∧ RJ W g v bs p w0 L x w := by
  rcases h with ⟨h1, h2, _⟩ | h
  · exfalso
    by_cases e : i = 17
    · subst e; rw [h1] at hi; cases hi
    · rw [h2 i (by omega)] at hi; cases hi
  · exact h

/-- is each cell a small number -/
def intsB (l : List Value) : Bool := l.all fun v => match v with | .int .i64 k => decide (-1 ≤ k ∧ k ≤ 5) | _ => false
theorem lit_int {w w1 : World} {arr : Array Value} {t g m : Nat} (hg : (w.alloc (.cells arr t)).grownBy w1 (some g)) (hgw : g < w.heap.size) (hall : intsB arr.toList = true) (hm : m < arr.size) : ∃ k : Int, w1.cell? ⟨w.heap.size, m, none⟩ = some (.int .i64 k) ∧ -1 ≤ k ∧ k ≤ 5 := by
  have hb : w1.heap[w.heap.size]? = some (.cells arr t (0, 0)) := (hg.block w.heap.size (by simp) (by simp; omega)).trans (heap_alloc_new w _)
  have hc := cell_of_row w1 w.heap.size m arr t (0, 0) hb
  have hmem : arr[m] ∈ arr.toList := by simp
  have h1 := List.all_eq_true.1 hall _ hmem
  rw [hc, Array.getElem?_eq_getElem hm]
  split at h1
  · rename_i k hk; exact ⟨k, by rw [hk], by simpa using h1⟩
  · cases h1
/-- a call that draws some rule -/
def DrawRu (W : World) (g : Nat) (v : Value) (bs : List UInt8) (p : Nat) (w : World) (e : Ending) (w' : World) : Prop :=
  ∃ (u : Int) (s t : ByteArray) (c : Bool) (q : Nat), (-1 ≤ u ∧ u ≤ 5) ∧ s.size ≤ 4 ∧ t.size ≤ 11 ∧ q ≤ p + 14 ∧ e = .returned (.agg #[.int .i64 u, .string s, .string t, .bool c]) ∧ Rd W g v bs q w' ∧ w.grownBy w' (some g)

set_option maxRecDepth 100000 in
set_option maxHeartbeats 1000000 in
theorem l20Rule_calls (W : World) (g : Nat) (v : Value) (bs : List UInt8) (p : Nat) (n : Int) (w : World) (hr : Rd W g v bs p w) (hp : p ≤ 80000) (hn1 : 1 ≤ n) (hn2 : n ≤ 1000) :
    Calls Tryd.prog 70 #[.pointer (some ⟨g, 0, none⟩), .int .i64 n] w (DrawRu W g v bs p w) := by
  have hlt := hr.lt
  go_enter Tryd.func70, Tryd.ntmps70
  go_wp2_with fail
  generalize hw0 : (w.alloc _) = w0
  have hr0 : Rd W g v bs p w0 := hw0 ▸ Rd.al hr _
  have hlt0 := hr0.lt
  refine wp_region_inv (RInv W g v bs p w0 n w.heap.size) (by kernel_rfl) (by kernel_rfl) (fun L hL => ?_) ?_ ?_
  · exact .inr ⟨hL 17 (by simp), fun _ => undef, rfl, grown_of_below (Below.refl _ _).drew _, ⟨p, by omega, hr0.below (Below.refl _ _).drew⟩, fun i hi => by
      by_cases h : i < 18
      · rw [hL i (by simpa using h)] at hi; cases hi
      · unfold rkd; split <;> first | omega | trivial⟩
  · refine ⟨?_, ?_, ?_, ?_, ?_, ?_, ?_, ?_, ?_, ?_, ?_, ?_, ?_, ?_, ?_, ?_, ?_, ?_, trivial⟩
    -- steps
    · intro L a w1 hL hd hJ K hK
      obtain ⟨h17, x, rfl, hx⟩ := hJ.live hL (by omega)
      clear hJ
      unfold frR
      go_simp
      exact hK _ _ (.inr ⟨h17, upd x 6 _, rfl, hx.step (i := 0) (grown_of_below (Below.refl _ _) _) rfl hx.rd⟩)
    · intro L a w1 hL hd hJ K hK
      obtain ⟨h17, x, rfl, hx⟩ := hJ.live hL (by omega)
      clear hJ
      have d0 : L 0 = true := hd ⟨0, .data⟩ (by simp) rfl
      have e0 : x 6 = .pointer (some ⟨g, 0, none⟩) := hx.f 0 d0
      obtain ⟨q, hq, hrq⟩ := hx.rd
      have hdone : rdone (upd L 1 true) = rdone L + 1 := by simp [rdone, upd, hL]; try omega
      have hd4 : rdone L ≤ 4 := by have h1 := (L 1).toNat_le; have h2 := (L 4).toNat_le; have h3 := (L 9).toNat_le; have h4 := (L 13).toNat_le; unfold rdone; omega
      unfold frR
      go_simp
      refine (pick_calls W g v bs q 4 _ hrq (by omega) (by omega) (by omega)).mono ?_
      rintro e w2 ⟨y, hy, rfl, hr2, hg2⟩
      obtain ⟨m, rfl⟩ := Int.eq_ofNat_of_zero_le hy.1
      exact hK _ _ (.inr ⟨h17, upd x 7 (.int .i64 (m : Int)), by simp [frR, upd, e0], hx.step (i := 1) hg2 ⟨m, by omega, rfl⟩ ⟨q + 1, by rw [hdone]; omega, hr2⟩⟩)
    · intro L a w1 hL hd hJ K hK
      obtain ⟨h17, x, rfl, hx⟩ := hJ.live hL (by omega)
      clear hJ
      obtain ⟨q, hq, hrq⟩ := hx.rd
      have hlt1 := hrq.lt
      unfold frR
      go_simp
      exact hK _ _ (.inr ⟨h17, upd x 8 _, rfl, hx.step (i := 2) (alloc_grown w1 _ _) ⟨w1.heap.size, rfl, strs_new hlt1 rfl⟩ ⟨q, hq, Rd.al hrq _⟩⟩)
    · intro L a w1 hL hd hJ K hK
      obtain ⟨h17, x, rfl, hx⟩ := hJ.live hL (by omega)
      clear hJ
      unfold frR
      go_simp
      exact hK _ _ (.inr ⟨h17, upd x 9 _, rfl, hx.step (i := 3) (grown_of_below (Below.refl _ _) _) rfl hx.rd⟩)
    · intro L a w1 hL hd hJ K hK
      obtain ⟨h17, x, rfl, hx⟩ := hJ.live hL (by omega)
      clear hJ
      have d3 : L 3 = true := hd ⟨3, .data⟩ (by simp) rfl
      have e3 : x 9 = .pointer (some ⟨g, 0, none⟩) := hx.f 3 d3
      obtain ⟨q, hq, hrq⟩ := hx.rd
      have hdone : rdone (upd L 4 true) = rdone L + 1 := by simp [rdone, upd, hL]; try omega
      have hd4 : rdone L ≤ 4 := by have h1 := (L 1).toNat_le; have h2 := (L 4).toNat_le; have h3 := (L 9).toNat_le; have h4 := (L 13).toNat_le; unfold rdone; omega
      unfold frR
      go_simp
      refine (pick_calls W g v bs q 4 _ hrq (by omega) (by omega) (by omega)).mono ?_
      rintro e w2 ⟨y, hy, rfl, hr2, hg2⟩
      obtain ⟨m, rfl⟩ := Int.eq_ofNat_of_zero_le hy.1
      exact hK _ _ (.inr ⟨h17, upd x 10 (.int .i64 (m : Int)), by simp [frR, upd, e3], hx.step (i := 4) hg2 ⟨m, by omega, rfl⟩ ⟨q + 1, by rw [hdone]; omega, hr2⟩⟩)
    · intro L a w1 hL hd hJ K hK
      obtain ⟨h17, x, rfl, hx⟩ := hJ.live hL (by omega)
      clear hJ
      have d2 : L 2 = true := hd ⟨2, .data⟩ (by simp) rfl
      have d4 : L 4 = true := hd ⟨4, .data⟩ (by simp) rfl
      obtain ⟨b, ea, hs⟩ : ∃ b, x 8 = .slice (some ⟨b, 0, none⟩) 4 4 ∧ Strs g b 4 4 w1 := hx.f 2 d2
      obtain ⟨m, hm, eb⟩ : ∃ m : Nat, m < 4 ∧ x 10 = .int .i64 (m : Int) := hx.f 4 d4
      have hmi : (m : Int) < 4 := by omega
      unfold frR
      go_simp
      exact hK _ _ (.inr ⟨h17, upd x 11 (.pointer (some ⟨b, m, none⟩)), by simp [frR, upd, ea, eb], hx.step (i := 5) (grown_of_below (Below.refl _ _) _) ⟨b, m, 4, rfl, hm, hs⟩ hx.rd⟩)
    · intro L a w1 hL hd hJ K hK
      obtain ⟨h17, x, rfl, hx⟩ := hJ.live hL (by omega)
      clear hJ
      have d5 : L 5 = true := hd ⟨5, .data⟩ (by simp) rfl
      obtain ⟨b, k, nn, ea, hk, hs⟩ : ∃ b k n, x 11 = .pointer (some ⟨b, k, none⟩) ∧ k < n ∧ Strs g b n 4 w1 := hx.f 5 d5
      obtain ⟨s, hc, hsz⟩ := hs.now k hk
      unfold frR
      go_simp
      exact hK _ _ (.inr ⟨h17, upd x 12 (.string s), by simp [frR, upd, ea], hx.step (i := 6) (grown_of_below (Below.refl _ _) _) ⟨s, hsz, rfl⟩ hx.rd⟩)
    · intro L a w1 hL hd hJ K hK
      obtain ⟨h17, x, rfl, hx⟩ := hJ.live hL (by omega)
      clear hJ
      obtain ⟨q, hq, hrq⟩ := hx.rd
      have hlt1 := hrq.lt
      unfold frR
      go_simp
      exact hK _ _ (.inr ⟨h17, upd x 13 _, rfl, hx.step (i := 7) (alloc_grown w1 _ _) ⟨w1.heap.size, rfl, strs_new hlt1 rfl⟩ ⟨q, hq, Rd.al hrq _⟩⟩)
    · intro L a w1 hL hd hJ K hK
      obtain ⟨h17, x, rfl, hx⟩ := hJ.live hL (by omega)
      clear hJ
      unfold frR
      go_simp
      exact hK _ _ (.inr ⟨h17, upd x 14 _, rfl, hx.step (i := 8) (grown_of_below (Below.refl _ _) _) rfl hx.rd⟩)
    · intro L a w1 hL hd hJ K hK
      obtain ⟨h17, x, rfl, hx⟩ := hJ.live hL (by omega)
      clear hJ
      have d8 : L 8 = true := hd ⟨8, .data⟩ (by simp) rfl
      have e8 : x 14 = .pointer (some ⟨g, 0, none⟩) := hx.f 8 d8
      obtain ⟨q, hq, hrq⟩ := hx.rd
      have hdone : rdone (upd L 9 true) = rdone L + 1 := by simp [rdone, upd, hL]; try omega
      have hd4 : rdone L ≤ 4 := by have h1 := (L 1).toNat_le; have h2 := (L 4).toNat_le; have h3 := (L 9).toNat_le; have h4 := (L 13).toNat_le; unfold rdone; omega
      unfold frR
      go_simp
      refine (pick_calls W g v bs q 5 _ hrq (by omega) (by omega) (by omega)).mono ?_
      rintro e w2 ⟨y, hy, rfl, hr2, hg2⟩
      obtain ⟨m, rfl⟩ := Int.eq_ofNat_of_zero_le hy.1
      exact hK _ _ (.inr ⟨h17, upd x 15 (.int .i64 (m : Int)), by simp [frR, upd, e8], hx.step (i := 9) hg2 ⟨m, by omega, rfl⟩ ⟨q + 1, by rw [hdone]; omega, hr2⟩⟩)
    · intro L a w1 hL hd hJ K hK
      obtain ⟨h17, x, rfl, hx⟩ := hJ.live hL (by omega)
      clear hJ
      have d7 : L 7 = true := hd ⟨7, .data⟩ (by simp) rfl
      have d9 : L 9 = true := hd ⟨9, .data⟩ (by simp) rfl
      obtain ⟨b, ea, hs⟩ : ∃ b, x 13 = .slice (some ⟨b, 0, none⟩) 5 5 ∧ Strs g b 5 11 w1 := hx.f 7 d7
      obtain ⟨m, hm, eb⟩ : ∃ m : Nat, m < 5 ∧ x 15 = .int .i64 (m : Int) := hx.f 9 d9
      have hmi : (m : Int) < 5 := by omega
      unfold frR
      go_simp
      exact hK _ _ (.inr ⟨h17, upd x 16 (.pointer (some ⟨b, m, none⟩)), by simp [frR, upd, ea, eb], hx.step (i := 10) (grown_of_below (Below.refl _ _) _) ⟨b, m, 5, rfl, hm, hs⟩ hx.rd⟩)
    · intro L a w1 hL hd hJ K hK
      obtain ⟨h17, x, rfl, hx⟩ := hJ.live hL (by omega)
      clear hJ
      have d10 : L 10 = true := hd ⟨10, .data⟩ (by simp) rfl
      obtain ⟨b, k, nn, ea, hk, hs⟩ : ∃ b k n, x 16 = .pointer (some ⟨b, k, none⟩) ∧ k < n ∧ Strs g b n 11 w1 := hx.f 10 d10
      obtain ⟨s, hc, hsz⟩ := hs.now k hk
      unfold frR
      go_simp
      exact hK _ _ (.inr ⟨h17, upd x 17 (.string s), by simp [frR, upd, ea], hx.step (i := 11) (grown_of_below (Below.refl _ _) _) ⟨s, hsz, rfl⟩ hx.rd⟩)
    · intro L a w1 hL hd hJ K hK
      obtain ⟨h17, x, rfl, hx⟩ := hJ.live hL (by omega)
      clear hJ
      unfold frR
      go_simp
      exact hK _ _ (.inr ⟨h17, upd x 18 _, rfl, hx.step (i := 12) (grown_of_below (Below.refl _ _) _) rfl hx.rd⟩)
    · intro L a w1 hL hd hJ K hK
      obtain ⟨h17, x, rfl, hx⟩ := hJ.live hL (by omega)
      clear hJ
      have d12 : L 12 = true := hd ⟨12, .data⟩ (by simp) rfl
      have e12 : x 18 = .pointer (some ⟨g, 0, none⟩) := hx.f 12 d12
      obtain ⟨q, hq, hrq⟩ := hx.rd
      have hdone : rdone (upd L 13 true) = rdone L + 1 := by simp [rdone, upd, hL]; try omega
      have hd4 : rdone L ≤ 4 := by have h1 := (L 1).toNat_le; have h2 := (L 4).toNat_le; have h3 := (L 9).toNat_le; have h4 := (L 13).toNat_le; unfold rdone; omega
      unfold frR
      go_simp
      refine (pick_calls W g v bs q 2 _ hrq (by omega) (by omega) (by omega)).mono ?_
      rintro e w2 ⟨y, hy, rfl, hr2, hg2⟩
      obtain ⟨m, rfl⟩ := Int.eq_ofNat_of_zero_le hy.1
      exact hK _ _ (.inr ⟨h17, upd x 19 (.int .i64 (m : Int)), by simp [frR, upd, e12], hx.step (i := 13) hg2 ⟨m, by omega, rfl⟩ ⟨q + 1, by rw [hdone]; omega, hr2⟩⟩)
    · intro L a w1 hL hd hJ K hK
      obtain ⟨h17, x, rfl, hx⟩ := hJ.live hL (by omega)
      clear hJ
      have d13 : L 13 = true := hd ⟨13, .data⟩ (by simp) rfl
      obtain ⟨m, hm, eb⟩ : ∃ m : Nat, m < 2 ∧ x 19 = .int .i64 (m : Int) := hx.f 13 d13
      unfold frR
      go_simp
      exact hK _ _ (.inr ⟨h17, upd x 20 (.bool ((m : Int) == 0)), by simp [frR, upd, eb], hx.step (i := 14) (grown_of_below (Below.refl _ _) _) ⟨_, rfl⟩ hx.rd⟩)
    · intro L a w1 hL hd hJ K hK
      obtain ⟨h17, x, rfl, hx⟩ := hJ.live hL (by omega)
      clear hJ
      have d1 : L 1 = true := hd ⟨1, .data⟩ (by simp) rfl
      have d6 : L 6 = true := hd ⟨6, .data⟩ (by simp) rfl
      have d11 : L 11 = true := hd ⟨11, .data⟩ (by simp) rfl
      have d14 : L 14 = true := hd ⟨14, .data⟩ (by simp) rfl
      obtain ⟨m, hm, e1⟩ : ∃ m : Nat, m < 4 ∧ x 7 = .int .i64 (m : Int) := hx.f 1 d1
      obtain ⟨s, hs, e2⟩ : ∃ s : ByteArray, s.size ≤ 4 ∧ x 12 = .string s := hx.f 6 d6
      obtain ⟨t, ht, e3⟩ : ∃ s : ByteArray, s.size ≤ 11 ∧ x 17 = .string s := hx.f 11 d11
      obtain ⟨c, e4⟩ : ∃ c, x 20 = .bool c := hx.f 14 d14
      unfold frR
      go_simp
      exact hK _ _ (.inr ⟨h17, upd x 21 (.agg #[.int .i64 (m : Int), .string s, .string t, .bool c]), by simp [frR, upd, e1, e2, e3, e4], hx.step (i := 15) (grown_of_below (Below.refl _ _) _) ⟨m, s, t, c, hm, hs, ht, rfl⟩ hx.rd⟩)
    · intro L a w1 hL hd hJ K hK
      obtain ⟨h17, x, rfl, hx⟩ := hJ.live hL (by omega)
      clear hJ
      obtain ⟨q, hq, hrq⟩ := hx.rd
      have hlt1 := hrq.lt
      have hz := hx.grown.size
      unfold frR
      go_simp
      exact hK _ _ (.inr ⟨h17, upd x 5 _, rfl, hx.step (i := 16) (alloc_grown w1 _ _) ⟨w1.heap.size, rfl, hz, fun w2 hg2 => (hg2.block w1.heap.size (by simp) (by simp; omega)).trans (heap_alloc_new w1 _)⟩ ⟨q, hq, Rd.al hrq _⟩⟩)
    · intro L a w1 hL hd hJ K hK
      obtain ⟨h17, x, rfl, hx⟩ := hJ.live hL (by omega)
      clear hJ
      have d0 : L 0 = true := hd ⟨0, .phase⟩ (by simp) rfl
      have d1 : L 1 = true := hd ⟨1, .phase⟩ (by simp) rfl
      have d2 : L 2 = true := hd ⟨2, .phase⟩ (by simp) rfl
      have d3 : L 3 = true := hd ⟨3, .phase⟩ (by simp) rfl
      have d4 : L 4 = true := hd ⟨4, .phase⟩ (by simp) rfl
      have d5 : L 5 = true := hd ⟨5, .phase⟩ (by simp) rfl
      have d6 : L 6 = true := hd ⟨6, .phase⟩ (by simp) rfl
      have d7 : L 7 = true := hd ⟨7, .phase⟩ (by simp) rfl
      have d8 : L 8 = true := hd ⟨8, .phase⟩ (by simp) rfl
      have d9 : L 9 = true := hd ⟨9, .phase⟩ (by simp) rfl
      have d10 : L 10 = true := hd ⟨10, .phase⟩ (by simp) rfl
      have d11 : L 11 = true := hd ⟨11, .phase⟩ (by simp) rfl
      have d12 : L 12 = true := hd ⟨12, .phase⟩ (by simp) rfl
      have d13 : L 13 = true := hd ⟨13, .phase⟩ (by simp) rfl
      have d14 : L 14 = true := hd ⟨14, .phase⟩ (by simp) rfl
      have d15 : L 15 = true := hd ⟨15, .phase⟩ (by simp) rfl
      have d16 : L 16 = true := hd ⟨16, .phase⟩ (by simp) rfl
      obtain ⟨m, s, t, c, hm, hs, ht, e1⟩ : ∃ (m : Nat) (s t : ByteArray) (c : Bool), m < 4 ∧ s.size ≤ 4 ∧ t.size ≤ 11 ∧ x 21 = .agg #[.int .i64 (m : Int), .string s, .string t, .bool c] := hx.f 15 d15
      obtain ⟨b, e2, hb, hE⟩ : ∃ b, x 5 = .pointer (some ⟨b, 0, none⟩) ∧ w0.heap.size ≤ b ∧ Ever g w1 fun w2 => w2.heap[b]? = some (.cells #[.int .i64 0, .string ByteArray.empty, .string ByteArray.empty, .bool false] 40 (0, 0)) := hx.f 16 d16
      have hB := hE.now
      obtain ⟨q, hq, hrq⟩ := hx.rd
      have hG := hx.grown
      have b0 : w1.cell? ⟨b, 0, none⟩ = some (.int .i64 0) := by rw [cell_of_row w1 _ 0 _ _ _ hB]; rfl
      have b1 : w1.cell? ⟨b, 1, none⟩ = some (.string ByteArray.empty) := by rw [cell_of_row w1 _ 1 _ _ _ hB]; rfl
      have b2 : w1.cell? ⟨b, 2, none⟩ = some (.string ByteArray.empty) := by rw [cell_of_row w1 _ 2 _ _ _ hB]; rfl
      have b3 : w1.cell? ⟨b, 3, none⟩ = some (.bool false) := by rw [cell_of_row w1 _ 3 _ _ _ hB]; rfl
      have f0 := frozen_of_row w1 b 0 _ _ hB
      have f1 := frozen_of_row w1 b 1 _ _ hB
      have f2 := frozen_of_row w1 b 2 _ _ hB
      have f3 := frozen_of_row w1 b 3 _ _ hB
      have hR := (((hrq.set_new (b := b) (by omega) (by have := hr0.bel.size; omega) 0 (.int .i64 (m : Int))).set_new (b := b) (by omega) (by have := hr0.bel.size; omega) 1 (.string s)).set_new (b := b) (by omega) (by have := hr0.bel.size; omega) 2 (.string t)).set_new (b := b) (by omega) (by have := hr0.bel.size; omega) 3 (.bool c)
      have hG4 := set_new_grown (set_new_grown (set_new_grown (set_new_grown hG hb 0 (.int .i64 (m : Int))) hb 1 (.string s)) hb 2 (.string t)) hb 3 (.bool c)
      have hF := set4_block hB (.int .i64 (m : Int)) (.string s) (.string t) (.bool c)
      have HH := Lib.hid (And.intro hR (And.intro hG4 hF))
      clear hR hG4 hF hE hG hB
      have hall : ∀ j, j < 17 → L j = true := by
        intro j hj
        have : j = 0 ∨ j = 1 ∨ j = 2 ∨ j = 3 ∨ j = 4 ∨ j = 5 ∨ j = 6 ∨ j = 7 ∨ j = 8 ∨ j = 9 ∨ j = 10 ∨ j = 11 ∨ j = 12 ∨ j = 13 ∨ j = 14 ∨ j = 15 ∨ j = 16 := by omega
        rcases this with rfl | rfl | rfl | rfl | rfl | rfl | rfl | rfl | rfl | rfl | rfl | rfl | rfl | rfl | rfl | rfl | rfl <;> assumption
      have hrd4 : rdone L ≤ 4 := by have h1 := (L 1).toNat_le; have h2 := (L 4).toNat_le; have h3 := (L 9).toNat_le; have h4 := (L 13).toNat_le; unfold rdone; omega
      unfold frR
      go_simp
      obtain ⟨hR, hG4, hF⟩ := HH.out
      exact hK _ _ (.inl ⟨upd_same _ _ _, fun j hj => by rw [upd_other _ _ (by omega)]; exact hall j hj, x, b, m, q, s, t, c, by simp [frR, e1, e2], e2, hb, hm, hs, ht, by omega, hF, hR, hG4⟩)
    -- end of steps
  · intro L a w1 hL hJ
    rcases hJ with ⟨_, _, x, b, m, q, s, t, c, rfl, hx5, hb, hm, hs, ht, hq, hB, hrq, hG⟩ | ⟨h, _⟩
    case inr => rw [hL 17 (by simp)] at h; cases h
    unfold frR
    rw [hx5]
    have hz0 : w0.heap.size = w.heap.size + 1 := by rw [← hw0]; simp
    have hZ0 : w0.heap[w.heap.size]? = some (.cells #[.int .i64 0, .string ByteArray.empty, .string ByteArray.empty, .bool false] 40 (0, 0)) := by rw [← hw0]; exact heap_alloc_new w _
    have G1 : w.grownBy w1 (some g) := grown_trans (hw0 ▸ alloc_grown w _ _) hG
    have hZ1 := (hG.block w.heap.size (by omega) (by simp; omega)).trans hZ0
    have hWw := hr.bel.size
    have hbn : b ≠ g := by omega
    clear hw0
    go_wp2_with fail
    refine (pick_calls W g v bs q n _ hrq (by omega) (by omega) (by omega)).mono ?_
    rintro e w2 ⟨y, hy, rfl, hr2, hg2⟩
    have hbw : b < w1.heap.size := (Array.getElem?_eq_some_iff.1 hB).1
    have hB2 := (hg2.block b hbw (by simp; omega)).trans hB
    have hZ2 := (hg2.block w.heap.size (by have := hG.size; omega) (by simp; omega)).trans hZ1
    have G2 := grown_trans G1 hg2
    have hs2 := hg2.size
    have hs1 := hG.size
    clear hg2 hB hZ1 hG G1 hr0
    by_cases hy0 : 0 < y
    · have HBF := hB2
      have HZF := hZ2
      have HRF := hr2
      have HGF := G2
      have c0 : (w2).cell? ⟨b, 0, none⟩ = some (.int .i64 (m : Int)) := by rw [cell_of_row _ _ 0 _ _ _ HBF]; rfl
      have c1 : (w2).cell? ⟨b, 1, none⟩ = some (.string s) := by rw [cell_of_row _ _ 1 _ _ _ HBF]; rfl
      have c2 : (w2).cell? ⟨b, 2, none⟩ = some (.string t) := by rw [cell_of_row _ _ 2 _ _ _ HBF]; rfl
      have c3 : (w2).cell? ⟨b, 3, none⟩ = some (.bool c) := by rw [cell_of_row _ _ 3 _ _ _ HBF]; rfl
      have z0 : (w2).cell? ⟨w.heap.size, 0, none⟩ = some (.int .i64 0) := by rw [cell_of_row _ _ 0 _ _ _ HZF]; rfl
      have z1 : (w2).cell? ⟨w.heap.size, 1, none⟩ = some (.string ByteArray.empty) := by rw [cell_of_row _ _ 1 _ _ _ HZF]; rfl
      have z2 : (w2).cell? ⟨w.heap.size, 2, none⟩ = some (.string ByteArray.empty) := by rw [cell_of_row _ _ 2 _ _ _ HZF]; rfl
      have z3 : (w2).cell? ⟨w.heap.size, 3, none⟩ = some (.bool false) := by rw [cell_of_row _ _ 3 _ _ _ HZF]; rfl
      have f0 := frozen_of_row (w2) w.heap.size 0 _ _ HZF
      have f1 := frozen_of_row (w2) w.heap.size 1 _ _ HZF
      have f2 := frozen_of_row (w2) w.heap.size 2 _ _ HZF
      have f3 := frozen_of_row (w2) w.heap.size 3 _ _ HZF
      have hR := ((((HRF.set_new (b := w.heap.size) (by omega) (by omega) 0 (.int .i64 (m : Int))).set_new (b := w.heap.size) (by omega) (by omega) 1 (.string s)).set_new (b := w.heap.size) (by omega) (by omega) 2 (.string t)).set_new (b := w.heap.size) (by omega) (by omega) 3 (.bool c))
      have hGG := (set_new_grown (set_new_grown (set_new_grown (set_new_grown HGF (b := w.heap.size) (Nat.le_refl _) 0 (.int .i64 (m : Int))) (b := w.heap.size) (Nat.le_refl _) 1 (.string s)) (b := w.heap.size) (Nat.le_refl _) 2 (.string t)) (b := w.heap.size) (Nat.le_refl _) 3 (.bool c))
      have hF := set4_block HZF (.int .i64 (m : Int)) (.string s) (.string t) (.bool c)
      have HH := Lib.hid (And.intro hR (And.intro hGG hF))
      clear hR hGG hF HBF HZF HRF HGF
      go_wp2
      obtain ⟨hR, hGG, hF⟩ := HH.out
      refine bodyPost_ret (results_cell_row rfl _ _ w.heap.size _ _ (0, 0) _ rfl hF rfl rfl rfl) rfl ?_
      exact ⟨(m : Int), s, t, c, (q + 1), by omega, by omega, by omega, by omega, rfl, hR, hGG⟩
    · go_wp2_with fail
      refine (pick_calls W g v bs (q + 1) 3 _ hr2 (by omega) (by omega) (by omega)).mono ?_
      rintro e w3 ⟨z, hz, rfl, hr3, hg3⟩
      have hB3 := (hg3.block b (by omega) (by simp; omega)).trans hB2
      have hZ3 := (hg3.block w.heap.size (by omega) (by simp; omega)).trans hZ2
      have G3 := grown_trans G2 hg3
      have hs3 := hg3.size
      have hlt3 := hr3.lt
      clear hg3 hB2 hZ2 G2
      have hz3 : z = 0 ∨ z = 1 ∨ z = 2 := by omega
      rcases hz3 with rfl | rfl | rfl
      · go_wp2_with fail
        refine (pick_calls W g v bs (q + 2) 3 _ (Rd.al hr3 _) (by omega) (by omega) (by omega)).mono ?_
        rintro e w4 ⟨i, hi, rfl, hr4, hg4⟩
        obtain ⟨j, rfl⟩ := Int.eq_ofNat_of_zero_le hi.1
        have hj : j < 3 := by omega
        have hji : (j : Int) < 3 := by omega
        obtain ⟨u, hu, hub⟩ := lit_int hg4 hlt3 rfl (m := j) (by simp; omega)
        have G4 := grown_trans (alloc_grown w3 _ _) hg4
        have hB4 := (G4.block b (by omega) (by simp; omega)).trans hB3
        have hZ4 := (G4.block w.heap.size (by omega) (by simp; omega)).trans hZ3
        have GG := grown_trans G3 G4
        have o0 : w4.cell? ⟨b, 0, none⟩ = some (.int .i64 (m : Int)) := by rw [cell_of_row w4 _ 0 _ _ _ hB4]; rfl
        have o1 := frozen_of_row w4 b 0 _ _ hB4
        have HBF := heap_setCell_same w4 b 0 _ _ (.int .i64 u) hB4
        have HZF := (heap_setCell_other w4 ⟨b, 0, none⟩ w.heap.size (.int .i64 u) (by simp; omega)).trans hZ4
        have HRF := hr4.set_new (b := b) hbn (by omega) 0 (.int .i64 u)
        have HGF := set_new_grown GG (b := b) (by omega) 0 (.int .i64 u)
        clear hg4 G4 hB4 hZ4 GG hB3 hZ3 G3
        have c0 : (w4.setCell ⟨b, 0, none⟩ (.int .i64 u)).cell? ⟨b, 0, none⟩ = some (.int .i64 u) := by rw [cell_of_row _ _ 0 _ _ _ HBF]; rfl
        have c1 : (w4.setCell ⟨b, 0, none⟩ (.int .i64 u)).cell? ⟨b, 1, none⟩ = some (.string s) := by rw [cell_of_row _ _ 1 _ _ _ HBF]; rfl
        have c2 : (w4.setCell ⟨b, 0, none⟩ (.int .i64 u)).cell? ⟨b, 2, none⟩ = some (.string t) := by rw [cell_of_row _ _ 2 _ _ _ HBF]; rfl
        have c3 : (w4.setCell ⟨b, 0, none⟩ (.int .i64 u)).cell? ⟨b, 3, none⟩ = some (.bool c) := by rw [cell_of_row _ _ 3 _ _ _ HBF]; rfl
        have z0 : (w4.setCell ⟨b, 0, none⟩ (.int .i64 u)).cell? ⟨w.heap.size, 0, none⟩ = some (.int .i64 0) := by rw [cell_of_row _ _ 0 _ _ _ HZF]; rfl
        have z1 : (w4.setCell ⟨b, 0, none⟩ (.int .i64 u)).cell? ⟨w.heap.size, 1, none⟩ = some (.string ByteArray.empty) := by rw [cell_of_row _ _ 1 _ _ _ HZF]; rfl
        have z2 : (w4.setCell ⟨b, 0, none⟩ (.int .i64 u)).cell? ⟨w.heap.size, 2, none⟩ = some (.string ByteArray.empty) := by rw [cell_of_row _ _ 2 _ _ _ HZF]; rfl
        have z3 : (w4.setCell ⟨b, 0, none⟩ (.int .i64 u)).cell? ⟨w.heap.size, 3, none⟩ = some (.bool false) := by rw [cell_of_row _ _ 3 _ _ _ HZF]; rfl
        have f0 := frozen_of_row (w4.setCell ⟨b, 0, none⟩ (.int .i64 u)) w.heap.size 0 _ _ HZF
        have f1 := frozen_of_row (w4.setCell ⟨b, 0, none⟩ (.int .i64 u)) w.heap.size 1 _ _ HZF
        have f2 := frozen_of_row (w4.setCell ⟨b, 0, none⟩ (.int .i64 u)) w.heap.size 2 _ _ HZF
        have f3 := frozen_of_row (w4.setCell ⟨b, 0, none⟩ (.int .i64 u)) w.heap.size 3 _ _ HZF
        have hR := ((((HRF.set_new (b := w.heap.size) (by omega) (by omega) 0 (.int .i64 u)).set_new (b := w.heap.size) (by omega) (by omega) 1 (.string s)).set_new (b := w.heap.size) (by omega) (by omega) 2 (.string t)).set_new (b := w.heap.size) (by omega) (by omega) 3 (.bool c))
        have hGG := (set_new_grown (set_new_grown (set_new_grown (set_new_grown HGF (b := w.heap.size) (Nat.le_refl _) 0 (.int .i64 u)) (b := w.heap.size) (Nat.le_refl _) 1 (.string s)) (b := w.heap.size) (Nat.le_refl _) 2 (.string t)) (b := w.heap.size) (Nat.le_refl _) 3 (.bool c))
        have hF := set4_block HZF (.int .i64 u) (.string s) (.string t) (.bool c)
        have HH := Lib.hid (And.intro hR (And.intro hGG hF))
        clear hR hGG hF HBF HZF HRF HGF
        go_wp2
        obtain ⟨hR, hGG, hF⟩ := HH.out
        refine bodyPost_ret (results_cell_row rfl _ _ w.heap.size _ _ (0, 0) _ rfl hF rfl rfl rfl) rfl ?_
        exact ⟨u, s, t, c, (q + 3), by omega, by omega, by omega, by omega, rfl, hR, hGG⟩
      · go_wp2_with fail
        refine (pick_calls W g v bs (q + 2) 3 _ (Rd.al hr3 _) (by omega) (by omega) (by omega)).mono ?_
        rintro e w4 ⟨i, hi, rfl, hr4, hg4⟩
        obtain ⟨j, rfl⟩ := Int.eq_ofNat_of_zero_le hi.1
        have hj : j < 3 := by omega
        have hji : (j : Int) < 3 := by omega
        obtain ⟨u, hu, hub⟩ := lit_str 4 hg4 hlt3 rfl (m := j) (by simp; omega)
        have G4 := grown_trans (alloc_grown w3 _ _) hg4
        have hB4 := (G4.block b (by omega) (by simp; omega)).trans hB3
        have hZ4 := (G4.block w.heap.size (by omega) (by simp; omega)).trans hZ3
        have GG := grown_trans G3 G4
        have o0 : w4.cell? ⟨b, 1, none⟩ = some (.string s) := by rw [cell_of_row w4 _ 1 _ _ _ hB4]; rfl
        have o1 := frozen_of_row w4 b 1 _ _ hB4
        have HBF := heap_setCell_same w4 b 1 _ _ (.string u) hB4
        have HZF := (heap_setCell_other w4 ⟨b, 1, none⟩ w.heap.size (.string u) (by simp; omega)).trans hZ4
        have HRF := hr4.set_new (b := b) hbn (by omega) 1 (.string u)
        have HGF := set_new_grown GG (b := b) (by omega) 1 (.string u)
        clear hg4 G4 hB4 hZ4 GG hB3 hZ3 G3
        have c0 : (w4.setCell ⟨b, 1, none⟩ (.string u)).cell? ⟨b, 0, none⟩ = some (.int .i64 (m : Int)) := by rw [cell_of_row _ _ 0 _ _ _ HBF]; rfl
        have c1 : (w4.setCell ⟨b, 1, none⟩ (.string u)).cell? ⟨b, 1, none⟩ = some (.string u) := by rw [cell_of_row _ _ 1 _ _ _ HBF]; rfl
        have c2 : (w4.setCell ⟨b, 1, none⟩ (.string u)).cell? ⟨b, 2, none⟩ = some (.string t) := by rw [cell_of_row _ _ 2 _ _ _ HBF]; rfl
        have c3 : (w4.setCell ⟨b, 1, none⟩ (.string u)).cell? ⟨b, 3, none⟩ = some (.bool c) := by rw [cell_of_row _ _ 3 _ _ _ HBF]; rfl
        have z0 : (w4.setCell ⟨b, 1, none⟩ (.string u)).cell? ⟨w.heap.size, 0, none⟩ = some (.int .i64 0) := by rw [cell_of_row _ _ 0 _ _ _ HZF]; rfl
        have z1 : (w4.setCell ⟨b, 1, none⟩ (.string u)).cell? ⟨w.heap.size, 1, none⟩ = some (.string ByteArray.empty) := by rw [cell_of_row _ _ 1 _ _ _ HZF]; rfl
        have z2 : (w4.setCell ⟨b, 1, none⟩ (.string u)).cell? ⟨w.heap.size, 2, none⟩ = some (.string ByteArray.empty) := by rw [cell_of_row _ _ 2 _ _ _ HZF]; rfl
        have z3 : (w4.setCell ⟨b, 1, none⟩ (.string u)).cell? ⟨w.heap.size, 3, none⟩ = some (.bool false) := by rw [cell_of_row _ _ 3 _ _ _ HZF]; rfl
        have f0 := frozen_of_row (w4.setCell ⟨b, 1, none⟩ (.string u)) w.heap.size 0 _ _ HZF
        have f1 := frozen_of_row (w4.setCell ⟨b, 1, none⟩ (.string u)) w.heap.size 1 _ _ HZF
        have f2 := frozen_of_row (w4.setCell ⟨b, 1, none⟩ (.string u)) w.heap.size 2 _ _ HZF
        have f3 := frozen_of_row (w4.setCell ⟨b, 1, none⟩ (.string u)) w.heap.size 3 _ _ HZF
        have hR := ((((HRF.set_new (b := w.heap.size) (by omega) (by omega) 0 (.int .i64 (m : Int))).set_new (b := w.heap.size) (by omega) (by omega) 1 (.string u)).set_new (b := w.heap.size) (by omega) (by omega) 2 (.string t)).set_new (b := w.heap.size) (by omega) (by omega) 3 (.bool c))
        have hGG := (set_new_grown (set_new_grown (set_new_grown (set_new_grown HGF (b := w.heap.size) (Nat.le_refl _) 0 (.int .i64 (m : Int))) (b := w.heap.size) (Nat.le_refl _) 1 (.string u)) (b := w.heap.size) (Nat.le_refl _) 2 (.string t)) (b := w.heap.size) (Nat.le_refl _) 3 (.bool c))
        have hF := set4_block HZF (.int .i64 (m : Int)) (.string u) (.string t) (.bool c)
        have HH := Lib.hid (And.intro hR (And.intro hGG hF))
        clear hR hGG hF HBF HZF HRF HGF
        go_wp2
        obtain ⟨hR, hGG, hF⟩ := HH.out
        refine bodyPost_ret (results_cell_row rfl _ _ w.heap.size _ _ (0, 0) _ rfl hF rfl rfl rfl) rfl ?_
        exact ⟨(m : Int), u, t, c, (q + 3), by omega, by omega, by omega, by omega, rfl, hR, hGG⟩
      · go_wp2_with fail
        refine (anyPath_calls W g v bs (q + 2) 1 _ hr3 (by omega) (by omega) (by omega)).mono ?_
        rintro e w4 ⟨u, q4, hu, hq4, rfl, hr4, hg4⟩
        have hB4 := (hg4.block b (by omega) (by simp; omega)).trans hB3
        have hZ4 := (hg4.block w.heap.size (by omega) (by simp; omega)).trans hZ3
        have GG := grown_trans G3 hg4
        have o0 : w4.cell? ⟨b, 2, none⟩ = some (.string t) := by rw [cell_of_row w4 _ 2 _ _ _ hB4]; rfl
        have o1 := frozen_of_row w4 b 2 _ _ hB4
        have HBF := heap_setCell_same w4 b 2 _ _ (.string u) hB4
        have HZF := (heap_setCell_other w4 ⟨b, 2, none⟩ w.heap.size (.string u) (by simp; omega)).trans hZ4
        have HRF := hr4.set_new (b := b) hbn (by omega) 2 (.string u)
        have HGF := set_new_grown GG (b := b) (by omega) 2 (.string u)
        clear hg4 hB4 hZ4 GG hB3 hZ3 G3
        have c0 : (w4.setCell ⟨b, 2, none⟩ (.string u)).cell? ⟨b, 0, none⟩ = some (.int .i64 (m : Int)) := by rw [cell_of_row _ _ 0 _ _ _ HBF]; rfl
        have c1 : (w4.setCell ⟨b, 2, none⟩ (.string u)).cell? ⟨b, 1, none⟩ = some (.string s) := by rw [cell_of_row _ _ 1 _ _ _ HBF]; rfl
        have c2 : (w4.setCell ⟨b, 2, none⟩ (.string u)).cell? ⟨b, 2, none⟩ = some (.string u) := by rw [cell_of_row _ _ 2 _ _ _ HBF]; rfl
        have c3 : (w4.setCell ⟨b, 2, none⟩ (.string u)).cell? ⟨b, 3, none⟩ = some (.bool c) := by rw [cell_of_row _ _ 3 _ _ _ HBF]; rfl
        have z0 : (w4.setCell ⟨b, 2, none⟩ (.string u)).cell? ⟨w.heap.size, 0, none⟩ = some (.int .i64 0) := by rw [cell_of_row _ _ 0 _ _ _ HZF]; rfl
        have z1 : (w4.setCell ⟨b, 2, none⟩ (.string u)).cell? ⟨w.heap.size, 1, none⟩ = some (.string ByteArray.empty) := by rw [cell_of_row _ _ 1 _ _ _ HZF]; rfl
        have z2 : (w4.setCell ⟨b, 2, none⟩ (.string u)).cell? ⟨w.heap.size, 2, none⟩ = some (.string ByteArray.empty) := by rw [cell_of_row _ _ 2 _ _ _ HZF]; rfl
        have z3 : (w4.setCell ⟨b, 2, none⟩ (.string u)).cell? ⟨w.heap.size, 3, none⟩ = some (.bool false) := by rw [cell_of_row _ _ 3 _ _ _ HZF]; rfl
        have f0 := frozen_of_row (w4.setCell ⟨b, 2, none⟩ (.string u)) w.heap.size 0 _ _ HZF
        have f1 := frozen_of_row (w4.setCell ⟨b, 2, none⟩ (.string u)) w.heap.size 1 _ _ HZF
        have f2 := frozen_of_row (w4.setCell ⟨b, 2, none⟩ (.string u)) w.heap.size 2 _ _ HZF
        have f3 := frozen_of_row (w4.setCell ⟨b, 2, none⟩ (.string u)) w.heap.size 3 _ _ HZF
        have hR := ((((HRF.set_new (b := w.heap.size) (by omega) (by omega) 0 (.int .i64 (m : Int))).set_new (b := w.heap.size) (by omega) (by omega) 1 (.string s)).set_new (b := w.heap.size) (by omega) (by omega) 2 (.string u)).set_new (b := w.heap.size) (by omega) (by omega) 3 (.bool c))
        have hGG := (set_new_grown (set_new_grown (set_new_grown (set_new_grown HGF (b := w.heap.size) (Nat.le_refl _) 0 (.int .i64 (m : Int))) (b := w.heap.size) (Nat.le_refl _) 1 (.string s)) (b := w.heap.size) (Nat.le_refl _) 2 (.string u)) (b := w.heap.size) (Nat.le_refl _) 3 (.bool c))
        have hF := set4_block HZF (.int .i64 (m : Int)) (.string s) (.string u) (.bool c)
        have HH := Lib.hid (And.intro hR (And.intro hGG hF))
        clear hR hGG hF HBF HZF HRF HGF
        go_wp2
        obtain ⟨hR, hGG, hF⟩ := HH.out
        refine bodyPost_ret (results_cell_row rfl _ _ w.heap.size _ _ (0, 0) _ rfl hF rfl rfl rfl) rfl ?_
        exact ⟨(m : Int), s, u, c, q4, by omega, by omega, by omega, by omega, rfl, hR, hGG⟩
end Go.Proofs.YtfiempmdmkoagaaDoor
