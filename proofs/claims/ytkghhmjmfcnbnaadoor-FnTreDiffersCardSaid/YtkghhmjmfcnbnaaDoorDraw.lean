/- The drawing of an input out of a code: spec.l20Open and spec's pick. What is drawn is some value of its kind; nothing but the reader's own place is written. -/
import Derived.Test.YtkghhmjmfcnbnaaDoorBase
import Derived.Test.YtkghhmjmfcnbnaaDoorMem
import Derived.Test.YtkghhmjmfcnbnaaDoorBits
import Derived.BigQuiet
import Derived.Deep.QuietTactic
namespace Go.Proofs.YtkghhmjmfcnbnaaDoor
open Go.RowKit

/-- the cells of a byte -/
def byteC (c : UInt8) : List Value := [.int .u8 (c.toNat : Int)]
theorem byteC_len (c : UInt8) : (byteC c).length = 1 := rfl
theorem byte_at {w : World} {v : Value} {zs : List UInt8} (h : Sl 1 byteC w v zs) : ∃ A c, v = .slice A zs.length c ∧ c ≤ maxLen ∧ zs.length ≤ c ∧
    ∀ k, k < zs.length → ∃ (x : Int) (b off : Nat), (0 ≤ x ∧ x ≤ 255) ∧ A = some ⟨b, off, none⟩ ∧ b < w.heap.size ∧ w.cell? ⟨b, off + k, none⟩ = some (.int .u8 x) := by
  obtain ⟨A, c, rfl, h1, h2, h3⟩ := h
  refine ⟨A, c, rfl, h2, h1, fun k hk => ?_⟩
  obtain ⟨b, off, rfl, hb, hat⟩ := h3 k _ (List.getElem?_eq_getElem hk)
  refine ⟨(zs[k].toNat : Int), b, off, ?_, rfl, hb, ?_⟩
  · have := zs[k].toNat_lt; omega
  · have := hat 0 _ rfl
    rw [Nat.mul_one] at this
    exact this

/-- the reader in block g stands at place p of the bytes bs, which lay there in W -/
structure Rd (W : World) (g : Nat) (v : Value) (bs : List UInt8) (p : Nat) (w : World) : Prop where
  blk : w.heap[g]? = some (.cells #[v, .int .i64 (p : Int)] 92 (0, 0))
  old : W.heap.size ≤ g
  sl : Sl 1 byteC W v bs
  bel : Below W.heap.size W w
  len : bs.length ≤ 2000
theorem Rd.cell0 {W : World} {g : Nat} {v : Value} {bs : List UInt8} {p : Nat} {w : World} (h : Rd W g v bs p w) : w.cell? ⟨g, 0, none⟩ = some v := by rw [cell_of_row w g 0 _ _ (0, 0) h.blk]; rfl
theorem Rd.cell1 {W : World} {g : Nat} {v : Value} {bs : List UInt8} {p : Nat} {w : World} (h : Rd W g v bs p w) : w.cell? ⟨g, 1, none⟩ = some (.int .i64 (p : Int)) := by rw [cell_of_row w g 1 _ _ (0, 0) h.blk]; rfl
theorem Rd.free {W : World} {g : Nat} {v : Value} {bs : List UInt8} {p : Nat} {w : World} (h : Rd W g v bs p w) (o : Nat) : w.frozen? ⟨g, o, none⟩ = false := frozen_of_row w g o _ _ h.blk
theorem Rd.lt {W : World} {g : Nat} {v : Value} {bs : List UInt8} {p : Nat} {w : World} (h : Rd W g v bs p w) : g < w.heap.size := (Array.getElem?_eq_some_iff.1 h.blk).1
theorem Rd.below {W : World} {g : Nat} {v : Value} {bs : List UInt8} {p : Nat} {w w' : World} (h : Rd W g v bs p w) (hb : Below w.heap.size w w') : Rd W g v bs p w' :=
  ⟨(hb.block g h.lt).trans h.blk, h.old, h.sl, below_up h.bel hb, h.len⟩
theorem Rd.put {W : World} {g : Nat} {v : Value} {bs : List UInt8} {p q : Nat} {w : World} (h : Rd W g v bs p w) : Rd W g v bs q (w.setCell ⟨g, 1, none⟩ (.int .i64 (q : Int))) :=
  ⟨heap_setCell_same w g 1 _ _ _ h.blk, h.old, h.sl, h.bel.setCell h.old _, h.len⟩
theorem Rd.set_grown {W : World} {g : Nat} {v : Value} {bs : List UInt8} {p : Nat} {w : World} (_ : Rd W g v bs p w) (u : Value) : w.grownBy (w.setCell ⟨g, 1, none⟩ u) (some g) :=
  ⟨rfl, rfl, rfl, by simp [World.setCell], fun k _ hk => heap_setCell_other w ⟨g, 1, none⟩ k u (fun e => hk (by simp [e]))⟩

theorem xorq (E : Int) (h0 : 0 ≤ E) (h1 : E ≤ 1000000000) : ∃ m : Nat, bits .xor .i64 E (E / 64) = (m : Int) ∧ m < 1073741824 := by
  obtain ⟨k, rfl⟩ := Int.eq_ofNat_of_zero_le h0
  refine ⟨k ^^^ (k / 64), ?_, Nat.xor_lt_two_pow (n := 30) (by omega) (by omega)⟩
  rw [show ((k : Int) / 64) = ((k / 64 : Nat) : Int) by omega, i64_xor_nat _ _ (by omega) (by omega)]
/-- a call of pick: some number below n, and the place one further -/
def PickPost (W : World) (g : Nat) (v : Value) (bs : List UInt8) (p : Nat) (n : Int) (w : World) (e : Ending) (w' : World) : Prop :=
  ∃ x : Int, (0 ≤ x ∧ x < n) ∧ e = .returned (.int .i64 x) ∧ Rd W g v bs (p + 1) w' ∧ w.grownBy w' (some g)

set_option maxRecDepth 100000 in
set_option maxHeartbeats 1000000 in
theorem pick_calls (W : World) (g : Nat) (v : Value) (bs : List UInt8) (p : Nat) (n : Int) (w : World) (hr : Rd W g v bs p w) (hn : 1 ≤ n) (hn2 : n ≤ 1000000) (hp : p ≤ 100000) :
    Calls Tryd.prog 63 #[.pointer (some ⟨g, 0, none⟩), .int .i64 n] w (PickPost W g v bs p n w) := by
  have hr1 : Rd W g v bs (p + 1) _ := hr.put
  have hg1 := hr.set_grown (.int .i64 ((p + 1 : Nat) : Int))
  have hsl := hr.sl
  have hbel := hr.bel
  have c0 := hr.cell0
  have c1 := hr.cell1
  have f1 := hr.free 1
  obtain ⟨A, c, rfl, hc, hlc, hat⟩ := byte_at hsl
  unfold maxLen at hc
  have HR : Hid (Rd W g (.slice A bs.length c) bs (p + 1) (w.setCell ⟨g, 1, none⟩ (.int .i64 ((p : Int) + 1))) ∧ w.grownBy (w.setCell ⟨g, 1, none⟩ (.int .i64 ((p : Int) + 1))) (some g)) := ⟨hr1, hg1⟩
  have hl := hr.len
  have hol := hr.lt
  clear hr1 hg1 hr hsl
  by_cases h0 : bs.length = 0
  · have hz : ((bs.length : Int) == 0) = true := beq_iff_eq.2 (by omega)
    clear h0
    go_enter Tryd.func63, Tryd.ntmps63
    go_wp2
    go_ret
    exact ⟨0, by omega, rfl, HR.out.1, HR.out.2⟩
  · have hz : ((bs.length : Int) == 0) = false := beq_eq_false_iff_ne.2 (by omega)
    have hb1 : 1 ≤ bs.length := by omega
    clear h0
    by_cases hlt : p < bs.length
    · obtain ⟨x, b, off, hx, rfl, hb, dW⟩ := hat p hlt
      have d0 := (hbel.cell (p := ⟨b, off + p, none⟩) hb).trans dW
      have hne : b ≠ g := by have := HR.out.1.old; omega
      have d1 : (w.setCell ⟨g, 1, none⟩ (.int .i64 ((p : Int) + 1))).cell? ⟨b, off + p, none⟩ = some (.int .u8 x) := by rw [World.cell?_setCell_other _ _ _ _ (by intro e; injection e with e1 _ _; exact hne e1.symm)]; exact d0
      clear hat d0 dW
      go_enter Tryd.func63, Tryd.ntmps63
      go_wp2
      go_ret
      exact ⟨x % n, ⟨Int.emod_nonneg _ (by omega), Int.emod_lt_of_pos _ (by omega)⟩, rfl, HR.out.1, HR.out.2⟩
    · have hp2 : p % bs.length < bs.length := Nat.mod_lt _ (by omega)
      have hp3 : (p * 7 + 3) % bs.length < bs.length := Nat.mod_lt _ (by omega)
      obtain ⟨x, b, off, hx, rfl, hb, dW⟩ := hat _ hp2
      obtain ⟨x', b', off', hx', e', hb', dW'⟩ := hat _ hp3
      simp only [Option.some.injEq, Addr.mk.injEq, and_true] at e'
      obtain ⟨rfl, rfl⟩ := e'
      have d0 := (hbel.cell (p := ⟨b, off + p % bs.length, none⟩) hb).trans dW
      have d0' := (hbel.cell (p := ⟨b, off + (p * 7 + 3) % bs.length, none⟩) hb).trans dW'
      have hne : b ≠ g := by have := HR.out.1.old; omega
      have d1 : (w.setCell ⟨g, 1, none⟩ (.int .i64 ((p : Int) + 1))).cell? ⟨b, off + p % bs.length, none⟩ = some (.int .u8 x) := by rw [World.cell?_setCell_other _ _ _ _ (by intro e; injection e with e1 _ _; exact hne e1.symm)]; exact d0
      have d2 : (w.setCell ⟨g, 1, none⟩ (.int .i64 ((p : Int) + 1))).cell? ⟨b, off + (p * 7 + 3) % bs.length, none⟩ = some (.int .u8 x') := by rw [World.cell?_setCell_other _ _ _ _ (by intro e; injection e with e1 _ _; exact hne e1.symm)]; exact d0'
      have i1 : (0 : Int) ≤ (p : Int) % (bs.length : Int) := Int.emod_nonneg _ (by omega)
      have i2 : (p : Int) % (bs.length : Int) < (bs.length : Int) := Int.emod_lt_of_pos _ (by omega)
      have i3 : (0 : Int) ≤ ((p : Int) * 7 + 3) % (bs.length : Int) := Int.emod_nonneg _ (by omega)
      have i4 : ((p : Int) * 7 + 3) % (bs.length : Int) < (bs.length : Int) := Int.emod_lt_of_pos _ (by omega)
      have j1 : (0 : Int) ≤ (p : Int) / (bs.length : Int) := Int.ediv_nonneg (by omega) (by omega)
      have j2 : (p : Int) / (bs.length : Int) ≤ 100000 := Int.le_trans (Int.ediv_le_self _ (by omega)) (by omega)
      obtain ⟨m, hm, hmb⟩ := xorq (x * 131 + x' * 1117 + (p : Int) * 29 + (p : Int) / (bs.length : Int) * 53) (by omega) (by omega)
      clear hat d0 d0' dW dW'
      go_enter Tryd.func63, Tryd.ntmps63
      go_wp2_with fail
      go_quiet (fail)
      go_wp2
      go_ret
      have hr2 := HR.out.1.below (w' := (w.setCell ⟨g, 1, none⟩ (.int .i64 ((p : Int) + 1))).drewN nq) (below_drewN (Below.refl _ _) nq)
      have hg2 := grown_trans HR.out.2 (grown_of_below (below_drewN (Below.refl _ _) nq) (some g))
      exact ⟨(m : Int) % n, ⟨Int.emod_nonneg _ (by omega), Int.emod_lt_of_pos _ (by omega)⟩, rfl, hr2, hg2⟩
end Go.Proofs.YtkghhmjmfcnbnaaDoor
