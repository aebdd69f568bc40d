/- The drawing of rows of edits. -/
import Derived.Test.YtkghhmjmfcnbnaaDoorDrawEdit
namespace Go.Proofs.YtkghhmjmfcnbnaaDoor
open Go.RowKit

/-- short edits -/
def edShort (zs : List TEdit) : Prop := ∀ z ∈ zs, z.path.size ≤ 6 ∧ z.bytes.size ≤ 6
/-- a call that draws a row of at most four edits -/
def DrawEds (W : World) (g : Nat) (v : Value) (bs : List UInt8) (p : Nat) (w : World) (e : Ending) (w' : World) : Prop :=
  ∃ (u : Value) (zs : List TEdit) (q : Nat), (zs.length ≤ 4 ∧ 1 ≤ zs.length) ∧ edShort zs ∧ q ≤ p + 13 ∧ e = .returned u ∧ Own 3 editC 49 w.heap.size w' u zs ∧ Rd W g v bs q w' ∧ w.grownBy w' (some g)
theorem grown_new {w wr w2 : World} {row rb : Option Nat} (h : w.grownBy wr row) (h2 : wr.grownBy w2 rb) (hn : ∀ k, rb = some k → w.heap.size ≤ k) : w.grownBy w2 row :=
  ⟨h2.os.trans h.os, h2.tape.trans h.tape, h2.output.trans h.output, Nat.le_trans h.size h2.size, fun k hk hr => (h2.block k (Nat.lt_of_lt_of_le hk h.size) (fun e => by have := hn k e.symm; omega)).trans (h.block k hk hr)⟩
theorem Rd.grown {W : World} {g : Nat} {v : Value} {bs : List UInt8} {p : Nat} {w w' : World} {rb : Option Nat} (h : Rd W g v bs p w) (hg : w.grownBy w' rb) (hn : ∀ k, rb = some k → g < k ∧ W.heap.size ≤ k) : Rd W g v bs p w' :=
  ⟨(hg.block g h.lt (fun e => by have := (hn g e.symm).1; omega)).trans h.blk, h.old, h.sl,
   ⟨hg.os.trans h.bel.os, hg.tape.trans h.bel.tape, hg.output.trans h.bel.output, Nat.le_trans h.bel.size hg.size, fun k hk => (hg.block k (Nat.lt_of_lt_of_le hk h.bel.size) (fun e => by have := (hn k e.symm).2; omega)).trans (h.bel.block k hk)⟩, h.len⟩

set_option maxRecDepth 100000 in
set_option maxHeartbeats 400000 in
theorem l20Edits_calls (W : World) (g : Nat) (v : Value) (bs : List UInt8) (p : Nat) (w : World) (hr : Rd W g v bs p w) (hp : p ≤ 80000) :
    Calls Tryd.prog 58 #[.pointer (some ⟨g, 0, none⟩)] w (DrawEds W g v bs p w) := by
  obtain ⟨i0, hi, hz0, hz1, hz2⟩ := info_parts Tryd.infoEdit
  have hlt := hr.lt
  go_enter Tryd.func58, Tryd.ntmps58
  go_wp2_with fail
  refine (pick_calls W g v bs p 4 _ (Rd.al hr _) (by omega) (by omega) (by omega)).mono ?_
  rintro e w1 ⟨x, hx, rfl, hr1, hg1⟩
  have G1 := grown_trans (alloc_grown w _ (some g)) hg1
  have z1 : w.heap.size < w1.heap.size := by have := hg1.size; simp at this; omega
  obtain ⟨m, hm⟩ : ∃ m : Nat, 1 + x = (m : Int) ∧ m ≤ 4 ∧ 1 ≤ m := ⟨(1 + x).toNat, by omega, by omega, by omega⟩
  go_wp2
  go_loopw [3, 4] (fun v' i wr => ∃ (zs : List TEdit) (q k : Nat), (zs.length + k ≤ 4 ∧ 1 ≤ zs.length + k) ∧ edShort zs ∧ q ≤ p + 1 + 3 * zs.length ∧ i = .int .i64 k ∧ wr.ownsRow w.heap.size 49 3 v' zs.length (zs.flatMap editC) ∧ Rd W g v bs q wr ∧ w.grownBy wr (some g)) (fun _ i _ => (intOf i).toNat)
  case atStart => exact ⟨[], p + 1, m, by simp; omega, by intro z hz; simp at hz, by simp, rfl, (World.ownsRow_lit w #[] 0 (Nat.le_refl _) (by simp [maxLen]) rfl).kept hg1 (Or.inr (by simp [Value.ownBlock]; omega)), hr1, G1⟩
  case round =>
    obtain ⟨zs, q, k, hk, hsh, hq, rfl, hown, hrr, hG⟩ := hrel
    have hrs := hrr.bel.size
    have hWw := hr.bel.size
    by_cases hlt : 0 < k
    · go_wp2_with fail
      refine (l20Edit_calls W g v bs q _ hrr (by omega)).mono ?_
      rintro e w2 ⟨a, s, b, q2, ha, hs, hq2, rfl, hr2, hg2⟩
      have hown2 := hown.kept hg2 (Or.inr (fun e => by have := (World.ownsRow.lt hown g e).1; omega))
      have hG2 := grown_trans hG hg2
      have z2 := hG2.size
      go_wp2_with (at_builtin; refine wpList_append_own _ rfl _ _ 47 rfl w.heap.size 49 i0 _ 3 40 Tryd.underlying47 hi hz0 hz1 hz2 rfl (by decide) _ _ _ rfl (hown2.alloc _) ⟨w2.heap.size, 0, none⟩ 1 1 [.string a, .string s, .bool b] rfl rfl (news_new _ #[.string a, .string s, .bool b] _ _ (by simp)) (by intro u hu; simp at hu; rcases hu with rfl | rfl | rfl <;> rfl) (by unfold maxLen; omega) (by omega) (by simp; omega) ?_; intro v1 w3 hown3 hgrow3 _)
      have hn := fun j e => (World.ownsRow.lt hown j e).1
      have hr3 := (hr2.al _).grown hgrow3 (fun j e => by have := hn j e; omega)
      have hG3 := grown_new (grown_trans hG2 (alloc_grown w2 _ _)) hgrow3 hn
      clear hgrow3 hown hown2
      obtain ⟨k, rfl⟩ : ∃ j, k = j + 1 := ⟨k - 1, by omega⟩
      go_roundw
      case rel => exact ⟨zs ++ [⟨a, s, b⟩], q2, k, by simp; omega, by intro z hz; simp at hz; (rcases hz with hz | rfl) <;> first | exact hsh z hz | exact ⟨ha, hs⟩, by simp; omega, by go_num, by simpa [editC] using hown3, hr3, hG3⟩
      case measure => simp [intOf]
    · go_wp2
      go_ret
      exact ⟨_, zs, q, by omega, hsh, by omega, rfl, hown, hrr, hG⟩
end Go.Proofs.YtkghhmjmfcnbnaaDoor
