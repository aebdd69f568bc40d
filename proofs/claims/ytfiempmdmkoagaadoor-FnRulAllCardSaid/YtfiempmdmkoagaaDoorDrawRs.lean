/- The drawing of rules. -/
import Derived.Test.YtfiempmdmkoagaaDoorDrawR
import Derived.Test.YtfiempmdmkoagaaDoorRulQ
import Derived.Outline
namespace Go.Proofs.YtfiempmdmkoagaaDoor
open Go.RowKit

/-- short rules -/
def ruShort (zs : List TRule) : Prop := ∀ z ∈ zs, (-1 ≤ z.user ∧ z.user ≤ 5) ∧ z.ref.size ≤ 4 ∧ z.path.size ≤ 11
theorem ruShort_fine {zs : List TRule} (h : ruShort zs) : ruleFine zs := fun z hz => by have := h z hz; unfold maxLen; omega
theorem ruShort_one {u : Int} {s t : ByteArray} {c : Bool} (h1 : -1 ≤ u ∧ u ≤ 5) (h2 : s.size ≤ 4) (h3 : t.size ≤ 11) : ruShort [⟨u, s, t, c⟩] := fun z hz => by
  simp at hz; subst hz; exact ⟨h1, h2, h3⟩
theorem ruShort_app {zs ys : List TRule} (h : ruShort zs) (h' : ruShort ys) : ruShort (zs ++ ys) := fun z hz => (List.mem_append.1 hz).elim (h z) (h' z)
/-- a call that draws rules -/
def DrawRus (W : World) (g : Nat) (v : Value) (bs : List UInt8) (p : Nat) (w : World) (e : Ending) (w' : World) : Prop :=
  ∃ (u : Value) (zs : List TRule) (q : Nat), zs.length ≤ 8 ∧ ruShort zs ∧ q ≤ p + 120 ∧ e = .returned u ∧ Own 4 ruleC 40 w.heap.size w' u zs ∧ Rd W g v bs q w' ∧ w.grownBy w' (some g)
theorem grown_newR {w wr w2 : World} {row rb : Option Nat} (h : w.grownBy wr row) (h2 : wr.grownBy w2 rb) (hn : ∀ k, rb = some k → w.heap.size ≤ k) : w.grownBy w2 row :=
  ⟨h2.os.trans h.os, h2.tape.trans h.tape, h2.output.trans h.output, Nat.le_trans h.size h2.size, fun k hk hr => (h2.block k (Nat.lt_of_lt_of_le hk h.size) (fun e => by have := hn k e.symm; omega)).trans (h.block k hk hr)⟩
theorem Rd.grownR {W : World} {g : Nat} {v : Value} {bs : List UInt8} {p : Nat} {w w' : World} {rb : Option Nat} (h : Rd W g v bs p w) (hg : w.grownBy w' rb) (hn : ∀ k, rb = some k → g < k ∧ W.heap.size ≤ k) : Rd W g v bs p w' :=
  ⟨(hg.block g h.lt (fun e => by have := (hn g e.symm).1; omega)).trans h.blk, h.old, h.sl,
   ⟨hg.os.trans h.bel.os, hg.tape.trans h.bel.tape, hg.output.trans h.bel.output, Nat.le_trans h.bel.size hg.size, fun k hk => (hg.block k (Nat.lt_of_lt_of_le hk h.bel.size) (fun e => by have := (hn k e.symm).2; omega)).trans (h.bel.block k hk)⟩, h.len⟩

set_option maxRecDepth 100000 in
set_option maxHeartbeats 2000000 in
theorem l20Rules_calls (W : World) (g : Nat) (v : Value) (bs : List UInt8) (p : Nat) (n : Int) (w : World) (hr : Rd W g v bs p w) (hp : p ≤ 50000) (hn1 : 1 ≤ n) (hn2 : n ≤ 1000) :
    Calls Tryd.prog 53 #[.pointer (some ⟨g, 0, none⟩), .int .i64 n] w (DrawRus W g v bs p w) := by
  obtain ⟨i0, hi, hz0, hz1, hz2⟩ := info_parts Tryd.infoRule
  have hlt := hr.lt
  go_enter Tryd.func53, Tryd.ntmps53
  go_wp2_with fail
  refine (pick_calls W g v bs p 7 _ (Rd.al hr _) (by omega) (by omega) (by omega)).mono ?_
  rintro e w1 ⟨x, hx, rfl, hr1, hg1⟩
  have G1 := grown_trans (alloc_grown w _ (some g)) hg1
  obtain ⟨m, rfl⟩ := Int.eq_ofNat_of_zero_le hx.1
  go_wp2
  go_loopw [5, 6] (fun u i wr => ∃ (zs : List TRule) (q k : Nat), k ≤ 6 ∧ zs.length + k ≤ 6 ∧ ruShort zs ∧ q + 14 * k ≤ p + 1 + 84 ∧ i = .int .i64 k ∧ Own 4 ruleC 40 w.heap.size wr u zs ∧ Rd W g v bs q wr ∧ w.grownBy wr (some g)) (fun _ i _ => (intOf i).toNat)
  case atStart => exact ⟨[], p + 1, m, by omega, by simp; omega, by intro z hz; simp at hz, by omega, rfl, (World.ownsRow_lit w #[] 0 (Nat.le_refl _) (by simp [maxLen]) rfl).kept hg1 (Or.inr (by simp [Value.ownBlock]; omega)), hr1, G1⟩
  case round =>
    obtain ⟨zs, q, k, hk6, hk, hsh, hq, rfl, hown, hrr, hG⟩ := hrel
    have hrs := hrr.bel.size
    have hWw := hr.bel.size
    by_cases hlt : 0 < k
    · go_wp2_with fail
      refine (l20Rule_calls W g v bs q 99 _ hrr (by omega) (by omega) (by omega)).mono ?_
      rintro e w2 ⟨u1, s, t, c, q2, hu, hs, ht, hq2, rfl, hr2, hg2⟩
      have hown2 := hown.grown hg2 (Or.inr (fun e => by have := (hown.lt g e).1; omega))
      have hG2 := grown_trans hG hg2
      have z2 := hG2.size
      have HC := Lib.hid (put_spec _ zs ⟨u1, s, t, c⟩ w2 (hown2.sl ruleC_len) (ruShort_fine hsh) (by omega) (by simp; unfold maxLen; omega) (by simp; omega))
      go_wp2_with fail
      refine HC.out.mono ?_
      rintro e w3 ⟨v3, rfl, own3, b3⟩
      have hr3 := hr2.below b3
      have hG3 := grown_trans hG2 (grown_of_below b3 _)
      have hown3 := hown2.below b3
      obtain ⟨k, rfl⟩ : ∃ j, k = j + 1 := ⟨k - 1, by omega⟩
      cases hb : putB zs ⟨u1, s, t, c⟩
      · go_wp2
        go_roundw
        case rel => exact ⟨zs, q2, k, by omega, by omega, hsh, by omega, by go_num, hown3, hr3, hG3⟩
        case measure => simp [intOf]
      · rw [putL_yes hb] at own3
        go_wp2
        go_roundw
        case rel => exact ⟨zs ++ [⟨u1, s, t, c⟩], q2, k, by omega, by simp; omega, ruShort_app hsh (ruShort_one hu hs ht), by omega, by go_num, own3.mono (by omega), hr3, hG3⟩
        case measure => simp [intOf]
    · obtain rfl : k = 0 := by omega
      go_wp2_with fail
      refine (pick_calls W g v bs q n _ hrr (by omega) (by omega) (by omega)).mono ?_
      rintro e w2 ⟨y, hy, rfl, hr2, hg2⟩
      have hown2 := hown.grown hg2 (Or.inr (fun e => by have := (hown.lt g e).1; omega))
      have hG2 := grown_trans hG hg2
      clear hown hG hg2
      by_cases hy0 : y = 0
      · have hyb : (y == 0) = true := by simpa using hy0
        clear hy0
        go_wp2_with fail
        refine (l20Rule_calls W g v bs (q + 1) 2 _ hr2 (by omega) (by omega) (by omega)).mono ?_
        rintro e w3 ⟨u1, s, t, c, q3, hu, hs, ht, hq3, rfl, hr3, hg3⟩
        have hown3 := hown2.grown hg3 (Or.inr (fun e => by have := (hown2.lt g e).1; omega))
        have hG3 := grown_trans hG2 hg3
        have z3 := hG3.size
        unfold Own at hown3
        clear hown2 hG2 hg3 hr2 hrr
        go_wp2_with (at_builtin; refine wpList_append_own _ rfl _ _ 36 rfl w.heap.size 40 i0 _ 4 48 Tryd.underlying36 hi hz0 hz1 hz2 rfl (by decide) _ _ _ rfl (hown3.alloc _) ⟨w3.heap.size, 0, none⟩ 1 1 [.int .i64 u1, .string s, .string t, .bool c] rfl rfl (news_new _ #[.int .i64 u1, .string s, .string t, .bool c] _ _ (by simp)) (by intro u hu; simp at hu; rcases hu with rfl | rfl | rfl | rfl <;> rfl) (by unfold maxLen; omega) (by omega) (by simp; omega) ?_; intro v4 w4 hown4 hgrow4 _)
        have hn4 := fun j e => (World.ownsRow.lt hown3 j e).1
        have hr4 := (hr3.al _).grownR hgrow4 (fun j e => by have := hn4 j e; omega)
        have hG4 := grown_newR (grown_trans hG3 (alloc_grown w3 _ _)) hgrow4 hn4
        have own4 : Own 4 ruleC 40 w.heap.size w4 v4 (zs ++ [⟨u1, s, t, c⟩]) := by unfold Own; simpa [ruleC] using hown4
        have sh4 : ruShort (zs ++ [⟨u1, s, t, c⟩]) := ruShort_app hsh (ruShort_one hu hs ht)
        clear hgrow4 hown3 hown4 hr3 hG3 hn4
        go_wp2_with fail
        refine (pick_calls W g v bs q3 2 _ hr4 (by omega) (by omega) (by omega)).mono ?_
        rintro e w5 ⟨i, hi5, rfl, hr5, hg5⟩
        have own5 := own4.grown hg5 (Or.inr (fun e => by have := (own4.lt g e).1; omega))
        have hG5 := grown_trans hG4 hg5
        have z5 := hG5.size
        clear own4 hG4 hg5 hr4
        by_cases hi0 : i = 0
        · have hib : (i == 0) = true := by simpa using hi0
          clear hi0
          have hl1 : (zs ++ [(⟨u1, s, t, c⟩ : TRule)]).length ≤ 7 ∧ 1 ≤ (zs ++ [(⟨u1, s, t, c⟩ : TRule)]).length := by simp; omega
          generalize zs ++ [(⟨u1, s, t, c⟩ : TRule)] = ys at own5 sh4 hl1
          obtain ⟨A, cc, rfl, hc, hlc, hat⟩ := rule_z (own5.sl ruleC_len)
          unfold maxLen at hc
          obtain ⟨⟨zu, zr, zp, zw⟩, b, off, hz, rfl, hb, d0, d1, d2, d3⟩ := hat 0 (by omega)
          have hzs := sh4 _ (List.mem_of_getElem? hz)
          simp only [Nat.zero_mul, Nat.add_zero] at d0 d1 d2 d3
          have hy0 : 0 < ys.length := by omega
          have hy1 : (0 : Int) < (ys.length : Int) := by omega
          unfold Own at own5
          clear hat
          go_wp2_with (at_builtin; refine wpList_append_own _ rfl _ _ 36 rfl w.heap.size 40 i0 _ 4 48 Tryd.underlying36 hi hz0 hz1 hz2 rfl (by decide) _ _ _ rfl (own5.alloc _) ⟨w5.heap.size, 0, none⟩ 1 1 [.int .i64 zu, .string zr, .string zp, .bool zw] rfl rfl (news_new _ #[.int .i64 zu, .string zr, .string zp, .bool zw] _ _ (by simp)) (by intro u hu; simp at hu; rcases hu with rfl | rfl | rfl | rfl <;> rfl) (by unfold maxLen; omega) (by omega) (by simp; omega) ?_; intro v6 w6 hown6 hgrow6 _)
          have hn6 := fun j e => (World.ownsRow.lt own5 j e).1
          have hr6 := (hr5.al _).grownR hgrow6 (fun j e => by have := hn6 j e; omega)
          have hG6 := grown_newR (grown_trans hG5 (alloc_grown w5 _ _)) hgrow6 hn6
          have own6 : Own 4 ruleC 40 w.heap.size w6 v6 (ys ++ [⟨zu, zr, zp, zw⟩]) := by unfold Own; simpa [ruleC] using hown6
          clear hgrow6 own5 hown6 hr5 hG5 hn6
          go_ret
          exact ⟨_, _, q3 + 1, by simp; omega, ruShort_app sh4 (ruShort_one hzs.1 hzs.2.1 hzs.2.2), by omega, rfl, own6, hr6, hG6⟩
        · have hib : (i == 0) = false := by simpa using hi0
          clear hi0
          go_wp2
          go_ret
          exact ⟨_, _, q3 + 1, by simp; omega, sh4, by omega, rfl, own5, hr5, hG5⟩
      · have hyb : (y == 0) = false := by simpa using hy0
        clear hy0
        go_wp2
        go_ret
        exact ⟨_, zs, q + 1, by omega, hsh, by omega, rfl, hown2, hr2, hG2⟩
end Go.Proofs.YtfiempmdmkoagaaDoor
