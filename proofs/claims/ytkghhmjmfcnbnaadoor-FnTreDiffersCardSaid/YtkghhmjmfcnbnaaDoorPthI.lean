/- impl's functions of paths up to PthOk, each by a plain one; the library's Split by its contract. No condition but a string's own size, and that the library's variable MaxLen holds some int. -/
import Derived.Test.YtkghhmjmfcnbnaaDoorPthS
import Derived.Test.YtkghhmjmfcnbnaaDoorShelf
namespace Go.Proofs.YtkghhmjmfcnbnaaDoor
open Go.RowKit

/-- the library's bound on what a search looks for lies in its cell -/
def MaxOk (w : World) : Prop := ∃ m, w.cell? ⟨0, 0, none⟩ = some (.int .i64 m)
theorem MaxOk.below {w w' : World} (h : MaxOk w) (hb : Below w.heap.size w w') : MaxOk w' := by
  obtain ⟨m, hm⟩ := h
  exact ⟨m, (hb.cell (p := ⟨0, 0, none⟩) (World.block_lt_of_cell? w _ hm)).trans hm⟩
theorem MaxOk.al {w : World} (h : MaxOk w) (o : Obj) : MaxOk (w.alloc o) := h.below ((Below.refl _ _).alloc (Nat.le_refl _) o)
theorem MaxOk.mark {α : Type} {sz : Nat} {C : α → List Value} {W w w' w1 : World} {v : Value} {zs : List α} {e : TypeId} {base : Nat} (h : MaxOk w) (h0 : MaxOk W) (ho : Own sz C e base w1 v zs) (hs : W.heap.size ≤ base) (hg : w.grownBy w' v.ownBlock) : MaxOk w' := by
  obtain ⟨m, hm⟩ := h
  obtain ⟨m0, hm0⟩ := h0
  have l0 := World.block_lt_of_cell? W _ hm0
  have l1 := World.block_lt_of_cell? w _ hm
  exact ⟨m, (World.cell?_of_block (hg.block 0 l1 (fun e => by have := (ho.lt _ e.symm).1; simp only at l0; omega))).trans hm⟩
theorem maxOk_of {w : World} (h : w.ShapedOpen Tryd.prog) : MaxOk w := Go.Proofs.Tryd.laysM146.s1_3 w h

theorem split_calls (s : ByteArray) (hs : s.size ≤ 2097160) (w : World) (hm : MaxOk w) : Calls Tryd.prog 90 #[.string s, .string ⟨#[47]⟩] w (RetOwn 1 strC 9 (cutB s) w) := by
  obtain ⟨m, hm⟩ := hm
  have hl := cutB_len s
  refine (Go.Proofs.Tryd.strings_Split s ⟨#[47]⟩ m w (by omega) hm (by decide)).mono ?_
  rintro e w' ⟨rfl, rfl⟩
  rw [countB_cut, splitB_cut]
  refine ⟨_, rfl, ?_, al (below0 w) _⟩
  have h := World.ownsRow_lit (base := w.heap.size) w ((cutB s).map Value.string).toArray (cutB s).length (e := 9) (size := 1) (Nat.le_refl _) (by unfold maxLen; omega) (by simp)
  unfold Own
  rw [strC_flat]
  simpa using h

theorem names_calls (s : ByteArray) (hs : s.size ≤ 2097160) (h0 : ¬ toL s = []) (w : World) (hm : MaxOk w) : Calls Tryd.prog 78 #[.string s] w (RetOwn 1 strC 9 (cutB s) w) := by
  have hd := empty_no h0
  clear h0
  go_enter Tryd.func78, Tryd.ntmps78
  go_wp2_with fail
  refine (split_calls s hs _ hm).mono ?_
  rintro e w1 ⟨v, rfl, hown, hb⟩
  go_wp2
  go_ret
  exact ⟨_, rfl, hown, hb⟩
theorem names_nil (s : ByteArray) (h0 : toL s = []) (w : World) : Calls Tryd.prog 78 #[.string s] w fun e w' => e = .returned (.slice none 0 0) ∧ w = w' := by
  have hd := empty_yes h0
  clear h0
  go_enter Tryd.func78, Tryd.ntmps78
  go_wp2
  go_ret
  exact ⟨rfl, rfl⟩

set_option maxRecDepth 100000 in
theorem pth_impl (s : ByteArray) (hs : s.size ≤ 2097160) (w : World) (hm : MaxOk w) : Calls Tryd.prog 55 #[.string s] w fun e w' => e = .returned (.bool (pthB s)) ∧ Below w.heap.size w w' := by
  by_cases h0 : toL s = []
  · rw [pthB_nil h0]
    have HN := Lib.hid (fun W => names_nil s h0 W)
    clear h0
    go_enter Tryd.func55, Tryd.ntmps55
    go_wp2_with fail
    refine (HN.out _).mono ?_
    rintro e w1 ⟨rfl, rfl⟩
    go_wp2
    refine wp_loop_rounds 1 ?_
    rw [rounds_succ]
    go_wp2
    go_ret
    exact ⟨rfl, below0 w⟩
  · have H0 := Lib.hid h0
    have HN := Lib.hid (fun W => names_calls s hs h0 W)
    clear h0
    go_enter Tryd.func55, Tryd.ntmps55
    go_wp2_with fail
    refine (HN.out _ hm).mono ?_
    rintro e w1 ⟨v, rfl, hown, hb⟩
    obtain ⟨A, c, rfl, hc, hlc, hat⟩ := str_at (hown.sl strC_len)
    unfold maxLen at hc
    clear hown
    go_wp2
    go_loopw [10] (fun i wr => ∃ k : Nat, k ≤ (cutB s).length ∧ i = .int .i64 k ∧ AllNam s k ∧ Below w1.heap.size w1 wr) (fun i _ => (cutB s).length - (intOf i).toNat)
    case atStart => exact ⟨0, Nat.zero_le _, rfl, fun x hx => by simp at hx, below0 w1⟩
    case round =>
      obtain ⟨k, hk, rfl, hall, hnx⟩ := hrel
      by_cases hlt : k < (cutB s).length
      · obtain ⟨x, b, off, hz, rfl, hbl, c0⟩ := hat k hlt
        have d0 := (hnx.cell (p := ⟨b, off + k, none⟩) hbl).trans c0
        have hx : x.size ≤ maxLen := by have := cutB_piece (List.mem_of_getElem? hz); unfold maxLen; omega
        by_cases hn : namS x = true
        · have HA := Lib.hid (allNam_step hz hn hall)
          clear hat c0 hz hall
          go_wp2_with fail
          refine (namS_impl x hx _).mono ?_
          rintro e w2 ⟨rfl, rfl⟩
          rw [hn]
          go_wp2
          go_roundw
          case rel => exact ⟨k + 1, by omega, by go_num, HA.out, hnx⟩
          case measure => simp [intOf]; omega
        · have hn' : namS x = false := by simpa using hn
          have HA := Lib.hid (pthB_bad hz hn' H0.out)
          clear hat c0 hz hall hn
          go_wp2_with fail
          refine (namS_impl x hx _).mono ?_
          rintro e w2 ⟨rfl, rfl⟩
          rw [hn']
          go_wp2
          go_ret
          exact ⟨ret_b HA.out.symm, below_up hb hnx⟩
      · have HA := Lib.hid (pthB_end hlt H0.out hall)
        clear hall
        go_wp2
        go_ret
        exact ⟨ret_b (by rw [HA.out]; first | rfl | (simp; done) | (simp; omega)), below_up hb hnx⟩
end Go.Proofs.YtkghhmjmfcnbnaaDoor
