/- The helpers of the laws over pools: sizes, copies, equality of []PolItem. -/
import Derived.Test.YtajkihibineoaaaBase
import Derived.Test.YtajkihibineoaaaMem
import Derived.Test.YtajkihibineoaaaSum
import Derived.Deep.SlicePairs
import Derived.StillTailTactics
import Derived.Deep.RegionHeld3
import Derived.BigQuiet
import Derived.Deep.QuietTactic
namespace Go.Proofs.Ytajkihibineoaaa
open Go.RowKit

/-- the cells of an item of a pool -/
def polC (p : Int × ByteArray) : List Value := [.int .i64 p.1, .string p.2]
theorem polC_len (p : Int × ByteArray) : (polC p).length = 2 := rfl

theorem pol_at {w : World} {v : Value} {zs : List (Int × ByteArray)} (h : Sl 2 polC w v zs) : ∃ A c, v = .slice A zs.length c ∧ c ≤ maxLen ∧ zs.length ≤ c ∧
    ∀ k, k < zs.length → ∃ id s b off, zs[k]? = some (id, s) ∧ A = some ⟨b, off, none⟩ ∧ b < w.heap.size ∧ w.cell? ⟨b, off + k * 2, none⟩ = some (.int .i64 id) ∧ w.cell? ⟨b, off + k * 2 + 1, none⟩ = some (.string s) := by
  obtain ⟨A, c, rfl, h1, h2, h3⟩ := h
  refine ⟨A, c, rfl, h2, h1, fun k hk => ?_⟩
  obtain ⟨b, off, rfl, hb, hat⟩ := h3 k _ (List.getElem?_eq_getElem hk)
  exact ⟨zs[k].1, zs[k].2, b, off, List.getElem?_eq_getElem hk, rfl, hb, hat 0 _ rfl, hat 1 _ rfl⟩

theorem szPolItem_calls (id l : Int) (s : ByteArray) (w : World) (hs : s.size ≤ maxLen) (h0 : 0 ≤ l) (h1 : l ≤ 1048576) :
    Calls Try.prog 54 #[.agg #[.int .i64 id, .string s], .int .i64 l] w fun e w' => e = .returned (.int .i64 (szR l s.size)) ∧ Below w.heap.size w w' := by
  unfold maxLen at hs
  by_cases h : l < s.size
  · rw [szR_no h]
    go_enter Try.func54, Try.ntmps54
    go_wp2
    go_ret
    exact ⟨rfl, (Below.refl _ _).alloc (Nat.le_refl _) _⟩
  · rw [szR_yes (by omega)]
    go_enter Try.func54, Try.ntmps54
    go_wp2
    go_ret
    exact ⟨rfl, (Below.refl _ _).alloc (Nat.le_refl _) _⟩

def polT (p : Int × ByteArray) : Nat := p.2.size

set_option maxHeartbeats 400000 in
theorem szPolItemS_calls (v : Value) (zs : List (Int × ByteArray)) (L : Int) (w : World) (hv : Sl 2 polC w v zs) (ht : ∀ z ∈ zs, z.2.size ≤ maxLen) (h0 : 0 ≤ L) (h1 : L ≤ 1048576) :
    Calls Try.prog 24 #[v, .int .i64 L] w fun e w' => e = .returned (.int .i64 (szR L (zs.length + wsum polT zs))) ∧ Below w.heap.size w w' := by
  obtain ⟨A, c, rfl, hc, hlc, hat⟩ := pol_at hv
  unfold maxLen at hc
  by_cases hL : L < zs.length
  · rw [szR_no (by omega)]
    go_enter Try.func24, Try.ntmps24
    go_wp2
    go_ret
    exact ⟨rfl, Below.refl _ _⟩
  · go_enter Try.func24, Try.ntmps24
    go_wp2
    go_loopw [1, 5] (fun l i wr => ∃ k : Nat, k ≤ zs.length ∧ i = .int .i64 k ∧ l = .int .i64 (L - zs.length - wsum polT (zs.take k)) ∧ (0 : Int) ≤ L - zs.length - wsum polT (zs.take k) ∧ Below w.heap.size w wr) (fun _ i _ => zs.length - (intOf i).toNat)
    case atStart => exact ⟨0, Nat.zero_le _, rfl, by simp [wsum], by simp [wsum]; omega, Below.refl _ _⟩
    case round =>
      obtain ⟨k, hk, rfl, rfl, hge, hnx⟩ := hrel
      by_cases hlt : k < zs.length
      · obtain ⟨id, s, b, off, hz, rfl, hb, c0, c1⟩ := hat k hlt
        have hs := ht _ (List.mem_of_getElem? hz)
        have d0 := (hnx.cell (p := ⟨b, off + k * 2, none⟩) hb).trans c0
        have d1 := (hnx.cell (p := ⟨b, off + k * 2 + 1, none⟩) hb).trans c1
        have st := Lib.hid (wsum_step (f := polT) hz)
        have le := wsum_le (f := polT) (zs := zs) (k + 1)
        by_cases hf : L - zs.length - wsum polT (zs.take k) < s.size
        · go_wp2_with fail
          refine (szPolItem_calls id _ s _ hs hge (by omega)).mono ?_
          rintro e w1 ⟨rfl, hb1⟩
          rw [szR_no hf]
          go_wp2
          go_ret
          have e1 := st.out
          simp only [polT] at e1
          exact ⟨ret_i (by rw [szR_no]; omega), hnx.trans (hb1.mono hnx.size)⟩
        · go_wp2_with fail
          refine (szPolItem_calls id _ s _ hs hge (by omega)).mono ?_
          rintro e w1 ⟨rfl, hb1⟩
          rw [szR_yes (by omega)]
          go_wp2
          go_roundw
          have e1 := st.out
          simp only [polT] at e1
          case rel => exact ⟨k + 1, by omega, by go_num, by rw [e1]; go_num, by rw [e1]; omega, hnx.trans (hb1.mono hnx.size)⟩
          case measure => simp [intOf]; omega
      · have e1 := Lib.hid (wsum_all (f := polT) hlt)
        go_wp2
        go_ret
        have e2 := e1.out
        exact ⟨ret_i (by rw [szR_yes (by omega), e2]; omega), hnx⟩
end Go.Proofs.Ytajkihibineoaaa
