/- Rows of strings: equality, marks. -/
import Derived.Test.YtkghhmjmfcnbnaaDoorMem
import Derived.Test.YtkghhmjmfcnbnaaDoorMark
import Derived.Test.YtkghhmjmfcnbnaaDoorStr
import Derived.Test.YtkghhmjmfcnbnaaDoorBel
import Derived.BigQuiet
import Derived.Deep.QuietTactic
namespace Go.Proofs.YtkghhmjmfcnbnaaDoor
open Go.RowKit

/-- the cells of a string -/
def strC (x : ByteArray) : List Value := [.string x]
theorem strC_len (x : ByteArray) : (strC x).length = 1 := rfl
theorem strC_flat (xs : List ByteArray) : xs.flatMap strC = xs.map Value.string := by
  induction xs with
  | nil => rfl
  | cons x xs ih => simp [List.flatMap_cons, strC, ih]
theorem Tryd.infoStr : (Tryd.prog.info? 9).map (fun i => (i.zero, i.size, i.bytes)) = some (some (.string ByteArray.empty), 1, 16) := by kernel_rfl
theorem str_at {w : World} {v : Value} {zs : List ByteArray} (h : Sl 1 strC w v zs) : ∃ A c, v = .slice A zs.length c ∧ c ≤ maxLen ∧ zs.length ≤ c ∧
    ∀ k, k < zs.length → ∃ (x : ByteArray) (b off : Nat), zs[k]? = some x ∧ A = some ⟨b, off, none⟩ ∧ b < w.heap.size ∧ w.cell? ⟨b, off + k, none⟩ = some (.string x) := by
  obtain ⟨A, c, rfl, h1, h2, h3⟩ := h
  refine ⟨A, c, rfl, h2, h1, fun k hk => ?_⟩
  obtain ⟨b, off, rfl, hb, hat⟩ := h3 k _ (List.getElem?_eq_getElem hk)
  refine ⟨zs[k], b, off, List.getElem?_eq_getElem hk, rfl, hb, ?_⟩
  have := hat 0 _ rfl
  rw [Nat.mul_one] at this
  exact this

theorem eqStringS_calls (u v : Value) (zs : List ByteArray) (w : World) (hu : Sl 1 strC w u zs) (hv : Sl 1 strC w v zs) :
    Calls Tryd.prog 12 #[u, v] w fun e w' => e = .returned (.bool true) ∧ Below w.heap.size w w' := by
  obtain ⟨A, c, rfl, hc, hlc, hat⟩ := str_at hu
  obtain ⟨A', c', rfl, hc', hlc', hat'⟩ := str_at hv
  unfold maxLen at hc hc'
  go_enter Tryd.func12, Tryd.ntmps12
  go_wp2
  go_loopw [5] (fun i wr => ∃ k : Nat, k ≤ zs.length ∧ i = .int .i64 k ∧ Below w.heap.size w wr) (fun i _ => zs.length - (intOf i).toNat)
  case atStart => exact ⟨0, Nat.zero_le _, rfl, Below.refl _ _⟩
  case round =>
    obtain ⟨k, hk, rfl, hnx⟩ := hrel
    by_cases hlt : k < zs.length
    · obtain ⟨x, b, off, hz, rfl, hb, c0⟩ := hat k hlt
      obtain ⟨x', b', off', hz', rfl, hb', c0'⟩ := hat' k hlt
      rw [hz] at hz'
      simp only [Option.some.injEq] at hz'
      subst hz'
      have d0 := (hnx.cell (p := ⟨b, off + k, none⟩) hb).trans c0
      have d0' := (hnx.cell (p := ⟨b', off' + k, none⟩) hb').trans c0'
      clear hat hat' c0 c0' hz
      have h0 : (0 : Int) ≤ (k : Int) := Int.natCast_nonneg _
      have hl : (k : Int) < (zs.length : Int) := by omega
      go_wp2_with fail
      go_quiet (fail)
      have hnx2 := below_drewN hnx nq
      clear hnx
      go_wp2
      go_roundw
      case rel => exact ⟨k + 1, by omega, by go_num, hnx2⟩
      case measure => simp [intOf]; omega
    · go_wp2
      go_ret
      exact ⟨rfl, hnx⟩

/-- the texts that a call of markStringS writes, from number k on -/
def strMark (k n : Nat) : List ByteArray := (List.range n).map fun i => mt (k + i)
theorem strMark_len (k n : Nat) : (strMark k n).length = n := by simp [strMark]
theorem strMark_get {k n i : Nat} (h : i < n) : (strMark k n)[i]? = some (mt (k + i)) := by simp [strMark, h]
theorem strMark_step {zs : List ByteArray} {k i : Nat} (h : i < zs.length) : ((strMark k i ++ zs.drop i).set i (mt (k + i))) = strMark k (i + 1) ++ zs.drop (i + 1) := by
  rw [List.set_append_right _ _ (by rw [strMark_len]; omega), strMark_len, Nat.sub_self, List.drop_eq_getElem_cons h, List.set_cons_zero]
  simp [strMark, List.range_succ]

set_option maxRecDepth 100000 in
theorem markStringS_calls (v : Value) (zs : List ByteArray) (k base : Nat) (w : World) (ho : Own 1 strC 9 base w v zs) (hk : 0 < k) (hn : k + zs.length ≤ 8388608) :
    Calls Tryd.prog 15 #[v, .int .i64 k] w (RetMark 1 strC 9 base v (k + zs.length) (strMark k zs.length) w) := by
  have ho2 : w.ownsRow base 9 1 v zs.length (zs.flatMap strC) := ho
  rcases ho.2 with ⟨rfl, hz⟩ | ⟨g, cap, cur, rfl, hbg, hgg, hnc, hcm, -, -⟩
  · have : zs = [] := List.eq_nil_of_length_eq_zero hz
    subst this
    go_enter Tryd.func15, Tryd.ntmps15
    go_wp2
    refine wp_loop_rounds 1 ?_
    rw [rounds_succ]
    go_wp2
    go_ret
    exact ⟨rfl, ho, World.grownBy.refl _ _⟩
  · have hgw : g < w.heap.size := (Array.getElem?_eq_some_iff.1 hgg).1
    unfold maxLen at hcm
    clear hgg
    go_enter Tryd.func15, Tryd.ntmps15
    go_wp2
    go_loopw [1, 5] (fun q i wr => ∃ n : Nat, n ≤ zs.length ∧ i = .int .i64 n ∧ q = .int .i64 ((k + n : Nat) : Int) ∧ wr.ownsRow base 9 1 (.slice (some ⟨g, 0, none⟩) zs.length cap) zs.length ((strMark k n ++ zs.drop n).flatMap strC) ∧ w.grownBy wr (some g)) (fun _ i _ => zs.length - (intOf i).toNat)
    case atStart => exact ⟨0, Nat.zero_le _, rfl, rfl, by simpa [strMark] using ho2, World.grownBy.refl _ _⟩
    case round =>
      obtain ⟨n, hn2, rfl, rfl, hown, hgr⟩ := hrel
      by_cases hlt : n < zs.length
      · go_wp2_with fail
        refine (markText_int _ (by omega) (by omega) _).mono ?_
        rintro e w1 ⟨rfl, hb1⟩
        have hown1 := hown.kept (grown_of_below hb1 none) (.inr (by simp [Value.ownBlock]))
        have hgr1 := grown_trans hgr (grown_of_below hb1 (some g))
        obtain ⟨⟨x0, e0⟩, f0⟩ := own_cell hown1 (j := n) (by omega)
        have h1 := hown1.stored n (.string (mt ((k : Int) + n).toNat))
        have HF : Hid ((w1.setCell ⟨g, n, none⟩ (.string (mt ((k : Int) + n).toNat))).ownsRow base 9 1 (.slice (some ⟨g, 0, none⟩) zs.length cap) zs.length ((strMark k (n + 1) ++ zs.drop (n + 1)).flatMap strC) ∧ w.grownBy (w1.setCell ⟨g, n, none⟩ (.string (mt ((k : Int) + n).toNat))) (some g)) := by
          refine ⟨?_, grown_trans hgr1 h1.2⟩
          have h3 := h1.1
          rw [show ((k : Int) + n).toNat = k + n by omega] at h3 ⊢
          rw [strC_flat, ← List.map_set, strMark_step hlt, ← strC_flat] at h3
          exact h3
        clear h1 hgr hgr1 hown hown1
        go_wp2
        go_roundw
        case rel => exact ⟨n + 1, by omega, by go_num, by go_num, HF.out.1, HF.out.2⟩
        case measure => simp [intOf]; omega
      · obtain rfl : n = zs.length := by omega
        go_wp2
        go_ret
        refine ⟨rfl, ?_, hgr⟩
        rw [List.drop_length, List.append_nil] at hown
        have : (strMark k zs.length).length = zs.length := strMark_len _ _
        unfold Own
        rw [this]
        exact hown

set_option maxRecDepth 100000 in
theorem heldStringS_calls (v : Value) (k n : Nat) (w : World) (hv : Sl 1 strC w v (strMark k n)) (hk : 0 < k) (hn : k + n ≤ 8388608) :
    Calls Tryd.prog 16 #[v, .int .i64 k] w fun e w' => e = .returned (.int .i64 (k + n : Nat)) ∧ Below w.heap.size w w' := by
  obtain ⟨A, c, rfl, hc, hlc, hat⟩ := str_at hv
  rw [strMark_len] at hat hlc ⊢
  unfold maxLen at hc
  clear hv
  go_enter Tryd.func16, Tryd.ntmps16
  go_wp2
  go_loopw [1, 5] (fun q i wr => ∃ m : Nat, m ≤ n ∧ i = .int .i64 m ∧ q = .int .i64 ((k + m : Nat) : Int) ∧ Below w.heap.size w wr) (fun _ i _ => n - (intOf i).toNat)
  case atStart => exact ⟨0, Nat.zero_le _, rfl, rfl, below0 w⟩
  case round =>
    obtain ⟨m, hm, rfl, rfl, hnx⟩ := hrel
    by_cases hlt : m < n
    · obtain ⟨x, b, off, hz, rfl, hb, c0⟩ := hat m hlt
      rw [strMark_get hlt] at hz
      simp only [Option.some.injEq] at hz
      subst hz
      have d0 := (hnx.cell (p := ⟨b, off + m, none⟩) hb).trans c0
      clear hat c0
      have hbr : b < wr.heap.size := Nat.lt_of_lt_of_le hb hnx.size
      have htn : ((k : Int) + m).toNat = k + m := by omega
      go_wp2_with fail
      refine wp_region_bel (by kernel_rfl) (by kernel_rfl) ?_
      have q0 := fun x : Bel wr => Bel.cell d0 x
      repeat (go_big_quiet_step ((go_at_call 48; exact bel_call _ (markText_int _ (by omega) (by omega) _))))
      refine wpQuiet_nil ?_
      intro _ hw'; obtain ⟨x, hw''⟩ := hw'; subst hw''
      have hx := x.h
      generalize x.w = wx at hx ⊢
      clear d0 q0 x
      go_wp2
      go_roundw
      case rel => exact ⟨m + 1, by omega, by go_num, by go_num, below_up hnx hx⟩
      case measure => simp [intOf]; omega
    · obtain rfl : m = n := by omega
      go_wp2
      go_ret
      exact ⟨rfl, hnx⟩
end Go.Proofs.YtkghhmjmfcnbnaaDoor
