/- Marks written into a row of files, and read back. -/
import Derived.Test.YtkghhmjmfcnbnaaDoorFileH
import Derived.Test.YtkghhmjmfcnbnaaDoorMark
import Derived.Test.YtkghhmjmfcnbnaaDoorBel
namespace Go.Proofs.YtkghhmjmfcnbnaaDoor
open Go.RowKit

/-- the file that markTreFileS writes at number k -/
def fmk (k : Nat) : TFile := ⟨mt k, mt (k + 1)⟩
/-- the files that a call of markTreFileS writes, from number k on -/
def fileMark (k n : Nat) : List TFile := (List.range n).map fun i => fmk (k + 2 * i)
theorem fileMark_len (k n : Nat) : (fileMark k n).length = n := by simp [fileMark]
theorem fileMark_get {k n i : Nat} (h : i < n) : (fileMark k n)[i]? = some (fmk (k + 2 * i)) := by simp [fileMark, h]
theorem fileMark_step {zs : List TFile} {k i : Nat} (h : i < zs.length) : ((fileMark k i ++ zs.drop i).set i (fmk (k + 2 * i))) = fileMark k (i + 1) ++ zs.drop (i + 1) := by
  rw [List.set_append_right _ _ (by rw [fileMark_len]; omega), fileMark_len, Nat.sub_self, List.drop_eq_getElem_cons h, List.set_cons_zero]
  simp [fileMark, List.range_succ]

set_option maxRecDepth 100000 in
set_option maxHeartbeats 1000000 in
theorem markTreFileS_calls (v : Value) (zs : List TFile) (k base : Nat) (w : World) (ho : Own 2 fileC 55 base w v zs) (hk : 0 < k) (hn : k + 2 * zs.length ≤ 8388608) :
    Calls Tryd.prog 14 #[v, .int .i64 k] w (RetMark 2 fileC 55 base v (k + 2 * zs.length) (fileMark k zs.length) w) := by
  have ho2 : w.ownsRow base 55 2 v zs.length (zs.flatMap fileC) := ho
  rcases ho.2 with ⟨rfl, hz⟩ | ⟨g, cap, cur, rfl, hbg, hgg, hnc, hcm, -, -⟩
  · have : zs = [] := List.eq_nil_of_length_eq_zero hz
    subst this
    go_enter Tryd.func14, Tryd.ntmps14
    go_wp2
    refine wp_loop_rounds 1 ?_
    rw [rounds_succ]
    go_wp2
    go_ret
    exact ⟨rfl, ho, World.grownBy.refl _ _⟩
  · have hgw : g < w.heap.size := (Array.getElem?_eq_some_iff.1 hgg).1
    unfold maxLen at hcm
    clear hgg
    go_enter Tryd.func14, Tryd.ntmps14
    go_wp2
    go_loopw [1, 5] (fun q i wr => ∃ n : Nat, n ≤ zs.length ∧ i = .int .i64 n ∧ q = .int .i64 ((k + 2 * n : Nat) : Int) ∧ wr.ownsRow base 55 2 (.slice (some ⟨g, 0, none⟩) zs.length cap) zs.length ((fileMark k n ++ zs.drop n).flatMap fileC) ∧ w.grownBy wr (some g)) (fun _ i _ => zs.length - (intOf i).toNat)
    case atStart => exact ⟨0, Nat.zero_le _, rfl, rfl, by simpa [fileMark] using ho2, World.grownBy.refl _ _⟩
    case round =>
      obtain ⟨n, hn2, rfl, rfl, hown, hgr⟩ := hrel
      by_cases hlt : n < zs.length
      · have hl : (fileMark k n ++ zs.drop n).length = zs.length := by simp [fileMark_len]; omega
        have HL := Lib.hid hl
        clear hl
        go_wp2_with fail
        refine (markText_int _ (by omega) (by omega) _).mono ?_
        rintro e w1 ⟨rfl, hb1⟩
        have hown1 := hown.kept (grown_of_below hb1 none) (.inr (by simp [Value.ownBlock]))
        have hgr1 := grown_trans hgr (grown_of_below hb1 (some g))
        obtain ⟨⟨x0, e0⟩, f0⟩ := own_cell hown1 (j := n * 2) (by omega)
        have h1 := hown1.stored (n * 2) (.string (mt ((k : Int) + 2 * n).toNat))
        go_wp2_with fail
        refine (markText_int _ (by omega) (by omega) _).mono ?_
        rintro e w2 ⟨rfl, hb2⟩
        have hown2 := h1.1.kept (grown_of_below hb2 none) (.inr (by simp [Value.ownBlock]))
        have hgr2 := grown_trans (grown_trans hgr1 h1.2) (grown_of_below hb2 (some g))
        obtain ⟨⟨x1, e1⟩, f1⟩ := own_cell hown2 (j := n * 2 + 1) (by omega)
        have h2 := hown2.stored (n * 2 + 1) (.string (mt ((k : Int) + 2 * n + 1).toNat))
        have HF : Hid ((w2.setCell ⟨g, n * 2 + 1, none⟩ (.string (mt ((k : Int) + 2 * n + 1).toNat))).ownsRow base 55 2 (.slice (some ⟨g, 0, none⟩) zs.length cap) zs.length ((fileMark k (n + 1) ++ zs.drop (n + 1)).flatMap fileC) ∧ w.grownBy (w2.setCell ⟨g, n * 2 + 1, none⟩ (.string (mt ((k : Int) + 2 * n + 1).toNat))) (some g)) := by
          refine ⟨?_, grown_trans hgr2 h2.2⟩
          have h5 := h2.1
          rw [flat_set2 fileC_len (a := fmk (k + 2 * n)) (by rw [HL.out]; exact hlt) (by
            rw [show ((k : Int) + 2 * n).toNat = k + 2 * n by omega, show ((k : Int) + 2 * n + 1).toNat = k + 2 * n + 1 by omega]; simp [fileC, fmk]), fileMark_step hlt] at h5
          exact h5
        clear h1 h2 hgr hgr1 hgr2 hown hown1 hown2
        go_wp2
        go_roundw
        case rel => exact ⟨n + 1, by omega, by go_num, by go_num, HF.out.1, HF.out.2⟩
        case measure => simp [intOf]; omega
      · obtain rfl : n = zs.length := by omega
        go_wp2
        go_ret
        refine ⟨rfl, ?_, hgr⟩
        rw [List.drop_length, List.append_nil] at hown
        have : (fileMark k zs.length).length = zs.length := fileMark_len _ _
        unfold Own
        rw [this]
        exact hown

set_option maxRecDepth 100000 in
set_option maxHeartbeats 1000000 in
theorem heldTreFileS_calls (v : Value) (k n : Nat) (w : World) (hv : Sl 2 fileC w v (fileMark k n)) (hk : 0 < k) (hn : k + 2 * n ≤ 8388608) :
    Calls Tryd.prog 38 #[v, .int .i64 k] w fun e w' => e = .returned (.int .i64 (k + 2 * n : Nat)) ∧ Below w.heap.size w w' := by
  obtain ⟨A, c, rfl, hc, hlc, hat⟩ := file_at hv
  rw [fileMark_len] at hat hlc ⊢
  unfold maxLen at hc
  clear hv
  go_enter Tryd.func38, Tryd.ntmps38
  go_wp2
  go_loopw [1, 5] (fun q i wr => ∃ m : Nat, m ≤ n ∧ i = .int .i64 m ∧ q = .int .i64 ((k + 2 * m : Nat) : Int) ∧ Below w.heap.size w wr) (fun _ i _ => n - (intOf i).toNat)
  case atStart => exact ⟨0, Nat.zero_le _, rfl, rfl, Below.refl _ _⟩
  case round =>
    obtain ⟨m, hm, rfl, rfl, hnx⟩ := hrel
    by_cases hlt : m < n
    · obtain ⟨s, t, b, off, hz, rfl, hb, c0, c1⟩ := hat m hlt
      rw [fileMark_get hlt] at hz
      simp only [Option.some.injEq, fmk, TFile.mk.injEq] at hz
      obtain ⟨rfl, rfl⟩ := hz
      have d0 := (hnx.cell (p := ⟨b, off + m * 2, none⟩) hb).trans c0
      have d1 := (hnx.cell (p := ⟨b, off + m * 2 + 1, none⟩) hb).trans c1
      clear hat c0 c1
      have hbr : b < wr.heap.size := Nat.lt_of_lt_of_le hb hnx.size
      have htn : ((k : Int) + 2 * m).toNat = k + 2 * m := by omega
      have htn2 : ((k : Int) + 2 * m + 1).toNat = k + 2 * m + 1 := by omega
      go_wp2_with fail
      refine wp_region_bel (by kernel_rfl) (by kernel_rfl) ?_
      have q1 := fun x : Bel wr => Bel.cell d0 x
      repeat (go_big_quiet_step ((go_at_call 48; exact bel_call _ (markText_int _ (by omega) (by omega) _))))
      refine wpQuiet_nil ?_
      intro _ hw'; obtain ⟨x, hw''⟩ := hw'; subst hw''
      have g3 := Bel.cell d1 x
      have hx := x.h
      generalize x.w = wx at g3 hx ⊢
      clear d0 d1 q1 x
      go_wp2_with fail
      refine wp_region_bel (by kernel_rfl) (by kernel_rfl) ?_
      have q2 := fun x : Bel wx => Bel.cell g3 x
      repeat (go_big_quiet_step ((go_at_call 48; exact bel_call _ (markText_int _ (by omega) (by omega) _))))
      refine wpQuiet_nil ?_
      intro _ hw'; obtain ⟨y, hw''⟩ := hw'; subst hw''
      have hy := y.h
      generalize y.w = wy at hy ⊢
      clear g3 q2 y
      go_wp2
      go_roundw
      case rel => exact ⟨m + 1, by omega, by go_num, by go_num, below_up hnx (below_up hx hy)⟩
      case measure => simp [intOf]; omega
    · obtain rfl : m = n := by omega
      go_wp2
      go_ret
      exact ⟨rfl, hnx⟩
end Go.Proofs.YtkghhmjmfcnbnaaDoor
