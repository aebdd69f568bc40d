/- Marks written into a row of edits. -/
import Derived.Test.YtkghhmjmfcnbnaaDoorEditH
import Derived.Test.YtkghhmjmfcnbnaaDoorMark
import Derived.Test.YtkghhmjmfcnbnaaDoorBel
namespace Go.Proofs.YtkghhmjmfcnbnaaDoor
open Go.RowKit

/-- the edit that markTreEditS writes at number k -/
def emk (k : Nat) : TEdit := ⟨mt k, mt (k + 1), decide ((k + 2) % 3 = 0)⟩
/-- the edits that a call of markTreEditS writes, from number k on -/
def editMark (k n : Nat) : List TEdit := (List.range n).map fun i => emk (k + 3 * i)
theorem editMark_len (k n : Nat) : (editMark k n).length = n := by simp [editMark]
theorem editMark_step {zs : List TEdit} {k i : Nat} (h : i < zs.length) : ((editMark k i ++ zs.drop i).set i (emk (k + 3 * i))) = editMark k (i + 1) ++ zs.drop (i + 1) := by
  rw [List.set_append_right _ _ (by rw [editMark_len]; omega), editMark_len, Nat.sub_self, List.drop_eq_getElem_cons h, List.set_cons_zero]
  simp [editMark, List.range_succ]

set_option maxRecDepth 100000 in
set_option maxHeartbeats 1000000 in
theorem markTreEditS_calls (v : Value) (zs : List TEdit) (k base : Nat) (w : World) (ho : Own 3 editC 49 base w v zs) (hk : 0 < k) (hn : k + 3 * zs.length ≤ 8388608) :
    Calls Tryd.prog 37 #[v, .int .i64 k] w (RetMark 3 editC 49 base v (k + 3 * zs.length) (editMark k zs.length) w) := by
  have ho2 : w.ownsRow base 49 3 v zs.length (zs.flatMap editC) := ho
  rcases ho.2 with ⟨rfl, hz⟩ | ⟨g, cap, cur, rfl, hbg, hgg, hnc, hcm, -, -⟩
  · have : zs = [] := List.eq_nil_of_length_eq_zero hz
    subst this
    go_enter Tryd.func37, Tryd.ntmps37
    go_wp2
    refine wp_loop_rounds 1 ?_
    rw [rounds_succ]
    go_wp2
    go_ret
    exact ⟨rfl, ho, World.grownBy.refl _ _⟩
  · have hgw : g < w.heap.size := (Array.getElem?_eq_some_iff.1 hgg).1
    unfold maxLen at hcm
    clear hgg
    go_enter Tryd.func37, Tryd.ntmps37
    go_wp2
    go_loopw [1, 5] (fun q i wr => ∃ n : Nat, n ≤ zs.length ∧ i = .int .i64 n ∧ q = .int .i64 ((k + 3 * n : Nat) : Int) ∧ wr.ownsRow base 49 3 (.slice (some ⟨g, 0, none⟩) zs.length cap) zs.length ((editMark k n ++ zs.drop n).flatMap editC) ∧ w.grownBy wr (some g)) (fun _ i _ => zs.length - (intOf i).toNat)
    case atStart => exact ⟨0, Nat.zero_le _, rfl, rfl, by simpa [editMark] using ho2, World.grownBy.refl _ _⟩
    case round =>
      obtain ⟨n, hn2, rfl, rfl, hown, hgr⟩ := hrel
      by_cases hlt : n < zs.length
      · have hl : (editMark k n ++ zs.drop n).length = zs.length := by simp [editMark_len]; omega
        have HL := Lib.hid hl
        clear hl
        go_wp2_with fail
        refine (markText_int _ (by omega) (by omega) _).mono ?_
        rintro e w1 ⟨rfl, hb1⟩
        have hown1 := hown.kept (grown_of_below hb1 none) (.inr (by simp [Value.ownBlock]))
        have hgr1 := grown_trans hgr (grown_of_below hb1 (some g))
        obtain ⟨⟨x0, e0⟩, f0⟩ := own_cell hown1 (j := n * 3) (by omega)
        have h1 := hown1.stored (n * 3) (.string (mt ((k : Int) + 3 * n).toNat))
        go_wp2_with fail
        refine (markText_int _ (by omega) (by omega) _).mono ?_
        rintro e w2 ⟨rfl, hb2⟩
        have hown2 := h1.1.kept (grown_of_below hb2 none) (.inr (by simp [Value.ownBlock]))
        have hgr2 := grown_trans (grown_trans hgr1 h1.2) (grown_of_below hb2 (some g))
        obtain ⟨⟨x1, e1⟩, f1⟩ := own_cell hown2 (j := n * 3 + 1) (by omega)
        obtain ⟨⟨x2, e2⟩, f2⟩ := own_cell hown2 (j := n * 3 + 2) (by omega)
        have h2 := hown2.stored (n * 3 + 1) (.string (mt ((k : Int) + 3 * n + 1).toNat))
        have h3 := h2.1.stored (n * 3 + 2) (.bool (((k : Int) + 3 * n + 1 + 1) % 3 == 0))
        have HF : Hid (((w2.setCell ⟨g, n * 3 + 1, none⟩ (.string (mt ((k : Int) + 3 * n + 1).toNat))).setCell ⟨g, n * 3 + 2, none⟩ (.bool (((k : Int) + 3 * n + 1 + 1) % 3 == 0))).ownsRow base 49 3 (.slice (some ⟨g, 0, none⟩) zs.length cap) zs.length ((editMark k (n + 1) ++ zs.drop (n + 1)).flatMap editC) ∧ w.grownBy ((w2.setCell ⟨g, n * 3 + 1, none⟩ (.string (mt ((k : Int) + 3 * n + 1).toNat))).setCell ⟨g, n * 3 + 2, none⟩ (.bool (((k : Int) + 3 * n + 1 + 1) % 3 == 0))) (some g)) := by
          refine ⟨?_, grown_trans (grown_trans hgr2 h2.2) h3.2⟩
          have h5 := h3.1
          rw [flat_set3 editC_len (a := emk (k + 3 * n)) (by rw [HL.out]; exact hlt) (by
            have hb : (((k : Int) + 3 * n + 1 + 1) % 3 == 0) = decide ((k + 3 * n + 2) % 3 = 0) := by
              by_cases h : (k + 3 * n + 2) % 3 = 0
              · rw [decide_eq_true h]; exact beq_iff_eq.2 (by omega)
              · rw [decide_eq_false h]; exact beq_eq_false_iff_ne.2 (by omega)
            rw [hb, show ((k : Int) + 3 * n).toNat = k + 3 * n by omega, show ((k : Int) + 3 * n + 1).toNat = k + 3 * n + 1 by omega]; simp [editC, emk]), editMark_step hlt] at h5
          exact h5
        clear h1 h2 h3 hgr hgr1 hgr2 hown hown1 hown2
        go_wp2
        go_roundw
        case rel => exact ⟨n + 1, by omega, by go_num, by go_num, HF.out.1, HF.out.2⟩
        case measure => simp [intOf]; omega
      · obtain rfl : n = zs.length := by omega
        go_wp2
        go_ret
        refine ⟨rfl, ?_, hgr⟩
        rw [List.drop_length, List.append_nil] at hown
        have : (editMark k zs.length).length = zs.length := editMark_len _ _
        unfold Own
        rw [this]
        exact hown
end Go.Proofs.YtkghhmjmfcnbnaaDoor
