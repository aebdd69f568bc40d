/- Marks written into a row of rules, and read back. -/
import Derived.Test.YtmjneiiallgdcaaRuleH
import Derived.Test.YtmjneiiallgdcaaMark
import Derived.Test.YtmjneiiallgdcaaBel
namespace Go.Proofs.Ytmjneiiallgdcaa
open Go.RowKit

/-- the rule that markRulRuleS writes at number k -/
def rmk (k : Nat) : TRule := ⟨(k : Int), mt (k + 1), mt (k + 2), decide ((k + 3) % 3 = 0)⟩
/-- the rules that a call of markRulRuleS writes, from number k on -/
def ruleMark (k n : Nat) : List TRule := (List.range n).map fun i => rmk (k + 4 * i)
theorem ruleMark_len (k n : Nat) : (ruleMark k n).length = n := by simp [ruleMark]
theorem ruleMark_get {k n i : Nat} (h : i < n) : (ruleMark k n)[i]? = some (rmk (k + 4 * i)) := by simp [ruleMark, h]
theorem ruleMark_step {zs : List TRule} {k i : Nat} (h : i < zs.length) : ((ruleMark k i ++ zs.drop i).set i (rmk (k + 4 * i))) = ruleMark k (i + 1) ++ zs.drop (i + 1) := by
  rw [List.set_append_right _ _ (by rw [ruleMark_len]; omega), ruleMark_len, Nat.sub_self, List.drop_eq_getElem_cons h, List.set_cons_zero]
  simp [ruleMark, List.range_succ]

set_option maxRecDepth 100000 in
set_option maxHeartbeats 1000000 in
theorem markRulRuleS_calls (v : Value) (zs : List TRule) (k base : Nat) (w : World) (ho : Own 4 ruleC 31 base w v zs) (hk : 0 < k) (hn : k + 4 * zs.length ≤ 8388608) :
    Calls Try.prog 11 #[v, .int .i64 k] w (RetMark 4 ruleC 31 base v (k + 4 * zs.length) (ruleMark k zs.length) w) := by
  have ho2 : w.ownsRow base 31 4 v zs.length (zs.flatMap ruleC) := ho
  rcases ho.2 with ⟨rfl, hz⟩ | ⟨g, cap, cur, rfl, hbg, hgg, hnc, hcm, -, -⟩
  · have : zs = [] := List.eq_nil_of_length_eq_zero hz
    subst this
    go_enter Try.func11, Try.ntmps11
    go_wp2
    refine wp_loop_rounds 1 ?_
    rw [rounds_succ]
    go_wp2
    go_ret
    exact ⟨rfl, ho, World.grownBy.refl _ _⟩
  · have hgw : g < w.heap.size := (Array.getElem?_eq_some_iff.1 hgg).1
    unfold maxLen at hcm
    clear hgg
    go_enter Try.func11, Try.ntmps11
    go_wp2
    go_loopw [1, 5] (fun q i wr => ∃ n : Nat, n ≤ zs.length ∧ i = .int .i64 n ∧ q = .int .i64 ((k + 4 * n : Nat) : Int) ∧ wr.ownsRow base 31 4 (.slice (some ⟨g, 0, none⟩) zs.length cap) zs.length ((ruleMark k n ++ zs.drop n).flatMap ruleC) ∧ w.grownBy wr (some g)) (fun _ i _ => zs.length - (intOf i).toNat)
    case atStart => exact ⟨0, Nat.zero_le _, rfl, rfl, by simpa [ruleMark] using ho2, World.grownBy.refl _ _⟩
    case round =>
      obtain ⟨n, hn2, rfl, rfl, hown, hgr⟩ := hrel
      by_cases hlt : n < zs.length
      · have hl : (ruleMark k n ++ zs.drop n).length = zs.length := by simp [ruleMark_len]; omega
        obtain ⟨⟨x0, e0⟩, f0⟩ := own2 ruleC_len hown hl hlt 0 (by omega)
        simp only [Nat.add_zero] at e0 f0
        have HL := Lib.hid hl
        clear hl
        go_wp2_with fail
        refine (markText_int _ (by omega) (by omega) _).mono ?_
        rintro e w1 ⟨rfl, hb1⟩
        have h1 := hown.stored (n * 4) (.int .i64 ((k : Int) + 4 * n))
        have hown1 := h1.1.kept (grown_of_below hb1 none) (.inr (by simp [Value.ownBlock]))
        obtain ⟨⟨x1, e1⟩, f1⟩ := own_cell hown1 (j := n * 4 + 1) (by omega)
        have hgr1 := grown_trans (grown_trans hgr h1.2) (grown_of_below hb1 (some g))
        go_wp2_with fail
        refine (markText_int _ (by omega) (by omega) _).mono ?_
        rintro e w2 ⟨rfl, hb2⟩
        have h2 := hown1.stored (n * 4 + 1) (.string (mt ((k : Int) + 4 * n + 1).toNat))
        have hown2 := h2.1.kept (grown_of_below hb2 none) (.inr (by simp [Value.ownBlock]))
        obtain ⟨⟨x2, e2⟩, f2⟩ := own_cell hown2 (j := n * 4 + 2) (by omega)
        obtain ⟨⟨x3, e3⟩, f3⟩ := own_cell hown2 (j := n * 4 + 3) (by omega)
        have hgr2 := grown_trans (grown_trans hgr1 h2.2) (grown_of_below hb2 (some g))
        have h3 := hown2.stored (n * 4 + 2) (.string (mt ((k : Int) + 4 * n + 1 + 1).toNat))
        have h4 := h3.1.stored (n * 4 + 3) (.bool (((k : Int) + 4 * n + 1 + 1 + 1) % 3 == 0))
        have HF : Hid (((w2.setCell ⟨g, n * 4 + 2, none⟩ (.string (mt ((k : Int) + 4 * n + 1 + 1).toNat))).setCell ⟨g, n * 4 + 3, none⟩ (.bool (((k : Int) + 4 * n + 1 + 1 + 1) % 3 == 0))).ownsRow base 31 4 (.slice (some ⟨g, 0, none⟩) zs.length cap) zs.length ((ruleMark k (n + 1) ++ zs.drop (n + 1)).flatMap ruleC) ∧ w.grownBy ((w2.setCell ⟨g, n * 4 + 2, none⟩ (.string (mt ((k : Int) + 4 * n + 1 + 1).toNat))).setCell ⟨g, n * 4 + 3, none⟩ (.bool (((k : Int) + 4 * n + 1 + 1 + 1) % 3 == 0))) (some g)) := by
          refine ⟨?_, grown_trans (grown_trans hgr2 h3.2) h4.2⟩
          have h5 := h4.1
          rw [flat_set4 ruleC_len (a := rmk (k + 4 * n)) (by rw [HL.out]; exact hlt) (by
            have hb : (((k : Int) + 4 * n + 1 + 1 + 1) % 3 == 0) = decide ((k + 4 * n + 3) % 3 = 0) := by
              by_cases h : (k + 4 * n + 3) % 3 = 0
              · rw [decide_eq_true h]; exact beq_iff_eq.2 (by omega)
              · rw [decide_eq_false h]; exact beq_eq_false_iff_ne.2 (by omega)
            rw [hb, show ((k : Int) + 4 * n + 1).toNat = k + 4 * n + 1 by omega, show ((k : Int) + 4 * n + 1 + 1).toNat = k + 4 * n + 2 by omega]; simp [ruleC, rmk]), ruleMark_step hlt] at h5
          exact h5
        clear h1 h2 h3 h4 hgr hgr1 hgr2 hown hown1 hown2
        go_wp2
        go_roundw
        case rel => exact ⟨n + 1, by omega, by go_num, by go_num, HF.out.1, HF.out.2⟩
        case measure => simp [intOf]; omega
      · obtain rfl : n = zs.length := by omega
        go_wp2
        go_ret
        refine ⟨rfl, ?_, hgr⟩
        rw [List.drop_length, List.append_nil] at hown
        have : (ruleMark k zs.length).length = zs.length := ruleMark_len _ _
        unfold Own
        rw [this]
        exact hown

set_option maxRecDepth 100000 in
set_option maxHeartbeats 1000000 in
theorem heldRulRuleS_calls (v : Value) (k n : Nat) (w : World) (hv : Sl 4 ruleC w v (ruleMark k n)) (hk : 0 < k) (hn : k + 4 * n ≤ 8388608) :
    Calls Try.prog 12 #[v, .int .i64 k] w fun e w' => e = .returned (.int .i64 (k + 4 * n : Nat)) ∧ Below w.heap.size w w' := by
  obtain ⟨A, c, rfl, hc, hlc, hat⟩ := rule_at hv
  rw [ruleMark_len] at hat hlc ⊢
  unfold maxLen at hc
  clear hv
  go_enter Try.func12, Try.ntmps12
  go_wp2
  go_loopw [1, 5] (fun q i wr => ∃ m : Nat, m ≤ n ∧ i = .int .i64 m ∧ q = .int .i64 ((k + 4 * m : Nat) : Int) ∧ Below w.heap.size w wr) (fun _ i _ => n - (intOf i).toNat)
  case atStart => exact ⟨0, Nat.zero_le _, rfl, rfl, Below.refl _ _⟩
  case round =>
    obtain ⟨m, hm, rfl, rfl, hnx⟩ := hrel
    by_cases hlt : m < n
    · obtain ⟨id, s, t, f, b, off, hz, rfl, hb, c0, c1, c2, c3⟩ := hat m hlt
      rw [ruleMark_get hlt] at hz
      simp only [Option.some.injEq, rmk, TRule.mk.injEq] at hz
      obtain ⟨rfl, rfl, rfl, rfl⟩ := hz
      have d0 := (hnx.cell (p := ⟨b, off + m * 4, none⟩) hb).trans c0
      have d1 := (hnx.cell (p := ⟨b, off + m * 4 + 1, none⟩) hb).trans c1
      have d2 := (hnx.cell (p := ⟨b, off + m * 4 + 2, none⟩) hb).trans c2
      have d3 := (hnx.cell (p := ⟨b, off + m * 4 + 3, none⟩) hb).trans c3
      clear hat c0 c1 c2 c3
      have hbr : b < wr.heap.size := Nat.lt_of_lt_of_le hb hnx.size
      have htn : ((k : Int) + 4 * m + 1).toNat = k + 4 * m + 1 := by omega
      have htn2 : ((k : Int) + 4 * m + 1 + 1).toNat = k + 4 * m + 2 := by omega
      have hbb : (((k : Int) + 4 * m + 1 + 1 + 1) % 3 == 0) = decide ((k + 4 * m + 3) % 3 = 0) := by
        by_cases h : (k + 4 * m + 3) % 3 = 0
        · rw [decide_eq_true h]; exact beq_iff_eq.2 (by omega)
        · rw [decide_eq_false h]; exact beq_eq_false_iff_ne.2 (by omega)
      go_wp2_with fail
      refine wp_region_bel (by kernel_rfl) (by kernel_rfl) ?_
      have q1 := fun x : Bel wr => Bel.cell d1 x
      repeat (go_big_quiet_step ((go_at_call 17; exact bel_call _ (markText_int _ (by omega) (by omega) _))))
      refine wpQuiet_nil ?_
      intro _ hw'; obtain ⟨x, hw''⟩ := hw'; subst hw''
      have g2 := Bel.cell d2 x
      have g3 := Bel.cell d3 x
      have hx := x.h
      generalize x.w = wx at g2 g3 hx ⊢
      clear d0 d1 d2 d3 q1 x
      go_wp2_with fail
      refine wp_region_bel (by kernel_rfl) (by kernel_rfl) ?_
      have q2 := fun x : Bel wx => Bel.cell g2 x
      repeat (go_big_quiet_step ((go_at_call 17; exact bel_call _ (markText_int _ (by omega) (by omega) _))))
      refine wpQuiet_nil ?_
      intro _ hw'; obtain ⟨y, hw''⟩ := hw'; subst hw''
      have k3 := Bel.cell g3 y
      have hy := y.h
      generalize y.w = wy at k3 hy ⊢
      clear g2 g3 q2 y
      go_wp2
      go_roundw
      case rel => exact ⟨m + 1, by omega, by go_num, by go_num, below_up hnx (below_up hx hy)⟩
      case measure => simp [intOf]; omega
    · obtain rfl : m = n := by omega
      go_wp2
      go_ret
      exact ⟨rfl, hnx⟩
end Go.Proofs.Ytmjneiiallgdcaa
