/- Rules: spec's and impl's RulOk, l5For, applies, l5Same, slices.Contains, each by a plain function. -/
import Derived.Test.YtfiempmdmkoagaaDoorPthJ
import Derived.Test.YtfiempmdmkoagaaDoorRulL
import Derived.Test.YtfiempmdmkoagaaDoorRuleOutG
namespace Go.Proofs.YtfiempmdmkoagaaDoor
open Go.RowKit

theorem inS_yes (n : Int) (w : World) (h1 : 0 ≤ n) (h2 : n ≤ 4) : Calls Tryd.prog 67 #[.int .i64 n, .int .i64 0, .int .i64 4] w fun e w' => e = .returned (.bool true) ∧ w = w' := by
  go_enter Tryd.func67, Tryd.ntmps67
  go_wp2
  go_ret
  exact ⟨rfl, rfl⟩
theorem inS_no (n : Int) (w : World) (h : n < 0 ∨ 4 < n) : Calls Tryd.prog 67 #[.int .i64 n, .int .i64 0, .int .i64 4] w fun e w' => e = .returned (.bool false) ∧ w = w' := by
  by_cases h1 : 0 ≤ n
  · have h2 : 4 < n := by omega
    have hd : decide (n ≤ 4) = false := by simp; omega
    go_enter Tryd.func67, Tryd.ntmps67
    go_wp2
    go_ret
    exact ⟨rfl, rfl⟩
  · have h2 : n < 0 := by omega
    go_enter Tryd.func67, Tryd.ntmps67
    go_wp2
    go_ret
    exact ⟨rfl, rfl⟩
theorem inI_yes (n : Int) (w : World) (h1 : 0 ≤ n) (h2 : n ≤ 4) : Calls Tryd.prog 51 #[.int .i64 n, .int .i64 0, .int .i64 4] w fun e w' => e = .returned (.bool true) ∧ w = w' := by
  go_enter Tryd.func51, Tryd.ntmps51
  go_wp2
  go_ret
  exact ⟨rfl, rfl⟩
theorem inI_no (n : Int) (w : World) (h : n < 0 ∨ 4 < n) : Calls Tryd.prog 51 #[.int .i64 n, .int .i64 0, .int .i64 4] w fun e w' => e = .returned (.bool false) ∧ w = w' := by
  by_cases h1 : 0 ≤ n
  · have h2 : 4 < n := by omega
    have hd : decide (n ≤ 4) = false := by simp; omega
    go_enter Tryd.func51, Tryd.ntmps51
    go_wp2
    go_ret
    exact ⟨rfl, rfl⟩
  · have h2 : n < 0 := by omega
    go_enter Tryd.func51, Tryd.ntmps51
    go_wp2
    go_ret
    exact ⟨rfl, rfl⟩
theorem refB_nil {s : ByteArray} (h : toL s = []) : refB s = true := by unfold refB; rw [h]; rfl
theorem refB_nam {s : ByteArray} (h : ¬ toL s = []) : refB s = namS s := by
  unfold refB
  have : (toL s).isEmpty = false := by rw [← isEmpty_toL]; exact empty_no h
  rw [this]; rfl
theorem refFits_calls (s : ByteArray) (hs : s.size ≤ maxLen) (w : World) : Calls Tryd.prog 54 #[.string s] w fun e w' => e = .returned (.bool (refB s)) ∧ w = w' := by
  by_cases h : toL s = []
  · rw [refB_nil h]
    have hd := empty_yes h
    clear h
    go_enter Tryd.func54, Tryd.ntmps54
    go_wp2
    go_ret
    exact ⟨rfl, rfl⟩
  · rw [refB_nam h]
    have hd := empty_no h
    clear h
    go_enter Tryd.func54, Tryd.ntmps54
    go_wp2_with fail
    refine (namS_impl s hs _).mono ?_
    rintro e w1 ⟨rfl, rfl⟩
    go_wp2
    go_ret
    exact ⟨rfl, rfl⟩
theorem user_yes {n : Int} (h : 0 ≤ n ∧ n ≤ 4) : (decide (0 ≤ n) && decide (n ≤ 4)) = true := by simp [h.1, h.2]
theorem user_no {n : Int} (h : ¬ (0 ≤ n ∧ n ≤ 4)) : (decide (0 ≤ n) && decide (n ≤ 4)) = false := by
  rw [Bool.and_eq_false_iff, decide_eq_false_iff_not, decide_eq_false_iff_not]; omega
theorem rok_eq1 {r : TRule} (h : ¬ (0 ≤ r.user ∧ r.user ≤ 4)) : rokB r = false := by unfold rokB; rw [user_no h]; rfl
theorem rok_eq2 {r : TRule} (h : 0 ≤ r.user ∧ r.user ≤ 4) (k : refB r.ref = false) : rokB r = false := by unfold rokB; rw [user_yes h, k]; rfl
theorem rok_eq3 {r : TRule} (h : 0 ≤ r.user ∧ r.user ≤ 4) (k : refB r.ref = true) : rokB r = pthB r.path := by unfold rokB; rw [user_yes h, k]; rfl

set_option maxRecDepth 100000 in
theorem rok_spec (r : TRule) (hr : r.ref.size ≤ maxLen) (hp : r.path.size ≤ 2097160) (w : World) : Calls Tryd.prog 72 #[.agg #[.int .i64 r.user, .string r.ref, .string r.path, .bool r.write]] w fun e w' => e = .returned (.bool (rokB r)) ∧ Below w.heap.size w w' := by
  have HP := Lib.hid (fun W => pth_spec r.path hp W)
  have HN := Lib.hid (fun W => namS_spec r.ref hr W)
  by_cases hu : 0 ≤ r.user ∧ r.user ≤ 4
  · have HI := Lib.hid (fun W => inS_yes r.user W hu.1 hu.2)
    by_cases he : toL r.ref = []
    · have HE := Lib.hid (rok_eq3 hu (refB_nil he))
      have hd := empty_yes he
      clear hu he
      go_enter Tryd.func72, Tryd.ntmps72
      go_wp2_with fail
      refine (HI.out _).mono ?_
      rintro e w1 ⟨rfl, rfl⟩
      go_wp2_with fail
      refine (HP.out _).mono ?_
      rintro e w1 ⟨rfl, b1⟩
      go_wp2
      go_ret
      exact ⟨ret_b HE.out.symm, below_up (al (below0 w) _) b1⟩
    · have hd := empty_no he
      cases hn : namS r.ref
      · have HE := Lib.hid (rok_eq2 hu ((refB_nam he).trans hn))
        clear hu he
        go_enter Tryd.func72, Tryd.ntmps72
        go_wp2_with fail
        refine (HI.out _).mono ?_
        rintro e w1 ⟨rfl, rfl⟩
        go_wp2_with fail
        refine (HN.out _).mono ?_
        rintro e w1 ⟨rfl, rfl⟩
        rw [hn]
        go_wp2
        go_ret
        exact ⟨ret_b HE.out.symm, al (below0 w) _⟩
      · have HE := Lib.hid (rok_eq3 hu ((refB_nam he).trans hn))
        clear hu he
        go_enter Tryd.func72, Tryd.ntmps72
        go_wp2_with fail
        refine (HI.out _).mono ?_
        rintro e w1 ⟨rfl, rfl⟩
        go_wp2_with fail
        refine (HN.out _).mono ?_
        rintro e w1 ⟨rfl, rfl⟩
        rw [hn]
        go_wp2_with fail
        refine (HP.out _).mono ?_
        rintro e w1 ⟨rfl, b1⟩
        go_wp2
        go_ret
        exact ⟨ret_b HE.out.symm, below_up (al (below0 w) _) b1⟩
  · have HI := Lib.hid (fun W => inS_no r.user W (by omega))
    have HE := Lib.hid (rok_eq1 hu)
    clear hu
    go_enter Tryd.func72, Tryd.ntmps72
    go_wp2_with fail
    refine (HI.out _).mono ?_
    rintro e w1 ⟨rfl, rfl⟩
    go_wp2
    go_ret
    exact ⟨ret_b HE.out.symm, al (below0 w) _⟩
set_option maxRecDepth 100000 in
theorem rok_impl (r : TRule) (hr : r.ref.size ≤ maxLen) (hp : r.path.size ≤ 2097160) (w : World) (hm : MaxOk w) : Calls Tryd.prog 28 #[.agg #[.int .i64 r.user, .string r.ref, .string r.path, .bool r.write]] w fun e w' => e = .returned (.bool (rokB r)) ∧ Below w.heap.size w w' := by
  have HP := Lib.hid (fun W => pth_impl r.path hp W)
  have HN := Lib.hid (fun W => refFits_calls r.ref hr W)
  have hm1 := Lib.hid (hm.al (.cells #[.int .i64 r.user, .string r.ref, .string r.path, .bool r.write] 40))
  clear hm
  by_cases hu : 0 ≤ r.user ∧ r.user ≤ 4
  · have HI := Lib.hid (fun W => inI_yes r.user W hu.1 hu.2)
    cases hn : refB r.ref
    · have HE := Lib.hid (rok_eq2 hu hn)
      clear hu
      go_enter Tryd.func28, Tryd.ntmps28
      go_wp2_with fail
      refine (HI.out _).mono ?_
      rintro e w1 ⟨rfl, rfl⟩
      go_wp2_with fail
      refine (HN.out _).mono ?_
      rintro e w1 ⟨rfl, rfl⟩
      rw [hn]
      go_wp2
      go_ret
      exact ⟨ret_b HE.out.symm, al (below0 w) _⟩
    · have HE := Lib.hid (rok_eq3 hu hn)
      clear hu
      go_enter Tryd.func28, Tryd.ntmps28
      go_wp2_with fail
      refine (HI.out _).mono ?_
      rintro e w1 ⟨rfl, rfl⟩
      go_wp2_with fail
      refine (HN.out _).mono ?_
      rintro e w1 ⟨rfl, rfl⟩
      rw [hn]
      go_wp2_with fail
      refine (HP.out _ hm1.out).mono ?_
      rintro e w1 ⟨rfl, b1⟩
      go_wp2
      go_ret
      exact ⟨ret_b HE.out.symm, below_up (al (below0 w) _) b1⟩
  · have HI := Lib.hid (fun W => inI_no r.user W (by omega))
    have HE := Lib.hid (rok_eq1 hu)
    clear hu
    go_enter Tryd.func28, Tryd.ntmps28
    go_wp2_with fail
    refine (HI.out _).mono ?_
    rintro e w1 ⟨rfl, rfl⟩
    go_wp2
    go_ret
    exact ⟨ret_b HE.out.symm, al (below0 w) _⟩

/-- a rule of the call's own in a new block -/
theorem rbox_new (w : World) (r : TRule) (t : TypeId) : RBox (w.alloc (.cells #[.int .i64 r.user, .string r.ref, .string r.path, .bool r.write] t)) w.heap.size r := by
  have hb := heap_alloc_new w (.cells #[.int .i64 r.user, .string r.ref, .string r.path, .bool r.write] t)
  refine ⟨by simp, ?_, ?_, ?_, ?_⟩
  · rw [cell_of_row _ _ 0 _ _ _ hb]; rfl
  · rw [cell_of_row _ _ 1 _ _ _ hb]; rfl
  · rw [cell_of_row _ _ 2 _ _ _ hb]; rfl
  · rw [cell_of_row _ _ 3 _ _ _ hb]; rfl
theorem for_no {r : TRule} {u : Int} {ref : ByteArray} (h : rokB r = false) : forB r u ref = false := by unfold forB; rw [h]; rfl
theorem forB_eq {r : TRule} {u : Int} {ref : ByteArray} (h : rokB r = true) : forB r u ref = ((r.user == 0 || r.user == u) && (r.ref.toList.isEmpty || r.ref.toList == ref.toList)) := by
  unfold forB
  rw [h, isEmpty_toL, beq_toL, Bool.true_and]
set_option maxRecDepth 100000 in
theorem for_spec (r : TRule) (u : Int) (ref : ByteArray) (hr : r.ref.size ≤ maxLen) (hp : r.path.size ≤ 2097160) (w : World) : Calls Tryd.prog 58 #[.agg #[.int .i64 r.user, .string r.ref, .string r.path, .bool r.write], .int .i64 u, .string ref] w fun e w' => e = .returned (.bool (forB r u ref)) ∧ Below w.heap.size w w' := by
  have HK := Lib.hid (rbox_new w r 40)
  go_enter Tryd.func58, Tryd.ntmps58
  go_wp2_with fail
  refine (rok_spec r hr hp _).mono ?_
  rintro e w1 ⟨rfl, b1⟩
  have hB := below_up (al (below0 w) _) b1
  cases h : rokB r
  · have HE := Lib.hid (for_no (u := u) (ref := ref) h)
    go_wp2
    go_ret
    exact ⟨ret_b HE.out.symm, hB⟩
  · have HE := Lib.hid (forB_eq (u := u) (ref := ref) h)
    obtain ⟨-, q0, q1, q2, q3⟩ := HK.out.below b1
    go_wp2
    all_goals (
      go_ret
      exact ⟨ret_b (by rw [HE.out]; simp [*]), hB⟩)
set_option maxRecDepth 100000 in
theorem for_impl (r : TRule) (u : Int) (ref : ByteArray) (hr : r.ref.size ≤ maxLen) (hp : r.path.size ≤ 2097160) (w : World) (hm : MaxOk w) : Calls Tryd.prog 57 #[.agg #[.int .i64 r.user, .string r.ref, .string r.path, .bool r.write], .int .i64 u, .string ref] w fun e w' => e = .returned (.bool (forB r u ref)) ∧ Below w.heap.size w w' := by
  have HK := Lib.hid (rbox_new w r 40)
  have hm1 := Lib.hid (hm.al (.cells #[.int .i64 r.user, .string r.ref, .string r.path, .bool r.write] 40))
  clear hm
  go_enter Tryd.func57, Tryd.ntmps57
  go_wp2_with fail
  refine (rok_impl r hr hp _ hm1.out).mono ?_
  rintro e w1 ⟨rfl, b1⟩
  have hB := below_up (al (below0 w) _) b1
  cases h : rokB r
  · have HE := Lib.hid (for_no (u := u) (ref := ref) h)
    go_wp2
    go_ret
    exact ⟨ret_b HE.out.symm, hB⟩
  · have HE := Lib.hid (forB_eq (u := u) (ref := ref) h)
    obtain ⟨-, q0, q1, q2, q3⟩ := HK.out.below b1
    go_wp2
    all_goals (
      go_ret
      exact ⟨ret_b (by rw [HE.out]; simp [*]), hB⟩)
end Go.Proofs.YtfiempmdmkoagaaDoor
