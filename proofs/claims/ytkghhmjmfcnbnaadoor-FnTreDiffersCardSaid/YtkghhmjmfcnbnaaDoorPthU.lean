/- spec's PthUnder, PthFirst, PthRest, PthJoin, PthParts, each by a plain function. -/
import Derived.Test.YtkghhmjmfcnbnaaDoorPthS
import Derived.Test.YtkghhmjmfcnbnaaDoorPthV
namespace Go.Proofs.YtkghhmjmfcnbnaaDoor
open Go.RowKit

theorem ret_str {a b : ByteArray} (h : a = b) : Ending.returned (.string a) = .returned (.string b) := by rw [h]
theorem str_beq_yes {a b : ByteArray} (h : toL a = toL b) : (a.toList == b.toList) = true := by rw [beq_toL, h]; simp
theorem str_beq_no {a b : ByteArray} (h : ¬ toL a = toL b) : (a.toList == b.toList) = false := by rw [beq_toL]; simpa using h

set_option maxRecDepth 100000 in
set_option maxHeartbeats 1000000 in
theorem und_spec (a b : ByteArray) (ha : a.size ≤ 2097160) (hb : b.size ≤ 2097160) (w : World) : Calls Tryd.prog 40 #[.string a, .string b] w fun e w' => e = .returned (.bool (undB a b)) ∧ Below w.heap.size w w' := by
  by_cases h1 : pthB a = true
  · by_cases h2 : pthB b = true
    · have hu := undB_eq h1 h2
      by_cases h3 : toL a = []
      · have hd := empty_yes h3
        have e : undB a b = true := by rw [hu, h3]; rfl
        rw [e]
        clear hu h3 e
        go_enter Tryd.func40, Tryd.ntmps40
        go_wp2_with fail
        refine (pth_spec a ha _).mono ?_
        rintro e w1 ⟨rfl, b1⟩
        rw [h1]
        go_wp2_with fail
        refine (pth_spec b hb _).mono ?_
        rintro e w2 ⟨rfl, b2⟩
        rw [h2]
        go_wp2
        go_ret
        exact ⟨rfl, below_up b1 b2⟩
      · have hd := empty_no h3
        have hd3 : (toL a).isEmpty = false := by rw [← isEmpty_toL]; exact hd
        by_cases h4 : toL a = toL b
        · have hq := str_beq_yes h4
          have e : undB a b = true := by rw [hu, h4]; simp
          rw [e]
          clear hu h3 hd3 h4 e
          go_enter Tryd.func40, Tryd.ntmps40
          go_wp2_with fail
          refine (pth_spec a ha _).mono ?_
          rintro e w1 ⟨rfl, b1⟩
          rw [h1]
          go_wp2_with fail
          refine (pth_spec b hb _).mono ?_
          rintro e w2 ⟨rfl, b2⟩
          rw [h2]
          go_wp2
          go_ret
          exact ⟨rfl, below_up b1 b2⟩
        · have hq := str_beq_no h4
          have e : undB a b = onB a b := by rw [hu, hd3]; simp [h4]
          rw [e]
          clear hu h3 hd3 h4 e
          by_cases g1 : a.size < b.size
          · by_cases g2 : toL (b.extract 0 a.size) = toL a
            · have k2 := str_beq_yes g2
              by_cases g3 : b[a.size] = 47
              · rw [onB_yes g1 g2 g3]
                have k3 : ((b[a.size].toNat : Int) == 47) = true := u8_eq g3
                clear g2 g3
                go_enter Tryd.func40, Tryd.ntmps40
                go_wp2_with fail
                refine (pth_spec a ha _).mono ?_
                rintro e w1 ⟨rfl, b1⟩
                rw [h1]
                go_wp2_with fail
                refine (pth_spec b hb _).mono ?_
                rintro e w2 ⟨rfl, b2⟩
                rw [h2]
                go_wp2
                go_ret
                exact ⟨rfl, below_up b1 b2⟩
              · rw [onB_sign g1 g3]
                have k3 : ((b[a.size].toNat : Int) == 47) = false := u8_ne g3
                clear g2 g3
                go_enter Tryd.func40, Tryd.ntmps40
                go_wp2_with fail
                refine (pth_spec a ha _).mono ?_
                rintro e w1 ⟨rfl, b1⟩
                rw [h1]
                go_wp2_with fail
                refine (pth_spec b hb _).mono ?_
                rintro e w2 ⟨rfl, b2⟩
                rw [h2]
                go_wp2
                go_ret
                exact ⟨rfl, below_up b1 b2⟩
            · rw [onB_other g2]
              have k2 := str_beq_no g2
              clear g2
              go_enter Tryd.func40, Tryd.ntmps40
              go_wp2_with fail
              refine (pth_spec a ha _).mono ?_
              rintro e w1 ⟨rfl, b1⟩
              rw [h1]
              go_wp2_with fail
              refine (pth_spec b hb _).mono ?_
              rintro e w2 ⟨rfl, b2⟩
              rw [h2]
              go_wp2
              go_ret
              exact ⟨rfl, below_up b1 b2⟩
          · rw [onB_short g1]
            go_enter Tryd.func40, Tryd.ntmps40
            go_wp2_with fail
            refine (pth_spec a ha _).mono ?_
            rintro e w1 ⟨rfl, b1⟩
            rw [h1]
            go_wp2_with fail
            refine (pth_spec b hb _).mono ?_
            rintro e w2 ⟨rfl, b2⟩
            rw [h2]
            go_wp2
            go_ret
            exact ⟨rfl, below_up b1 b2⟩
    · have h2' : pthB b = false := by simpa using h2
      rw [undB_no2 h2']
      clear h2
      go_enter Tryd.func40, Tryd.ntmps40
      go_wp2_with fail
      refine (pth_spec a ha _).mono ?_
      rintro e w1 ⟨rfl, b1⟩
      rw [h1]
      go_wp2_with fail
      refine (pth_spec b hb _).mono ?_
      rintro e w2 ⟨rfl, b2⟩
      rw [h2']
      go_wp2
      go_ret
      exact ⟨rfl, below_up b1 b2⟩
  · have h1' : pthB a = false := by simpa using h1
    rw [undB_no1 h1']
    clear h1
    go_enter Tryd.func40, Tryd.ntmps40
    go_wp2_with fail
    refine (pth_spec a ha _).mono ?_
    rintro e w1 ⟨rfl, b1⟩
    rw [h1']
    go_wp2
    go_ret
    exact ⟨rfl, b1⟩

theorem first_get (s : ByteArray) : 0 < (cutB s).length ∧ (cutB s)[0]? = some (mkB (headL (toL s))) := by
  obtain ⟨x, r, e⟩ := cutL_cons (toL s)
  unfold cutB headL
  rw [e]
  exact ⟨by simp, rfl⟩
set_option maxRecDepth 100000 in
theorem first_spec (s : ByteArray) (hs : s.size ≤ 2097160) (w : World) : Calls Tryd.prog 42 #[.string s] w fun e w' => e = .returned (.string (firstB s)) ∧ Below w.heap.size w w' := by
  by_cases h1 : pthB s = true
  · have e : firstB s = mkB (headL (toL s)) := by unfold firstB; rw [h1]; rfl
    rw [e]
    clear e
    go_enter Tryd.func42, Tryd.ntmps42
    go_wp2_with fail
    refine (pth_spec s hs _).mono ?_
    rintro e w1 ⟨rfl, b1⟩
    rw [h1]
    go_wp2_with fail
    refine (l1Cut_calls s hs _).mono ?_
    rintro e w2 ⟨v, rfl, hown, b2⟩
    obtain ⟨A, c, rfl, hc, hlc, hat⟩ := str_at (hown.sl strC_len)
    obtain ⟨hl, hg⟩ := first_get s
    obtain ⟨x, b, off, hz, rfl, hbl, c0⟩ := hat 0 hl
    rw [hg] at hz
    simp only [Option.some.injEq] at hz
    subst hz
    unfold maxLen at hc
    simp only [Nat.add_zero] at c0
    clear hat hown hg
    go_wp2
    go_ret
    exact ⟨rfl, below_up b1 b2⟩
  · have h1' : pthB s = false := by simpa using h1
    have e : firstB s = ByteArray.empty := by unfold firstB; rw [h1']; rfl
    rw [e]
    clear h1 e
    go_enter Tryd.func42, Tryd.ntmps42
    go_wp2_with fail
    refine (pth_spec s hs _).mono ?_
    rintro e w1 ⟨rfl, b1⟩
    rw [h1']
    go_wp2
    go_ret
    exact ⟨rfl, b1⟩

theorem join_no1 {a b : ByteArray} (h : pthB a = false) : joinB a b = ByteArray.empty := by rw [joinB_eq, h]; rfl
theorem join_no2 {a b : ByteArray} (h : pthB a = true) (k : pthB b = false) : joinB a b = ByteArray.empty := by rw [joinB_eq, h, k]; rfl
theorem join_no3 {a b : ByteArray} (h : pthB a = true) (k : pthB b = true) (l : pthB (ontoB a b) = false) : joinB a b = ByteArray.empty := by rw [joinB_eq, h, k, l]; rfl
theorem join_yes {a b : ByteArray} (h : pthB a = true) (k : pthB b = true) (l : pthB (ontoB a b) = true) : joinB a b = ontoB a b := by rw [joinB_eq, h, k, l]; rfl
theorem onto_1 {a b : ByteArray} (h : toL a = []) : ontoB a b = b := if_pos h
theorem onto_2 {a b : ByteArray} (h : ¬ toL a = []) (k : toL b = []) : ontoB a b = a := by unfold ontoB; rw [if_neg h, if_pos k]
theorem onto_3 {a b : ByteArray} (h : ¬ toL a = []) (k : ¬ toL b = []) : ontoB a b = a ++ ⟨#[47]⟩ ++ b := by unfold ontoB; rw [if_neg h, if_neg k]
theorem onto_size (a b : ByteArray) : (ontoB a b).size ≤ a.size + b.size + 1 := by
  unfold ontoB
  split
  · omega
  · split
    · omega
    · rw [ByteArray.size_append, ByteArray.size_append]
      have : (⟨#[47]⟩ : ByteArray).size = 1 := rfl
      omega
/-- what PthJoin tests, the joined text at hand -/
def JoinPost (a b : ByteArray) (w : World) (e : Ending) (w' : World) : Prop := e = .returned (.string (joinB a b)) ∧ Below w.heap.size w w'

theorem parts_nil {s : ByteArray} (h : toL s = []) : partsB s = [] := by unfold partsB; rw [h]; simp
theorem parts_no {s : ByteArray} (h : pthB s = false) : partsB s = [] := by unfold partsB; rw [h]; rfl
theorem parts_yes {s : ByteArray} (h0 : ¬ toL s = []) (h : pthB s = true) : partsB s = cutB s := by
  unfold partsB
  have : (toL s).isEmpty = false := by rw [← isEmpty_toL]; exact empty_no h0
  rw [h, this]; rfl
theorem parts_len (s : ByteArray) : (partsB s).length ≤ 3 := by
  by_cases h0 : toL s = []
  · rw [parts_nil h0]; simp
  · cases h : pthB s
    · rw [parts_no h]; simp
    · rw [parts_yes h0 h]
      have := ((pthL_iff h0).1 h).2
      unfold cutB
      rw [List.length_map]; exact this
theorem own_empty (w : World) : Own 1 strC 9 w.heap.size (w.alloc (.cells #[] 9)) (.slice (some ⟨w.heap.size, 0, none⟩) 0 0) ([] : List ByteArray) := World.ownsRow_lit w #[] 0 (Nat.le_refl _) (by simp [maxLen]) rfl
theorem own_empty2 {W w : World} (hb : Below W.heap.size W w) : Own 1 strC 9 W.heap.size (w.alloc (.cells #[] 9)) (.slice (some ⟨w.heap.size, 0, none⟩) 0 0) ([] : List ByteArray) := World.ownsRow_lit w #[] 0 hb.size (by simp [maxLen]) rfl
end Go.Proofs.YtkghhmjmfcnbnaaDoor
