/- impl.NamOk and spec.NamOk compute one plain function of the string. No condition but a string's own size. -/
import Derived.Test.YtkghhmjmfcnbnaaDoorBase
namespace Go.Proofs.YtkghhmjmfcnbnaaDoor
open Go.RowKit

/-- a small letter -/
def isLow (c : UInt8) : Bool := decide (97 ≤ c.toNat) && decide (c.toNat ≤ 122)
/-- what NamOk answers -/
def namB (s : ByteArray) : Bool := decide (1 ≤ s.size) && decide (s.size ≤ 3) && s.data.toList.all isLow

theorem get_list (s : ByteArray) (k : Nat) (h : k < s.size) : s.data.toList[k]'(by simpa using h) = s[k] := rfl
theorem take_snoc (s : ByteArray) (k : Nat) (h : k < s.size) : s.data.toList.take (k + 1) = s.data.toList.take k ++ [s[k]] := by
  rw [List.take_succ_eq_append_getElem (by simpa using h)]; rfl
theorem low_step (s : ByteArray) (k : Nat) (h : k < s.size) (ha : (s.data.toList.take k).all isLow = true) (h1 : ¬ ((s[k].toNat : Int) < 97)) (h2 : ¬ ((122 : Int) < (s[k].toNat : Int))) : (s.data.toList.take (k + 1)).all isLow = true := by
  rw [take_snoc s k h, List.all_append, ha]
  simp only [List.all_cons, List.all_nil, isLow, Bool.and_true, Bool.true_and, Bool.and_eq_true, decide_eq_true_eq]
  omega
theorem nam_bad (s : ByteArray) (k : Nat) (h : k < s.size) (hb : ((s[k].toNat : Int) < 97) ∨ ((122 : Int) < (s[k].toNat : Int))) : namB s = false := by
  have hall : s.data.toList.all isLow = false := by
    rw [List.all_eq_false]
    refine ⟨s[k], by rw [← get_list s k h]; exact List.getElem_mem _, ?_⟩
    simp only [isLow, Bool.and_eq_true, decide_eq_true_eq]
    omega
  simp [namB, hall]
theorem nam_end (s : ByteArray) (k : Nat) (h : ¬ k < s.size) (ha : (s.data.toList.take k).all isLow = true) : namB s = (decide (1 ≤ s.size) && decide (s.size ≤ 3)) := by
  rw [List.take_of_length_le (by simp; omega)] at ha
  simp [namB, ha]
theorem nam_long (s : ByteArray) (h : (s.size : Int) < 1 ∨ (3 : Int) < s.size) : namB s = false := by
  have : (decide (1 ≤ s.size) && decide (s.size ≤ 3)) = false := by
    rw [Bool.and_eq_false_iff, decide_eq_false_iff_not, decide_eq_false_iff_not]; omega
  simp [namB, this]
theorem ret_b {a b : Bool} (h : a = b) : Ending.returned (.bool a) = .returned (.bool b) := by rw [h]

theorem nam_impl (s : ByteArray) (hs : s.size ≤ maxLen) (w : World) : Calls Tryd.prog 56 #[.string s] w fun e w' => e = .returned (.bool (namB s)) ∧ w = w' := by
  unfold maxLen at hs
  go_enter Tryd.func56, Tryd.ntmps56
  go_wp2
  go_loop [6] (fun i => ∃ k : Nat, k ≤ s.size ∧ i = .int .i64 k ∧ (s.data.toList.take k).all isLow = true) (fun i => s.size - (intOf i).toNat)
  case atStart => exact ⟨0, Nat.zero_le _, rfl, rfl⟩
  case round =>
    obtain ⟨k, hk, rfl, hall⟩ := hrel
    have H := Lib.hid hall
    clear hall
    by_cases hlt : k < s.size
    · by_cases h1 : (s[k].toNat : Int) < 97
      · go_wp2
        go_ret
        exact ⟨ret_b (nam_bad s k hlt (.inl h1)).symm, rfl⟩
      · by_cases h2 : (122 : Int) < (s[k].toNat : Int)
        · go_wp2
          go_ret
          exact ⟨ret_b (nam_bad s k hlt (.inr h2)).symm, rfl⟩
        · go_wp2
          go_round
          case rel => exact ⟨k + 1, by omega, by go_num, low_step s k hlt H.out h1 h2⟩
          case measure => simp [intOf]; omega
    · have he := nam_end s k hlt H.out
      have HE := Lib.hid he
      clear he
      by_cases g1 : (1 : Int) ≤ s.size
      · by_cases g2 : (s.size : Int) ≤ 3
        · go_wp2
          go_ret
          exact ⟨ret_b (by rw [HE.out]; simp; omega), rfl⟩
        · go_wp2
          go_ret
          exact ⟨ret_b (by rw [HE.out]; simp; omega), rfl⟩
      · go_wp2
        go_ret
        exact ⟨ret_b (by rw [HE.out]; simp; omega), rfl⟩

theorem nam_spec (s : ByteArray) (hs : s.size ≤ maxLen) (w : World) : Calls Tryd.prog 54 #[.string s] w fun e w' => e = .returned (.bool (namB s)) ∧ w = w' := by
  unfold maxLen at hs
  by_cases g1 : (1 : Int) ≤ s.size
  · by_cases g2 : (s.size : Int) ≤ 3
    · go_enter Tryd.func54, Tryd.ntmps54
      go_wp2
      go_loop [3] (fun i => ∃ k : Nat, k ≤ s.size ∧ i = .int .i64 k ∧ (s.data.toList.take k).all isLow = true) (fun i => s.size - (intOf i).toNat)
      case atStart => exact ⟨0, Nat.zero_le _, rfl, rfl⟩
      case round =>
        obtain ⟨k, hk, rfl, hall⟩ := hrel
        have H := Lib.hid hall
        clear hall
        by_cases hlt : k < s.size
        · by_cases h1 : (s[k].toNat : Int) < 97
          · go_wp2
            go_ret
            exact ⟨ret_b (nam_bad s k hlt (.inl h1)).symm, rfl⟩
          · by_cases h2 : (122 : Int) < (s[k].toNat : Int)
            · go_wp2
              go_ret
              exact ⟨ret_b (nam_bad s k hlt (.inr h2)).symm, rfl⟩
            · go_wp2
              go_round
              case rel => exact ⟨k + 1, by omega, by go_num, low_step s k hlt H.out h1 h2⟩
              case measure => simp [intOf]; omega
        · have he := nam_end s k hlt H.out
          have HE := Lib.hid he
          clear he
          go_wp2
          go_ret
          exact ⟨ret_b (by rw [HE.out]; simp; omega), rfl⟩
    · go_enter Tryd.func54, Tryd.ntmps54
      go_wp2
      go_ret
      exact ⟨ret_b (nam_long s (by omega)).symm, rfl⟩
  · go_enter Tryd.func54, Tryd.ntmps54
    go_wp2
    go_ret
    exact ⟨ret_b (nam_long s (by omega)).symm, rfl⟩
end Go.Proofs.YtkghhmjmfcnbnaaDoor
