/- That the reading of a sheet by the reference ends without a panic, whatever the text: spec.l2Value, IdRead, l2Digit, IdHex, l2Entry, ObjSheet, l2Read, ObjEntries. -/
import Derived.Test.YtajkihibineoaaaNam
import Derived.Test.YtajkihibineoaaaMark
namespace Go.Proofs.Ytajkihibineoaaa
open Go.RowKit

/-- a call that returns some number between bounds -/
def SomeInt (lo hi : Int) (w : World) (e : Ending) (w' : World) : Prop := ∃ n : Int, (lo ≤ n ∧ n ≤ hi) ∧ e = .returned (.int .i64 n) ∧ w = w'
/-- a call that returns some text no longer than a bound -/
def SomeStr (b : Nat) (w : World) (e : Ending) (w' : World) : Prop := ∃ t : ByteArray, t.size ≤ b ∧ e = .returned (.string t) ∧ Below w.heap.size w w'
/-- a call that returns some bool -/
def SomeBool (w : World) (e : Ending) (w' : World) : Prop := ∃ b : Bool, e = .returned (.bool b) ∧ Below w.heap.size w w'

theorem ret_iO {k : IntKind} {a b : Int} (h : a = b) : Ending.returned (.int k a) = .returned (.int k b) := by rw [h]
theorem l1In_yes (n lo hi : Int) (w : World) (h1 : lo ≤ n) (h2 : n ≤ hi) : Calls Try.prog 50 #[.int .i64 n, .int .i64 lo, .int .i64 hi] w fun e w' => e = .returned (.bool true) ∧ w = w' := by
  go_enter Try.func50, Try.ntmps50
  go_wp2
  go_ret
  exact ⟨rfl, rfl⟩
theorem l1In_no (n lo hi : Int) (w : World) (h : n < lo ∨ hi < n) : Calls Try.prog 50 #[.int .i64 n, .int .i64 lo, .int .i64 hi] w fun e w' => e = .returned (.bool false) ∧ w = w' := by
  by_cases h1 : lo ≤ n
  · have h2 : hi < n := by omega
    have hd : decide (n ≤ hi) = false := by simp; omega
    go_enter Try.func50, Try.ntmps50
    go_wp2
    go_ret
    exact ⟨rfl, rfl⟩
  · have h2 : n < lo := by omega
    go_enter Try.func50, Try.ntmps50
    go_wp2
    go_ret
    exact ⟨rfl, rfl⟩
theorem l2Value_calls (c : Int) (w : World) (h0 : 0 ≤ c) (h255 : c ≤ 255) : Calls Try.prog 81 #[.int .u8 c] w (SomeInt (-1) 15 w) := by
  by_cases h1 : 48 ≤ c <;> by_cases h2 : c ≤ 57 <;> by_cases h3 : 97 ≤ c <;> by_cases h4 : c ≤ 102 <;> first
    | (exfalso; omega)
    | (go_enter Try.func81, Try.ntmps81
       go_wp2
       go_ret
       exact ⟨_, by omega, rfl, rfl⟩)

theorem l2Digit_calls (n : Int) (w : World) (h0 : 0 ≤ n) (h15 : n ≤ 15) : Calls Try.prog 82 #[.int .i64 n] w fun e w' => e = .returned (.int .u8 (if n < 10 then 48 + n else 87 + n)) ∧ w = w' := by
  by_cases h1 : n < 10
  · rw [if_pos h1]
    go_enter Try.func82, Try.ntmps82
    go_wp2
    go_ret
    exact ⟨rfl, rfl⟩
  · rw [if_neg h1]
    go_enter Try.func82, Try.ntmps82
    go_wp2
    go_ret
    exact ⟨ret_iO (by omega), rfl⟩

def RdPost (w : World) (e : Ending) (w' : World) : Prop := ∃ (n : Int) (b : Bool), (0 ≤ n ∧ n ≤ 4294967296) ∧ e = .returned (.tuple #[.int .i64 n, .bool b]) ∧ w = w'
/-- 16 to a power -/
def p16 : Nat → Int | 0 => 1 | 1 => 16 | 2 => 256 | 3 => 4096 | 4 => 65536 | 5 => 1048576 | 6 => 16777216 | 7 => 268435456 | _ => 4294967296
theorem p16_step (k : Nat) (h : k < 8) : p16 (k + 1) = 16 * p16 k := by
  match k, h with
  | 0, _ | 1, _ | 2, _ | 3, _ | 4, _ | 5, _ | 6, _ | 7, _ => rfl
theorem p16_le (k : Nat) : p16 k ≤ 4294967296 ∧ 1 ≤ p16 k := by
  match k with
  | 0 | 1 | 2 | 3 | 4 | 5 | 6 | 7 => constructor <;> decide
  | n + 8 =>
    show (4294967296 : Int) ≤ 4294967296 ∧ (1 : Int) ≤ 4294967296
    omega
set_option maxRecDepth 100000 in
theorem idRead_calls (s : ByteArray) (w : World) : Calls Try.prog 78 #[.string s] w (RdPost w) := by
  by_cases h8 : s.size = 8
  · have h8' : (s.size : Int) = 8 := by omega
    have h8b : ((s.size : Int) != 8) = false := by simp; omega
    have H8 := Lib.hid h8
    clear h8' h8
    go_enter Try.func78, Try.ntmps78
    go_wp2
    go_loop [4, 5] (fun n i => ∃ (k : Nat) (x : Int), k ≤ 8 ∧ i = .int .i64 k ∧ n = .int .i64 x ∧ 0 ≤ x ∧ x + 1 ≤ p16 k) (fun _ i => 8 - (intOf i).toNat)
    case atStart => exact ⟨0, 0, by omega, rfl, rfl, by omega, by decide⟩
    case round =>
      obtain ⟨k, x, hk, rfl, rfl, h0, hx⟩ := hrel
      have hp := p16_le k
      by_cases hlt : k < 8
      · have hp1 : 16 * p16 k ≤ 4294967296 := by rw [← p16_step k hlt]; exact (p16_le _).1
        have hx16 : x * 16 + 15 ≤ 4294967295 := by omega
        clear hp1
        have hst := p16_step k hlt
        have HS := Lib.hid hst
        clear hst
        have hks : k < s.size := by rw [H8.out]; exact hlt
        have hc := s[k].toNat_lt
        go_wp2_with fail
        refine (l2Value_calls _ _ (by omega) (by omega)).mono ?_
        rintro e w1 ⟨v, hv, rfl, rfl⟩
        by_cases hneg : v < 0
        · go_wp2
          go_ret2
          exact ⟨0, false, by omega, rfl, rfl⟩
        · have hb : x * 16 + v ≤ 4294967296 := by omega
          go_wp2
          go_round
          case rel => exact ⟨k + 1, x * 16 + v, by omega, by go_num, rfl, by omega, by rw [HS.out]; omega⟩
          case measure => simp [intOf]; omega
      · go_wp2
        go_ret2
        exact ⟨x, _, by omega, rfl, rfl⟩
  · have h8b : ((s.size : Int) != 8) = true := by simp; omega
    go_enter Try.func78, Try.ntmps78
    go_wp2
    go_ret2
    exact ⟨0, false, by omega, rfl, rfl⟩

/-- a digit's byte -/
def dgt (n : Int) : Int := if n < 10 then 48 + n else 87 + n
/-- k digits of a number ahead of a text -/
def hexGo : Nat → Int → ByteArray → ByteArray
  | 0, _, out => out
  | k + 1, m, out => hexGo k (m / 16) (strOfNums [dgt (m % 16)] ++ out)
theorem hexGo_size (k : Nat) : ∀ (m : Int) (out : ByteArray), (hexGo k m out).size = out.size + k := by
  induction k with
  | zero => intro m out; rfl
  | succ k ih => intro m out; rw [hexGo, ih, ByteArray.size_append, strOfNums_size]; simp; omega
/-- what IdHex returns -/
def hexF (n : Int) : ByteArray := if 1 ≤ n ∧ n ≤ 4294967295 then hexGo 8 n ByteArray.empty else ByteArray.empty
theorem hexF_size (n : Int) : (hexF n).size ≤ 8 := by
  unfold hexF
  split
  · rw [hexGo_size]; simp
  · simp
theorem l2Digit_dgt (n : Int) (w : World) (h0 : 0 ≤ n) (h15 : n ≤ 15) : Calls Try.prog 82 #[.int .i64 n] w fun e w' => e = .returned (.int .u8 (dgt n)) ∧ w = w' := l2Digit_calls n w h0 h15

set_option maxRecDepth 100000 in
theorem idHex_calls (n : Int) (w : World) : Calls Try.prog 80 #[.int .i64 n] w fun e w' => e = .returned (.string (hexF n)) ∧ Below w.heap.size w w' := by
  have hcv := conv1
  by_cases h1 : 1 ≤ n ∧ n ≤ 4294967295
  · have hF : hexF n = hexGo 8 n ByteArray.empty := if_pos h1
    rw [hF]
    obtain ⟨h1, h2⟩ := h1
    clear hF
    go_enter Try.func80, Try.ntmps80
    go_wp2_with fail
    refine (l1In_yes n 1 4294967295 _ h1 h2).mono ?_
    rintro e w1 ⟨rfl, rfl⟩
    go_wp2
    go_loopw [0, 3, 4] (fun x o i wr => ∃ (k : Nat) (m : Int) (out : ByteArray), k ≤ 8 ∧ i = .int .i64 k ∧ x = .int .i64 m ∧ o = .string out ∧ (0 ≤ m ∧ m ≤ 4294967295) ∧ out.size ≤ k ∧ hexGo (8 - k) m out = hexGo 8 n ByteArray.empty ∧ Below w.heap.size w wr) (fun _ _ i _ => 8 - (intOf i).toNat)
    case atStart => exact ⟨0, n, ByteArray.empty, by omega, rfl, rfl, rfl, by omega, by simp, rfl, below0 w⟩
    case round =>
      obtain ⟨k, m, out, hk, rfl, rfl, rfl, ⟨h0, hm⟩, hs, hgo, hnx⟩ := hrel
      have HG := Lib.hid hgo
      clear hgo
      by_cases hlt : k < 8
      · have HD : Hid (hexGo (8 - k) m out = hexGo (8 - (k + 1)) (m / 16) (strOfNums [dgt (m % 16)] ++ out)) := by
          rw [show 8 - k = (8 - (k + 1)) + 1 by omega]; rfl
        have hs1 := strOfNums_size [dgt (m % 16)]
        have hs1b : (strOfNums [dgt (m % 16)]).size ≤ 1 := by rw [hs1]; simp
        clear hs1
        go_wp2_with fail
        refine (l2Digit_dgt _ _ (by omega) (by omega)).mono ?_
        rintro e w1 ⟨rfl, rfl⟩
        go_wp2
        go_roundw
        case rel => exact ⟨k + 1, m / 16, strOfNums [dgt (m % 16)] ++ out, by omega, by go_num, rfl, rfl, by omega, by rw [ByteArray.size_append]; omega, by rw [← HD.out]; exact HG.out, al hnx _⟩
        case measure => simp [intOf]; omega
      · go_wp2
        go_ret
        have e := HG.out
        rw [show 8 - k = 0 by omega] at e
        exact ⟨ret_s e, hnx⟩
  · have hF : hexF n = ByteArray.empty := if_neg h1
    rw [hF]
    clear hF
    go_enter Try.func80, Try.ntmps80
    go_wp2_with fail
    refine (l1In_no n 1 4294967295 _ (by omega)).mono ?_
    rintro e w1 ⟨rfl, rfl⟩
    go_wp2
    go_ret
    exact ⟨rfl, below0 w⟩

/-- what l2Entry answers -/
def entB (p : ByteArray) (n : Int) : Bool := namB p && (decide (1 ≤ n) && decide (n ≤ 4294967295))
theorem l2Entry_calls (p : ByteArray) (b : Bool) (n : Int) (w : World) (hp : p.size ≤ maxLen) : Calls Try.prog 79 #[.agg #[.string p, .bool b, .int .i64 n]] w fun e w' => e = .returned (.bool (entB p n)) ∧ Below w.heap.size w w' := by
  unfold entB
  go_enter Try.func79, Try.ntmps79
  go_wp2_with fail
  refine (nam_spec p hp _).mono ?_
  rintro e w1 ⟨rfl, rfl⟩
  cases hN : namB p
  · go_wp2
    go_ret
    exact ⟨ret_b (by rw [hN]; rfl), al (below0 w) _⟩
  · by_cases h : 1 ≤ n ∧ n ≤ 4294967295
    · go_wp2_with fail
      refine (l1In_yes n 1 4294967295 _ h.1 h.2).mono ?_
      rintro e w1 ⟨rfl, rfl⟩
      go_wp2
      go_ret
      exact ⟨ret_b (by rw [hN]; simp [h.1, h.2]), al (below0 w) _⟩
    · go_wp2_with fail
      refine (l1In_no n 1 4294967295 _ (by omega)).mono ?_
      rintro e w1 ⟨rfl, rfl⟩
      go_wp2
      go_ret
      have hd : (decide (1 ≤ n) && decide (n ≤ 4294967295)) = false := by
        rw [Bool.and_eq_false_iff, decide_eq_false_iff_not, decide_eq_false_iff_not]; omega
      exact ⟨ret_b (by rw [hN, hd]; rfl), al (below0 w) _⟩
end Go.Proofs.Ytajkihibineoaaa
