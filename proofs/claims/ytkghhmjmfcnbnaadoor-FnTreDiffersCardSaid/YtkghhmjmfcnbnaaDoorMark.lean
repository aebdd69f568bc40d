/- markText, by a plain function of its number. -/
import Derived.Test.YtkghhmjmfcnbnaaDoorBase
import Derived.Test.YtkghhmjmfcnbnaaDoorMem
namespace Go.Proofs.YtkghhmjmfcnbnaaDoor
open Go.RowKit

/-- the byte of a number's last digit -/
def dig (k : Nat) : UInt8 := UInt8.ofNat (48 + k % 10)
/-- the decimals of a number ahead of a text -/
def mtGo (k : Nat) (out : ByteArray) : ByteArray := if k = 0 then out else mtGo (k / 10) (⟨#[dig k]⟩ ++ out)
termination_by k
decreasing_by omega
/-- what markText returns -/
def mt (k : Nat) : ByteArray := ⟨#[109]⟩ ++ mtGo k ByteArray.empty
theorem mtGo_zero (out : ByteArray) : mtGo 0 out = out := by rw [mtGo]; rfl
theorem mtGo_pos (k : Nat) (out : ByteArray) (h : 0 < k) : mtGo k out = mtGo (k / 10) (⟨#[dig k]⟩ ++ out) := by rw [mtGo, if_neg (by omega)]

/-- a text of one byte out of a new row of one byte -/
theorem conv1 (W : World) (x : Int) : (convert 33 9 (.slice (some ⟨W.heap.size, 0, none⟩) 1 1)).run Tryd.prog (W.alloc (.cells #[.int .u8 x] 5)) = .ok (.string (strOfNums [x])) (W.alloc (.cells #[.int .u8 x] 5)) :=
  run_convert_bytes_arg (W.alloc (.cells #[.int .u8 x] 5)) 33 5 Tryd.underlying33 Tryd.underlying5 W.heap.size 0 1 1 [x] rfl
    (fun i hi => by
      obtain rfl : i = 0 := by omega
      simp) 9 Tryd.underlying9
theorem dig_of (m : Nat) : strOfNums [48 + (m : Int) % 10] = ⟨#[dig m]⟩ := by
  have : (48 + (m : Int) % 10).toNat = 48 + m % 10 := by omega
  simp [strOfNums, dig, this]
theorem ret_s {a b : ByteArray} (h : a = b) : Ending.returned (.string a) = .returned (.string b) := by rw [h]

set_option maxRecDepth 100000 in
set_option maxHeartbeats 400000 in
theorem markText_calls (k : Nat) (h : 0 < k) (hk : k ≤ 8388608) (w : World) :
    Calls Tryd.prog 48 #[.int .i64 k] w fun e w' => e = .returned (.string (mt k)) ∧ Below w.heap.size w w' := by
  have hcv := conv1
  go_enter Tryd.func48, Tryd.ntmps48
  go_wp2
  go_loopw [0, 3] (fun n o wr => ∃ (m : Nat) (out : ByteArray), n = .int .i64 m ∧ o = .string out ∧ out.size + m ≤ k ∧ mtGo m out = mtGo k ByteArray.empty ∧ Below w.heap.size w wr) (fun n _ _ => (intOf n).toNat)
  case atStart => exact ⟨k, ByteArray.empty, rfl, rfl, by simp, rfl, Below.refl _ _⟩
  case round =>
    obtain ⟨m, out, rfl, rfl, hs, hgo, hnx⟩ := hrel
    have HG := Lib.hid hgo
    clear hgo
    by_cases hm : 0 < m
    · have hsz : (strOfNums [48 + (m : Int) % 10]).size = 1 := strOfNums_size _
      have HS := Lib.hid hsz
      clear hsz
      have hsb : (strOfNums [48 + (m : Int) % 10]).size ≤ 1 := by rw [HS.out]; omega
      go_wp2
      go_roundw
      case rel => exact ⟨m / 10, strOfNums [48 + (m : Int) % 10] ++ out, by go_num, rfl, by rw [ByteArray.size_append, HS.out]; omega, by rw [dig_of, ← mtGo_pos m out hm]; exact HG.out, al hnx _⟩
      case measure => simp [intOf]; omega
    · go_wp2
      go_ret
      have e := HG.out
      obtain rfl : m = 0 := by omega
      rw [mtGo_zero] at e
      exact ⟨ret_s (by rw [e]; rfl), hnx⟩
theorem markText_int (x : Int) (h : 0 < x) (hk : x ≤ 8388608) (w : World) :
    Calls Tryd.prog 48 #[.int .i64 x] w fun e w' => e = .returned (.string (mt x.toNat)) ∧ Below w.heap.size w w' := by
  obtain ⟨k, rfl⟩ := Int.eq_ofNat_of_zero_le (Int.le_of_lt h)
  exact markText_calls k (by omega) (by omega) w
end Go.Proofs.YtkghhmjmfcnbnaaDoor
