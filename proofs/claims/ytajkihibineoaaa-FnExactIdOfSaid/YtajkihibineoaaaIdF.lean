/- impl.IdOf and spec.IdOf compute one plain function of the string. -/
import Derived.Test.YtajkihibineoaaaBase
namespace Go.Proofs.Ytajkihibineoaaa
open Go.RowKit

theorem ofInt_i64 (a : Nat) (ha : a < 9223372036854775808) : (BitVec.ofInt 64 (a : Int)).toNat = a := by
  rw [BitVec.ofInt_natCast, BitVec.toNat_ofNat]; exact Nat.mod_eq_of_lt (by omega)
theorem i64_and_nat (a b : Nat) (ha : a < 9223372036854775808) (hb : b < 9223372036854775808) : bits .and .i64 (a : Int) (b : Int) = ((a &&& b : Nat) : Int) := by
  have hx : a &&& b < 2 ^ 63 := Nat.and_lt_two_pow _ (by omega)
  show IntKind.i64.wrap ((BitVec.ofInt 64 (a : Int) &&& BitVec.ofInt 64 (b : Int)).toNat : Int) = _
  rw [BitVec.toNat_and, ofInt_i64 a ha, ofInt_i64 b hb, IntKind.wrap_i64]
  omega
theorem i64_xor_nat (a b : Nat) (ha : a < 9223372036854775808) (hb : b < 9223372036854775808) : bits .xor .i64 (a : Int) (b : Int) = ((a ^^^ b : Nat) : Int) := by
  have hx : a ^^^ b < 2 ^ 63 := Nat.xor_lt_two_pow (by omega) (by omega)
  show IntKind.i64.wrap ((BitVec.ofInt 64 (a : Int) ^^^ BitVec.ofInt 64 (b : Int)).toNat : Int) = _
  rw [BitVec.toNat_xor, ofInt_i64 a ha, ofInt_i64 b hb, IntKind.wrap_i64]
  omega

/-- a round of IdOf -/
def stepN (m c : Nat) : Nat := ((m ^^^ c) * 16777619 % 4294967296) ^^^ ((m ^^^ c) * 16777619 % 4294967296 / 32768)
/-- the end of IdOf -/
def lastN (m : Nat) : Nat := (m * 73856093 % 4294967296) ^^^ (m * 73856093 % 4294967296 / 8192)
def idGo (l : List UInt8) (m : Nat) : Nat := l.foldl (fun m c => stepN m c.toNat) m
/-- what IdOf returns -/
def idN (s : ByteArray) : Nat := if lastN (idGo s.data.toList (2166136261 + s.size)) = 0 then 1 else lastN (idGo s.data.toList (2166136261 + s.size))
theorem stepN_lt (m c : Nat) : stepN m c < 4294967296 := by
  unfold stepN
  exact Nat.xor_lt_two_pow (n := 32) (by omega) (by omega)
theorem xor1 (m c : Nat) (hm : m ≤ 4296015872) (hc : c < 256) : bits .xor .i64 (m : Int) (c : Int) = ((m ^^^ c : Nat) : Int) := i64_xor_nat m c (by omega) (by omega)
theorem xor1_lt (m c : Nat) (hm : m ≤ 4296015872) (hc : c < 256) : m ^^^ c < 8589934592 := Nat.xor_lt_two_pow (n := 33) (by omega) (by omega)
theorem and1 (y : Nat) (k : Int) (n : Nat) (hk : k = n) (hy : y * n < 9223372036854775808) : bits .and .i64 ((y : Int) * k) 4294967295 = (y : Int) * k % 4294967296 := by
  subst hk
  have e : ((y : Int) * (n : Int)) = ((y * n : Nat) : Int) := by simp
  rw [e, show (4294967295 : Int) = ((4294967295 : Nat) : Int) from rfl, i64_and_nat _ _ hy (by omega), show 4294967295 = 2 ^ 32 - 1 from rfl, Nat.and_two_pow_sub_one_eq_mod]
  omega
theorem xor2 (m c : Nat) : bits .xor .i64 (((m ^^^ c : Nat) : Int) * 16777619 % 4294967296) (((m ^^^ c : Nat) : Int) * 16777619 % 4294967296 / 32768) = (stepN m c : Int) := by
  have e1 : (((m ^^^ c : Nat) : Int) * 16777619 % 4294967296) = (((m ^^^ c) * 16777619 % 4294967296 : Nat) : Int) := by omega
  have e2 : ((((m ^^^ c) * 16777619 % 4294967296 : Nat) : Int) / 32768) = (((m ^^^ c) * 16777619 % 4294967296 / 32768 : Nat) : Int) := by omega
  rw [e1, e2, i64_xor_nat _ _ (by omega) (by omega)]
  rfl
theorem xor3 (m : Nat) : bits .xor .i64 ((m : Int) * 73856093 % 4294967296) ((m : Int) * 73856093 % 4294967296 / 8192) = (lastN m : Int) := by
  have e1 : ((m : Int) * 73856093 % 4294967296) = ((m * 73856093 % 4294967296 : Nat) : Int) := by omega
  have e2 : (((m * 73856093 % 4294967296 : Nat) : Int) / 8192) = ((m * 73856093 % 4294967296 / 8192 : Nat) : Int) := by omega
  rw [e1, e2, i64_xor_nat _ _ (by omega) (by omega)]
  rfl
theorem lastN_lt (m : Nat) : lastN m < 4294967296 := by
  unfold lastN
  exact Nat.xor_lt_two_pow (n := 32) (by omega) (by omega)
theorem foldl_take {β : Type} (f : β → UInt8 → β) (s : ByteArray) (k : Nat) (m0 : β) (h : k < s.size) : (s.data.toList.take (k + 1)).foldl f m0 = f ((s.data.toList.take k).foldl f m0) s[k] := by
  have : s.data.toList.take (k + 1) = s.data.toList.take k ++ [s[k]] := by
    rw [List.take_succ_eq_append_getElem (by simpa using h)]; rfl
  rw [this, List.foldl_append, List.foldl_cons, List.foldl_nil]
theorem idGo_step (s : ByteArray) (k m0 : Nat) (h : k < s.size) : idGo (s.data.toList.take (k + 1)) m0 = stepN (idGo (s.data.toList.take k) m0) s[k].toNat :=
  foldl_take (fun m c => stepN m c.toNat) s k m0 h
theorem idGo_all (s : ByteArray) (k m0 : Nat) (h : ¬ k < s.size) : idGo (s.data.toList.take k) m0 = idGo s.data.toList m0 := by rw [List.take_of_length_le (by simp; omega)]
theorem idN_zero (s : ByteArray) (h : lastN (idGo s.data.toList (2166136261 + s.size)) = 0) : idN s = 1 := if_pos h
theorem idN_pos (s : ByteArray) (h : ¬ lastN (idGo s.data.toList (2166136261 + s.size)) = 0) : idN s = lastN (idGo s.data.toList (2166136261 + s.size)) := if_neg h
theorem byte_lt (c : UInt8) : c.toNat < 256 := c.toNat_lt

theorem ret_i0 {k : IntKind} {a b : Int} (h : a = b) : Ending.returned (.int k a) = .returned (.int k b) := by rw [h]
set_option maxRecDepth 100000 in
theorem idOf_spec (s : ByteArray) (hs : s.size ≤ 1048576) (w : World) : Calls Try.prog 17 #[.string s] w fun e w' => e = .returned (.int .i64 (idN s)) ∧ w = w' := by
  go_enter Try.func17, Try.ntmps17
  go_wp2
  go_loop [3, 4] (fun x i => ∃ (k m : Nat), k ≤ s.size ∧ i = .int .i64 k ∧ x = .int .i64 m ∧ m ≤ 4296015872 ∧ idGo (s.data.toList.take k) (2166136261 + s.size) = m) (fun _ i => s.size - (intOf i).toNat)
  case atStart => exact ⟨0, 2166136261 + s.size, Nat.zero_le _, rfl, by go_num, by omega, rfl⟩
  case round =>
    obtain ⟨k, m, hk, rfl, rfl, hm, hgo⟩ := hrel
    have HG := Lib.hid hgo
    clear hgo
    by_cases hlt : k < s.size
    · have hc := byte_lt s[k]
      have f1 := xor1 m s[k].toNat hm hc
      have f2 := xor1_lt m s[k].toNat hm hc
      have f3 := and1 (m ^^^ s[k].toNat) 16777619 16777619 rfl (by omega)
      have f4 := xor2 m s[k].toNat
      have f5 := stepN_lt m s[k].toNat
      have HS := Lib.hid (idGo_step s k (2166136261 + s.size) hlt)
      go_wp2
      go_round
      case rel => exact ⟨k + 1, stepN m s[k].toNat, by omega, by go_num, rfl, by omega, by rw [HS.out, HG.out]⟩
      case measure => simp [intOf]; omega
    · have f3 := and1 m 73856093 73856093 rfl (by omega)
      have f4 := xor3 m
      have f5 := lastN_lt m
      have HA := Lib.hid (idGo_all s k (2166136261 + s.size) hlt)
      by_cases h0 : lastN m = 0
      · have HZ : Hid (idN s = 1) := idN_zero s (by rw [← HA.out, HG.out]; exact h0)
        rw [h0] at f4
        clear f5
        go_wp2
        go_ret
        exact ⟨ret_i0 (by rw [HZ.out]; rfl), rfl⟩
      · have HZ : Hid (idN s = lastN m) := by rw [← HG.out, HA.out] at h0 ⊢; exact idN_pos s h0
        have h1 : 1 ≤ lastN m := by omega
        go_wp2
        go_ret
        exact ⟨ret_i0 (by rw [HZ.out]), rfl⟩

set_option maxRecDepth 100000 in
theorem idOf_impl (s : ByteArray) (hs : s.size ≤ 1048576) (w : World) : Calls Try.prog 18 #[.string s] w fun e w' => e = .returned (.int .i64 (idN s)) ∧ w = w' := by
  go_enter Try.func18, Try.ntmps18
  go_wp2
  go_loop [3, 10] (fun x i => ∃ (k m : Nat), k ≤ s.size ∧ i = .int .i64 k ∧ x = .int .i64 m ∧ m ≤ 4296015872 ∧ idGo (s.data.toList.take k) (2166136261 + s.size) = m) (fun _ i => s.size - (intOf i).toNat)
  case atStart => exact ⟨0, 2166136261 + s.size, Nat.zero_le _, rfl, by go_num, by omega, rfl⟩
  case round =>
    obtain ⟨k, m, hk, rfl, rfl, hm, hgo⟩ := hrel
    have HG := Lib.hid hgo
    clear hgo
    by_cases hlt : k < s.size
    · have hc := byte_lt s[k]
      have f1 := xor1 m s[k].toNat hm hc
      have f2 := xor1_lt m s[k].toNat hm hc
      have f3 := and1 (m ^^^ s[k].toNat) 16777619 16777619 rfl (by omega)
      have f4 := xor2 m s[k].toNat
      have f5 := stepN_lt m s[k].toNat
      have HS := Lib.hid (idGo_step s k (2166136261 + s.size) hlt)
      go_wp2
      go_round
      case rel => exact ⟨k + 1, stepN m s[k].toNat, by omega, by go_num, rfl, by omega, by rw [HS.out, HG.out]⟩
      case measure => simp [intOf]; omega
    · have f3 := and1 m 73856093 73856093 rfl (by omega)
      have f4 := xor3 m
      have f5 := lastN_lt m
      have HA := Lib.hid (idGo_all s k (2166136261 + s.size) hlt)
      by_cases h0 : lastN m = 0
      · have HZ : Hid (idN s = 1) := idN_zero s (by rw [← HA.out, HG.out]; exact h0)
        rw [h0] at f4
        clear f5
        go_wp2
        go_ret
        exact ⟨ret_i0 (by rw [HZ.out]; rfl), rfl⟩
      · have HZ : Hid (idN s = lastN m) := by rw [← HG.out, HA.out] at h0 ⊢; exact idN_pos s h0
        have h1 : 1 ≤ lastN m := by omega
        go_wp2
        go_ret
        exact ⟨ret_i0 (by rw [HZ.out]), rfl⟩

end Go.Proofs.Ytajkihibineoaaa
