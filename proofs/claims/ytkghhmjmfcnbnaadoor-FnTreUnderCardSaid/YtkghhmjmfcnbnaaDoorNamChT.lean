/- chTexts, the laws' equality of rows of texts. -/
import Derived.Test.YtkghhmjmfcnbnaaDoorStrH
import Derived.Test.YtkghhmjmfcnbnaaDoorStr
import Derived.BigQuiet
import Derived.Deep.QuietTactic
namespace Go.Proofs.YtkghhmjmfcnbnaaDoor
open Go.RowKit

theorem chTexts_calls (u v : Value) (zs : List ByteArray) (w : World) (hu : Sl 1 strC w u zs) (hv : Sl 1 strC w v zs) :
    Calls Tryd.prog 21 #[u, v] w fun e w' => e = .returned (.bool true) ∧ Below w.heap.size w w' := by
  obtain ⟨A, c, rfl, hc, hlc, hat⟩ := str_at hu
  obtain ⟨A', c', rfl, hc', hlc', hat'⟩ := str_at hv
  unfold maxLen at hc hc'
  go_enter Tryd.func21, Tryd.ntmps21
  go_wp2
  go_loopw [5] (fun i wr => ∃ k : Nat, k ≤ zs.length ∧ i = .int .i64 k ∧ Below w.heap.size w wr) (fun i _ => zs.length - (intOf i).toNat)
  case atStart => exact ⟨0, Nat.zero_le _, rfl, Below.refl _ _⟩
  case round =>
    obtain ⟨k, hk, rfl, hnx⟩ := hrel
    by_cases hlt : k < zs.length
    · obtain ⟨x, b, off, hz, rfl, hb, c0⟩ := hat k hlt
      obtain ⟨x', b', off', hz', rfl, hb', c0'⟩ := hat' k hlt
      rw [hz] at hz'
      simp only [Option.some.injEq] at hz'
      subst hz'
      have d0 := (hnx.cell (p := ⟨b, off + k, none⟩) hb).trans c0
      have d0' := (hnx.cell (p := ⟨b', off' + k, none⟩) hb').trans c0'
      clear hat hat' c0 c0' hz
      have h0 : (0 : Int) ≤ (k : Int) := Int.natCast_nonneg _
      have hl : (k : Int) < (zs.length : Int) := by omega
      go_wp2_with fail
      go_quiet (fail)
      have hnx2 := below_drewN hnx nq
      clear hnx
      go_wp2
      go_roundw
      case rel => exact ⟨k + 1, by omega, by go_num, hnx2⟩
      case measure => simp [intOf]; omega
    · go_wp2
      go_ret
      exact ⟨rfl, hnx⟩
end Go.Proofs.YtkghhmjmfcnbnaaDoor
