/- The helpers of the laws over pools: copies and equality. -/
import Derived.Test.YtajkihibineoaaaPol
namespace Go.Proofs.Ytajkihibineoaaa
open Go.RowKit

theorem Try.infoImplPol : (Try.prog.info? 70).map (fun i => (i.zero, i.size, i.bytes)) = some (some (.agg #[.int .i64 0, .string ByteArray.empty]), 2, 24) := by kernel_rfl

theorem toPolItem_calls (id : Int) (s : ByteArray) (w : World) :
    Calls Try.prog 55 #[.agg #[.int .i64 id, .string s]] w fun e w' => e = .returned (.agg #[.int .i64 id, .string s]) ∧ Below w.heap.size w w' := by
  go_enter Try.func55, Try.ntmps55
  go_wp2
  exact bodyPost_ret (v := .agg #[.int .i64 id, .string s]) (by simp [results, Try.results55, go_sem]) rfl ⟨rfl, al (al (al (below0 w) _) _) _⟩

theorem eqPolItem_calls (id : Int) (s : ByteArray) (w : World) :
    Calls Try.prog 56 #[.agg #[.int .i64 id, .string s], .agg #[.int .i64 id, .string s]] w fun e w' => e = .returned (.bool true) ∧ Below w.heap.size w w' := by
  go_enter Try.func56, Try.ntmps56
  go_wp2
  go_ret
  exact ⟨rfl, al (al (below0 w) _) _⟩

set_option maxRecDepth 100000 in
theorem eqPolItemS_calls (u v : Value) (zs : List (Int × ByteArray)) (w : World) (hu : Sl 2 polC w u zs) (hv : Sl 2 polC w v zs) :
    Calls Try.prog 28 #[u, v] w fun e w' => e = .returned (.bool true) ∧ Below w.heap.size w w' := by
  obtain ⟨A, c, rfl, hc, hlc, hat⟩ := pol_at hu
  obtain ⟨A', c', rfl, hc', hlc', hat'⟩ := pol_at hv
  unfold maxLen at hc hc'
  go_enter Try.func28, Try.ntmps28
  go_wp2
  go_loopw [5] (fun i wr => ∃ k : Nat, k ≤ zs.length ∧ i = .int .i64 k ∧ Below w.heap.size w wr) (fun i _ => zs.length - (intOf i).toNat)
  case atStart => exact ⟨0, Nat.zero_le _, rfl, Below.refl _ _⟩
  case round =>
    obtain ⟨k, hk, rfl, hnx⟩ := hrel
    by_cases hlt : k < zs.length
    · obtain ⟨id, s, b, off, hz, rfl, hb, c0, c1⟩ := hat k hlt
      obtain ⟨id', s', b', off', hz', rfl, hb', c0', c1'⟩ := hat' k hlt
      rw [hz] at hz'
      simp only [Option.some.injEq, Prod.mk.injEq] at hz'
      obtain ⟨rfl, rfl⟩ := hz'
      have d0 := (hnx.cell (p := ⟨b, off + k * 2, none⟩) hb).trans c0
      have d1 := (hnx.cell (p := ⟨b, off + k * 2 + 1, none⟩) hb).trans c1
      have d0' := (hnx.cell (p := ⟨b', off' + k * 2, none⟩) hb').trans c0'
      have d1' := (hnx.cell (p := ⟨b', off' + k * 2 + 1, none⟩) hb').trans c1'
      clear hat hat' c0 c1 c0' c1' hz
      have h0 : (0 : Int) ≤ (k : Int) := Int.natCast_nonneg _
      have hl : (k : Int) < (zs.length : Int) := by omega
      go_wp2_with fail
      go_still_tail 8, (by kernel_rfl)
      change wpList _ _ _ _ _ wr.drew
      go_wp2_with fail
      refine (eqPolItem_calls id s _).mono ?_
      rintro e w1 ⟨rfl, hb1⟩
      go_wp2
      go_roundw
      case rel => exact ⟨k + 1, by omega, by go_num, (hnx.drew).trans (hb1.mono hnx.size)⟩
      case measure => simp [intOf]; omega
    · go_wp2
      go_ret
      exact ⟨rfl, hnx⟩
end Go.Proofs.Ytajkihibineoaaa
