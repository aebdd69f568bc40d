/- That the reading of a sheet by the reference ends without a panic, whatever the text: spec.ObjSheet. -/
import Derived.Test.YtajkihibineoaaaObjF
import Derived.Test.YtajkihibineoaaaBel
import Derived.Deep.RegionHeld3
import Derived.StillTailTactics
namespace Go.Proofs.Ytajkihibineoaaa
open Go.RowKit

structure TEnt where
  name : ByteArray
  sheet : Bool
  id : Int
def entC (p : TEnt) : List Value := [.string p.name, .bool p.sheet, .int .i64 p.id]
theorem entC_len (p : TEnt) : (entC p).length = 3 := rfl
theorem ent_at {w : World} {v : Value} {zs : List TEnt} (h : Sl 3 entC w v zs) : ∃ A c, v = .slice A zs.length c ∧ c ≤ maxLen ∧ zs.length ≤ c ∧
    ∀ k, k < zs.length → ∃ p q r b off, zs[k]? = some ⟨p, q, r⟩ ∧ A = some ⟨b, off, none⟩ ∧ b < w.heap.size ∧ w.cell? ⟨b, off + k * 3, none⟩ = some (.string p) ∧ w.cell? ⟨b, off + k * 3 + 1, none⟩ = some (.bool q) ∧ w.cell? ⟨b, off + k * 3 + 2, none⟩ = some (.int .i64 r) := by
  obtain ⟨A, c, rfl, h1, h2, h3⟩ := h
  refine ⟨A, c, rfl, h2, h1, fun k hk => ?_⟩
  obtain ⟨b, off, rfl, hb, hat⟩ := h3 k _ (List.getElem?_eq_getElem hk)
  exact ⟨zs[k].name, zs[k].sheet, zs[k].id, b, off, List.getElem?_eq_getElem hk, rfl, hb, hat 0 _ rfl, hat 1 _ rfl, hat 2 _ rfl⟩

set_option maxRecDepth 100000 in
set_option maxHeartbeats 1000000 in
theorem objSheet_calls (u : Value) (zs : List TEnt) (w : World) (hu : Sl 3 entC w u zs) (hz : ∀ z ∈ zs, z.name.size ≤ 721) : Calls Try.prog 77 #[u] w (SomeStr 50000 w) := by
  obtain ⟨A, c, rfl, hc, hlc, hat⟩ := ent_at hu
  unfold maxLen at hc
  by_cases h60 : (60 : Int) < zs.length
  · go_enter Try.func77, Try.ntmps77
    go_wp2
    go_ret
    exact ⟨ByteArray.empty, by simp, rfl, below0 w⟩
  · go_enter Try.func77, Try.ntmps77
    go_wp2
    go_loopw [3, 4] (fun o i wr => ∃ (k : Nat) (out : ByteArray), k ≤ zs.length ∧ i = .int .i64 k ∧ o = .string out ∧ out.size ≤ 1 + k * 730 ∧ Below w.heap.size w wr) (fun _ i _ => zs.length - (intOf i).toNat)
    case atStart => exact ⟨0, ⟨#[83]⟩, Nat.zero_le _, rfl, rfl, by decide, below0 w⟩
    case round =>
      obtain ⟨k, out, hk, rfl, rfl, hs, hnx⟩ := hrel
      by_cases hlt : k < zs.length
      · obtain ⟨p, q, r, b, off, hzk, rfl, hb, c0, c1, c2⟩ := hat k hlt
        have hp := hz _ (List.mem_of_getElem? hzk)
        simp only at hp
        have d0 := (hnx.cell (p := ⟨b, off + k * 3, none⟩) hb).trans c0
        have d1 := (hnx.cell (p := ⟨b, off + k * 3 + 1, none⟩) hb).trans c1
        have d2 := (hnx.cell (p := ⟨b, off + k * 3 + 2, none⟩) hb).trans c2
        have h0 : (0 : Int) ≤ (k : Int) := Int.natCast_nonneg _
        have hl : (k : Int) < (zs.length : Int) := by omega
        have hbr : b < wr.heap.size := Nat.lt_of_lt_of_le hb hnx.size
        have hpm : p.size ≤ maxLen := by unfold maxLen; omega
        have q0 := fun x : Bel wr => Bel.cell d0 x
        have q1 := fun x : Bel wr => Bel.cell d1 x
        have q2 := fun x : Bel wr => Bel.cell d2 x
        cases he : entB p r
        · have hcall : Hid (∀ W : World, Calls Try.prog 79 #[.agg #[.string p, .bool q, .int .i64 r]] W fun e w' => e = .returned (.bool false) ∧ Below W.heap.size W w') := fun W => by rw [← he]; exact l2Entry_calls p q r W hpm
          clear he hat c0 c1 c2 hzk
          go_wp2_with fail
          refine wp_region_bel (by kernel_rfl) (by kernel_rfl) ?_
          repeat (go_big_quiet_step ((go_at_call 79; exact bel_call _ (hcall.out _))))
          refine wpQuiet_nil ?_
          intro _ hw'
          obtain ⟨x, hw''⟩ := hw'
          subst hw''
          have hb2 := x.h
          go_wp2
          go_ret
          exact ⟨ByteArray.empty, by simp, rfl, below_up hnx hb2⟩
        · have hcall : Hid (∀ W : World, Calls Try.prog 79 #[.agg #[.string p, .bool q, .int .i64 r]] W fun e w' => e = .returned (.bool true) ∧ Below W.heap.size W w') := fun W => by rw [← he]; exact l2Entry_calls p q r W hpm
          clear he
          by_cases hk0 : (k : Int) ≤ 0
          · have hkd : decide (0 < k) = false := by simp; omega
            clear hat c0 c1 c2 hzk
            go_wp2_with fail
            refine wp_region_bel (by kernel_rfl) (by kernel_rfl) ?_
            repeat (go_big_quiet_step ((go_at_call 79; exact bel_call _ (hcall.out _))))
            refine wpQuiet_nil ?_
            intro _ hw'
            obtain ⟨x, hw''⟩ := hw'
            subst hw''
            have hb2 := x.h
            obtain ⟨wx, hwx⟩ : ∃ wx, wx = x.w := ⟨_, rfl⟩
            rw [← hwx]
            have e0 := Bel.cell d0 x
            have e1 := Bel.cell d1 x
            have e2 := Bel.cell d2 x
            rw [← hwx] at e0 e1 e2 hb2
            have hnx2 := below_up hnx hb2
            clear hwx q0 q1 q2 hb2 hnx d0 d1 d2
            have q0 := fun y : Bel wx => Bel.cell e0 y
            have q2 := fun y : Bel wx => Bel.cell e2 y
            have hxs := hexF_size r
            cases q
            all_goals
              go_wp2_with fail
              refine wp_region_bel (by kernel_rfl) (by kernel_rfl) ?_
              repeat (go_big_quiet_step ((go_at_call 80; exact bel_call _ (idHex_calls r _))))
              refine wpQuiet_nil ?_
              intro _ hw'
              obtain ⟨y, hw''⟩ := hw'
              subst hw''
              have hb3 := y.h
              go_wp2
              go_roundw
              case rel => exact ⟨k + 1, _, by omega, by go_num, rfl, by (simp only [ByteArray.size_append]; have e1 : (ByteArray.mk #[61]).size = 1 := rfl; have e2 : (ByteArray.mk #[47]).size = 1 := rfl; omega), below_up hnx2 hb3⟩
              case measure => simp [intOf]; omega
          · have hkd : decide (0 < k) = true := by simp; omega
            obtain ⟨p', q', r', b', off', hzk', ha', hb', c0', c1', c2'⟩ := hat (k - 1) (by omega)
            simp only [Option.some.injEq, Addr.mk.injEq, and_true] at ha'
            obtain ⟨rfl, rfl⟩ := ha'
            have d3 := (hnx.cell (p := ⟨b, off + (k - 1) * 3, none⟩) hb).trans c0'
            have q3 := fun x : Bel wr => Bel.cell d3 x
            have hk1 : (0 : Int) ≤ (k : Int) - 1 := by omega
            have hk2 : (k : Int) - 1 < (zs.length : Int) := by omega
            clear hat c0 c1 c2 hzk c0' c1' c2' hzk'
            cases hcmp : Op.bytesLess p'.toList p.toList
            · have HC := Lib.hid hcmp
              go_wp2_with fail
              refine wp_region_bel (by kernel_rfl) (by kernel_rfl) ?_
              repeat (go_big_quiet_step ((go_at_call 79; exact bel_call _ (hcall.out _))))
              refine wpQuiet_nil ?_
              intro _ hw'
              obtain ⟨x, hw''⟩ := hw'
              subst hw''
              have hb2 := x.h
              go_wp2
              go_ret
              exact ⟨ByteArray.empty, by simp, rfl, below_up hnx hb2⟩
            · have HC := Lib.hid hcmp
              go_wp2_with fail
              refine wp_region_bel (by kernel_rfl) (by kernel_rfl) ?_
              repeat (go_big_quiet_step ((go_at_call 79; exact bel_call _ (hcall.out _))))
              refine wpQuiet_nil ?_
              intro _ hw'
              obtain ⟨x, hw''⟩ := hw'
              subst hw''
              have hb2 := x.h
              obtain ⟨wx, hwx⟩ : ∃ wx, wx = x.w := ⟨_, rfl⟩
              rw [← hwx]
              have e0 := Bel.cell d0 x
              have e1 := Bel.cell d1 x
              have e2 := Bel.cell d2 x
              rw [← hwx] at e0 e1 e2 hb2
              have hnx2 := below_up hnx hb2
              clear hwx q0 q1 q2 hb2 hnx d0 d1 d2
              have q0 := fun y : Bel wx => Bel.cell e0 y
              have q2 := fun y : Bel wx => Bel.cell e2 y
              have hxs := hexF_size r
              cases q
              all_goals
                go_wp2_with fail
                refine wp_region_bel (by kernel_rfl) (by kernel_rfl) ?_
                repeat (go_big_quiet_step ((go_at_call 80; exact bel_call _ (idHex_calls r _))))
                refine wpQuiet_nil ?_
                intro _ hw'
                obtain ⟨y, hw''⟩ := hw'
                subst hw''
                have hb3 := y.h
                go_wp2
                go_roundw
                case rel => exact ⟨k + 1, _, by omega, by go_num, rfl, by (simp only [ByteArray.size_append]; have e1 : (ByteArray.mk #[61]).size = 1 := rfl; have e2 : (ByteArray.mk #[47]).size = 1 := rfl; omega), below_up hnx2 hb3⟩
                case measure => simp [intOf]; omega
      · go_wp2
        go_ret
        exact ⟨out, by omega, rfl, hnx⟩
end Go.Proofs.Ytajkihibineoaaa
