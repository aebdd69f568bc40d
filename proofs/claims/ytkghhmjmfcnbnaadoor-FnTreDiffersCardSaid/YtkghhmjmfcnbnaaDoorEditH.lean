/- The helpers of the laws over []TreEdit: layout, sizes, copies, equality. By program (gen_help.py). -/
import Derived.Test.YtkghhmjmfcnbnaaDoorBase
import Derived.Test.YtkghhmjmfcnbnaaDoorMem
import Derived.Test.YtkghhmjmfcnbnaaDoorSum
import Derived.StillTailTactics
namespace Go.Proofs.YtkghhmjmfcnbnaaDoor
open Go.RowKit

structure TEdit where
  path : ByteArray
  bytes : ByteArray
  gone : Bool
def editC (p : TEdit) : List Value := [.string p.path, .string p.bytes, .bool p.gone]
theorem editC_len (p : TEdit) : (editC p).length = 3 := rfl
def editT (p : TEdit) : Nat := p.path.size + p.bytes.size
theorem edit_at {w : World} {v : Value} {zs : List TEdit} (h : Sl 3 editC w v zs) : ∃ A c, v = .slice A zs.length c ∧ c ≤ maxLen ∧ zs.length ≤ c ∧
    ∀ k, k < zs.length → ∃ path bytes gone b off, zs[k]? = some ⟨path, bytes, gone⟩ ∧ A = some ⟨b, off, none⟩ ∧ b < w.heap.size ∧ w.cell? ⟨b, off + k * 3, none⟩ = some (.string path) ∧ w.cell? ⟨b, off + k * 3 + 1, none⟩ = some (.string bytes) ∧ w.cell? ⟨b, off + k * 3 + 2, none⟩ = some (.bool gone) := by
  obtain ⟨A, c, rfl, h1, h2, h3⟩ := h
  refine ⟨A, c, rfl, h2, h1, fun k hk => ?_⟩
  obtain ⟨b, off, rfl, hb, hat⟩ := h3 k _ (List.getElem?_eq_getElem hk)
  exact ⟨zs[k].path, zs[k].bytes, zs[k].gone, b, off, List.getElem?_eq_getElem hk, rfl, hb, hat 0 _ rfl, hat 1 _ rfl, hat 2 _ rfl⟩

theorem szTreEdit_calls (path : ByteArray) (bytes : ByteArray) (gone : Bool) (l : Int) (w : World) (hpath : path.size ≤ maxLen) (hbytes : bytes.size ≤ maxLen) (h0 : 0 ≤ l) (h1 : l ≤ 1048576) :
    Calls Tryd.prog 67 #[.agg #[.string path, .string bytes, .bool gone], .int .i64 l] w fun e w' => e = .returned (.int .i64 (szR l (path.size + bytes.size))) ∧ Below w.heap.size w w' := by
  unfold maxLen at hpath hbytes
  by_cases gpath : l < path.size
  · rw [szR_no (by omega)]
    go_enter Tryd.func67, Tryd.ntmps67
    go_wp2
    go_ret
    exact ⟨rfl, al (below0 w) _⟩
  by_cases gbytes : l - path.size < bytes.size
  · rw [szR_no (by omega)]
    go_enter Tryd.func67, Tryd.ntmps67
    go_wp2
    go_ret
    exact ⟨rfl, al (below0 w) _⟩
  rw [szR_yes (by omega)]
  go_enter Tryd.func67, Tryd.ntmps67
  go_wp2
  go_ret
  exact ⟨ret_i (by omega), al (below0 w) _⟩

set_option maxHeartbeats 400000 in
theorem szTreEditS_calls (v : Value) (zs : List TEdit) (L : Int) (w : World) (hv : Sl 3 editC w v zs) (ht : ∀ z ∈ zs, z.path.size ≤ maxLen ∧ z.bytes.size ≤ maxLen) (h0 : 0 ≤ L) (h1 : L ≤ 1048576) :
    Calls Tryd.prog 34 #[v, .int .i64 L] w fun e w' => e = .returned (.int .i64 (szR L (zs.length + wsum editT zs))) ∧ Below w.heap.size w w' := by
  obtain ⟨A, c, rfl, hc, hlc, hat⟩ := edit_at hv
  unfold maxLen at hc
  by_cases hL : L < zs.length
  · rw [szR_no (by omega)]
    go_enter Tryd.func34, Tryd.ntmps34
    go_wp2
    go_ret
    exact ⟨rfl, Below.refl _ _⟩
  · go_enter Tryd.func34, Tryd.ntmps34
    go_wp2
    go_loopw [1, 5] (fun l i wr => ∃ k : Nat, k ≤ zs.length ∧ i = .int .i64 k ∧ l = .int .i64 (L - zs.length - wsum editT (zs.take k)) ∧ (0 : Int) ≤ L - zs.length - wsum editT (zs.take k) ∧ Below w.heap.size w wr) (fun _ i _ => zs.length - (intOf i).toNat)
    case atStart => exact ⟨0, Nat.zero_le _, rfl, by simp [wsum], by simp [wsum]; omega, Below.refl _ _⟩
    case round =>
      obtain ⟨k, hk, rfl, rfl, hge, hnx⟩ := hrel
      by_cases hlt : k < zs.length
      · obtain ⟨path, bytes, gone, b, off, hz, rfl, hb, c0, c1, c2⟩ := hat k hlt
        have hs := ht _ (List.mem_of_getElem? hz)
        have d0 := (hnx.cell (p := ⟨b, off + k * 3, none⟩) hb).trans c0
        have d1 := (hnx.cell (p := ⟨b, off + k * 3 + 1, none⟩) hb).trans c1
        have d2 := (hnx.cell (p := ⟨b, off + k * 3 + 2, none⟩) hb).trans c2
        have st := Lib.hid (wsum_step (f := editT) hz)
        have le := wsum_le (f := editT) (zs := zs) (k + 1)
        by_cases hf : L - zs.length - wsum editT (zs.take k) < (path.size + bytes.size : Nat)
        · go_wp2_with fail
          refine (szTreEdit_calls path bytes gone _ _ hs.1 hs.2 hge (by omega)).mono ?_
          rintro e w1 ⟨rfl, hb1⟩
          rw [szR_no hf]
          go_wp2
          go_ret
          have e1 := st.out
          simp only [editT] at e1
          exact ⟨ret_i (by rw [szR_no]; omega), hnx.trans (hb1.mono hnx.size)⟩
        · go_wp2_with fail
          refine (szTreEdit_calls path bytes gone _ _ hs.1 hs.2 hge (by omega)).mono ?_
          rintro e w1 ⟨rfl, hb1⟩
          rw [szR_yes (by omega)]
          go_wp2
          go_roundw
          have e1 := st.out
          simp only [editT] at e1
          case rel => exact ⟨k + 1, by omega, by go_num, by rw [e1]; go_num, by rw [e1]; omega, hnx.trans (hb1.mono hnx.size)⟩
          case measure => simp [intOf]; omega
      · have e1 := Lib.hid (wsum_all (f := editT) hlt)
        go_wp2
        go_ret
        have e2 := e1.out
        exact ⟨ret_i (by rw [szR_yes (by omega), e2]; omega), hnx⟩

theorem Tryd.infoEdit : (Tryd.prog.info? 49).map (fun i => (i.zero, i.size, i.bytes)) = some (some (.agg #[.string ByteArray.empty, .string ByteArray.empty, .bool false]), 3, 40) := by kernel_rfl
theorem editZ : (Value.agg #[.string ByteArray.empty, .string ByteArray.empty, .bool false]).cells = (editC ⟨ByteArray.empty, ByteArray.empty, false⟩).toArray := rfl
theorem toTreEdit_calls (path : ByteArray) (bytes : ByteArray) (gone : Bool) (w : World) :
    Calls Tryd.prog 68 #[.agg #[.string path, .string bytes, .bool gone]] w fun e w' => e = .returned (.agg #[.string path, .string bytes, .bool gone]) ∧ Below w.heap.size w w' := by
  go_enter Tryd.func68, Tryd.ntmps68
  go_wp2
  exact bodyPost_ret (v := .agg #[.string path, .string bytes, .bool gone]) (by simp [results, Tryd.results68, go_sem]) rfl ⟨rfl, al (al (al (below0 w) _) _) _⟩

set_option maxRecDepth 100000 in
set_option maxHeartbeats 400000 in
theorem toTreEditS_calls (u : Value) (zs : List TEdit) (w : World) (hu : Sl 3 editC w u zs) (hn : zs.length ≤ 1048576) :
    Calls Tryd.prog 35 #[u] w (RetOwn 3 editC 49 zs w) := by
  obtain ⟨i0, hi, hz0, hz1, hz2⟩ := info_parts Tryd.infoEdit
  obtain ⟨A, c, rfl, hc, hlc, hat⟩ := edit_at hu
  unfold maxLen at hc
  go_enter Tryd.func35, Tryd.ntmps35
  go_wp2_with (at_make; refine wpList_make_full _ rfl _ _ 47 rfl w.heap.size 49 i0 _ 3 Tryd.underlying47 hi hz0 hz1 .i64 .i64 _ _ zs.length rfl rfl rfl rfl (by rw [hz2]; omega) (by unfold maxLen; omega) (Nat.le_refl _) ?_; intro w0 hown0 hgrow0)
  rw [editZ, made_flat editC_len (by omega)] at hown0
  have hb0 := below_of_grown hgrow0
  have hg0 : w.heap.size < w0.heap.size := (hown0.lt w.heap.size rfl).2
  go_loopw [4] (fun i wr => ∃ k : Nat, k ≤ zs.length ∧ i = .int .i64 k ∧ wr.ownsRow w.heap.size 49 3 (.slice (some ⟨w.heap.size, 0, none⟩) zs.length zs.length) zs.length ((zs.take k ++ List.replicate (zs.length - k) (⟨ByteArray.empty, ByteArray.empty, false⟩ : TEdit)).flatMap editC) ∧ Below w.heap.size w wr ∧ w.heap.size < wr.heap.size) (fun i _ => zs.length - (intOf i).toNat)
  case atStart => exact ⟨0, Nat.zero_le _, rfl, by simpa using hown0, hb0, hg0⟩
  case round =>
    obtain ⟨k, hk, rfl, hown, hnx, hgr⟩ := hrel
    by_cases hlt : k < zs.length
    · obtain ⟨path, bytes, gone, b, off, hz, rfl, hb, c0, c1, c2⟩ := hat k hlt
      have d0 := (hnx.cell (p := ⟨b, off + k * 3, none⟩) hb).trans c0
      have d1 := (hnx.cell (p := ⟨b, off + k * 3 + 1, none⟩) hb).trans c1
      have d2 := (hnx.cell (p := ⟨b, off + k * 3 + 2, none⟩) hb).trans c2
      have HZ := Lib.hid hz
      clear hat c0 c1 c2 hz
      go_wp2_with fail
      refine (toTreEdit_calls path bytes gone _).mono ?_
      rintro e w1 ⟨rfl, hb1⟩
      have hown1 := World.ownsRow.kept hown (grown_of_below hb1 none) (.inr (by simp [Value.ownBlock]))
      obtain ⟨⟨x0, e0⟩, f0⟩ := own2 editC_len hown1 (by simp; omega) hlt 0 (by omega)
      obtain ⟨⟨x1, e1⟩, f1⟩ := own2 editC_len hown1 (by simp; omega) hlt 1 (by omega)
      obtain ⟨⟨x2, e2⟩, f2⟩ := own2 editC_len hown1 (by simp; omega) hlt 2 (by omega)
      simp only [Nat.add_zero] at e0 f0
      go_wp2
      go_roundw
      case rel => exact ⟨k + 1, by omega, by go_num, own_put3 editC_len hown1 HZ.out rfl, ((((hnx.trans (hb1.mono hnx.size)).setCell (Nat.le_refl _) _).setCell (Nat.le_refl _) _).setCell (Nat.le_refl _) _), by have := hb1.size; simp [World.setCell]; omega⟩
      case measure => simp [intOf]; omega
    · go_wp2
      go_ret
      refine ⟨_, rfl, ?_, hnx⟩
      rw [List.take_of_length_le (by omega), show zs.length - k = 0 by omega, List.replicate_zero, List.append_nil] at hown
      exact hown

theorem eqTreEdit_calls (path : ByteArray) (bytes : ByteArray) (gone : Bool) (w : World) :
    Calls Tryd.prog 69 #[.agg #[.string path, .string bytes, .bool gone], .agg #[.string path, .string bytes, .bool gone]] w fun e w' => e = .returned (.bool true) ∧ Below w.heap.size w w' := by
  go_enter Tryd.func69, Tryd.ntmps69
  go_wp2
  go_ret
  exact ⟨rfl, al (al (below0 w) _) _⟩

set_option maxRecDepth 100000 in
theorem eqTreEditS_calls (u v : Value) (zs : List TEdit) (w : World) (hu : Sl 3 editC w u zs) (hv : Sl 3 editC w v zs) :
    Calls Tryd.prog 36 #[u, v] w fun e w' => e = .returned (.bool true) ∧ Below w.heap.size w w' := by
  obtain ⟨A, c, rfl, hc, hlc, hat⟩ := edit_at hu
  obtain ⟨A', c', rfl, hc', hlc', hat'⟩ := edit_at hv
  unfold maxLen at hc hc'
  go_enter Tryd.func36, Tryd.ntmps36
  go_wp2
  go_loopw [5] (fun i wr => ∃ k : Nat, k ≤ zs.length ∧ i = .int .i64 k ∧ Below w.heap.size w wr) (fun i _ => zs.length - (intOf i).toNat)
  case atStart => exact ⟨0, Nat.zero_le _, rfl, Below.refl _ _⟩
  case round =>
    obtain ⟨k, hk, rfl, hnx⟩ := hrel
    by_cases hlt : k < zs.length
    · obtain ⟨path, bytes, gone, b, off, hz, rfl, hb, c0, c1, c2⟩ := hat k hlt
      obtain ⟨path', bytes', gone', b', off', hz', rfl, hb', c0', c1', c2'⟩ := hat' k hlt
      rw [hz] at hz'
      simp only [Option.some.injEq, TEdit.mk.injEq] at hz'
      obtain ⟨rfl, rfl, rfl⟩ := hz'
      have d0 := (hnx.cell (p := ⟨b, off + k * 3, none⟩) hb).trans c0
      have d1 := (hnx.cell (p := ⟨b, off + k * 3 + 1, none⟩) hb).trans c1
      have d2 := (hnx.cell (p := ⟨b, off + k * 3 + 2, none⟩) hb).trans c2
      have d0' := (hnx.cell (p := ⟨b', off' + k * 3, none⟩) hb').trans c0'
      have d1' := (hnx.cell (p := ⟨b', off' + k * 3 + 1, none⟩) hb').trans c1'
      have d2' := (hnx.cell (p := ⟨b', off' + k * 3 + 2, none⟩) hb').trans c2'
      clear hat hat' c0 c1 c2 c0' c1' c2' hz
      have h0 : (0 : Int) ≤ (k : Int) := Int.natCast_nonneg _
      have hl : (k : Int) < (zs.length : Int) := by omega
      go_wp2_with fail
      go_still_tail 8, (by kernel_rfl)
      change wpList _ _ _ _ _ wr.drew
      go_wp2_with fail
      refine (eqTreEdit_calls path bytes gone _).mono ?_
      rintro e w1 ⟨rfl, hb1⟩
      go_wp2
      go_roundw
      case rel => exact ⟨k + 1, by omega, by go_num, (hnx.drew).trans (hb1.mono hnx.size)⟩
      case measure => simp [intOf]; omega
    · go_wp2
      go_ret
      exact ⟨rfl, hnx⟩
end Go.Proofs.YtkghhmjmfcnbnaaDoor
