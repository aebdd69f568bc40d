/- The helpers of the laws over []TreFile: layout, sizes, copies, equality. By program (gen_help.py). -/
import Derived.Test.YtkghhmjmfcnbnaaDoorBase
import Derived.Test.YtkghhmjmfcnbnaaDoorMem
import Derived.Test.YtkghhmjmfcnbnaaDoorSum
import Derived.StillTailTactics
namespace Go.Proofs.YtkghhmjmfcnbnaaDoor
open Go.RowKit

structure TFile where
  path : ByteArray
  bytes : ByteArray
def fileC (p : TFile) : List Value := [.string p.path, .string p.bytes]
theorem fileC_len (p : TFile) : (fileC p).length = 2 := rfl
def fileT (p : TFile) : Nat := p.path.size + p.bytes.size
theorem file_at {w : World} {v : Value} {zs : List TFile} (h : Sl 2 fileC w v zs) : ∃ A c, v = .slice A zs.length c ∧ c ≤ maxLen ∧ zs.length ≤ c ∧
    ∀ k, k < zs.length → ∃ path bytes b off, zs[k]? = some ⟨path, bytes⟩ ∧ A = some ⟨b, off, none⟩ ∧ b < w.heap.size ∧ w.cell? ⟨b, off + k * 2, none⟩ = some (.string path) ∧ w.cell? ⟨b, off + k * 2 + 1, none⟩ = some (.string bytes) := by
  obtain ⟨A, c, rfl, h1, h2, h3⟩ := h
  refine ⟨A, c, rfl, h2, h1, fun k hk => ?_⟩
  obtain ⟨b, off, rfl, hb, hat⟩ := h3 k _ (List.getElem?_eq_getElem hk)
  exact ⟨zs[k].path, zs[k].bytes, b, off, List.getElem?_eq_getElem hk, rfl, hb, hat 0 _ rfl, hat 1 _ rfl⟩

theorem szTreFile_calls (path : ByteArray) (bytes : ByteArray) (l : Int) (w : World) (hpath : path.size ≤ maxLen) (hbytes : bytes.size ≤ maxLen) (h0 : 0 ≤ l) (h1 : l ≤ 1048576) :
    Calls Tryd.prog 39 #[.agg #[.string path, .string bytes], .int .i64 l] w fun e w' => e = .returned (.int .i64 (szR l (path.size + bytes.size))) ∧ Below w.heap.size w w' := by
  unfold maxLen at hpath hbytes
  by_cases gpath : l < path.size
  · rw [szR_no (by omega)]
    go_enter Tryd.func39, Tryd.ntmps39
    go_wp2
    go_ret
    exact ⟨rfl, al (below0 w) _⟩
  by_cases gbytes : l - path.size < bytes.size
  · rw [szR_no (by omega)]
    go_enter Tryd.func39, Tryd.ntmps39
    go_wp2
    go_ret
    exact ⟨rfl, al (below0 w) _⟩
  rw [szR_yes (by omega)]
  go_enter Tryd.func39, Tryd.ntmps39
  go_wp2
  go_ret
  exact ⟨ret_i (by omega), al (below0 w) _⟩

set_option maxHeartbeats 400000 in
theorem szTreFileS_calls (v : Value) (zs : List TFile) (L : Int) (w : World) (hv : Sl 2 fileC w v zs) (ht : ∀ z ∈ zs, z.path.size ≤ maxLen ∧ z.bytes.size ≤ maxLen) (h0 : 0 ≤ L) (h1 : L ≤ 1048576) :
    Calls Tryd.prog 8 #[v, .int .i64 L] w fun e w' => e = .returned (.int .i64 (szR L (zs.length + wsum fileT zs))) ∧ Below w.heap.size w w' := by
  obtain ⟨A, c, rfl, hc, hlc, hat⟩ := file_at hv
  unfold maxLen at hc
  by_cases hL : L < zs.length
  · rw [szR_no (by omega)]
    go_enter Tryd.func8, Tryd.ntmps8
    go_wp2
    go_ret
    exact ⟨rfl, Below.refl _ _⟩
  · go_enter Tryd.func8, Tryd.ntmps8
    go_wp2
    go_loopw [1, 5] (fun l i wr => ∃ k : Nat, k ≤ zs.length ∧ i = .int .i64 k ∧ l = .int .i64 (L - zs.length - wsum fileT (zs.take k)) ∧ (0 : Int) ≤ L - zs.length - wsum fileT (zs.take k) ∧ Below w.heap.size w wr) (fun _ i _ => zs.length - (intOf i).toNat)
    case atStart => exact ⟨0, Nat.zero_le _, rfl, by simp [wsum], by simp [wsum]; omega, Below.refl _ _⟩
    case round =>
      obtain ⟨k, hk, rfl, rfl, hge, hnx⟩ := hrel
      by_cases hlt : k < zs.length
      · obtain ⟨path, bytes, b, off, hz, rfl, hb, c0, c1⟩ := hat k hlt
        have hs := ht _ (List.mem_of_getElem? hz)
        have d0 := (hnx.cell (p := ⟨b, off + k * 2, none⟩) hb).trans c0
        have d1 := (hnx.cell (p := ⟨b, off + k * 2 + 1, none⟩) hb).trans c1
        have st := Lib.hid (wsum_step (f := fileT) hz)
        have le := wsum_le (f := fileT) (zs := zs) (k + 1)
        by_cases hf : L - zs.length - wsum fileT (zs.take k) < (path.size + bytes.size : Nat)
        · go_wp2_with fail
          refine (szTreFile_calls path bytes _ _ hs.1 hs.2 hge (by omega)).mono ?_
          rintro e w1 ⟨rfl, hb1⟩
          rw [szR_no hf]
          go_wp2
          go_ret
          have e1 := st.out
          simp only [fileT] at e1
          exact ⟨ret_i (by rw [szR_no]; omega), hnx.trans (hb1.mono hnx.size)⟩
        · go_wp2_with fail
          refine (szTreFile_calls path bytes _ _ hs.1 hs.2 hge (by omega)).mono ?_
          rintro e w1 ⟨rfl, hb1⟩
          rw [szR_yes (by omega)]
          go_wp2
          go_roundw
          have e1 := st.out
          simp only [fileT] at e1
          case rel => exact ⟨k + 1, by omega, by go_num, by rw [e1]; go_num, by rw [e1]; omega, hnx.trans (hb1.mono hnx.size)⟩
          case measure => simp [intOf]; omega
      · have e1 := Lib.hid (wsum_all (f := fileT) hlt)
        go_wp2
        go_ret
        have e2 := e1.out
        exact ⟨ret_i (by rw [szR_yes (by omega), e2]; omega), hnx⟩

theorem Tryd.infoFile : (Tryd.prog.info? 55).map (fun i => (i.zero, i.size, i.bytes)) = some (some (.agg #[.string ByteArray.empty, .string ByteArray.empty]), 2, 32) := by kernel_rfl
theorem fileZ : (Value.agg #[.string ByteArray.empty, .string ByteArray.empty]).cells = (fileC ⟨ByteArray.empty, ByteArray.empty⟩).toArray := rfl
theorem toTreFile_calls (path : ByteArray) (bytes : ByteArray) (w : World) :
    Calls Tryd.prog 43 #[.agg #[.string path, .string bytes]] w fun e w' => e = .returned (.agg #[.string path, .string bytes]) ∧ Below w.heap.size w w' := by
  go_enter Tryd.func43, Tryd.ntmps43
  go_wp2
  exact bodyPost_ret (v := .agg #[.string path, .string bytes]) (by simp [results, Tryd.results43, go_sem]) rfl ⟨rfl, al (al (al (below0 w) _) _) _⟩

set_option maxRecDepth 100000 in
set_option maxHeartbeats 400000 in
theorem toTreFileS_calls (u : Value) (zs : List TFile) (w : World) (hu : Sl 2 fileC w u zs) (hn : zs.length ≤ 1048576) :
    Calls Tryd.prog 10 #[u] w (RetOwn 2 fileC 55 zs w) := by
  obtain ⟨i0, hi, hz0, hz1, hz2⟩ := info_parts Tryd.infoFile
  obtain ⟨A, c, rfl, hc, hlc, hat⟩ := file_at hu
  unfold maxLen at hc
  go_enter Tryd.func10, Tryd.ntmps10
  go_wp2_with (at_make; refine wpList_make_full _ rfl _ _ 26 rfl w.heap.size 55 i0 _ 2 Tryd.underlying26 hi hz0 hz1 .i64 .i64 _ _ zs.length rfl rfl rfl rfl (by rw [hz2]; omega) (by unfold maxLen; omega) (Nat.le_refl _) ?_; intro w0 hown0 hgrow0)
  rw [fileZ, made_flat fileC_len (by omega)] at hown0
  have hb0 := below_of_grown hgrow0
  have hg0 : w.heap.size < w0.heap.size := (hown0.lt w.heap.size rfl).2
  go_loopw [4] (fun i wr => ∃ k : Nat, k ≤ zs.length ∧ i = .int .i64 k ∧ wr.ownsRow w.heap.size 55 2 (.slice (some ⟨w.heap.size, 0, none⟩) zs.length zs.length) zs.length ((zs.take k ++ List.replicate (zs.length - k) (⟨ByteArray.empty, ByteArray.empty⟩ : TFile)).flatMap fileC) ∧ Below w.heap.size w wr ∧ w.heap.size < wr.heap.size) (fun i _ => zs.length - (intOf i).toNat)
  case atStart => exact ⟨0, Nat.zero_le _, rfl, by simpa using hown0, hb0, hg0⟩
  case round =>
    obtain ⟨k, hk, rfl, hown, hnx, hgr⟩ := hrel
    by_cases hlt : k < zs.length
    · obtain ⟨path, bytes, b, off, hz, rfl, hb, c0, c1⟩ := hat k hlt
      have d0 := (hnx.cell (p := ⟨b, off + k * 2, none⟩) hb).trans c0
      have d1 := (hnx.cell (p := ⟨b, off + k * 2 + 1, none⟩) hb).trans c1
      have HZ := Lib.hid hz
      clear hat c0 c1 hz
      go_wp2_with fail
      refine (toTreFile_calls path bytes _).mono ?_
      rintro e w1 ⟨rfl, hb1⟩
      have hown1 := World.ownsRow.kept hown (grown_of_below hb1 none) (.inr (by simp [Value.ownBlock]))
      obtain ⟨⟨x0, e0⟩, f0⟩ := own2 fileC_len hown1 (by simp; omega) hlt 0 (by omega)
      obtain ⟨⟨x1, e1⟩, f1⟩ := own2 fileC_len hown1 (by simp; omega) hlt 1 (by omega)
      simp only [Nat.add_zero] at e0 f0
      go_wp2
      go_roundw
      case rel => exact ⟨k + 1, by omega, by go_num, own_put2 fileC_len hown1 HZ.out rfl, (((hnx.trans (hb1.mono hnx.size)).setCell (Nat.le_refl _) _).setCell (Nat.le_refl _) _), by have := hb1.size; simp [World.setCell]; omega⟩
      case measure => simp [intOf]; omega
    · go_wp2
      go_ret
      refine ⟨_, rfl, ?_, hnx⟩
      rw [List.take_of_length_le (by omega), show zs.length - k = 0 by omega, List.replicate_zero, List.append_nil] at hown
      exact hown

theorem eqTreFile_calls (path : ByteArray) (bytes : ByteArray) (w : World) :
    Calls Tryd.prog 47 #[.agg #[.string path, .string bytes], .agg #[.string path, .string bytes]] w fun e w' => e = .returned (.bool true) ∧ Below w.heap.size w w' := by
  go_enter Tryd.func47, Tryd.ntmps47
  go_wp2
  go_ret
  exact ⟨rfl, al (al (below0 w) _) _⟩

set_option maxRecDepth 100000 in
theorem eqTreFileS_calls (u v : Value) (zs : List TFile) (w : World) (hu : Sl 2 fileC w u zs) (hv : Sl 2 fileC w v zs) :
    Calls Tryd.prog 13 #[u, v] w fun e w' => e = .returned (.bool true) ∧ Below w.heap.size w w' := by
  obtain ⟨A, c, rfl, hc, hlc, hat⟩ := file_at hu
  obtain ⟨A', c', rfl, hc', hlc', hat'⟩ := file_at hv
  unfold maxLen at hc hc'
  go_enter Tryd.func13, Tryd.ntmps13
  go_wp2
  go_loopw [5] (fun i wr => ∃ k : Nat, k ≤ zs.length ∧ i = .int .i64 k ∧ Below w.heap.size w wr) (fun i _ => zs.length - (intOf i).toNat)
  case atStart => exact ⟨0, Nat.zero_le _, rfl, Below.refl _ _⟩
  case round =>
    obtain ⟨k, hk, rfl, hnx⟩ := hrel
    by_cases hlt : k < zs.length
    · obtain ⟨path, bytes, b, off, hz, rfl, hb, c0, c1⟩ := hat k hlt
      obtain ⟨path', bytes', b', off', hz', rfl, hb', c0', c1'⟩ := hat' k hlt
      rw [hz] at hz'
      simp only [Option.some.injEq, TFile.mk.injEq] at hz'
      obtain ⟨rfl, rfl⟩ := hz'
      have d0 := (hnx.cell (p := ⟨b, off + k * 2, none⟩) hb).trans c0
      have d1 := (hnx.cell (p := ⟨b, off + k * 2 + 1, none⟩) hb).trans c1
      have d0' := (hnx.cell (p := ⟨b', off' + k * 2, none⟩) hb').trans c0'
      have d1' := (hnx.cell (p := ⟨b', off' + k * 2 + 1, none⟩) hb').trans c1'
      clear hat hat' c0 c1 c0' c1' hz
      have h0 : (0 : Int) ≤ (k : Int) := Int.natCast_nonneg _
      have hl : (k : Int) < (zs.length : Int) := by omega
      go_wp2_with fail
      go_still_tail 8, (by kernel_rfl)
      change wpList _ _ _ _ _ wr.drew
      go_wp2_with fail
      refine (eqTreFile_calls path bytes _).mono ?_
      rintro e w1 ⟨rfl, hb1⟩
      go_wp2
      go_roundw
      case rel => exact ⟨k + 1, by omega, by go_num, (hnx.drew).trans (hb1.mono hnx.size)⟩
      case measure => simp [intOf]; omega
    · go_wp2
      go_ret
      exact ⟨rfl, hnx⟩
end Go.Proofs.YtkghhmjmfcnbnaaDoor
