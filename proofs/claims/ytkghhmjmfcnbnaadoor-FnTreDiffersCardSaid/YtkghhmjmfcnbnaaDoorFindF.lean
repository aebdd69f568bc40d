/- The search for a path among files: spec.l4Find, impl.find with slices.IndexFunc, and TreFind of both. -/
import Derived.Test.YtkghhmjmfcnbnaaDoorFileH
import Derived.Test.YtkghhmjmfcnbnaaDoorStr
namespace Go.Proofs.YtkghhmjmfcnbnaaDoor
open Go.RowKit

/-- the place of the first file at a path, -1 for none -/
def findI (zs : List TFile) (q : ByteArray) : Int := match zs.findIdx? (fun z => decide (z.path = q)) with | some i => (i : Int) | none => -1
theorem findI_hit {zs : List TFile} {q : ByteArray} {k : Nat} {f : TFile} (hz : zs[k]? = some f) (h : f.path = q) (hall : ∀ z ∈ zs.take k, ¬ z.path = q) : findI zs q = k := by
  obtain ⟨hlt, hv⟩ := List.getElem?_eq_some_iff.1 hz
  have : zs.findIdx? (fun z => decide (z.path = q)) = some k := by
    rw [List.findIdx?_eq_some_iff_getElem]
    refine ⟨hlt, by rw [hv]; simpa using h, fun j hj => ?_⟩
    have := hall (zs[j]'(by omega)) (List.mem_take_iff_getElem.2 ⟨j, by omega, rfl⟩)
    simpa using this
  simp [findI, this]
theorem findI_none {zs : List TFile} {q : ByteArray} (hall : ∀ z ∈ zs, ¬ z.path = q) : findI zs q = -1 := by
  have : zs.findIdx? (fun z => decide (z.path = q)) = none := by
    rw [List.findIdx?_eq_none_iff]
    intro z hz
    simpa using hall z hz
  simp [findI, this]
theorem not_step {zs : List TFile} {q : ByteArray} {k : Nat} {f : TFile} (hz : zs[k]? = some f) (h : ¬ f.path = q) (hall : ∀ z ∈ zs.take k, ¬ z.path = q) : ∀ z ∈ zs.take (k + 1), ¬ z.path = q := by
  rw [take_one hz]
  intro z hz
  rcases List.mem_append.1 hz with h1 | h1
  · exact hall z h1
  · simp at h1; subst h1; exact h
/-- no file of the first k lies at the path -/
def NotIn (zs : List TFile) (q : ByteArray) (k : Nat) : Prop := ∀ z ∈ zs.take k, ¬ z.path = q

theorem l4Find_calls (u : Value) (zs : List TFile) (q : ByteArray) (w : World) (hu : Sl 2 fileC w u zs) (_hn : zs.length ≤ 1048576) :
    Calls Tryd.prog 59 #[u, .string q] w fun e w' => e = .returned (.int .i64 (findI zs q)) ∧ w = w' := by
  obtain ⟨A, c, rfl, hc, hlc, hat⟩ := file_at hu
  unfold maxLen at hc
  go_enter Tryd.func59, Tryd.ntmps59
  go_wp2
  go_loop [5] (fun i => ∃ k : Nat, k ≤ zs.length ∧ i = .int .i64 k ∧ NotIn zs q k) (fun i => zs.length - (intOf i).toNat)
  case atStart => exact ⟨0, Nat.zero_le _, rfl, fun z hz => by simp at hz⟩
  case round =>
    obtain ⟨k, hk, rfl, hall⟩ := hrel
    by_cases hlt : k < zs.length
    · obtain ⟨p, s, b, off, hz, rfl, hb, c0, c1⟩ := hat k hlt
      by_cases hp : p = q
      · have hbq := beq_of_eq hp
        have HF := Lib.hid (findI_hit hz hp hall)
        clear hat hz c1 hp hall
        go_wp2
        go_ret
        exact ⟨ret_i HF.out.symm, rfl⟩
      · have hbq := beq_of_ne hp
        have HF : Hid (NotIn zs q (k + 1)) := not_step hz hp hall
        clear hat hz c1 hp hall
        go_wp2
        go_round
        case rel => exact ⟨k + 1, by omega, by go_num, HF.out⟩
        case measure => simp [intOf]; omega
    · have HF : Hid (findI zs q = -1) := findI_none (by unfold NotIn at hall; rwa [List.take_of_length_le (by omega)] at hall)
      clear hall
      go_wp2
      go_ret
      exact ⟨ret_i HF.out.symm, rfl⟩

theorem find1_calls (p s q : ByteArray) (g : Nat) (w : World) (hg : w.cell? ⟨g, 0, none⟩ = some (.string q)) (hlt : g < w.heap.size) :
    Calls Tryd.prog 81 #[.agg #[.string p, .string s], .pointer (some ⟨g, 0, none⟩)] w fun e w' => e = .returned (.bool (p.toList == q.toList)) ∧ Below w.heap.size w w' := by
  go_enter Tryd.func81, Tryd.ntmps81
  go_wp2
  go_ret
  exact ⟨rfl, al (below0 w) _⟩

set_option maxRecDepth 100000 in
theorem indexFunc_calls (u : Value) (zs : List TFile) (q : ByteArray) (g : Nat) (w : World) (hg : w.cell? ⟨g, 0, none⟩ = some (.string q)) (hgl : g < w.heap.size) (hu : Sl 2 fileC w u zs) (_hn : zs.length ≤ 1048576) :
    Calls Tryd.prog 80 #[u, .func (.func 81) #[] #[.pointer (some ⟨g, 0, none⟩)]] w fun e w' => e = .returned (.int .i64 (findI zs q)) ∧ Below w.heap.size w w' := by
  obtain ⟨A, c, rfl, hc, hlc, hat⟩ := file_at hu
  unfold maxLen at hc
  go_enter Tryd.func80, Tryd.ntmps80
  go_wp2
  go_loopw [8] (fun i wr => ∃ k : Nat, k ≤ zs.length ∧ i = .int .i64 k ∧ NotIn zs q k ∧ Below w.heap.size w wr) (fun i _ => zs.length - (intOf i).toNat)
  case atStart => exact ⟨0, Nat.zero_le _, rfl, fun z hz => by simp at hz, below0 w⟩
  case round =>
    obtain ⟨k, hk, rfl, hall, hnx⟩ := hrel
    by_cases hlt : k < zs.length
    · obtain ⟨p, s, b, off, hz, rfl, hb, c0, c1⟩ := hat k hlt
      have d0 := (hnx.cell (p := ⟨b, off + k * 2, none⟩) hb).trans c0
      have d1 := (hnx.cell (p := ⟨b, off + k * 2 + 1, none⟩) hb).trans c1
      have dg := (hnx.cell (p := ⟨g, 0, none⟩) hgl).trans hg
      by_cases hp : p = q
      · have hbq := beq_of_eq hp
        have HF := Lib.hid (findI_hit hz hp hall)
        clear hat hz c0 c1 hp hall
        go_wp2_with fail
        refine (find1_calls p s q g _ dg (Nat.lt_of_lt_of_le hgl hnx.size)).mono ?_
        rintro e w1 ⟨rfl, hb1⟩
        go_wp2
        go_ret
        exact ⟨ret_i HF.out.symm, below_up hnx hb1⟩
      · have hbq := beq_of_ne hp
        have HF : Hid (NotIn zs q (k + 1)) := not_step hz hp hall
        clear hat hz c0 c1 hp hall
        go_wp2_with fail
        refine (find1_calls p s q g _ dg (Nat.lt_of_lt_of_le hgl hnx.size)).mono ?_
        rintro e w1 ⟨rfl, hb1⟩
        go_wp2
        go_roundw
        case rel => exact ⟨k + 1, by omega, by go_num, HF.out, below_up hnx hb1⟩
        case measure => simp [intOf]; omega
    · have HF : Hid (findI zs q = -1) := findI_none (by unfold NotIn at hall; rwa [List.take_of_length_le (by omega)] at hall)
      clear hall
      go_wp2
      go_ret
      exact ⟨ret_i HF.out.symm, hnx⟩

theorem find_calls (u : Value) (zs : List TFile) (q : ByteArray) (w : World) (hu : Sl 2 fileC w u zs) (hn : zs.length ≤ 1048576) :
    Calls Tryd.prog 57 #[u, .string q] w fun e w' => e = .returned (.int .i64 (findI zs q)) ∧ Below w.heap.size w w' := by
  go_enter Tryd.func57, Tryd.ntmps57
  go_wp2_with fail
  refine (indexFunc_calls u zs q w.heap.size _ (by simp) (by simp) (hu.below (al (below0 w) _)) hn).mono ?_
  rintro e w1 ⟨rfl, hb1⟩
  go_wp2
  go_ret
  exact ⟨rfl, below_up (al (below0 w) _) hb1⟩

/-- what TreFind finds -/
def fgetF (zs : List TFile) (q : ByteArray) : ByteArray × Bool := match zs.find? (fun z => decide (z.path = q)) with | some f => (f.bytes, true) | none => (ByteArray.empty, false)
theorem findI_cases (zs : List TFile) (q : ByteArray) : (findI zs q = -1 ∧ fgetF zs q = (ByteArray.empty, false)) ∨ ∃ k f, zs[k]? = some f ∧ findI zs q = (k : Nat) ∧ fgetF zs q = (f.bytes, true) := by
  unfold findI fgetF
  cases h : zs.findIdx? (fun z => decide (z.path = q)) with
  | none =>
    left
    have : zs.find? (fun z => decide (z.path = q)) = none := by
      rw [List.findIdx?_eq_none_iff] at h
      rw [List.find?_eq_none]
      intro z hz
      simpa using h z hz
    simp [this]
  | some k =>
    right
    have h2 := List.findIdx?_eq_some_iff_getElem.1 h
    obtain ⟨hlt, hp, hmin⟩ := h2
    refine ⟨k, zs[k], List.getElem?_eq_getElem hlt, rfl, ?_⟩
    have : zs.find? (fun z => decide (z.path = q)) = some zs[k] := by
      rw [List.find?_eq_some_iff_getElem]
      exact ⟨hp, k, hlt, rfl, fun j hj => by simpa using hmin j hj⟩
    simp [this]
theorem ret_sb2 {a b : ByteArray} {c d : Bool} (h : (a, c) = (b, d)) : Ending.returned (.tuple #[.string a, .bool c]) = .returned (.tuple #[.string b, .bool d]) := by
  simp only [Prod.mk.injEq] at h; rw [h.1, h.2]

theorem treFind_impl_calls (u : Value) (zs : List TFile) (q : ByteArray) (w : World) (hu : Sl 2 fileC w u zs) (hn : zs.length ≤ 1048576) :
    Calls Tryd.prog 27 #[u, .string q] w fun e w' => e = .returned (.tuple #[.string (fgetF zs q).1, .bool (fgetF zs q).2]) ∧ Below w.heap.size w w' := by
  have HP := Lib.hid (find_calls u zs q w hu hn)
  rcases findI_cases zs q with ⟨h1, h2⟩ | ⟨k, f, hz, h1, h2⟩
  · rw [h1] at HP
    rw [h2]
    go_enter Tryd.func27, Tryd.ntmps27
    go_wp2_with fail
    refine HP.out.mono ?_
    rintro e w1 ⟨rfl, hb1⟩
    go_wp2
    go_ret2
    exact ⟨rfl, hb1⟩
  · rw [h1] at HP
    rw [h2]
    obtain ⟨A, c, rfl, hc, hlc, hat⟩ := file_at hu
    unfold maxLen at hc
    have hkl := (List.getElem?_eq_some_iff.1 hz).1
    obtain ⟨p, s, b, off, hz', rfl, hb, c0, c1⟩ := hat k hkl
    rw [hz] at hz'
    simp only [Option.some.injEq] at hz'
    subst hz'
    clear hat h1 h2 hz
    go_enter Tryd.func27, Tryd.ntmps27
    go_wp2_with fail
    refine HP.out.mono ?_
    rintro e w1 ⟨rfl, hb1⟩
    have d1 := (hb1.cell (p := ⟨b, off + k * 2 + 1, none⟩) hb).trans c1
    go_wp2
    go_ret2
    exact ⟨rfl, hb1⟩
end Go.Proofs.YtkghhmjmfcnbnaaDoor
