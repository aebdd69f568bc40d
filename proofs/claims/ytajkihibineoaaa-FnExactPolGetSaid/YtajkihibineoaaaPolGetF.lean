/- The search in a pool: impl.place, spec.l3At, impl.PolGet, spec.PolGet. -/
import Derived.Test.YtajkihibineoaaaPol3
namespace Go.Proofs.Ytajkihibineoaaa
open Go.RowKit

/-- the id at a place, 0 for none -/
def idAt (zs : List (Int × ByteArray)) (m : Nat) : Int := match zs[m]? with | some p => p.1 | none => 0
theorem idAt_of {zs : List (Int × ByteArray)} {m : Nat} {id : Int} {s : ByteArray} (h : zs[m]? = some (id, s)) : idAt zs m = id := by simp [idAt, h]
/-- the search between two places -/
def placeGo (zs : List (Int × ByteArray)) (x : Int) (lo hi : Nat) : Nat :=
  if lo < hi then (if idAt zs ((lo + hi) / 2) < x then placeGo zs x ((lo + hi) / 2 + 1) hi else placeGo zs x lo ((lo + hi) / 2)) else lo
termination_by hi - lo
decreasing_by all_goals omega
theorem placeGo_end {zs : List (Int × ByteArray)} {x : Int} {lo hi : Nat} (h : ¬ lo < hi) : placeGo zs x lo hi = lo := by rw [placeGo, if_neg h]
theorem placeGo_up {zs : List (Int × ByteArray)} {x : Int} {lo hi : Nat} (h : lo < hi) (g : idAt zs ((lo + hi) / 2) < x) : placeGo zs x lo hi = placeGo zs x ((lo + hi) / 2 + 1) hi := by rw [placeGo, if_pos h, if_pos g]
theorem placeGo_down {zs : List (Int × ByteArray)} {x : Int} {lo hi : Nat} (h : lo < hi) (g : ¬ idAt zs ((lo + hi) / 2) < x) : placeGo zs x lo hi = placeGo zs x lo ((lo + hi) / 2) := by rw [placeGo, if_pos h, if_neg g]
theorem placeGo_le {zs : List (Int × ByteArray)} {x : Int} (d : Nat) : ∀ (lo hi : Nat), hi - lo ≤ d → lo ≤ hi → placeGo zs x lo hi ≤ hi := by
  induction d with
  | zero => intro lo hi hd hl; rw [placeGo_end (by omega)]; omega
  | succ d ih =>
    intro lo hi hd hl
    by_cases h : lo < hi
    · by_cases g : idAt zs ((lo + hi) / 2) < x
      · rw [placeGo_up h g]; exact ih _ _ (by omega) (by omega)
      · rw [placeGo_down h g]; have := ih lo ((lo + hi) / 2) (by omega) (by omega); omega
    · rw [placeGo_end h]; exact hl
/-- the place of an id -/
def placeF (zs : List (Int × ByteArray)) (x : Int) : Nat := placeGo zs x 0 zs.length
theorem placeF_le (zs : List (Int × ByteArray)) (x : Int) : placeF zs x ≤ zs.length := placeGo_le _ _ _ (Nat.le_refl _) (Nat.zero_le _)
/-- what PolGet finds -/
def getF (zs : List (Int × ByteArray)) (x : Int) : ByteArray × Bool := match zs[placeF zs x]? with | some p => if p.1 = x then (p.2, true) else (ByteArray.empty, false) | none => (ByteArray.empty, false)
theorem getF_none {zs : List (Int × ByteArray)} {x : Int} (h : ¬ placeF zs x < zs.length) : getF zs x = (ByteArray.empty, false) := by
  unfold getF; rw [List.getElem?_eq_none (by omega)]
theorem getF_yes {zs : List (Int × ByteArray)} {x id : Int} {s : ByteArray} (h : zs[placeF zs x]? = some (id, s)) (g : id = x) : getF zs x = (s, true) := by
  unfold getF; rw [h]; simp [g]
theorem getF_no {zs : List (Int × ByteArray)} {x id : Int} {s : ByteArray} (h : zs[placeF zs x]? = some (id, s)) (g : ¬ id = x) : getF zs x = (ByteArray.empty, false) := by
  unfold getF; rw [h]; simp [g]
theorem ret_sb {a b : ByteArray} {c d : Bool} (h : (a, c) = (b, d)) : Ending.returned (.tuple #[.string a, .bool c]) = .returned (.tuple #[.string b, .bool d]) := by
  simp only [Prod.mk.injEq] at h; rw [h.1, h.2]

set_option maxRecDepth 100000 in
theorem place_calls (u : Value) (zs : List (Int × ByteArray)) (x : Int) (w : World) (hu : Sl 2 polC w u zs) (hn : zs.length ≤ 1048576) :
    Calls Try.prog 66 #[u, .int .i64 x] w fun e w' => e = .returned (.int .i64 (placeF zs x)) ∧ w = w' := by
  obtain ⟨A, c, rfl, hc, hlc, hat⟩ := pol_at hu
  unfold maxLen at hc
  go_enter Try.func66, Try.ntmps66
  go_wp2
  go_loop [5, 6] (fun l h => ∃ lo hi : Nat, l = .int .i64 lo ∧ h = .int .i64 hi ∧ lo ≤ hi ∧ hi ≤ zs.length ∧ placeGo zs x lo hi = placeF zs x) (fun l h => (intOf h).toNat - (intOf l).toNat)
  case atStart => exact ⟨0, zs.length, rfl, rfl, Nat.zero_le _, Nat.le_refl _, rfl⟩
  case round =>
    obtain ⟨lo, hi, rfl, rfl, h1, h2, hgo⟩ := hrel
    have HG := Lib.hid hgo
    clear hgo
    by_cases hlt : lo < hi
    · obtain ⟨id, s, b, off, hz, rfl, hb, c0, c1⟩ := hat ((lo + hi) / 2) (by omega)
      have hid := idAt_of hz
      have hm1 : lo ≤ (lo + hi) / 2 := by omega
      have hm2 : (lo + hi) / 2 < hi := by omega
      by_cases hg : id < x
      · have hup := placeGo_up (zs := zs) (x := x) hlt (by rw [hid]; exact hg)
        have HU := Lib.hid hup
        clear hat hz hid hup c1
        go_wp2
        go_round
        case rel => exact ⟨(lo + hi) / 2 + 1, hi, by go_num, rfl, by omega, by omega, by rw [← HU.out]; exact HG.out⟩
        case measure => simp [intOf]; omega
      · have hup := placeGo_down (zs := zs) (x := x) hlt (by rw [hid]; exact hg)
        have HU := Lib.hid hup
        clear hat hz hid hup c1
        go_wp2
        go_round
        case rel => exact ⟨lo, (lo + hi) / 2, rfl, by go_num, by omega, by omega, by rw [← HU.out]; exact HG.out⟩
        case measure => simp [intOf]; omega
    · have he := placeGo_end (zs := zs) (x := x) hlt
      have HE := Lib.hid he
      clear he
      go_wp2
      go_ret
      exact ⟨ret_i (by rw [← HG.out, HE.out]), rfl⟩

set_option maxRecDepth 100000 in
theorem l3At_calls (u : Value) (zs : List (Int × ByteArray)) (x : Int) (w : World) (hu : Sl 2 polC w u zs) (hn : zs.length ≤ 1048576) :
    Calls Try.prog 65 #[u, .int .i64 x] w fun e w' => e = .returned (.int .i64 (placeF zs x)) ∧ w = w' := by
  obtain ⟨A, c, rfl, hc, hlc, hat⟩ := pol_at hu
  unfold maxLen at hc
  go_enter Try.func65, Try.ntmps65
  go_wp2
  go_loop [5, 6] (fun l h => ∃ lo hi : Nat, l = .int .i64 lo ∧ h = .int .i64 hi ∧ lo ≤ hi ∧ hi ≤ zs.length ∧ placeGo zs x lo hi = placeF zs x) (fun l h => (intOf h).toNat - (intOf l).toNat)
  case atStart => exact ⟨0, zs.length, rfl, rfl, Nat.zero_le _, Nat.le_refl _, rfl⟩
  case round =>
    obtain ⟨lo, hi, rfl, rfl, h1, h2, hgo⟩ := hrel
    have HG := Lib.hid hgo
    clear hgo
    by_cases hlt : lo < hi
    · obtain ⟨id, s, b, off, hz, rfl, hb, c0, c1⟩ := hat ((lo + hi) / 2) (by omega)
      have hid := idAt_of hz
      have hm1 : lo ≤ (lo + hi) / 2 := by omega
      have hm2 : (lo + hi) / 2 < hi := by omega
      by_cases hg : id < x
      · have hup := placeGo_up (zs := zs) (x := x) hlt (by rw [hid]; exact hg)
        have HU := Lib.hid hup
        clear hat hz hid hup c1
        go_wp2
        go_round
        case rel => exact ⟨(lo + hi) / 2 + 1, hi, by go_num, rfl, by omega, by omega, by rw [← HU.out]; exact HG.out⟩
        case measure => simp [intOf]; omega
      · have hup := placeGo_down (zs := zs) (x := x) hlt (by rw [hid]; exact hg)
        have HU := Lib.hid hup
        clear hat hz hid hup c1
        go_wp2
        go_round
        case rel => exact ⟨lo, (lo + hi) / 2, rfl, by go_num, by omega, by omega, by rw [← HU.out]; exact HG.out⟩
        case measure => simp [intOf]; omega
    · have he := placeGo_end (zs := zs) (x := x) hlt
      have HE := Lib.hid he
      clear he
      go_wp2
      go_ret
      exact ⟨ret_i (by rw [← HG.out, HE.out]), rfl⟩

set_option maxRecDepth 100000 in
theorem polGet_impl_calls (u : Value) (zs : List (Int × ByteArray)) (x : Int) (w : World) (hu : Sl 2 polC w u zs) (hn : zs.length ≤ 1048576) :
    Calls Try.prog 38 #[u, .int .i64 x] w fun e w' => e = .returned (.tuple #[.string (getF zs x).1, .bool (getF zs x).2]) ∧ w = w' := by
  have hpl := place_calls u zs x w hu hn
  have HP := Lib.hid hpl
  clear hpl
  obtain ⟨A, c, rfl, hc, hlc, hat⟩ := pol_at hu
  unfold maxLen at hc
  have hle := placeF_le zs x
  by_cases hlt : placeF zs x < zs.length
  · obtain ⟨id, s, b, off, hz, rfl, hb, c0, c1⟩ := hat _ hlt
    by_cases hg : id = x
    · have hf := getF_yes hz hg
      rw [hf]
      clear hat hz hf
      go_enter Try.func38, Try.ntmps38
      go_wp2_with fail
      refine HP.out.mono ?_
      rintro e w' ⟨rfl, rfl⟩
      go_wp2
      go_ret2
      exact ⟨rfl, rfl⟩
    · have hq1 : ((placeF zs x : Int) == (zs.length : Int)) = false := by simp; omega
      have hq2 : (id != x) = true := by simpa using hg
      have hf := getF_no hz hg
      rw [hf]
      clear hat hz hf
      go_enter Try.func38, Try.ntmps38
      go_wp2_with fail
      refine HP.out.mono ?_
      rintro e w' ⟨rfl, rfl⟩
      go_wp2
      go_ret2
      exact ⟨rfl, rfl⟩
  · have hf := getF_none hlt
    rw [hf]
    clear hat hf
    go_enter Try.func38, Try.ntmps38
    go_wp2_with fail
    refine HP.out.mono ?_
    rintro e w' ⟨rfl, rfl⟩
    go_wp2
    go_ret2
    exact ⟨rfl, rfl⟩

set_option maxRecDepth 100000 in
theorem polGet_spec_calls (u : Value) (zs : List (Int × ByteArray)) (x : Int) (w : World) (hu : Sl 2 polC w u zs) (hn : zs.length ≤ 1048576) :
    Calls Try.prog 37 #[u, .int .i64 x] w fun e w' => e = .returned (.tuple #[.string (getF zs x).1, .bool (getF zs x).2]) ∧ w = w' := by
  have hpl := l3At_calls u zs x w hu hn
  have HP := Lib.hid hpl
  clear hpl
  obtain ⟨A, c, rfl, hc, hlc, hat⟩ := pol_at hu
  unfold maxLen at hc
  have hle := placeF_le zs x
  by_cases hlt : placeF zs x < zs.length
  · obtain ⟨id, s, b, off, hz, rfl, hb, c0, c1⟩ := hat _ hlt
    by_cases hg : id = x
    · have hf := getF_yes hz hg
      rw [hf]
      clear hat hz hf
      go_enter Try.func37, Try.ntmps37
      go_wp2_with fail
      refine HP.out.mono ?_
      rintro e w' ⟨rfl, rfl⟩
      go_wp2
      go_ret2
      exact ⟨rfl, rfl⟩
    · have hq1 : ((placeF zs x : Int) == (zs.length : Int)) = false := by simp; omega
      have hq2 : (id != x) = true := by simpa using hg
      have hf := getF_no hz hg
      rw [hf]
      clear hat hz hf
      go_enter Try.func37, Try.ntmps37
      go_wp2_with fail
      refine HP.out.mono ?_
      rintro e w' ⟨rfl, rfl⟩
      go_wp2
      go_ret2
      exact ⟨rfl, rfl⟩
  · have hf := getF_none hlt
    rw [hf]
    clear hat hf
    go_enter Try.func37, Try.ntmps37
    go_wp2_with fail
    refine HP.out.mono ?_
    rintro e w' ⟨rfl, rfl⟩
    go_wp2
    go_ret2
    exact ⟨rfl, rfl⟩

end Go.Proofs.Ytajkihibineoaaa
