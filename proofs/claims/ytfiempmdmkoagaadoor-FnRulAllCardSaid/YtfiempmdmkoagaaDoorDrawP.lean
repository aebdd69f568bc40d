/- The drawing of names and paths. -/
import Derived.Test.YtfiempmdmkoagaaDoorDraw2
namespace Go.Proofs.YtfiempmdmkoagaaDoor
open Go.RowKit

set_option maxRecDepth 100000 in
theorem l20Name_calls (W : World) (g : Nat) (v : Value) (bs : List UInt8) (p : Nat) (w : World) (hr : Rd W g v bs p w) (hp : p ≤ 100000) :
    Calls Tryd.prog 46 #[.pointer (some ⟨g, 0, none⟩)] w (DrawStr W g v bs p 1 3 w) := by
  have hlt := hr.lt
  go_enter Tryd.func46, Tryd.ntmps46
  go_wp2_with fail
  refine (pick_calls W g v bs p 5 _ (Rd.al hr _) (by omega) (by omega) hp).mono ?_
  rintro e w1 ⟨x, hx, rfl, hr1, hg1⟩
  obtain ⟨m, rfl⟩ := Int.eq_ofNat_of_zero_le hx.1
  obtain ⟨s, hs, hsz⟩ := lit_str 3 hg1 hlt rfl (m := m) (by simp; omega)
  have hm : m < 5 := by omega
  have HG := Lib.hid (grown_trans (alloc_grown w _ _) hg1)
  clear hg1
  go_wp2
  go_ret
  exact ⟨s, p + 1, hsz, by omega, rfl, hr1, HG.out⟩
set_option maxRecDepth 100000 in
theorem anyPath_calls (W : World) (g : Nat) (v : Value) (bs : List UInt8) (p : Nat) (n : Int) (w : World) (hr : Rd W g v bs p w) (hp : p ≤ 90000) (hn1 : 1 ≤ n) (hn2 : n ≤ 1000) :
    Calls Tryd.prog 44 #[.pointer (some ⟨g, 0, none⟩), .int .i64 n] w (DrawStr W g v bs p 5 11 w) := by
  have hlt := hr.lt
  go_enter Tryd.func44, Tryd.ntmps44
  go_wp2_with fail
  refine (pick_calls W g v bs p n _ hr (by omega) (by omega) (by omega)).mono ?_
  rintro e w1 ⟨x, hx, rfl, hr1, hg1⟩
  by_cases h : 0 < x
  · go_wp2_with fail
    refine (l20Path_calls W g v bs (p + 1) _ hr1 (by omega)).mono ?_
    rintro e w2 ⟨s1, q1, hs1, hq1, rfl, hr2, hg2⟩
    go_wp2_with fail
    refine (l20Path_calls W g v bs q1 _ hr2 (by omega)).mono ?_
    rintro e w3 ⟨s2, q2, hs2, hq2, rfl, hr3, hg3⟩
    go_wp2_with fail
    refine (l20Path_calls W g v bs q2 _ hr3 (by omega)).mono ?_
    rintro e w4 ⟨s3, q3, hs3, hq3, rfl, hr4, hg4⟩
    have z4 := hr4.lt
    go_wp2_with fail
    refine (pick_calls W g v bs q3 4 _ (Rd.al hr4 _) (by omega) (by omega) (by omega)).mono ?_
    rintro e w5 ⟨y, hy, rfl, hr5, hg5⟩
    obtain ⟨m, rfl⟩ := Int.eq_ofNat_of_zero_le hy.1
    obtain ⟨s, hs, hsz⟩ := lit_str 11 hg5 z4 (by simp [strsB]; exact ⟨by decide, by omega, by omega, by omega⟩) (m := m) (by simp; omega)
    have hm : m < 4 := by omega
    have HG := Lib.hid (grown_trans hg1 (grown_trans hg2 (grown_trans hg3 (grown_trans hg4 (grown_trans (alloc_grown w4 _ _) hg5)))))
    clear hg5
    go_wp2
    go_ret
    exact ⟨s, q3 + 1, hsz, by omega, rfl, hr5, HG.out⟩
  · go_wp2_with fail
    have z1 := hr1.lt
    refine (pick_calls W g v bs (p + 1) 10 _ (Rd.al hr1 _) (by omega) (by omega) (by omega)).mono ?_
    rintro e w2 ⟨y, hy, rfl, hr2, hg2⟩
    obtain ⟨m, rfl⟩ := Int.eq_ofNat_of_zero_le hy.1
    obtain ⟨s, hs, hsz⟩ := lit_str 11 hg2 z1 rfl (m := m) (by simp; omega)
    have hm : m < 10 := by omega
    have HG := Lib.hid (grown_trans hg1 (grown_trans (alloc_grown w1 _ _) hg2))
    clear hg2
    go_wp2
    go_ret
    exact ⟨s, p + 1 + 1, hsz, by omega, rfl, hr2, HG.out⟩

/-- a call that draws two texts -/
def DrawTwo (B : Nat) (w : World) (e : Ending) (w' : World) : Prop := ∃ a b : ByteArray, a.size ≤ B ∧ b.size ≤ B ∧ e = .returned (.tuple #[.string a, .string b]) ∧ Below w.heap.size w w'
/-- a call that draws one text -/
def DrawOne (B : Nat) (w : World) (e : Ending) (w' : World) : Prop := ∃ a : ByteArray, a.size ≤ B ∧ e = .returned (.string a) ∧ Below w.heap.size w w'
set_option maxRecDepth 100000 in
theorem drawPthParts_calls (v : Value) (bs : List UInt8) (w : World) (hs : Sl 1 byteC w v bs) : Calls Tryd.prog 20 #[v] w (DrawOne 11 w) := by
  go_enter Tryd.func20, Tryd.ntmps20
  go_wp2_with fail
  refine (l20Open_calls w v bs w hs (below0 w)).mono ?_
  rintro e w1 ⟨g, v1, bs1, rfl, hr, hb, hg⟩
  go_wp2_with fail
  refine (anyPath_calls w g v1 bs1 0 4 _ hr (by omega) (by omega) (by omega)).mono ?_
  rintro e w2 ⟨s, q, hs2, hq, rfl, hr2, hg2⟩
  go_wp2
  go_ret
  exact ⟨s, hs2, rfl, hr2.bel⟩
set_option maxRecDepth 100000 in
theorem drawPthJoin_calls (v : Value) (bs : List UInt8) (w : World) (hs : Sl 1 byteC w v bs) : Calls Tryd.prog 16 #[v] w (DrawTwo 11 w) := by
  go_enter Tryd.func16, Tryd.ntmps16
  go_wp2_with fail
  refine (l20Open_calls w v bs w hs (below0 w)).mono ?_
  rintro e w1 ⟨g, v1, bs1, rfl, hr, hb, hg⟩
  go_wp2_with fail
  refine (anyPath_calls w g v1 bs1 0 8 _ hr (by omega) (by omega) (by omega)).mono ?_
  rintro e w2 ⟨s, q, hs2, hq, rfl, hr2, hg2⟩
  go_wp2_with fail
  refine (anyPath_calls w g v1 bs1 q 8 _ hr2 (by omega) (by omega) (by omega)).mono ?_
  rintro e w3 ⟨t, q3, ht, hq3, rfl, hr3, hg3⟩
  go_wp2
  go_ret2
  exact ⟨s, t, hs2, ht, rfl, hr3.bel⟩
end Go.Proofs.YtfiempmdmkoagaaDoor
