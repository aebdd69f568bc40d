/- The drawing of names and paths. -/
import Derived.Test.YtkghhmjmfcnbnaaDoorDraw2
namespace Go.Proofs.YtkghhmjmfcnbnaaDoor
open Go.RowKit

set_option maxRecDepth 100000 in
theorem anyPath_calls (W : World) (g : Nat) (v : Value) (bs : List UInt8) (p : Nat) (n : Int) (w : World) (hr : Rd W g v bs p w) (hp : p ≤ 90000) (hn1 : 1 ≤ n) (hn2 : n ≤ 1000) :
    Calls Tryd.prog 51 #[.pointer (some ⟨g, 0, none⟩), .int .i64 n] w (DrawStr W g v bs p 5 11 w) := by
  have hlt := hr.lt
  go_enter Tryd.func51, Tryd.ntmps51
  go_wp2_with fail
  refine (pick_calls W g v bs p n _ hr (by omega) (by omega) (by omega)).mono ?_
  rintro e w1 ⟨x, hx, rfl, hr1, hg1⟩
  by_cases h : 0 < x
  · go_wp2_with fail
    refine (l20Path_calls W g v bs (p + 1) _ hr1 (by omega)).mono ?_
    rintro e w2 ⟨s1, q1, hs1, hq1, rfl, hr2, hg2⟩
    go_wp2_with fail
    refine (l20Path_calls W g v bs q1 _ hr2 (by omega)).mono ?_
    rintro e w3 ⟨s2, q2, hs2, hq2, rfl, hr3, hg3⟩
    go_wp2_with fail
    refine (l20Path_calls W g v bs q2 _ hr3 (by omega)).mono ?_
    rintro e w4 ⟨s3, q3, hs3, hq3, rfl, hr4, hg4⟩
    have z4 := hr4.lt
    go_wp2_with fail
    refine (pick_calls W g v bs q3 4 _ (Rd.al hr4 _) (by omega) (by omega) (by omega)).mono ?_
    rintro e w5 ⟨y, hy, rfl, hr5, hg5⟩
    obtain ⟨m, rfl⟩ := Int.eq_ofNat_of_zero_le hy.1
    obtain ⟨s, hs, hsz⟩ := lit_str 11 hg5 z4 (by simp [strsB]; exact ⟨by decide, by omega, by omega, by omega⟩) (m := m) (by simp; omega)
    have hm : m < 4 := by omega
    have HG := Lib.hid (grown_trans hg1 (grown_trans hg2 (grown_trans hg3 (grown_trans hg4 (grown_trans (alloc_grown w4 _ _) hg5)))))
    clear hg5
    go_wp2
    go_ret
    exact ⟨s, q3 + 1, hsz, by omega, rfl, hr5, HG.out⟩
  · go_wp2_with fail
    have z1 := hr1.lt
    refine (pick_calls W g v bs (p + 1) 10 _ (Rd.al hr1 _) (by omega) (by omega) (by omega)).mono ?_
    rintro e w2 ⟨y, hy, rfl, hr2, hg2⟩
    obtain ⟨m, rfl⟩ := Int.eq_ofNat_of_zero_le hy.1
    obtain ⟨s, hs, hsz⟩ := lit_str 11 hg2 z1 rfl (m := m) (by simp; omega)
    have hm : m < 10 := by omega
    have HG := Lib.hid (grown_trans hg1 (grown_trans (alloc_grown w1 _ _) hg2))
    clear hg2
    go_wp2
    go_ret
    exact ⟨s, p + 1 + 1, hsz, by omega, rfl, hr2, HG.out⟩

/-- a call that draws two texts -/
def DrawTwo (B : Nat) (w : World) (e : Ending) (w' : World) : Prop := ∃ a b : ByteArray, a.size ≤ B ∧ b.size ≤ B ∧ e = .returned (.tuple #[.string a, .string b]) ∧ Below w.heap.size w w'
/-- a call that draws one text -/
def DrawOne (B : Nat) (w : World) (e : Ending) (w' : World) : Prop := ∃ a : ByteArray, a.size ≤ B ∧ e = .returned (.string a) ∧ Below w.heap.size w w'
end Go.Proofs.YtkghhmjmfcnbnaaDoor
