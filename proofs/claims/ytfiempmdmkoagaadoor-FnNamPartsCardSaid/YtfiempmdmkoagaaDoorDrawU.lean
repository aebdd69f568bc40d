/- The drawing of two paths that may lie under each other. -/
import Derived.Test.YtfiempmdmkoagaaDoorDrawP
import Derived.Test.YtfiempmdmkoagaaDoorPthU
namespace Go.Proofs.YtfiempmdmkoagaaDoor
open Go.RowKit

set_option maxRecDepth 100000 in
theorem drawPthUnder_calls (v : Value) (bs : List UInt8) (w : World) (hs : Sl 1 byteC w v bs) : Calls Tryd.prog 11 #[v] w (DrawTwo 11 w) := by
  go_enter Tryd.func11, Tryd.ntmps11
  go_wp2_with fail
  refine (l20Open_calls w v bs w hs (below0 w)).mono ?_
  rintro e w1 ⟨g, v1, bs1, rfl, hr, hb, hg⟩
  go_wp2_with fail
  refine (anyPath_calls w g v1 bs1 0 8 _ hr (by omega) (by omega) (by omega)).mono ?_
  rintro e w2 ⟨s, q, hs2, hq, rfl, hr2, hg2⟩
  go_wp2_with fail
  refine (pick_calls w g v1 bs1 q 3 _ hr2 (by omega) (by omega) (by omega)).mono ?_
  rintro e w3 ⟨x, hx, rfl, hr3, hg3⟩
  by_cases h : x = 0
  · have hq0 : (x == 0) = true := by simpa using h
    clear h
    go_wp2_with fail
    refine (l20Name_calls w g v1 bs1 (q + 1) _ hr3 (by omega)).mono ?_
    rintro e w4 ⟨t, q4, ht, hq4, rfl, hr4, hg4⟩
    go_wp2_with fail
    refine (join_spec s t (by omega) (by omega) _).mono ?_
    rintro e w5 ⟨rfl, b5⟩
    have hj := joinB_size s t
    go_wp2
    go_ret2
    exact ⟨s, joinB s t, hs2, hj, rfl, below_up hr4.bel b5⟩
  · have hq0 : (x == 0) = false := by simpa using h
    clear h
    go_wp2_with fail
    refine (anyPath_calls w g v1 bs1 (q + 1) 8 _ hr3 (by omega) (by omega) (by omega)).mono ?_
    rintro e w4 ⟨t, q4, ht, hq4, rfl, hr4, hg4⟩
    go_wp2
    go_ret2
    exact ⟨s, t, hs2, ht, rfl, hr4.bel⟩
end Go.Proofs.YtfiempmdmkoagaaDoor
