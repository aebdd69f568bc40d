/- The drawing of trees and a path, of trees and edits, of two trees. -/
import Derived.Test.YtkghhmjmfcnbnaaDoorDrawA
import Derived.Test.YtkghhmjmfcnbnaaDoorByteOpen

namespace Go.Proofs.YtkghhmjmfcnbnaaDoor
open Go.RowKit

/-- a call that draws files and a path -/
def DrawFP (w : World) (e : Ending) (w' : World) : Prop :=
  ∃ (u : Value) (zs : List TFile) (path : ByteArray), zs.length ≤ 61 ∧ trShort zs ∧ path.size ≤ 11 ∧ e = .returned (.tuple #[u, .string path]) ∧ Sl 2 fileC w' u zs ∧ Below w.heap.size w w'
/-- a call that draws files and edits -/
def DrawFE (w : World) (e : Ending) (w' : World) : Prop :=
  ∃ (u u2 : Value) (zs : List TFile) (es : List TEdit), zs.length ≤ 61 ∧ trShort zs ∧ es.length ≤ 5 ∧ (∀ x ∈ es, x.path.size ≤ 11 ∧ x.bytes.size ≤ 7) ∧ e = .returned (.tuple #[u, u2]) ∧ Sl 2 fileC w' u zs ∧ Sl 3 editC w' u2 es ∧ Below w.heap.size w w'
/-- a call that draws two trees -/
def DrawFF (w : World) (e : Ending) (w' : World) : Prop :=
  ∃ (u u2 : Value) (zs ys : List TFile), zs.length ≤ 66 ∧ trShort zs ∧ ys.length ≤ 66 ∧ trShort ys ∧ e = .returned (.tuple #[u, u2]) ∧ Sl 2 fileC w' u zs ∧ Sl 2 fileC w' u2 ys ∧ Below w.heap.size w w'
theorem own_grownSl {w w' : World} {g base : Nat} {u : Value} {zs : List TFile} (h : Own 2 fileC 55 base w u zs) (hb : g < base) (hg : w.grownBy w' (some g)) : Own 2 fileC 55 base w' u zs :=
  h.grown hg (Or.inr (fun e => by have := (h.lt g e).1; omega))
set_option maxRecDepth 100000 in
set_option maxHeartbeats 2000000 in
theorem drawTreUnder_calls (v : Value) (bs : List UInt8) (w : World) (hs : Sl 1 byteC w v bs) : Calls Tryd.prog 17 #[v] w (DrawFP w) := by
  go_enter Tryd.func17, Tryd.ntmps17
  go_wp2_with fail
  refine (l20Open_calls w v bs w hs (below0 w)).mono ?_
  rintro e w1 ⟨g, v1, bs1, rfl, hr, hb, hg⟩
  have hlt := hr.lt
  go_wp2_with fail
  refine (l20AnyFiles_calls w g v1 bs1 0 12 _ hr (by omega) (by omega) (by omega)).mono ?_
  rintro e w2 ⟨u, zs, q, hl, hsh, hq, rfl, own2, hr2, hg2⟩
  go_wp2_with fail
  refine (anyPath_calls w g v1 bs1 q 9 _ hr2 (by omega) (by omega) (by omega)).mono ?_
  rintro e w3 ⟨s, q3, hs3, hq3, rfl, hr3, hg3⟩
  have own3 := own_grownSl own2 hlt hg3
  have H3 := Lib.hid (And.intro (own3.sl fileC_len) hr3.bel)
  clear own3 own2
  go_wp2
  go_ret2
  exact ⟨u, zs, s, hl, hsh, hs3, rfl, H3.out.1, H3.out.2⟩
set_option maxRecDepth 100000 in
set_option maxHeartbeats 4000000 in
theorem drawTreDiffers_calls (v : Value) (bs : List UInt8) (w : World) (hs : Sl 1 byteC w v bs) : Calls Tryd.prog 28 #[v] w (DrawFF w) := by
  go_enter Tryd.func28, Tryd.ntmps28
  go_wp2_with fail
  refine (l20Open_calls w v bs w hs (below0 w)).mono ?_
  rintro e w1 ⟨g, v1, bs1, rfl, hr, hb, hg⟩
  have hlt := hr.lt
  go_wp2_with fail
  refine (l20AnyFiles_calls w g v1 bs1 0 16 _ hr (by omega) (by omega) (by omega)).mono ?_
  rintro e w2 ⟨u, zs, q, hl, hsh, hq, rfl, own2, hr2, hg2⟩
  go_wp2_with fail
  refine (l20Edits_calls w g v1 bs1 q _ hr2 (by omega)).mono ?_
  rintro e w3 ⟨u3, es, q3, ⟨hl3, -⟩, hsh3, hq3, rfl, own3, hr3, hg3⟩
  have o3 := own_grownSl own2 hlt hg3
  have HC := Lib.hid (treTurn_spec u u3 zs es w3 (o3.sl fileC_len) (own3.sl editC_len) (trShort_fine hsh) (edShort_fine hsh3))
  go_wp2_with fail
  refine HC.out.mono ?_
  rintro e w4 ⟨v4, rfl, own4, b4⟩
  have hr4 := hr3.below b4
  have o4 := o3.below b4
  have z3 := hr3.lt
  cases ht : turnT zs es with
  | some M =>
    rw [ht] at own4
    obtain ⟨t1, t2⟩ := turn_short ht hsh (fun e h => by have := hsh3 e h; omega)
    have H4 := Lib.hid (And.intro (o4.sl fileC_len) (And.intro (own4.sl fileC_len) hr4.bel))
    clear own4 o4 o3 own3 HC
    go_wp2
    go_ret2
    exact ⟨u, v4, zs, M, by omega, hsh, by omega, t1, rfl, H4.out.1, H4.out.2.1, H4.out.2.2⟩
  | none =>
    clear own4 HC own3 o3
    go_wp2_with fail
    refine (l20AnyFiles_calls w g v1 bs1 q3 16 _ hr4 (by omega) (by omega) (by omega)).mono ?_
    rintro e w5 ⟨u5, ys, q5, hl5, hsh5, hq5, rfl, own5, hr5, hg5⟩
    have o5 := own_grownSl o4 hlt hg5
    have H5 := Lib.hid (And.intro (o5.sl fileC_len) (And.intro (own5.sl fileC_len) hr5.bel))
    clear own5 o5 o4
    go_wp2
    go_ret2
    exact ⟨u, u5, zs, ys, by omega, hsh, by omega, hsh5, rfl, H5.out.1, H5.out.2.1, H5.out.2.2⟩
end Go.Proofs.YtkghhmjmfcnbnaaDoor
