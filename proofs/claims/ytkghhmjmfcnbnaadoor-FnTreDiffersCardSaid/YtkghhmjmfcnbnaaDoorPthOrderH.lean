/- chOk, by a contract. -/
import Derived.Test.YtkghhmjmfcnbnaaDoorPthJ
namespace Go.Proofs.YtkghhmjmfcnbnaaDoor
open Go.RowKit

theorem abc_ok : namS ⟨#[97, 98, 99]⟩ = true := by decide
theorem chOk_calls (w : World) : Calls Tryd.prog 25 #[] w fun e w' => e = .returned (.bool true) ∧ Below w.heap.size w w' := by
  have HN := Lib.hid (fun W => namS_impl ⟨#[97, 98, 99]⟩ (by decide) W)
  have HK := Lib.hid abc_ok
  go_enter Tryd.func25, Tryd.ntmps25
  go_wp2_with fail
  refine (HN.out _).mono ?_
  rintro e w1 ⟨rfl, rfl⟩
  rw [HK.out]
  go_wp2
  go_ret
  exact ⟨rfl, below0 _⟩
end Go.Proofs.YtkghhmjmfcnbnaaDoor
