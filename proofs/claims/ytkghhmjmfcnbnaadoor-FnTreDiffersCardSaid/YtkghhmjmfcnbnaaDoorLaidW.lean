/- A world in which the tables that this seat's rows list lie as they are listed: for the witness. -/
import Derived.Test.YtkghhmjmfcnbnaaDoorCards
import Derived.Test.YtkghhmjmfcnbnaaDoorTie
import Derived.Test.YtkghhmjmfcnbnaaDoorBase
import Derived.OpenShut
import Derived.Deep.DeepHandedRow
namespace Go.Proofs.YtkghhmjmfcnbnaaDoor
open Go.ChangeShapes Go.WideShapes Go.ChangeAt Go.RowKit

def acceptCells : Array Value := #[.int .u8 128, .int .u8 191, .int .u8 160, .int .u8 191, .int .u8 128, .int .u8 159, .int .u8 144, .int .u8 191, .int .u8 128, .int .u8 143, .int .u8 0, .int .u8 0, .int .u8 0, .int .u8 0, .int .u8 0, .int .u8 0, .int .u8 0, .int .u8 0, .int .u8 0, .int .u8 0, .int .u8 0, .int .u8 0, .int .u8 0, .int .u8 0, .int .u8 0, .int .u8 0, .int .u8 0, .int .u8 0, .int .u8 0, .int .u8 0, .int .u8 0, .int .u8 0]
def firstCells : Array Value := (Go.Pinned.utf8FirstZ.map fun (n : Nat) => Value.int .u8 (n : Int)).toArray
/-- a block of cells, holding these -/
def layIn (cs : Array Value) : Obj → Obj := fun
  | .cells _ t frozen => .cells cs t frozen
  | o => o
/-- the settled world, the two tables laid -/
noncomputable def laidWorld (os : Os) : World :=
  { World.holding Tryd.prog os ⟨#[], #[], []⟩ with heap := ((World.holding Tryd.prog os ⟨#[], #[], []⟩).heap.modify 2 (layIn acceptCells)).modify 1 (layIn firstCells) }
end Go.Proofs.YtkghhmjmfcnbnaaDoor
