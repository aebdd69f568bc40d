/- Small facts that every text of this seat uses: the program's knob, its types laid out, and the last step of a law's row. -/
import Derived.Test.YtkghhmjmfcnbnaaRows
import Derived.WalkKit
import Derived.WalkSpells
import Derived.WalkLawsBesides
import Derived.ProofKit
import Derived.SizedLaws
import Derived.Lib.Hide
namespace Go.Proofs.Ytkghhmjmfcnbnaa
open Go.ChangeShapes Go.WideShapes Go.ChangeAt Go.RowKit

theorem Try.own : ownKnob Try.prog.godebug = none := by kernel_rfl
theorem Try.laidOut : laidOutB Try.prog = true := by kernel_rfl

end Go.Proofs.Ytkghhmjmfcnbnaa
