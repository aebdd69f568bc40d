/- What the laws on files ask: texts that are not too long. -/
import Derived.Test.YtkghhmjmfcnbnaaDoorTreS
import Derived.Test.YtkghhmjmfcnbnaaDoorFileH
import Derived.Test.YtkghhmjmfcnbnaaDoorFileOpen
namespace Go.Proofs.YtkghhmjmfcnbnaaDoor
open Go.ChangeShapes Go.WideShapes Go.ChangeAt Go.RowKit
open Go.ChangeMaps (open_string)

theorem fine_files {zs : List TFile} (h : wsum fileT zs ≤ 1048576) : fileFine zs := by
  intro z hz
  have h2 : fileT z ≤ wsum fileT zs := wsum_mem (f := fileT) hz
  have h3 : fileT z = z.path.size + z.bytes.size := rfl
  unfold maxLen
  omega
end Go.Proofs.YtkghhmjmfcnbnaaDoor
