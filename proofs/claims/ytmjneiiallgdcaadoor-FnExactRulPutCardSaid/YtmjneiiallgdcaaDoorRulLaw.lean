/- What the laws on rules ask: texts that are not too long. -/
import Derived.Test.YtmjneiiallgdcaaDoorRulT
import Derived.Test.YtmjneiiallgdcaaDoorRuleH
import Derived.Test.YtmjneiiallgdcaaDoorRuleOpen
namespace Go.Proofs.YtmjneiiallgdcaaDoor
open Go.ChangeShapes Go.WideShapes Go.ChangeAt Go.RowKit
open Go.ChangeMaps (open_string)

theorem fine_of {zs : List TRule} (h : wsum ruleT zs ≤ 1048576) : ruleFine zs := by
  intro z hz
  have h2 : ruleT z ≤ wsum ruleT zs := wsum_mem (f := ruleT) hz
  have h3 : ruleT z = z.ref.size + z.path.size := rfl
  unfold maxLen
  omega
end Go.Proofs.YtmjneiiallgdcaaDoor
