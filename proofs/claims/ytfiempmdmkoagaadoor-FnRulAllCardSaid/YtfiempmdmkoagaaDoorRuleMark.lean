/- Marks written into a row of rules, and read back. -/
import Derived.Test.YtfiempmdmkoagaaDoorRuleH
import Derived.Test.YtfiempmdmkoagaaDoorMark
import Derived.Test.YtfiempmdmkoagaaDoorBel
namespace Go.Proofs.YtfiempmdmkoagaaDoor
open Go.RowKit

/-- the rule that markRulRuleS writes at number k -/
def rmk (k : Nat) : TRule := ⟨(k : Int), mt (k + 1), mt (k + 2), decide ((k + 3) % 3 = 0)⟩
/-- the rules that a call of markRulRuleS writes, from number k on -/
def ruleMark (k n : Nat) : List TRule := (List.range n).map fun i => rmk (k + 4 * i)
theorem ruleMark_len (k n : Nat) : (ruleMark k n).length = n := by simp [ruleMark]
theorem ruleMark_get {k n i : Nat} (h : i < n) : (ruleMark k n)[i]? = some (rmk (k + 4 * i)) := by simp [ruleMark, h]
theorem ruleMark_step {zs : List TRule} {k i : Nat} (h : i < zs.length) : ((ruleMark k i ++ zs.drop i).set i (rmk (k + 4 * i))) = ruleMark k (i + 1) ++ zs.drop (i + 1) := by
  rw [List.set_append_right _ _ (by rw [ruleMark_len]; omega), ruleMark_len, Nat.sub_self, List.drop_eq_getElem_cons h, List.set_cons_zero]
  simp [ruleMark, List.range_succ]

end Go.Proofs.YtfiempmdmkoagaaDoor
