/-
  NARROWER THAN 'FOR EVERY INPUT', by the rows' own cells (each row's printed sentence says how): FnPthOrder: laid · FnPthJoin: laid · FnNamParts: laid · FnRulSees: laid · FnRulAll: laid · FnRulMay: laid · FnExactTreOk: laid · FnExactTreUnder: laid.
  DERIVED. THE GIVEN ROWS OF THIS SEAT. 8 by the template 'for every input the law returns true; each argument reads behind the call as it read before'; 0 by the template 'total and deterministic' (their statements: YtfiempmdmkoagaaDoorTotals.lean).
  GIVEN WITH THE SEED: the statements are not yours to turn. If you find one false, say at which input.
  Laid BY PROGRAM, IN A SANDBOX (cutbox-rows.mjs): the forced cells as the released guide's own fill.sh prints them over the translation 4ee5f57fee79586f… (all of the seat's roots in one cut). By AI agents, Wed Nov 11 2026. No macro, syntax, notation, axiom, sorry.
-/
import Derived.Test.YtfiempmdmkoagaaDoorChecked
import GoSem.PinnedTables
import GoSem.Claim
import GoSem.ClaimJoined
import GoSem.ClaimMapViews
import Derived.JoinedTies
import Derived.KernelRfl
namespace Go.Proofs.YtfiempmdmkoagaaDoor
/- THE CELL 'sum', in the pinned program and in every row, IS THE sha256 OF THE DUMP (.gsa) THAT YtfiempmdmkoagaaDoorProg.lean LOADS. Nothing in Lean hashes anything: it is a label: what it is worth is what the hold of that sum in a sandbox is worth. -/
noncomputable def Tryd.pinned : Pinned := { name := "ytfiempmdmkoagaadoor", sum := "4ee5f57fee79586f07bf294f38c173bc1b8362f24ead58349e2547c7b005b6ea", checked := Tryd.checked }
namespace Rows
def none {H : Type} : Left H := { results := [], args := [] }

/- WHAT THE LISTED PACKAGE-LEVEL VARIABLES READ AS WHEN THE CALL BEGINS. Each datum BY PROGRAM (the guide's laid-datum.mjs) off the statement by which the dump's own 'gosem.cut.vars' lays the variable. In a bare row this is a premise. The card (YtfiempmdmkoagaaDoorCards.lean) ties it to the program's text. -/
def laid_unicode_utf8_acceptRanges {H : Type} : DataW H := .agg [.agg [.lit (.int .u8 128), .lit (.int .u8 191)], .agg [.lit (.int .u8 160), .lit (.int .u8 191)], .agg [.lit (.int .u8 128), .lit (.int .u8 159)], .agg [.lit (.int .u8 144), .lit (.int .u8 191)], .agg [.lit (.int .u8 128), .lit (.int .u8 143)], .agg [.lit (.int .u8 0), .lit (.int .u8 0)], .agg [.lit (.int .u8 0), .lit (.int .u8 0)], .agg [.lit (.int .u8 0), .lit (.int .u8 0)], .agg [.lit (.int .u8 0), .lit (.int .u8 0)], .agg [.lit (.int .u8 0), .lit (.int .u8 0)], .agg [.lit (.int .u8 0), .lit (.int .u8 0)], .agg [.lit (.int .u8 0), .lit (.int .u8 0)], .agg [.lit (.int .u8 0), .lit (.int .u8 0)], .agg [.lit (.int .u8 0), .lit (.int .u8 0)], .agg [.lit (.int .u8 0), .lit (.int .u8 0)], .agg [.lit (.int .u8 0), .lit (.int .u8 0)]]
/-- One of Go's own tables, pinned by name: the form's constant. -/
def laid_unicode_utf8_first : DataW Unit := Go.Pinned.utf8First

/-- 'laws.FnPthOrder': WHATEVER THE INPUT: true; the input reads as it did. -/
def fnPthOrderSpec : ChangeSpec := { name := "fnPthOrder", fn := fun _ => fun
  | [d1, d2] => { results := [.lit (.bool true)], args := [d1, d2] }
  | _ => none }
def fnPthOrderRow : OpenClaim := { program := "ytfiempmdmkoagaadoor", sum := "4ee5f57fee79586f07bf294f38c173bc1b8362f24ead58349e2547c7b005b6ea", func := "loop.example/chartulary/laws.FnPthOrder", spec := "fnPthOrder", inPlace := ["internal/bytealg.CountString", "internal/bytealg.IndexByteString", "internal/bytealg.IndexString"], named := ["unicode/utf8.first", "unicode/utf8.acceptRanges", "internal/bytealg.MaxLen"], apart := false, laid := [("unicode/utf8.acceptRanges", laid_unicode_utf8_acceptRanges), ("unicode/utf8.first", laid_unicode_utf8_first)] }
def FnPthOrderSaid : Prop := fnPthOrderRow.holds Tryd.pinned (OpenSpec.ofChange fnPthOrderSpec)

/-- ITS FALSE NEIGHBOUR: 'it returns false'. Refute it at one input. -/
def fnPthOrderWrong : ChangeSpec := { name := "fnPthOrder", fn := fun _ => fun
  | [d1, d2] => { results := [.lit (.bool false)], args := [d1, d2] }
  | _ => none }
def FnPthOrderWrongFalsely : Prop := fnPthOrderRow.holds Tryd.pinned (OpenSpec.ofChange fnPthOrderWrong)

/-- 'laws.FnPthJoin': WHATEVER THE INPUT: true; the input reads as it did. -/
def fnPthJoinSpec : ChangeSpec := { name := "fnPthJoin", fn := fun _ => fun
  | [d1, d2] => { results := [.lit (.bool true)], args := [d1, d2] }
  | _ => none }
def fnPthJoinRow : OpenClaim := { program := "ytfiempmdmkoagaadoor", sum := "4ee5f57fee79586f07bf294f38c173bc1b8362f24ead58349e2547c7b005b6ea", func := "loop.example/chartulary/laws.FnPthJoin", spec := "fnPthJoin", inPlace := ["internal/bytealg.CountString", "internal/bytealg.IndexByteString", "internal/bytealg.IndexString"], named := ["unicode/utf8.first", "unicode/utf8.acceptRanges", "internal/bytealg.MaxLen"], apart := false, laid := [("unicode/utf8.acceptRanges", laid_unicode_utf8_acceptRanges), ("unicode/utf8.first", laid_unicode_utf8_first)] }
def FnPthJoinSaid : Prop := fnPthJoinRow.holds Tryd.pinned (OpenSpec.ofChange fnPthJoinSpec)

/-- ITS FALSE NEIGHBOUR: 'it returns false'. Refute it at one input. -/
def fnPthJoinWrong : ChangeSpec := { name := "fnPthJoin", fn := fun _ => fun
  | [d1, d2] => { results := [.lit (.bool false)], args := [d1, d2] }
  | _ => none }
def FnPthJoinWrongFalsely : Prop := fnPthJoinRow.holds Tryd.pinned (OpenSpec.ofChange fnPthJoinWrong)

/-- 'laws.FnNamParts': WHATEVER THE INPUT: true; the input reads as it did. -/
def fnNamPartsSpec : ChangeSpec := { name := "fnNamParts", fn := fun _ => fun
  | [d] => { results := [.lit (.bool true)], args := [d] }
  | _ => none }
def fnNamPartsRow : OpenClaim := { program := "ytfiempmdmkoagaadoor", sum := "4ee5f57fee79586f07bf294f38c173bc1b8362f24ead58349e2547c7b005b6ea", func := "loop.example/chartulary/laws.FnNamParts", spec := "fnNamParts", inPlace := ["internal/bytealg.CountString", "internal/bytealg.IndexByteString", "internal/bytealg.IndexString"], named := ["unicode/utf8.first", "unicode/utf8.acceptRanges", "internal/bytealg.MaxLen"], apart := false, laid := [("unicode/utf8.acceptRanges", laid_unicode_utf8_acceptRanges), ("unicode/utf8.first", laid_unicode_utf8_first)] }
def FnNamPartsSaid : Prop := fnNamPartsRow.holds Tryd.pinned (OpenSpec.ofChange fnNamPartsSpec)

/-- ITS FALSE NEIGHBOUR: 'it returns false'. Refute it at one input. -/
def fnNamPartsWrong : ChangeSpec := { name := "fnNamParts", fn := fun _ => fun
  | [d] => { results := [.lit (.bool false)], args := [d] }
  | _ => none }
def FnNamPartsWrongFalsely : Prop := fnNamPartsRow.holds Tryd.pinned (OpenSpec.ofChange fnNamPartsWrong)

/-- 'laws.FnRulSees': WHATEVER THE INPUT: true; the input reads as it did. -/
def fnRulSeesSpec : ChangeSpec := { name := "fnRulSees", fn := fun _ => fun
  | [d] => { results := [.lit (.bool true)], args := [d] }
  | _ => none }
def fnRulSeesRow : OpenClaim := { program := "ytfiempmdmkoagaadoor", sum := "4ee5f57fee79586f07bf294f38c173bc1b8362f24ead58349e2547c7b005b6ea", func := "loop.example/chartulary/laws.FnRulSees", spec := "fnRulSees", inPlace := ["internal/bytealg.CountString", "internal/bytealg.IndexByteString", "internal/bytealg.IndexString"], unfollowed := true, recurses := true, named := ["unicode/utf8.first", "unicode/utf8.acceptRanges", "internal/bytealg.MaxLen"], apart := false, laid := [("unicode/utf8.acceptRanges", laid_unicode_utf8_acceptRanges), ("unicode/utf8.first", laid_unicode_utf8_first)] }
def FnRulSeesSaid : Prop := fnRulSeesRow.holds Tryd.pinned (OpenSpec.ofChange fnRulSeesSpec)

/-- ITS FALSE NEIGHBOUR: 'it returns false'. Refute it at one input. -/
def fnRulSeesWrong : ChangeSpec := { name := "fnRulSees", fn := fun _ => fun
  | [d] => { results := [.lit (.bool false)], args := [d] }
  | _ => none }
def FnRulSeesWrongFalsely : Prop := fnRulSeesRow.holds Tryd.pinned (OpenSpec.ofChange fnRulSeesWrong)

/-- 'laws.FnRulAll': WHATEVER THE INPUT: true; the input reads as it did. -/
def fnRulAllSpec : ChangeSpec := { name := "fnRulAll", fn := fun _ => fun
  | [d] => { results := [.lit (.bool true)], args := [d] }
  | _ => none }
def fnRulAllRow : OpenClaim := { program := "ytfiempmdmkoagaadoor", sum := "4ee5f57fee79586f07bf294f38c173bc1b8362f24ead58349e2547c7b005b6ea", func := "loop.example/chartulary/laws.FnRulAll", spec := "fnRulAll", inPlace := ["internal/bytealg.CountString", "internal/bytealg.IndexByteString", "internal/bytealg.IndexString"], unfollowed := true, recurses := true, named := ["unicode/utf8.first", "unicode/utf8.acceptRanges", "internal/bytealg.MaxLen"], apart := false, laid := [("unicode/utf8.acceptRanges", laid_unicode_utf8_acceptRanges), ("unicode/utf8.first", laid_unicode_utf8_first)] }
def FnRulAllSaid : Prop := fnRulAllRow.holds Tryd.pinned (OpenSpec.ofChange fnRulAllSpec)

/-- ITS FALSE NEIGHBOUR: 'it returns false'. Refute it at one input. -/
def fnRulAllWrong : ChangeSpec := { name := "fnRulAll", fn := fun _ => fun
  | [d] => { results := [.lit (.bool false)], args := [d] }
  | _ => none }
def FnRulAllWrongFalsely : Prop := fnRulAllRow.holds Tryd.pinned (OpenSpec.ofChange fnRulAllWrong)

/-- 'laws.FnRulMay': WHATEVER THE INPUT: true; the input reads as it did. -/
def fnRulMaySpec : ChangeSpec := { name := "fnRulMay", fn := fun _ => fun
  | [d] => { results := [.lit (.bool true)], args := [d] }
  | _ => none }
def fnRulMayRow : OpenClaim := { program := "ytfiempmdmkoagaadoor", sum := "4ee5f57fee79586f07bf294f38c173bc1b8362f24ead58349e2547c7b005b6ea", func := "loop.example/chartulary/laws.FnRulMay", spec := "fnRulMay", inPlace := ["internal/bytealg.CountString", "internal/bytealg.IndexByteString", "internal/bytealg.IndexString"], unfollowed := true, recurses := true, named := ["unicode/utf8.first", "unicode/utf8.acceptRanges", "internal/bytealg.MaxLen"], apart := false, laid := [("unicode/utf8.acceptRanges", laid_unicode_utf8_acceptRanges), ("unicode/utf8.first", laid_unicode_utf8_first)] }
def FnRulMaySaid : Prop := fnRulMayRow.holds Tryd.pinned (OpenSpec.ofChange fnRulMaySpec)

/-- ITS FALSE NEIGHBOUR: 'it returns false'. Refute it at one input. -/
def fnRulMayWrong : ChangeSpec := { name := "fnRulMay", fn := fun _ => fun
  | [d] => { results := [.lit (.bool false)], args := [d] }
  | _ => none }
def FnRulMayWrongFalsely : Prop := fnRulMayRow.holds Tryd.pinned (OpenSpec.ofChange fnRulMayWrong)

/-- 'laws.FnExactTreOk': WHATEVER THE INPUT: true; the input reads as it did. -/
def fnExactTreOkSpec : ChangeSpec := { name := "fnExactTreOk", fn := fun _ => fun
  | [d] => { results := [.lit (.bool true)], args := [d] }
  | _ => none }
def fnExactTreOkRow : OpenClaim := { program := "ytfiempmdmkoagaadoor", sum := "4ee5f57fee79586f07bf294f38c173bc1b8362f24ead58349e2547c7b005b6ea", func := "loop.example/chartulary/laws.FnExactTreOk", spec := "fnExactTreOk", inPlace := ["internal/bytealg.CountString", "internal/bytealg.IndexByteString", "internal/bytealg.IndexString"], named := ["unicode/utf8.first", "unicode/utf8.acceptRanges", "internal/bytealg.MaxLen"], apart := false, laid := [("unicode/utf8.acceptRanges", laid_unicode_utf8_acceptRanges), ("unicode/utf8.first", laid_unicode_utf8_first)] }
def FnExactTreOkSaid : Prop := fnExactTreOkRow.holds Tryd.pinned (OpenSpec.ofChange fnExactTreOkSpec)

/-- ITS FALSE NEIGHBOUR: 'it returns false'. Refute it at one input. -/
def fnExactTreOkWrong : ChangeSpec := { name := "fnExactTreOk", fn := fun _ => fun
  | [d] => { results := [.lit (.bool false)], args := [d] }
  | _ => none }
def FnExactTreOkWrongFalsely : Prop := fnExactTreOkRow.holds Tryd.pinned (OpenSpec.ofChange fnExactTreOkWrong)

/-- 'laws.FnExactTreUnder': WHATEVER THE INPUT: true; the input reads as it did. -/
def fnExactTreUnderSpec : ChangeSpec := { name := "fnExactTreUnder", fn := fun _ => fun
  | [d1, d2] => { results := [.lit (.bool true)], args := [d1, d2] }
  | _ => none }
def fnExactTreUnderRow : OpenClaim := { program := "ytfiempmdmkoagaadoor", sum := "4ee5f57fee79586f07bf294f38c173bc1b8362f24ead58349e2547c7b005b6ea", func := "loop.example/chartulary/laws.FnExactTreUnder", spec := "fnExactTreUnder", inPlace := ["internal/bytealg.CountString", "internal/bytealg.IndexByteString", "internal/bytealg.IndexString"], named := ["unicode/utf8.first", "unicode/utf8.acceptRanges", "internal/bytealg.MaxLen"], apart := false, laid := [("unicode/utf8.acceptRanges", laid_unicode_utf8_acceptRanges), ("unicode/utf8.first", laid_unicode_utf8_first)] }
def FnExactTreUnderSaid : Prop := fnExactTreUnderRow.holds Tryd.pinned (OpenSpec.ofChange fnExactTreUnderSpec)

/-- ITS FALSE NEIGHBOUR: 'it returns false'. Refute it at one input. -/
def fnExactTreUnderWrong : ChangeSpec := { name := "fnExactTreUnder", fn := fun _ => fun
  | [d1, d2] => { results := [.lit (.bool false)], args := [d1, d2] }
  | _ => none }
def FnExactTreUnderWrongFalsely : Prop := fnExactTreUnderRow.holds Tryd.pinned (OpenSpec.ofChange fnExactTreUnderWrong)

/- THE SECOND FORM. 'bulk': how many values and letters a reading holds, each counted each time it is reached (what is shared counts as often as it is met; a slice's spare places count too). A statement '..UptoSaid' is the law's where the arguments, and the package variables that the reading takes, are together of bulk at most 1048576: NARROWER than '..Said'. Prove '..Said' where nothing that the law and all that it calls make is longer than what came in: it says more and counts as full. Else prove '..UptoSaid'. A law counts once. -/
mutual
def uptoBulk {H : Type} : DataW H → Nat
  | .lit (.string bytes) => bytes.length + 1
  | .lit _ => 1
  | .nil => 1
  | .ptr d => uptoBulk d + 1
  | .slice elems spare => uptoBulkAll elems + uptoBulkAll spare + 1
  | .agg parts => uptoBulkAll parts + 1
  | .iface _ d => uptoBulk d + 1
  | .map entries => uptoBulkEntries entries + 1
  | .held _ => 1
def uptoBulkAll {H : Type} : List (DataW H) → Nat
  | [] => 0
  | d :: r => uptoBulk d + uptoBulkAll r
def uptoBulkEntries {H : Type} : List (Lit × DataW H) → Nat
  | [] => 0
  | x :: r => uptoBulkEntry x + uptoBulkEntries r
def uptoBulkEntry {H : Type} : Lit × DataW H → Nat
  | (.string bytes, d) => bytes.length + uptoBulk d + 1
  | (_, d) => uptoBulk d + 1
 end
def uptoSmall : (H : Type) → List (DataW H) → Bool := fun _ ds => decide (uptoBulkAll ds ≤ 1048576)
def OpenSpec.upto (s : _root_.Go.ChangeSpec) : _root_.Go.OpenSpec := { _root_.Go.OpenSpec.ofChange s with cond := some uptoSmall }

/-- 'laws.FnPthOrder', WHERE WHAT IT READS IS OF BULK AT MOST 1048576: true; the input reads as it did. -/
def fnPthOrderUptoRow : OpenClaim := { program := "ytfiempmdmkoagaadoor", sum := "4ee5f57fee79586f07bf294f38c173bc1b8362f24ead58349e2547c7b005b6ea", func := "loop.example/chartulary/laws.FnPthOrder", spec := "fnPthOrder", inPlace := ["internal/bytealg.CountString", "internal/bytealg.IndexByteString", "internal/bytealg.IndexString"], named := ["unicode/utf8.first", "unicode/utf8.acceptRanges", "internal/bytealg.MaxLen"], apart := false, laid := [("unicode/utf8.acceptRanges", laid_unicode_utf8_acceptRanges), ("unicode/utf8.first", laid_unicode_utf8_first)], narrowed := true }
def FnPthOrderUptoSaid : Prop := fnPthOrderUptoRow.holds Tryd.pinned (OpenSpec.upto fnPthOrderSpec)

/-- 'laws.FnPthJoin', WHERE WHAT IT READS IS OF BULK AT MOST 1048576: true; the input reads as it did. -/
def fnPthJoinUptoRow : OpenClaim := { program := "ytfiempmdmkoagaadoor", sum := "4ee5f57fee79586f07bf294f38c173bc1b8362f24ead58349e2547c7b005b6ea", func := "loop.example/chartulary/laws.FnPthJoin", spec := "fnPthJoin", inPlace := ["internal/bytealg.CountString", "internal/bytealg.IndexByteString", "internal/bytealg.IndexString"], named := ["unicode/utf8.first", "unicode/utf8.acceptRanges", "internal/bytealg.MaxLen"], apart := false, laid := [("unicode/utf8.acceptRanges", laid_unicode_utf8_acceptRanges), ("unicode/utf8.first", laid_unicode_utf8_first)], narrowed := true }
def FnPthJoinUptoSaid : Prop := fnPthJoinUptoRow.holds Tryd.pinned (OpenSpec.upto fnPthJoinSpec)

/-- 'laws.FnNamParts', WHERE WHAT IT READS IS OF BULK AT MOST 1048576: true; the input reads as it did. -/
def fnNamPartsUptoRow : OpenClaim := { program := "ytfiempmdmkoagaadoor", sum := "4ee5f57fee79586f07bf294f38c173bc1b8362f24ead58349e2547c7b005b6ea", func := "loop.example/chartulary/laws.FnNamParts", spec := "fnNamParts", inPlace := ["internal/bytealg.CountString", "internal/bytealg.IndexByteString", "internal/bytealg.IndexString"], named := ["unicode/utf8.first", "unicode/utf8.acceptRanges", "internal/bytealg.MaxLen"], apart := false, laid := [("unicode/utf8.acceptRanges", laid_unicode_utf8_acceptRanges), ("unicode/utf8.first", laid_unicode_utf8_first)], narrowed := true }
def FnNamPartsUptoSaid : Prop := fnNamPartsUptoRow.holds Tryd.pinned (OpenSpec.upto fnNamPartsSpec)

/-- 'laws.FnRulSees', WHERE WHAT IT READS IS OF BULK AT MOST 1048576: true; the input reads as it did. -/
def fnRulSeesUptoRow : OpenClaim := { program := "ytfiempmdmkoagaadoor", sum := "4ee5f57fee79586f07bf294f38c173bc1b8362f24ead58349e2547c7b005b6ea", func := "loop.example/chartulary/laws.FnRulSees", spec := "fnRulSees", inPlace := ["internal/bytealg.CountString", "internal/bytealg.IndexByteString", "internal/bytealg.IndexString"], unfollowed := true, recurses := true, named := ["unicode/utf8.first", "unicode/utf8.acceptRanges", "internal/bytealg.MaxLen"], apart := false, laid := [("unicode/utf8.acceptRanges", laid_unicode_utf8_acceptRanges), ("unicode/utf8.first", laid_unicode_utf8_first)], narrowed := true }
def FnRulSeesUptoSaid : Prop := fnRulSeesUptoRow.holds Tryd.pinned (OpenSpec.upto fnRulSeesSpec)

/-- 'laws.FnRulAll', WHERE WHAT IT READS IS OF BULK AT MOST 1048576: true; the input reads as it did. -/
def fnRulAllUptoRow : OpenClaim := { program := "ytfiempmdmkoagaadoor", sum := "4ee5f57fee79586f07bf294f38c173bc1b8362f24ead58349e2547c7b005b6ea", func := "loop.example/chartulary/laws.FnRulAll", spec := "fnRulAll", inPlace := ["internal/bytealg.CountString", "internal/bytealg.IndexByteString", "internal/bytealg.IndexString"], unfollowed := true, recurses := true, named := ["unicode/utf8.first", "unicode/utf8.acceptRanges", "internal/bytealg.MaxLen"], apart := false, laid := [("unicode/utf8.acceptRanges", laid_unicode_utf8_acceptRanges), ("unicode/utf8.first", laid_unicode_utf8_first)], narrowed := true }
def FnRulAllUptoSaid : Prop := fnRulAllUptoRow.holds Tryd.pinned (OpenSpec.upto fnRulAllSpec)

/-- 'laws.FnRulMay', WHERE WHAT IT READS IS OF BULK AT MOST 1048576: true; the input reads as it did. -/
def fnRulMayUptoRow : OpenClaim := { program := "ytfiempmdmkoagaadoor", sum := "4ee5f57fee79586f07bf294f38c173bc1b8362f24ead58349e2547c7b005b6ea", func := "loop.example/chartulary/laws.FnRulMay", spec := "fnRulMay", inPlace := ["internal/bytealg.CountString", "internal/bytealg.IndexByteString", "internal/bytealg.IndexString"], unfollowed := true, recurses := true, named := ["unicode/utf8.first", "unicode/utf8.acceptRanges", "internal/bytealg.MaxLen"], apart := false, laid := [("unicode/utf8.acceptRanges", laid_unicode_utf8_acceptRanges), ("unicode/utf8.first", laid_unicode_utf8_first)], narrowed := true }
def FnRulMayUptoSaid : Prop := fnRulMayUptoRow.holds Tryd.pinned (OpenSpec.upto fnRulMaySpec)

/-- 'laws.FnExactTreOk', WHERE WHAT IT READS IS OF BULK AT MOST 1048576: true; the input reads as it did. -/
def fnExactTreOkUptoRow : OpenClaim := { program := "ytfiempmdmkoagaadoor", sum := "4ee5f57fee79586f07bf294f38c173bc1b8362f24ead58349e2547c7b005b6ea", func := "loop.example/chartulary/laws.FnExactTreOk", spec := "fnExactTreOk", inPlace := ["internal/bytealg.CountString", "internal/bytealg.IndexByteString", "internal/bytealg.IndexString"], named := ["unicode/utf8.first", "unicode/utf8.acceptRanges", "internal/bytealg.MaxLen"], apart := false, laid := [("unicode/utf8.acceptRanges", laid_unicode_utf8_acceptRanges), ("unicode/utf8.first", laid_unicode_utf8_first)], narrowed := true }
def FnExactTreOkUptoSaid : Prop := fnExactTreOkUptoRow.holds Tryd.pinned (OpenSpec.upto fnExactTreOkSpec)

/-- 'laws.FnExactTreUnder', WHERE WHAT IT READS IS OF BULK AT MOST 1048576: true; the input reads as it did. -/
def fnExactTreUnderUptoRow : OpenClaim := { program := "ytfiempmdmkoagaadoor", sum := "4ee5f57fee79586f07bf294f38c173bc1b8362f24ead58349e2547c7b005b6ea", func := "loop.example/chartulary/laws.FnExactTreUnder", spec := "fnExactTreUnder", inPlace := ["internal/bytealg.CountString", "internal/bytealg.IndexByteString", "internal/bytealg.IndexString"], named := ["unicode/utf8.first", "unicode/utf8.acceptRanges", "internal/bytealg.MaxLen"], apart := false, laid := [("unicode/utf8.acceptRanges", laid_unicode_utf8_acceptRanges), ("unicode/utf8.first", laid_unicode_utf8_first)], narrowed := true }
def FnExactTreUnderUptoSaid : Prop := fnExactTreUnderUptoRow.holds Tryd.pinned (OpenSpec.upto fnExactTreUnderSpec)

end Rows
end Go.Proofs.YtfiempmdmkoagaaDoor
