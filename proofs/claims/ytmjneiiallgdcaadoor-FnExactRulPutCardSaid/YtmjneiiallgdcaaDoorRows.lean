/-
  NARROWER THAN 'FOR EVERY INPUT', by the rows' own cells (each row's printed sentence says how): FnExactPthOk: laid · FnExactPthUnder: laid · FnExactPthFirst: laid · FnExactPthJoin: laid · FnExactPthRest: laid · FnExactPthParts: laid · FnExactRulOk: laid · FnExactRulSees: laid · FnExactRulMay: laid · FnExactRulListOk: laid · FnExactRulPut: laid.
  DERIVED. THE GIVEN ROWS OF THIS SEAT. 11 by the template 'for every input the law returns true; each argument reads behind the call as it read before'; 0 by the template 'total and deterministic' (their statements: YtmjneiiallgdcaaDoorTotals.lean).
  GIVEN WITH THE SEED: the statements are not yours to turn. If you find one false, say at which input.
  Laid BY PROGRAM, IN A SANDBOX (cutbox-rows.mjs): the forced cells as the released guide's own fill.sh prints them over the translation e74851d3b4f7da19… (all of the seat's roots in one cut). By AI agents, Wed Nov 11 2026. No macro, syntax, notation, axiom, sorry.
-/
import Derived.Test.YtmjneiiallgdcaaDoorChecked
import GoSem.PinnedTables
import GoSem.Claim
import GoSem.ClaimJoined
import GoSem.ClaimMapViews
import Derived.JoinedTies
import Derived.KernelRfl
namespace Go.Proofs.YtmjneiiallgdcaaDoor
/- THE CELL 'sum', in the pinned program and in every row, IS THE sha256 OF THE DUMP (.gsa) THAT YtmjneiiallgdcaaDoorProg.lean LOADS. Nothing in Lean hashes anything: it is a label: what it is worth is what the hold of that sum in a sandbox is worth. -/
noncomputable def Tryd.pinned : Pinned := { name := "ytmjneiiallgdcaadoor", sum := "e74851d3b4f7da195f2d1eb5a3356dd0a57a9b16c4cbc2042415401e018acda6", checked := Tryd.checked }
namespace Rows
def none {H : Type} : Left H := { results := [], args := [] }

/- WHAT THE LISTED PACKAGE-LEVEL VARIABLES READ AS WHEN THE CALL BEGINS. Each datum BY PROGRAM (the guide's laid-datum.mjs) off the statement by which the dump's own 'gosem.cut.vars' lays the variable. In a bare row this is a premise. The card (YtmjneiiallgdcaaDoorCards.lean) ties it to the program's text. -/
def laid_unicode_utf8_acceptRanges {H : Type} : DataW H := .agg [.agg [.lit (.int .u8 128), .lit (.int .u8 191)], .agg [.lit (.int .u8 160), .lit (.int .u8 191)], .agg [.lit (.int .u8 128), .lit (.int .u8 159)], .agg [.lit (.int .u8 144), .lit (.int .u8 191)], .agg [.lit (.int .u8 128), .lit (.int .u8 143)], .agg [.lit (.int .u8 0), .lit (.int .u8 0)], .agg [.lit (.int .u8 0), .lit (.int .u8 0)], .agg [.lit (.int .u8 0), .lit (.int .u8 0)], .agg [.lit (.int .u8 0), .lit (.int .u8 0)], .agg [.lit (.int .u8 0), .lit (.int .u8 0)], .agg [.lit (.int .u8 0), .lit (.int .u8 0)], .agg [.lit (.int .u8 0), .lit (.int .u8 0)], .agg [.lit (.int .u8 0), .lit (.int .u8 0)], .agg [.lit (.int .u8 0), .lit (.int .u8 0)], .agg [.lit (.int .u8 0), .lit (.int .u8 0)], .agg [.lit (.int .u8 0), .lit (.int .u8 0)]]
/-- One of Go's own tables, pinned by name: the form's constant. -/
def laid_unicode_utf8_first : DataW Unit := Go.Pinned.utf8First

/-- 'laws.FnExactPthOk': WHATEVER THE INPUT: true; the input reads as it did. -/
def fnExactPthOkSpec : ChangeSpec := { name := "fnExactPthOk", fn := fun _ => fun
  | [d] => { results := [.lit (.bool true)], args := [d] }
  | _ => none }
def fnExactPthOkRow : OpenClaim := { program := "ytmjneiiallgdcaadoor", sum := "e74851d3b4f7da195f2d1eb5a3356dd0a57a9b16c4cbc2042415401e018acda6", func := "loop.example/chartulary/laws.FnExactPthOk", spec := "fnExactPthOk", inPlace := ["internal/bytealg.CountString", "internal/bytealg.IndexByteString", "internal/bytealg.IndexString"], named := ["unicode/utf8.first", "unicode/utf8.acceptRanges", "internal/bytealg.MaxLen"], apart := false, laid := [("unicode/utf8.acceptRanges", laid_unicode_utf8_acceptRanges), ("unicode/utf8.first", laid_unicode_utf8_first)] }
def FnExactPthOkSaid : Prop := fnExactPthOkRow.holds Tryd.pinned (OpenSpec.ofChange fnExactPthOkSpec)

/-- ITS FALSE NEIGHBOUR: 'it returns false'. Refute it at one input. -/
def fnExactPthOkWrong : ChangeSpec := { name := "fnExactPthOk", fn := fun _ => fun
  | [d] => { results := [.lit (.bool false)], args := [d] }
  | _ => none }
def FnExactPthOkWrongFalsely : Prop := fnExactPthOkRow.holds Tryd.pinned (OpenSpec.ofChange fnExactPthOkWrong)

/-- 'laws.FnExactPthUnder': WHATEVER THE INPUT: true; the input reads as it did. -/
def fnExactPthUnderSpec : ChangeSpec := { name := "fnExactPthUnder", fn := fun _ => fun
  | [d1, d2] => { results := [.lit (.bool true)], args := [d1, d2] }
  | _ => none }
def fnExactPthUnderRow : OpenClaim := { program := "ytmjneiiallgdcaadoor", sum := "e74851d3b4f7da195f2d1eb5a3356dd0a57a9b16c4cbc2042415401e018acda6", func := "loop.example/chartulary/laws.FnExactPthUnder", spec := "fnExactPthUnder", inPlace := ["internal/bytealg.CountString", "internal/bytealg.IndexByteString", "internal/bytealg.IndexString"], named := ["unicode/utf8.first", "unicode/utf8.acceptRanges", "internal/bytealg.MaxLen"], apart := false, laid := [("unicode/utf8.acceptRanges", laid_unicode_utf8_acceptRanges), ("unicode/utf8.first", laid_unicode_utf8_first)] }
def FnExactPthUnderSaid : Prop := fnExactPthUnderRow.holds Tryd.pinned (OpenSpec.ofChange fnExactPthUnderSpec)

/-- ITS FALSE NEIGHBOUR: 'it returns false'. Refute it at one input. -/
def fnExactPthUnderWrong : ChangeSpec := { name := "fnExactPthUnder", fn := fun _ => fun
  | [d1, d2] => { results := [.lit (.bool false)], args := [d1, d2] }
  | _ => none }
def FnExactPthUnderWrongFalsely : Prop := fnExactPthUnderRow.holds Tryd.pinned (OpenSpec.ofChange fnExactPthUnderWrong)

/-- 'laws.FnExactPthFirst': WHATEVER THE INPUT: true; the input reads as it did. -/
def fnExactPthFirstSpec : ChangeSpec := { name := "fnExactPthFirst", fn := fun _ => fun
  | [d] => { results := [.lit (.bool true)], args := [d] }
  | _ => none }
def fnExactPthFirstRow : OpenClaim := { program := "ytmjneiiallgdcaadoor", sum := "e74851d3b4f7da195f2d1eb5a3356dd0a57a9b16c4cbc2042415401e018acda6", func := "loop.example/chartulary/laws.FnExactPthFirst", spec := "fnExactPthFirst", inPlace := ["internal/bytealg.CountString", "internal/bytealg.IndexByteString", "internal/bytealg.IndexString"], named := ["unicode/utf8.first", "unicode/utf8.acceptRanges", "internal/bytealg.MaxLen"], apart := false, laid := [("unicode/utf8.acceptRanges", laid_unicode_utf8_acceptRanges), ("unicode/utf8.first", laid_unicode_utf8_first)] }
def FnExactPthFirstSaid : Prop := fnExactPthFirstRow.holds Tryd.pinned (OpenSpec.ofChange fnExactPthFirstSpec)

/-- ITS FALSE NEIGHBOUR: 'it returns false'. Refute it at one input. -/
def fnExactPthFirstWrong : ChangeSpec := { name := "fnExactPthFirst", fn := fun _ => fun
  | [d] => { results := [.lit (.bool false)], args := [d] }
  | _ => none }
def FnExactPthFirstWrongFalsely : Prop := fnExactPthFirstRow.holds Tryd.pinned (OpenSpec.ofChange fnExactPthFirstWrong)

/-- 'laws.FnExactPthJoin': WHATEVER THE INPUT: true; the input reads as it did. -/
def fnExactPthJoinSpec : ChangeSpec := { name := "fnExactPthJoin", fn := fun _ => fun
  | [d1, d2] => { results := [.lit (.bool true)], args := [d1, d2] }
  | _ => none }
def fnExactPthJoinRow : OpenClaim := { program := "ytmjneiiallgdcaadoor", sum := "e74851d3b4f7da195f2d1eb5a3356dd0a57a9b16c4cbc2042415401e018acda6", func := "loop.example/chartulary/laws.FnExactPthJoin", spec := "fnExactPthJoin", inPlace := ["internal/bytealg.CountString", "internal/bytealg.IndexByteString", "internal/bytealg.IndexString"], named := ["unicode/utf8.first", "unicode/utf8.acceptRanges", "internal/bytealg.MaxLen"], apart := false, laid := [("unicode/utf8.acceptRanges", laid_unicode_utf8_acceptRanges), ("unicode/utf8.first", laid_unicode_utf8_first)] }
def FnExactPthJoinSaid : Prop := fnExactPthJoinRow.holds Tryd.pinned (OpenSpec.ofChange fnExactPthJoinSpec)

/-- ITS FALSE NEIGHBOUR: 'it returns false'. Refute it at one input. -/
def fnExactPthJoinWrong : ChangeSpec := { name := "fnExactPthJoin", fn := fun _ => fun
  | [d1, d2] => { results := [.lit (.bool false)], args := [d1, d2] }
  | _ => none }
def FnExactPthJoinWrongFalsely : Prop := fnExactPthJoinRow.holds Tryd.pinned (OpenSpec.ofChange fnExactPthJoinWrong)

/-- 'laws.FnExactPthRest': WHATEVER THE INPUT: true; the input reads as it did. -/
def fnExactPthRestSpec : ChangeSpec := { name := "fnExactPthRest", fn := fun _ => fun
  | [d] => { results := [.lit (.bool true)], args := [d] }
  | _ => none }
def fnExactPthRestRow : OpenClaim := { program := "ytmjneiiallgdcaadoor", sum := "e74851d3b4f7da195f2d1eb5a3356dd0a57a9b16c4cbc2042415401e018acda6", func := "loop.example/chartulary/laws.FnExactPthRest", spec := "fnExactPthRest", inPlace := ["internal/bytealg.CountString", "internal/bytealg.IndexByteString", "internal/bytealg.IndexString"], named := ["unicode/utf8.first", "unicode/utf8.acceptRanges", "internal/bytealg.MaxLen"], apart := false, laid := [("unicode/utf8.acceptRanges", laid_unicode_utf8_acceptRanges), ("unicode/utf8.first", laid_unicode_utf8_first)] }
def FnExactPthRestSaid : Prop := fnExactPthRestRow.holds Tryd.pinned (OpenSpec.ofChange fnExactPthRestSpec)

/-- ITS FALSE NEIGHBOUR: 'it returns false'. Refute it at one input. -/
def fnExactPthRestWrong : ChangeSpec := { name := "fnExactPthRest", fn := fun _ => fun
  | [d] => { results := [.lit (.bool false)], args := [d] }
  | _ => none }
def FnExactPthRestWrongFalsely : Prop := fnExactPthRestRow.holds Tryd.pinned (OpenSpec.ofChange fnExactPthRestWrong)

/-- 'laws.FnExactPthParts': WHATEVER THE INPUT: true; the input reads as it did. -/
def fnExactPthPartsSpec : ChangeSpec := { name := "fnExactPthParts", fn := fun _ => fun
  | [d] => { results := [.lit (.bool true)], args := [d] }
  | _ => none }
def fnExactPthPartsRow : OpenClaim := { program := "ytmjneiiallgdcaadoor", sum := "e74851d3b4f7da195f2d1eb5a3356dd0a57a9b16c4cbc2042415401e018acda6", func := "loop.example/chartulary/laws.FnExactPthParts", spec := "fnExactPthParts", inPlace := ["internal/bytealg.CountString", "internal/bytealg.IndexByteString", "internal/bytealg.IndexString"], named := ["unicode/utf8.first", "unicode/utf8.acceptRanges", "internal/bytealg.MaxLen"], apart := false, laid := [("unicode/utf8.acceptRanges", laid_unicode_utf8_acceptRanges), ("unicode/utf8.first", laid_unicode_utf8_first)] }
def FnExactPthPartsSaid : Prop := fnExactPthPartsRow.holds Tryd.pinned (OpenSpec.ofChange fnExactPthPartsSpec)

/-- ITS FALSE NEIGHBOUR: 'it returns false'. Refute it at one input. -/
def fnExactPthPartsWrong : ChangeSpec := { name := "fnExactPthParts", fn := fun _ => fun
  | [d] => { results := [.lit (.bool false)], args := [d] }
  | _ => none }
def FnExactPthPartsWrongFalsely : Prop := fnExactPthPartsRow.holds Tryd.pinned (OpenSpec.ofChange fnExactPthPartsWrong)

/-- 'laws.FnExactRulOk': WHATEVER THE INPUT: true; the input reads as it did. -/
def fnExactRulOkSpec : ChangeSpec := { name := "fnExactRulOk", fn := fun _ => fun
  | [d] => { results := [.lit (.bool true)], args := [d] }
  | _ => none }
def fnExactRulOkRow : OpenClaim := { program := "ytmjneiiallgdcaadoor", sum := "e74851d3b4f7da195f2d1eb5a3356dd0a57a9b16c4cbc2042415401e018acda6", func := "loop.example/chartulary/laws.FnExactRulOk", spec := "fnExactRulOk", inPlace := ["internal/bytealg.CountString", "internal/bytealg.IndexByteString", "internal/bytealg.IndexString"], named := ["unicode/utf8.first", "unicode/utf8.acceptRanges", "internal/bytealg.MaxLen"], apart := false, laid := [("unicode/utf8.acceptRanges", laid_unicode_utf8_acceptRanges), ("unicode/utf8.first", laid_unicode_utf8_first)] }
def FnExactRulOkSaid : Prop := fnExactRulOkRow.holds Tryd.pinned (OpenSpec.ofChange fnExactRulOkSpec)

/-- ITS FALSE NEIGHBOUR: 'it returns false'. Refute it at one input. -/
def fnExactRulOkWrong : ChangeSpec := { name := "fnExactRulOk", fn := fun _ => fun
  | [d] => { results := [.lit (.bool false)], args := [d] }
  | _ => none }
def FnExactRulOkWrongFalsely : Prop := fnExactRulOkRow.holds Tryd.pinned (OpenSpec.ofChange fnExactRulOkWrong)

/-- 'laws.FnExactRulSees': WHATEVER THE INPUT: true; the input reads as it did. -/
def fnExactRulSeesSpec : ChangeSpec := { name := "fnExactRulSees", fn := fun _ => fun
  | [d1, d2, d3] => { results := [.lit (.bool true)], args := [d1, d2, d3] }
  | _ => none }
def fnExactRulSeesRow : OpenClaim := { program := "ytmjneiiallgdcaadoor", sum := "e74851d3b4f7da195f2d1eb5a3356dd0a57a9b16c4cbc2042415401e018acda6", func := "loop.example/chartulary/laws.FnExactRulSees", spec := "fnExactRulSees", inPlace := ["internal/bytealg.CountString", "internal/bytealg.IndexByteString", "internal/bytealg.IndexString"], unfollowed := true, recurses := true, named := ["unicode/utf8.first", "unicode/utf8.acceptRanges", "internal/bytealg.MaxLen"], apart := false, laid := [("unicode/utf8.acceptRanges", laid_unicode_utf8_acceptRanges), ("unicode/utf8.first", laid_unicode_utf8_first)] }
def FnExactRulSeesSaid : Prop := fnExactRulSeesRow.holds Tryd.pinned (OpenSpec.ofChange fnExactRulSeesSpec)

/-- ITS FALSE NEIGHBOUR: 'it returns false'. Refute it at one input. -/
def fnExactRulSeesWrong : ChangeSpec := { name := "fnExactRulSees", fn := fun _ => fun
  | [d1, d2, d3] => { results := [.lit (.bool false)], args := [d1, d2, d3] }
  | _ => none }
def FnExactRulSeesWrongFalsely : Prop := fnExactRulSeesRow.holds Tryd.pinned (OpenSpec.ofChange fnExactRulSeesWrong)

/-- 'laws.FnExactRulMay': WHATEVER THE INPUT: true; the input reads as it did. -/
def fnExactRulMaySpec : ChangeSpec := { name := "fnExactRulMay", fn := fun _ => fun
  | [d1, d2, d3, d4, d5] => { results := [.lit (.bool true)], args := [d1, d2, d3, d4, d5] }
  | _ => none }
def fnExactRulMayRow : OpenClaim := { program := "ytmjneiiallgdcaadoor", sum := "e74851d3b4f7da195f2d1eb5a3356dd0a57a9b16c4cbc2042415401e018acda6", func := "loop.example/chartulary/laws.FnExactRulMay", spec := "fnExactRulMay", inPlace := ["internal/bytealg.CountString", "internal/bytealg.IndexByteString", "internal/bytealg.IndexString"], unfollowed := true, recurses := true, named := ["unicode/utf8.first", "unicode/utf8.acceptRanges", "internal/bytealg.MaxLen"], apart := false, laid := [("unicode/utf8.acceptRanges", laid_unicode_utf8_acceptRanges), ("unicode/utf8.first", laid_unicode_utf8_first)] }
def FnExactRulMaySaid : Prop := fnExactRulMayRow.holds Tryd.pinned (OpenSpec.ofChange fnExactRulMaySpec)

/-- ITS FALSE NEIGHBOUR: 'it returns false'. Refute it at one input. -/
def fnExactRulMayWrong : ChangeSpec := { name := "fnExactRulMay", fn := fun _ => fun
  | [d1, d2, d3, d4, d5] => { results := [.lit (.bool false)], args := [d1, d2, d3, d4, d5] }
  | _ => none }
def FnExactRulMayWrongFalsely : Prop := fnExactRulMayRow.holds Tryd.pinned (OpenSpec.ofChange fnExactRulMayWrong)

/-- 'laws.FnExactRulListOk': WHATEVER THE INPUT: true; the input reads as it did. -/
def fnExactRulListOkSpec : ChangeSpec := { name := "fnExactRulListOk", fn := fun _ => fun
  | [d] => { results := [.lit (.bool true)], args := [d] }
  | _ => none }
def fnExactRulListOkRow : OpenClaim := { program := "ytmjneiiallgdcaadoor", sum := "e74851d3b4f7da195f2d1eb5a3356dd0a57a9b16c4cbc2042415401e018acda6", func := "loop.example/chartulary/laws.FnExactRulListOk", spec := "fnExactRulListOk", inPlace := ["internal/bytealg.CountString", "internal/bytealg.IndexByteString", "internal/bytealg.IndexString"], named := ["unicode/utf8.first", "unicode/utf8.acceptRanges", "internal/bytealg.MaxLen"], apart := false, laid := [("unicode/utf8.acceptRanges", laid_unicode_utf8_acceptRanges), ("unicode/utf8.first", laid_unicode_utf8_first)] }
def FnExactRulListOkSaid : Prop := fnExactRulListOkRow.holds Tryd.pinned (OpenSpec.ofChange fnExactRulListOkSpec)

/-- ITS FALSE NEIGHBOUR: 'it returns false'. Refute it at one input. -/
def fnExactRulListOkWrong : ChangeSpec := { name := "fnExactRulListOk", fn := fun _ => fun
  | [d] => { results := [.lit (.bool false)], args := [d] }
  | _ => none }
def FnExactRulListOkWrongFalsely : Prop := fnExactRulListOkRow.holds Tryd.pinned (OpenSpec.ofChange fnExactRulListOkWrong)

/-- 'laws.FnExactRulPut': WHATEVER THE INPUT: true; the input reads as it did. -/
def fnExactRulPutSpec : ChangeSpec := { name := "fnExactRulPut", fn := fun _ => fun
  | [d1, d2] => { results := [.lit (.bool true)], args := [d1, d2] }
  | _ => none }
def fnExactRulPutRow : OpenClaim := { program := "ytmjneiiallgdcaadoor", sum := "e74851d3b4f7da195f2d1eb5a3356dd0a57a9b16c4cbc2042415401e018acda6", func := "loop.example/chartulary/laws.FnExactRulPut", spec := "fnExactRulPut", inPlace := ["internal/bytealg.CountString", "internal/bytealg.IndexByteString", "internal/bytealg.IndexString"], named := ["unicode/utf8.first", "unicode/utf8.acceptRanges", "internal/bytealg.MaxLen"], apart := false, laid := [("unicode/utf8.acceptRanges", laid_unicode_utf8_acceptRanges), ("unicode/utf8.first", laid_unicode_utf8_first)] }
def FnExactRulPutSaid : Prop := fnExactRulPutRow.holds Tryd.pinned (OpenSpec.ofChange fnExactRulPutSpec)

/-- ITS FALSE NEIGHBOUR: 'it returns false'. Refute it at one input. -/
def fnExactRulPutWrong : ChangeSpec := { name := "fnExactRulPut", fn := fun _ => fun
  | [d1, d2] => { results := [.lit (.bool false)], args := [d1, d2] }
  | _ => none }
def FnExactRulPutWrongFalsely : Prop := fnExactRulPutRow.holds Tryd.pinned (OpenSpec.ofChange fnExactRulPutWrong)

/- THE SECOND FORM. 'bulk': how many values and letters a reading holds, each counted each time it is reached (what is shared counts as often as it is met; a slice's spare places count too). A statement '..UptoSaid' is the law's where the arguments, and the package variables that the reading takes, are together of bulk at most 1048576: NARROWER than '..Said'. Prove '..Said' where nothing that the law and all that it calls make is longer than what came in: it says more and counts as full. Else prove '..UptoSaid'. A law counts once. -/
mutual
def uptoBulk {H : Type} : DataW H → Nat
  | .lit (.string bytes) => bytes.length + 1
  | .lit _ => 1
  | .nil => 1
  | .ptr d => uptoBulk d + 1
  | .slice elems spare => uptoBulkAll elems + uptoBulkAll spare + 1
  | .agg parts => uptoBulkAll parts + 1
  | .iface _ d => uptoBulk d + 1
  | .map entries => uptoBulkEntries entries + 1
  | .held _ => 1
def uptoBulkAll {H : Type} : List (DataW H) → Nat
  | [] => 0
  | d :: r => uptoBulk d + uptoBulkAll r
def uptoBulkEntries {H : Type} : List (Lit × DataW H) → Nat
  | [] => 0
  | x :: r => uptoBulkEntry x + uptoBulkEntries r
def uptoBulkEntry {H : Type} : Lit × DataW H → Nat
  | (.string bytes, d) => bytes.length + uptoBulk d + 1
  | (_, d) => uptoBulk d + 1
 end
def uptoSmall : (H : Type) → List (DataW H) → Bool := fun _ ds => decide (uptoBulkAll ds ≤ 1048576)
def OpenSpec.upto (s : _root_.Go.ChangeSpec) : _root_.Go.OpenSpec := { _root_.Go.OpenSpec.ofChange s with cond := some uptoSmall }

/-- 'laws.FnExactPthOk', WHERE WHAT IT READS IS OF BULK AT MOST 1048576: true; the input reads as it did. -/
def fnExactPthOkUptoRow : OpenClaim := { program := "ytmjneiiallgdcaadoor", sum := "e74851d3b4f7da195f2d1eb5a3356dd0a57a9b16c4cbc2042415401e018acda6", func := "loop.example/chartulary/laws.FnExactPthOk", spec := "fnExactPthOk", inPlace := ["internal/bytealg.CountString", "internal/bytealg.IndexByteString", "internal/bytealg.IndexString"], named := ["unicode/utf8.first", "unicode/utf8.acceptRanges", "internal/bytealg.MaxLen"], apart := false, laid := [("unicode/utf8.acceptRanges", laid_unicode_utf8_acceptRanges), ("unicode/utf8.first", laid_unicode_utf8_first)], narrowed := true }
def FnExactPthOkUptoSaid : Prop := fnExactPthOkUptoRow.holds Tryd.pinned (OpenSpec.upto fnExactPthOkSpec)

/-- 'laws.FnExactPthUnder', WHERE WHAT IT READS IS OF BULK AT MOST 1048576: true; the input reads as it did. -/
def fnExactPthUnderUptoRow : OpenClaim := { program := "ytmjneiiallgdcaadoor", sum := "e74851d3b4f7da195f2d1eb5a3356dd0a57a9b16c4cbc2042415401e018acda6", func := "loop.example/chartulary/laws.FnExactPthUnder", spec := "fnExactPthUnder", inPlace := ["internal/bytealg.CountString", "internal/bytealg.IndexByteString", "internal/bytealg.IndexString"], named := ["unicode/utf8.first", "unicode/utf8.acceptRanges", "internal/bytealg.MaxLen"], apart := false, laid := [("unicode/utf8.acceptRanges", laid_unicode_utf8_acceptRanges), ("unicode/utf8.first", laid_unicode_utf8_first)], narrowed := true }
def FnExactPthUnderUptoSaid : Prop := fnExactPthUnderUptoRow.holds Tryd.pinned (OpenSpec.upto fnExactPthUnderSpec)

/-- 'laws.FnExactPthFirst', WHERE WHAT IT READS IS OF BULK AT MOST 1048576: true; the input reads as it did. -/
def fnExactPthFirstUptoRow : OpenClaim := { program := "ytmjneiiallgdcaadoor", sum := "e74851d3b4f7da195f2d1eb5a3356dd0a57a9b16c4cbc2042415401e018acda6", func := "loop.example/chartulary/laws.FnExactPthFirst", spec := "fnExactPthFirst", inPlace := ["internal/bytealg.CountString", "internal/bytealg.IndexByteString", "internal/bytealg.IndexString"], named := ["unicode/utf8.first", "unicode/utf8.acceptRanges", "internal/bytealg.MaxLen"], apart := false, laid := [("unicode/utf8.acceptRanges", laid_unicode_utf8_acceptRanges), ("unicode/utf8.first", laid_unicode_utf8_first)], narrowed := true }
def FnExactPthFirstUptoSaid : Prop := fnExactPthFirstUptoRow.holds Tryd.pinned (OpenSpec.upto fnExactPthFirstSpec)

/-- 'laws.FnExactPthJoin', WHERE WHAT IT READS IS OF BULK AT MOST 1048576: true; the input reads as it did. -/
def fnExactPthJoinUptoRow : OpenClaim := { program := "ytmjneiiallgdcaadoor", sum := "e74851d3b4f7da195f2d1eb5a3356dd0a57a9b16c4cbc2042415401e018acda6", func := "loop.example/chartulary/laws.FnExactPthJoin", spec := "fnExactPthJoin", inPlace := ["internal/bytealg.CountString", "internal/bytealg.IndexByteString", "internal/bytealg.IndexString"], named := ["unicode/utf8.first", "unicode/utf8.acceptRanges", "internal/bytealg.MaxLen"], apart := false, laid := [("unicode/utf8.acceptRanges", laid_unicode_utf8_acceptRanges), ("unicode/utf8.first", laid_unicode_utf8_first)], narrowed := true }
def FnExactPthJoinUptoSaid : Prop := fnExactPthJoinUptoRow.holds Tryd.pinned (OpenSpec.upto fnExactPthJoinSpec)

/-- 'laws.FnExactPthRest', WHERE WHAT IT READS IS OF BULK AT MOST 1048576: true; the input reads as it did. -/
def fnExactPthRestUptoRow : OpenClaim := { program := "ytmjneiiallgdcaadoor", sum := "e74851d3b4f7da195f2d1eb5a3356dd0a57a9b16c4cbc2042415401e018acda6", func := "loop.example/chartulary/laws.FnExactPthRest", spec := "fnExactPthRest", inPlace := ["internal/bytealg.CountString", "internal/bytealg.IndexByteString", "internal/bytealg.IndexString"], named := ["unicode/utf8.first", "unicode/utf8.acceptRanges", "internal/bytealg.MaxLen"], apart := false, laid := [("unicode/utf8.acceptRanges", laid_unicode_utf8_acceptRanges), ("unicode/utf8.first", laid_unicode_utf8_first)], narrowed := true }
def FnExactPthRestUptoSaid : Prop := fnExactPthRestUptoRow.holds Tryd.pinned (OpenSpec.upto fnExactPthRestSpec)

/-- 'laws.FnExactPthParts', WHERE WHAT IT READS IS OF BULK AT MOST 1048576: true; the input reads as it did. -/
def fnExactPthPartsUptoRow : OpenClaim := { program := "ytmjneiiallgdcaadoor", sum := "e74851d3b4f7da195f2d1eb5a3356dd0a57a9b16c4cbc2042415401e018acda6", func := "loop.example/chartulary/laws.FnExactPthParts", spec := "fnExactPthParts", inPlace := ["internal/bytealg.CountString", "internal/bytealg.IndexByteString", "internal/bytealg.IndexString"], named := ["unicode/utf8.first", "unicode/utf8.acceptRanges", "internal/bytealg.MaxLen"], apart := false, laid := [("unicode/utf8.acceptRanges", laid_unicode_utf8_acceptRanges), ("unicode/utf8.first", laid_unicode_utf8_first)], narrowed := true }
def FnExactPthPartsUptoSaid : Prop := fnExactPthPartsUptoRow.holds Tryd.pinned (OpenSpec.upto fnExactPthPartsSpec)

/-- 'laws.FnExactRulOk', WHERE WHAT IT READS IS OF BULK AT MOST 1048576: true; the input reads as it did. -/
def fnExactRulOkUptoRow : OpenClaim := { program := "ytmjneiiallgdcaadoor", sum := "e74851d3b4f7da195f2d1eb5a3356dd0a57a9b16c4cbc2042415401e018acda6", func := "loop.example/chartulary/laws.FnExactRulOk", spec := "fnExactRulOk", inPlace := ["internal/bytealg.CountString", "internal/bytealg.IndexByteString", "internal/bytealg.IndexString"], named := ["unicode/utf8.first", "unicode/utf8.acceptRanges", "internal/bytealg.MaxLen"], apart := false, laid := [("unicode/utf8.acceptRanges", laid_unicode_utf8_acceptRanges), ("unicode/utf8.first", laid_unicode_utf8_first)], narrowed := true }
def FnExactRulOkUptoSaid : Prop := fnExactRulOkUptoRow.holds Tryd.pinned (OpenSpec.upto fnExactRulOkSpec)

/-- 'laws.FnExactRulSees', WHERE WHAT IT READS IS OF BULK AT MOST 1048576: true; the input reads as it did. -/
def fnExactRulSeesUptoRow : OpenClaim := { program := "ytmjneiiallgdcaadoor", sum := "e74851d3b4f7da195f2d1eb5a3356dd0a57a9b16c4cbc2042415401e018acda6", func := "loop.example/chartulary/laws.FnExactRulSees", spec := "fnExactRulSees", inPlace := ["internal/bytealg.CountString", "internal/bytealg.IndexByteString", "internal/bytealg.IndexString"], unfollowed := true, recurses := true, named := ["unicode/utf8.first", "unicode/utf8.acceptRanges", "internal/bytealg.MaxLen"], apart := false, laid := [("unicode/utf8.acceptRanges", laid_unicode_utf8_acceptRanges), ("unicode/utf8.first", laid_unicode_utf8_first)], narrowed := true }
def FnExactRulSeesUptoSaid : Prop := fnExactRulSeesUptoRow.holds Tryd.pinned (OpenSpec.upto fnExactRulSeesSpec)

/-- 'laws.FnExactRulMay', WHERE WHAT IT READS IS OF BULK AT MOST 1048576: true; the input reads as it did. -/
def fnExactRulMayUptoRow : OpenClaim := { program := "ytmjneiiallgdcaadoor", sum := "e74851d3b4f7da195f2d1eb5a3356dd0a57a9b16c4cbc2042415401e018acda6", func := "loop.example/chartulary/laws.FnExactRulMay", spec := "fnExactRulMay", inPlace := ["internal/bytealg.CountString", "internal/bytealg.IndexByteString", "internal/bytealg.IndexString"], unfollowed := true, recurses := true, named := ["unicode/utf8.first", "unicode/utf8.acceptRanges", "internal/bytealg.MaxLen"], apart := false, laid := [("unicode/utf8.acceptRanges", laid_unicode_utf8_acceptRanges), ("unicode/utf8.first", laid_unicode_utf8_first)], narrowed := true }
def FnExactRulMayUptoSaid : Prop := fnExactRulMayUptoRow.holds Tryd.pinned (OpenSpec.upto fnExactRulMaySpec)

/-- 'laws.FnExactRulListOk', WHERE WHAT IT READS IS OF BULK AT MOST 1048576: true; the input reads as it did. -/
def fnExactRulListOkUptoRow : OpenClaim := { program := "ytmjneiiallgdcaadoor", sum := "e74851d3b4f7da195f2d1eb5a3356dd0a57a9b16c4cbc2042415401e018acda6", func := "loop.example/chartulary/laws.FnExactRulListOk", spec := "fnExactRulListOk", inPlace := ["internal/bytealg.CountString", "internal/bytealg.IndexByteString", "internal/bytealg.IndexString"], named := ["unicode/utf8.first", "unicode/utf8.acceptRanges", "internal/bytealg.MaxLen"], apart := false, laid := [("unicode/utf8.acceptRanges", laid_unicode_utf8_acceptRanges), ("unicode/utf8.first", laid_unicode_utf8_first)], narrowed := true }
def FnExactRulListOkUptoSaid : Prop := fnExactRulListOkUptoRow.holds Tryd.pinned (OpenSpec.upto fnExactRulListOkSpec)

/-- 'laws.FnExactRulPut', WHERE WHAT IT READS IS OF BULK AT MOST 1048576: true; the input reads as it did. -/
def fnExactRulPutUptoRow : OpenClaim := { program := "ytmjneiiallgdcaadoor", sum := "e74851d3b4f7da195f2d1eb5a3356dd0a57a9b16c4cbc2042415401e018acda6", func := "loop.example/chartulary/laws.FnExactRulPut", spec := "fnExactRulPut", inPlace := ["internal/bytealg.CountString", "internal/bytealg.IndexByteString", "internal/bytealg.IndexString"], named := ["unicode/utf8.first", "unicode/utf8.acceptRanges", "internal/bytealg.MaxLen"], apart := false, laid := [("unicode/utf8.acceptRanges", laid_unicode_utf8_acceptRanges), ("unicode/utf8.first", laid_unicode_utf8_first)], narrowed := true }
def FnExactRulPutUptoSaid : Prop := fnExactRulPutUptoRow.holds Tryd.pinned (OpenSpec.upto fnExactRulPutSpec)

end Rows
end Go.Proofs.YtmjneiiallgdcaaDoor
