/-
  NARROWER THAN 'FOR EVERY INPUT', by the rows' own cells (each row's printed sentence says how): FnExactTreNames: laid · FnTreUnder: laid · FnTreDiffers: laid · FnTreTurn: laid · FnExactTreTurn: laid.
  DERIVED. THE GIVEN ROWS OF THIS SEAT. 5 by the template 'for every input the law returns true; each argument reads behind the call as it read before'; 0 by the template 'total and deterministic' (their statements: YtkghhmjmfcnbnaaDoorTotals.lean).
  GIVEN WITH THE SEED: the statements are not yours to turn. If you find one false, say at which input.
  Laid BY PROGRAM, IN A SANDBOX (cutbox-rows.mjs): the forced cells as the released guide's own fill.sh prints them over the translation 5ffc0a4b011a6981… (all of the seat's roots in one cut). By AI agents, Wed Nov 11 2026. No macro, syntax, notation, axiom, sorry.
-/
import Derived.Test.YtkghhmjmfcnbnaaDoorChecked
import GoSem.PinnedTables
import GoSem.Claim
import GoSem.ClaimJoined
import GoSem.ClaimMapViews
import Derived.JoinedTies
import Derived.KernelRfl
namespace Go.Proofs.YtkghhmjmfcnbnaaDoor
/- THE CELL 'sum', in the pinned program and in every row, IS THE sha256 OF THE DUMP (.gsa) THAT YtkghhmjmfcnbnaaDoorProg.lean LOADS. Nothing in Lean hashes anything: it is a label: what it is worth is what the hold of that sum in a sandbox is worth. -/
noncomputable def Tryd.pinned : Pinned := { name := "ytkghhmjmfcnbnaadoor", sum := "5ffc0a4b011a69815453b45e695e4da7544d26f5e87eb9a52c3f3c6b604fa318", checked := Tryd.checked }
namespace Rows
def none {H : Type} : Left H := { results := [], args := [] }

/- WHAT THE LISTED PACKAGE-LEVEL VARIABLES READ AS WHEN THE CALL BEGINS. Each datum BY PROGRAM (the guide's laid-datum.mjs) off the statement by which the dump's own 'gosem.cut.vars' lays the variable. In a bare row this is a premise. The card (YtkghhmjmfcnbnaaDoorCards.lean) ties it to the program's text. -/
def laid_unicode_utf8_acceptRanges {H : Type} : DataW H := .agg [.agg [.lit (.int .u8 128), .lit (.int .u8 191)], .agg [.lit (.int .u8 160), .lit (.int .u8 191)], .agg [.lit (.int .u8 128), .lit (.int .u8 159)], .agg [.lit (.int .u8 144), .lit (.int .u8 191)], .agg [.lit (.int .u8 128), .lit (.int .u8 143)], .agg [.lit (.int .u8 0), .lit (.int .u8 0)], .agg [.lit (.int .u8 0), .lit (.int .u8 0)], .agg [.lit (.int .u8 0), .lit (.int .u8 0)], .agg [.lit (.int .u8 0), .lit (.int .u8 0)], .agg [.lit (.int .u8 0), .lit (.int .u8 0)], .agg [.lit (.int .u8 0), .lit (.int .u8 0)], .agg [.lit (.int .u8 0), .lit (.int .u8 0)], .agg [.lit (.int .u8 0), .lit (.int .u8 0)], .agg [.lit (.int .u8 0), .lit (.int .u8 0)], .agg [.lit (.int .u8 0), .lit (.int .u8 0)], .agg [.lit (.int .u8 0), .lit (.int .u8 0)]]
/-- One of Go's own tables, pinned by name: the form's constant. -/
def laid_unicode_utf8_first : DataW Unit := Go.Pinned.utf8First

/-- 'laws.FnExactTreNames': WHATEVER THE INPUT: true; the input reads as it did. -/
def fnExactTreNamesSpec : ChangeSpec := { name := "fnExactTreNames", fn := fun _ => fun
  | [d1, d2] => { results := [.lit (.bool true)], args := [d1, d2] }
  | _ => none }
def fnExactTreNamesRow : OpenClaim := { program := "ytkghhmjmfcnbnaadoor", sum := "5ffc0a4b011a69815453b45e695e4da7544d26f5e87eb9a52c3f3c6b604fa318", func := "loop.example/chartulary/laws.FnExactTreNames", spec := "fnExactTreNames", inPlace := ["internal/bytealg.CountString", "internal/bytealg.IndexByteString", "internal/bytealg.IndexString"], recurses := true, named := ["unicode/utf8.first", "unicode/utf8.acceptRanges", "internal/bytealg.MaxLen"], apart := false, laid := [("unicode/utf8.acceptRanges", laid_unicode_utf8_acceptRanges), ("unicode/utf8.first", laid_unicode_utf8_first)] }
def FnExactTreNamesSaid : Prop := fnExactTreNamesRow.holds Tryd.pinned (OpenSpec.ofChange fnExactTreNamesSpec)

/-- ITS FALSE NEIGHBOUR: 'it returns false'. Refute it at one input. -/
def fnExactTreNamesWrong : ChangeSpec := { name := "fnExactTreNames", fn := fun _ => fun
  | [d1, d2] => { results := [.lit (.bool false)], args := [d1, d2] }
  | _ => none }
def FnExactTreNamesWrongFalsely : Prop := fnExactTreNamesRow.holds Tryd.pinned (OpenSpec.ofChange fnExactTreNamesWrong)

/-- 'laws.FnTreUnder': WHATEVER THE INPUT: true; the input reads as it did. -/
def fnTreUnderSpec : ChangeSpec := { name := "fnTreUnder", fn := fun _ => fun
  | [d] => { results := [.lit (.bool true)], args := [d] }
  | _ => none }
def fnTreUnderRow : OpenClaim := { program := "ytkghhmjmfcnbnaadoor", sum := "5ffc0a4b011a69815453b45e695e4da7544d26f5e87eb9a52c3f3c6b604fa318", func := "loop.example/chartulary/laws.FnTreUnder", spec := "fnTreUnder", inPlace := ["internal/bytealg.CountString", "internal/bytealg.IndexByteString", "internal/bytealg.IndexString"], unfollowed := true, recurses := true, named := ["unicode/utf8.first", "unicode/utf8.acceptRanges", "internal/bytealg.MaxLen"], apart := false, laid := [("unicode/utf8.acceptRanges", laid_unicode_utf8_acceptRanges), ("unicode/utf8.first", laid_unicode_utf8_first)] }
def FnTreUnderSaid : Prop := fnTreUnderRow.holds Tryd.pinned (OpenSpec.ofChange fnTreUnderSpec)

/-- ITS FALSE NEIGHBOUR: 'it returns false'. Refute it at one input. -/
def fnTreUnderWrong : ChangeSpec := { name := "fnTreUnder", fn := fun _ => fun
  | [d] => { results := [.lit (.bool false)], args := [d] }
  | _ => none }
def FnTreUnderWrongFalsely : Prop := fnTreUnderRow.holds Tryd.pinned (OpenSpec.ofChange fnTreUnderWrong)

/-- 'laws.FnTreDiffers': WHATEVER THE INPUT: true; the input reads as it did. -/
def fnTreDiffersSpec : ChangeSpec := { name := "fnTreDiffers", fn := fun _ => fun
  | [d] => { results := [.lit (.bool true)], args := [d] }
  | _ => none }
def fnTreDiffersRow : OpenClaim := { program := "ytkghhmjmfcnbnaadoor", sum := "5ffc0a4b011a69815453b45e695e4da7544d26f5e87eb9a52c3f3c6b604fa318", func := "loop.example/chartulary/laws.FnTreDiffers", spec := "fnTreDiffers", inPlace := ["internal/bytealg.CountString", "internal/bytealg.IndexByteString", "internal/bytealg.IndexString", "slices.overlaps[loop.example/chartulary/impl.TreFile]"], unfollowed := true, recurses := true, named := ["unicode/utf8.first", "unicode/utf8.acceptRanges", "internal/bytealg.MaxLen"], apart := false, laid := [("unicode/utf8.acceptRanges", laid_unicode_utf8_acceptRanges), ("unicode/utf8.first", laid_unicode_utf8_first)] }
def FnTreDiffersSaid : Prop := fnTreDiffersRow.holds Tryd.pinned (OpenSpec.ofChange fnTreDiffersSpec)

/-- ITS FALSE NEIGHBOUR: 'it returns false'. Refute it at one input. -/
def fnTreDiffersWrong : ChangeSpec := { name := "fnTreDiffers", fn := fun _ => fun
  | [d] => { results := [.lit (.bool false)], args := [d] }
  | _ => none }
def FnTreDiffersWrongFalsely : Prop := fnTreDiffersRow.holds Tryd.pinned (OpenSpec.ofChange fnTreDiffersWrong)

/-- 'laws.FnTreTurn': WHATEVER THE INPUT: true; the input reads as it did. -/
def fnTreTurnSpec : ChangeSpec := { name := "fnTreTurn", fn := fun _ => fun
  | [d] => { results := [.lit (.bool true)], args := [d] }
  | _ => none }
def fnTreTurnRow : OpenClaim := { program := "ytkghhmjmfcnbnaadoor", sum := "5ffc0a4b011a69815453b45e695e4da7544d26f5e87eb9a52c3f3c6b604fa318", func := "loop.example/chartulary/laws.FnTreTurn", spec := "fnTreTurn", inPlace := ["internal/bytealg.CountString", "internal/bytealg.IndexByteString", "internal/bytealg.IndexString", "slices.overlaps[loop.example/chartulary/impl.TreFile]"], unfollowed := true, recurses := true, named := ["unicode/utf8.first", "unicode/utf8.acceptRanges", "internal/bytealg.MaxLen"], apart := false, laid := [("unicode/utf8.acceptRanges", laid_unicode_utf8_acceptRanges), ("unicode/utf8.first", laid_unicode_utf8_first)] }
def FnTreTurnSaid : Prop := fnTreTurnRow.holds Tryd.pinned (OpenSpec.ofChange fnTreTurnSpec)

/-- ITS FALSE NEIGHBOUR: 'it returns false'. Refute it at one input. -/
def fnTreTurnWrong : ChangeSpec := { name := "fnTreTurn", fn := fun _ => fun
  | [d] => { results := [.lit (.bool false)], args := [d] }
  | _ => none }
def FnTreTurnWrongFalsely : Prop := fnTreTurnRow.holds Tryd.pinned (OpenSpec.ofChange fnTreTurnWrong)

/-- 'laws.FnExactTreTurn': WHATEVER THE INPUT: true; the input reads as it did. -/
def fnExactTreTurnSpec : ChangeSpec := { name := "fnExactTreTurn", fn := fun _ => fun
  | [d1, d2] => { results := [.lit (.bool true)], args := [d1, d2] }
  | _ => none }
def fnExactTreTurnRow : OpenClaim := { program := "ytkghhmjmfcnbnaadoor", sum := "5ffc0a4b011a69815453b45e695e4da7544d26f5e87eb9a52c3f3c6b604fa318", func := "loop.example/chartulary/laws.FnExactTreTurn", spec := "fnExactTreTurn", inPlace := ["internal/bytealg.CountString", "internal/bytealg.IndexByteString", "internal/bytealg.IndexString", "slices.overlaps[loop.example/chartulary/impl.TreFile]"], unfollowed := true, recurses := true, named := ["unicode/utf8.first", "unicode/utf8.acceptRanges", "internal/bytealg.MaxLen"], apart := false, laid := [("unicode/utf8.acceptRanges", laid_unicode_utf8_acceptRanges), ("unicode/utf8.first", laid_unicode_utf8_first)] }
def FnExactTreTurnSaid : Prop := fnExactTreTurnRow.holds Tryd.pinned (OpenSpec.ofChange fnExactTreTurnSpec)

/-- ITS FALSE NEIGHBOUR: 'it returns false'. Refute it at one input. -/
def fnExactTreTurnWrong : ChangeSpec := { name := "fnExactTreTurn", fn := fun _ => fun
  | [d1, d2] => { results := [.lit (.bool false)], args := [d1, d2] }
  | _ => none }
def FnExactTreTurnWrongFalsely : Prop := fnExactTreTurnRow.holds Tryd.pinned (OpenSpec.ofChange fnExactTreTurnWrong)

/- THE SECOND FORM. 'bulk': how many values and letters a reading holds, each counted each time it is reached (what is shared counts as often as it is met; a slice's spare places count too). A statement '..UptoSaid' is the law's where the arguments, and the package variables that the reading takes, are together of bulk at most 1048576: NARROWER than '..Said'. Prove '..Said' where nothing that the law and all that it calls make is longer than what came in: it says more and counts as full. Else prove '..UptoSaid'. A law counts once. -/
mutual
def uptoBulk {H : Type} : DataW H → Nat
  | .lit (.string bytes) => bytes.length + 1
  | .lit _ => 1
  | .nil => 1
  | .ptr d => uptoBulk d + 1
  | .slice elems spare => uptoBulkAll elems + uptoBulkAll spare + 1
  | .agg parts => uptoBulkAll parts + 1
  | .iface _ d => uptoBulk d + 1
  | .map entries => uptoBulkEntries entries + 1
  | .held _ => 1
def uptoBulkAll {H : Type} : List (DataW H) → Nat
  | [] => 0
  | d :: r => uptoBulk d + uptoBulkAll r
def uptoBulkEntries {H : Type} : List (Lit × DataW H) → Nat
  | [] => 0
  | x :: r => uptoBulkEntry x + uptoBulkEntries r
def uptoBulkEntry {H : Type} : Lit × DataW H → Nat
  | (.string bytes, d) => bytes.length + uptoBulk d + 1
  | (_, d) => uptoBulk d + 1
 end
def uptoSmall : (H : Type) → List (DataW H) → Bool := fun _ ds => decide (uptoBulkAll ds ≤ 1048576)
def OpenSpec.upto (s : _root_.Go.ChangeSpec) : _root_.Go.OpenSpec := { _root_.Go.OpenSpec.ofChange s with cond := some uptoSmall }

/-- 'laws.FnExactTreNames', WHERE WHAT IT READS IS OF BULK AT MOST 1048576: true; the input reads as it did. -/
def fnExactTreNamesUptoRow : OpenClaim := { program := "ytkghhmjmfcnbnaadoor", sum := "5ffc0a4b011a69815453b45e695e4da7544d26f5e87eb9a52c3f3c6b604fa318", func := "loop.example/chartulary/laws.FnExactTreNames", spec := "fnExactTreNames", inPlace := ["internal/bytealg.CountString", "internal/bytealg.IndexByteString", "internal/bytealg.IndexString"], recurses := true, named := ["unicode/utf8.first", "unicode/utf8.acceptRanges", "internal/bytealg.MaxLen"], apart := false, laid := [("unicode/utf8.acceptRanges", laid_unicode_utf8_acceptRanges), ("unicode/utf8.first", laid_unicode_utf8_first)], narrowed := true }
def FnExactTreNamesUptoSaid : Prop := fnExactTreNamesUptoRow.holds Tryd.pinned (OpenSpec.upto fnExactTreNamesSpec)

/-- 'laws.FnTreUnder', WHERE WHAT IT READS IS OF BULK AT MOST 1048576: true; the input reads as it did. -/
def fnTreUnderUptoRow : OpenClaim := { program := "ytkghhmjmfcnbnaadoor", sum := "5ffc0a4b011a69815453b45e695e4da7544d26f5e87eb9a52c3f3c6b604fa318", func := "loop.example/chartulary/laws.FnTreUnder", spec := "fnTreUnder", inPlace := ["internal/bytealg.CountString", "internal/bytealg.IndexByteString", "internal/bytealg.IndexString"], unfollowed := true, recurses := true, named := ["unicode/utf8.first", "unicode/utf8.acceptRanges", "internal/bytealg.MaxLen"], apart := false, laid := [("unicode/utf8.acceptRanges", laid_unicode_utf8_acceptRanges), ("unicode/utf8.first", laid_unicode_utf8_first)], narrowed := true }
def FnTreUnderUptoSaid : Prop := fnTreUnderUptoRow.holds Tryd.pinned (OpenSpec.upto fnTreUnderSpec)

/-- 'laws.FnTreDiffers', WHERE WHAT IT READS IS OF BULK AT MOST 1048576: true; the input reads as it did. -/
def fnTreDiffersUptoRow : OpenClaim := { program := "ytkghhmjmfcnbnaadoor", sum := "5ffc0a4b011a69815453b45e695e4da7544d26f5e87eb9a52c3f3c6b604fa318", func := "loop.example/chartulary/laws.FnTreDiffers", spec := "fnTreDiffers", inPlace := ["internal/bytealg.CountString", "internal/bytealg.IndexByteString", "internal/bytealg.IndexString", "slices.overlaps[loop.example/chartulary/impl.TreFile]"], unfollowed := true, recurses := true, named := ["unicode/utf8.first", "unicode/utf8.acceptRanges", "internal/bytealg.MaxLen"], apart := false, laid := [("unicode/utf8.acceptRanges", laid_unicode_utf8_acceptRanges), ("unicode/utf8.first", laid_unicode_utf8_first)], narrowed := true }
def FnTreDiffersUptoSaid : Prop := fnTreDiffersUptoRow.holds Tryd.pinned (OpenSpec.upto fnTreDiffersSpec)

/-- 'laws.FnTreTurn', WHERE WHAT IT READS IS OF BULK AT MOST 1048576: true; the input reads as it did. -/
def fnTreTurnUptoRow : OpenClaim := { program := "ytkghhmjmfcnbnaadoor", sum := "5ffc0a4b011a69815453b45e695e4da7544d26f5e87eb9a52c3f3c6b604fa318", func := "loop.example/chartulary/laws.FnTreTurn", spec := "fnTreTurn", inPlace := ["internal/bytealg.CountString", "internal/bytealg.IndexByteString", "internal/bytealg.IndexString", "slices.overlaps[loop.example/chartulary/impl.TreFile]"], unfollowed := true, recurses := true, named := ["unicode/utf8.first", "unicode/utf8.acceptRanges", "internal/bytealg.MaxLen"], apart := false, laid := [("unicode/utf8.acceptRanges", laid_unicode_utf8_acceptRanges), ("unicode/utf8.first", laid_unicode_utf8_first)], narrowed := true }
def FnTreTurnUptoSaid : Prop := fnTreTurnUptoRow.holds Tryd.pinned (OpenSpec.upto fnTreTurnSpec)

/-- 'laws.FnExactTreTurn', WHERE WHAT IT READS IS OF BULK AT MOST 1048576: true; the input reads as it did. -/
def fnExactTreTurnUptoRow : OpenClaim := { program := "ytkghhmjmfcnbnaadoor", sum := "5ffc0a4b011a69815453b45e695e4da7544d26f5e87eb9a52c3f3c6b604fa318", func := "loop.example/chartulary/laws.FnExactTreTurn", spec := "fnExactTreTurn", inPlace := ["internal/bytealg.CountString", "internal/bytealg.IndexByteString", "internal/bytealg.IndexString", "slices.overlaps[loop.example/chartulary/impl.TreFile]"], unfollowed := true, recurses := true, named := ["unicode/utf8.first", "unicode/utf8.acceptRanges", "internal/bytealg.MaxLen"], apart := false, laid := [("unicode/utf8.acceptRanges", laid_unicode_utf8_acceptRanges), ("unicode/utf8.first", laid_unicode_utf8_first)], narrowed := true }
def FnExactTreTurnUptoSaid : Prop := fnExactTreTurnUptoRow.holds Tryd.pinned (OpenSpec.upto fnExactTreTurnSpec)

end Rows
end Go.Proofs.YtkghhmjmfcnbnaaDoor
