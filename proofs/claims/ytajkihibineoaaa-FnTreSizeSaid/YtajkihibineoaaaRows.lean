/-
  No cell of these rows narrows 'for every input' (looked for: loops, veiled, ifaces, maps, wideKeys, modest, calm, conditions, laid).
  DERIVED. THE GIVEN ROWS OF THIS SEAT. 12 by the template 'for every input the law returns true; each argument reads behind the call as it read before'; 0 by the template 'total and deterministic' (their statements: YtajkihibineoaaaTotals.lean).
  GIVEN WITH THE SEED: the statements are not yours to turn. If you find one false, say at which input.
  Laid BY PROGRAM, IN A SANDBOX (cutbox-rows.mjs): the forced cells as the released guide's own fill.sh prints them over the translation ff4aba9e313be1a7… (all of the seat's roots in one cut). By AI agents, Wed Nov 11 2026. No macro, syntax, notation, axiom, sorry.
-/
import Derived.Test.YtajkihibineoaaaChecked
import GoSem.Claim
import GoSem.ClaimJoined
import GoSem.ClaimMapViews
import Derived.JoinedTies
import Derived.KernelRfl
namespace Go.Proofs.Ytajkihibineoaaa
/- THE CELL 'sum', in the pinned program and in every row, IS THE sha256 OF THE DUMP (.gsa) THAT YtajkihibineoaaaProg.lean LOADS. Nothing in Lean hashes anything: it is a label: what it is worth is what the hold of that sum in a sandbox is worth. -/
noncomputable def Try.pinned : Pinned := { name := "ytajkihibineoaaa", sum := "ff4aba9e313be1a78184393a64f89798f58076723a90cd818161d39e272f209f", checked := Try.checked }
namespace Rows
def none {H : Type} : Left H := { results := [], args := [] }

/-- 'laws.FnExactConstants': WHATEVER THE INPUT: true; the input reads as it did. -/
def fnExactConstantsSpec : ChangeSpec := { name := "fnExactConstants", fn := fun _ => fun
  | [] => { results := [.lit (.bool true)], args := [] }
  | _ => none }
def fnExactConstantsRow : OpenClaim := { program := "ytajkihibineoaaa", sum := "ff4aba9e313be1a78184393a64f89798f58076723a90cd818161d39e272f209f", func := "loop.example/chartulary/laws.FnExactConstants", spec := "fnExactConstants", apart := false }
def FnExactConstantsSaid : Prop := fnExactConstantsRow.holds Try.pinned (OpenSpec.ofChange fnExactConstantsSpec)

/-- ITS FALSE NEIGHBOUR: 'it returns false'. Refute it at one input. -/
def fnExactConstantsWrong : ChangeSpec := { name := "fnExactConstants", fn := fun _ => fun
  | [] => { results := [.lit (.bool false)], args := [] }
  | _ => none }
def FnExactConstantsWrongFalsely : Prop := fnExactConstantsRow.holds Try.pinned (OpenSpec.ofChange fnExactConstantsWrong)

/-- 'laws.FnExactObjLeaf': WHATEVER THE INPUT: true; the input reads as it did. -/
def fnExactObjLeafSpec : ChangeSpec := { name := "fnExactObjLeaf", fn := fun _ => fun
  | [d] => { results := [.lit (.bool true)], args := [d] }
  | _ => none }
def fnExactObjLeafRow : OpenClaim := { program := "ytajkihibineoaaa", sum := "ff4aba9e313be1a78184393a64f89798f58076723a90cd818161d39e272f209f", func := "loop.example/chartulary/laws.FnExactObjLeaf", spec := "fnExactObjLeaf", apart := false }
def FnExactObjLeafSaid : Prop := fnExactObjLeafRow.holds Try.pinned (OpenSpec.ofChange fnExactObjLeafSpec)

/-- ITS FALSE NEIGHBOUR: 'it returns false'. Refute it at one input. -/
def fnExactObjLeafWrong : ChangeSpec := { name := "fnExactObjLeaf", fn := fun _ => fun
  | [d] => { results := [.lit (.bool false)], args := [d] }
  | _ => none }
def FnExactObjLeafWrongFalsely : Prop := fnExactObjLeafRow.holds Try.pinned (OpenSpec.ofChange fnExactObjLeafWrong)

/-- 'laws.FnExactIdOf': WHATEVER THE INPUT: true; the input reads as it did. -/
def fnExactIdOfSpec : ChangeSpec := { name := "fnExactIdOf", fn := fun _ => fun
  | [d] => { results := [.lit (.bool true)], args := [d] }
  | _ => none }
def fnExactIdOfRow : OpenClaim := { program := "ytajkihibineoaaa", sum := "ff4aba9e313be1a78184393a64f89798f58076723a90cd818161d39e272f209f", func := "loop.example/chartulary/laws.FnExactIdOf", spec := "fnExactIdOf", apart := false }
def FnExactIdOfSaid : Prop := fnExactIdOfRow.holds Try.pinned (OpenSpec.ofChange fnExactIdOfSpec)

/-- ITS FALSE NEIGHBOUR: 'it returns false'. Refute it at one input. -/
def fnExactIdOfWrong : ChangeSpec := { name := "fnExactIdOf", fn := fun _ => fun
  | [d] => { results := [.lit (.bool false)], args := [d] }
  | _ => none }
def FnExactIdOfWrongFalsely : Prop := fnExactIdOfRow.holds Try.pinned (OpenSpec.ofChange fnExactIdOfWrong)

/-- 'laws.FnExactNamOk': WHATEVER THE INPUT: true; the input reads as it did. -/
def fnExactNamOkSpec : ChangeSpec := { name := "fnExactNamOk", fn := fun _ => fun
  | [d] => { results := [.lit (.bool true)], args := [d] }
  | _ => none }
def fnExactNamOkRow : OpenClaim := { program := "ytajkihibineoaaa", sum := "ff4aba9e313be1a78184393a64f89798f58076723a90cd818161d39e272f209f", func := "loop.example/chartulary/laws.FnExactNamOk", spec := "fnExactNamOk", apart := false }
def FnExactNamOkSaid : Prop := fnExactNamOkRow.holds Try.pinned (OpenSpec.ofChange fnExactNamOkSpec)

/-- ITS FALSE NEIGHBOUR: 'it returns false'. Refute it at one input. -/
def fnExactNamOkWrong : ChangeSpec := { name := "fnExactNamOk", fn := fun _ => fun
  | [d] => { results := [.lit (.bool false)], args := [d] }
  | _ => none }
def FnExactNamOkWrongFalsely : Prop := fnExactNamOkRow.holds Try.pinned (OpenSpec.ofChange fnExactNamOkWrong)

/-- 'laws.FnTreSize': WHATEVER THE INPUT: true; the input reads as it did. -/
def fnTreSizeSpec : ChangeSpec := { name := "fnTreSize", fn := fun _ => fun
  | [d] => { results := [.lit (.bool true)], args := [d] }
  | _ => none }
def fnTreSizeRow : OpenClaim := { program := "ytajkihibineoaaa", sum := "ff4aba9e313be1a78184393a64f89798f58076723a90cd818161d39e272f209f", func := "loop.example/chartulary/laws.FnTreSize", spec := "fnTreSize", apart := false }
def FnTreSizeSaid : Prop := fnTreSizeRow.holds Try.pinned (OpenSpec.ofChange fnTreSizeSpec)

/-- ITS FALSE NEIGHBOUR: 'it returns false'. Refute it at one input. -/
def fnTreSizeWrong : ChangeSpec := { name := "fnTreSize", fn := fun _ => fun
  | [d] => { results := [.lit (.bool false)], args := [d] }
  | _ => none }
def FnTreSizeWrongFalsely : Prop := fnTreSizeRow.holds Try.pinned (OpenSpec.ofChange fnTreSizeWrong)

/-- 'laws.FnExactPolSize': WHATEVER THE INPUT: true; the input reads as it did. -/
def fnExactPolSizeSpec : ChangeSpec := { name := "fnExactPolSize", fn := fun _ => fun
  | [d] => { results := [.lit (.bool true)], args := [d] }
  | _ => none }
def fnExactPolSizeRow : OpenClaim := { program := "ytajkihibineoaaa", sum := "ff4aba9e313be1a78184393a64f89798f58076723a90cd818161d39e272f209f", func := "loop.example/chartulary/laws.FnExactPolSize", spec := "fnExactPolSize", apart := false }
def FnExactPolSizeSaid : Prop := fnExactPolSizeRow.holds Try.pinned (OpenSpec.ofChange fnExactPolSizeSpec)

/-- ITS FALSE NEIGHBOUR: 'it returns false'. Refute it at one input. -/
def fnExactPolSizeWrong : ChangeSpec := { name := "fnExactPolSize", fn := fun _ => fun
  | [d] => { results := [.lit (.bool false)], args := [d] }
  | _ => none }
def FnExactPolSizeWrongFalsely : Prop := fnExactPolSizeRow.holds Try.pinned (OpenSpec.ofChange fnExactPolSizeWrong)

/-- 'laws.FnExactTreSize': WHATEVER THE INPUT: true; the input reads as it did. -/
def fnExactTreSizeSpec : ChangeSpec := { name := "fnExactTreSize", fn := fun _ => fun
  | [d] => { results := [.lit (.bool true)], args := [d] }
  | _ => none }
def fnExactTreSizeRow : OpenClaim := { program := "ytajkihibineoaaa", sum := "ff4aba9e313be1a78184393a64f89798f58076723a90cd818161d39e272f209f", func := "loop.example/chartulary/laws.FnExactTreSize", spec := "fnExactTreSize", apart := false }
def FnExactTreSizeSaid : Prop := fnExactTreSizeRow.holds Try.pinned (OpenSpec.ofChange fnExactTreSizeSpec)

/-- ITS FALSE NEIGHBOUR: 'it returns false'. Refute it at one input. -/
def fnExactTreSizeWrong : ChangeSpec := { name := "fnExactTreSize", fn := fun _ => fun
  | [d] => { results := [.lit (.bool false)], args := [d] }
  | _ => none }
def FnExactTreSizeWrongFalsely : Prop := fnExactTreSizeRow.holds Try.pinned (OpenSpec.ofChange fnExactTreSizeWrong)

/-- 'laws.FnExactTreFind': WHATEVER THE INPUT: true; the input reads as it did. -/
def fnExactTreFindSpec : ChangeSpec := { name := "fnExactTreFind", fn := fun _ => fun
  | [d1, d2] => { results := [.lit (.bool true)], args := [d1, d2] }
  | _ => none }
def fnExactTreFindRow : OpenClaim := { program := "ytajkihibineoaaa", sum := "ff4aba9e313be1a78184393a64f89798f58076723a90cd818161d39e272f209f", func := "loop.example/chartulary/laws.FnExactTreFind", spec := "fnExactTreFind", unfollowed := true, recurses := true, apart := false }
def FnExactTreFindSaid : Prop := fnExactTreFindRow.holds Try.pinned (OpenSpec.ofChange fnExactTreFindSpec)

/-- ITS FALSE NEIGHBOUR: 'it returns false'. Refute it at one input. -/
def fnExactTreFindWrong : ChangeSpec := { name := "fnExactTreFind", fn := fun _ => fun
  | [d1, d2] => { results := [.lit (.bool false)], args := [d1, d2] }
  | _ => none }
def FnExactTreFindWrongFalsely : Prop := fnExactTreFindRow.holds Try.pinned (OpenSpec.ofChange fnExactTreFindWrong)

/-- 'laws.FnExactPolGet': WHATEVER THE INPUT: true; the input reads as it did. -/
def fnExactPolGetSpec : ChangeSpec := { name := "fnExactPolGet", fn := fun _ => fun
  | [d1, d2] => { results := [.lit (.bool true)], args := [d1, d2] }
  | _ => none }
def fnExactPolGetRow : OpenClaim := { program := "ytajkihibineoaaa", sum := "ff4aba9e313be1a78184393a64f89798f58076723a90cd818161d39e272f209f", func := "loop.example/chartulary/laws.FnExactPolGet", spec := "fnExactPolGet", apart := false }
def FnExactPolGetSaid : Prop := fnExactPolGetRow.holds Try.pinned (OpenSpec.ofChange fnExactPolGetSpec)

/-- ITS FALSE NEIGHBOUR: 'it returns false'. Refute it at one input. -/
def fnExactPolGetWrong : ChangeSpec := { name := "fnExactPolGet", fn := fun _ => fun
  | [d1, d2] => { results := [.lit (.bool false)], args := [d1, d2] }
  | _ => none }
def FnExactPolGetWrongFalsely : Prop := fnExactPolGetRow.holds Try.pinned (OpenSpec.ofChange fnExactPolGetWrong)

/-- 'laws.FnExactPolOut': WHATEVER THE INPUT: true; the input reads as it did. -/
def fnExactPolOutSpec : ChangeSpec := { name := "fnExactPolOut", fn := fun _ => fun
  | [d1, d2] => { results := [.lit (.bool true)], args := [d1, d2] }
  | _ => none }
def fnExactPolOutRow : OpenClaim := { program := "ytajkihibineoaaa", sum := "ff4aba9e313be1a78184393a64f89798f58076723a90cd818161d39e272f209f", func := "loop.example/chartulary/laws.FnExactPolOut", spec := "fnExactPolOut", apart := false }
def FnExactPolOutSaid : Prop := fnExactPolOutRow.holds Try.pinned (OpenSpec.ofChange fnExactPolOutSpec)

/-- ITS FALSE NEIGHBOUR: 'it returns false'. Refute it at one input. -/
def fnExactPolOutWrong : ChangeSpec := { name := "fnExactPolOut", fn := fun _ => fun
  | [d1, d2] => { results := [.lit (.bool false)], args := [d1, d2] }
  | _ => none }
def FnExactPolOutWrongFalsely : Prop := fnExactPolOutRow.holds Try.pinned (OpenSpec.ofChange fnExactPolOutWrong)

/-- 'laws.FnExactPolIds': WHATEVER THE INPUT: true; the input reads as it did. -/
def fnExactPolIdsSpec : ChangeSpec := { name := "fnExactPolIds", fn := fun _ => fun
  | [d] => { results := [.lit (.bool true)], args := [d] }
  | _ => none }
def fnExactPolIdsRow : OpenClaim := { program := "ytajkihibineoaaa", sum := "ff4aba9e313be1a78184393a64f89798f58076723a90cd818161d39e272f209f", func := "loop.example/chartulary/laws.FnExactPolIds", spec := "fnExactPolIds", apart := false }
def FnExactPolIdsSaid : Prop := fnExactPolIdsRow.holds Try.pinned (OpenSpec.ofChange fnExactPolIdsSpec)

/-- ITS FALSE NEIGHBOUR: 'it returns false'. Refute it at one input. -/
def fnExactPolIdsWrong : ChangeSpec := { name := "fnExactPolIds", fn := fun _ => fun
  | [d] => { results := [.lit (.bool false)], args := [d] }
  | _ => none }
def FnExactPolIdsWrongFalsely : Prop := fnExactPolIdsRow.holds Try.pinned (OpenSpec.ofChange fnExactPolIdsWrong)

/-- 'laws.FnExactObjBytes': WHATEVER THE INPUT: true; the input reads as it did. -/
def fnExactObjBytesSpec : ChangeSpec := { name := "fnExactObjBytes", fn := fun _ => fun
  | [d] => { results := [.lit (.bool true)], args := [d] }
  | _ => none }
def fnExactObjBytesRow : OpenClaim := { program := "ytajkihibineoaaa", sum := "ff4aba9e313be1a78184393a64f89798f58076723a90cd818161d39e272f209f", func := "loop.example/chartulary/laws.FnExactObjBytes", spec := "fnExactObjBytes", apart := false }
def FnExactObjBytesSaid : Prop := fnExactObjBytesRow.holds Try.pinned (OpenSpec.ofChange fnExactObjBytesSpec)

/-- ITS FALSE NEIGHBOUR: 'it returns false'. Refute it at one input. -/
def fnExactObjBytesWrong : ChangeSpec := { name := "fnExactObjBytes", fn := fun _ => fun
  | [d] => { results := [.lit (.bool false)], args := [d] }
  | _ => none }
def FnExactObjBytesWrongFalsely : Prop := fnExactObjBytesRow.holds Try.pinned (OpenSpec.ofChange fnExactObjBytesWrong)

/- THE SECOND FORM. 'bulk': how many values and letters a reading holds, each counted each time it is reached (what is shared counts as often as it is met; a slice's spare places count too). A statement '..UptoSaid' is the law's where the arguments, and the package variables that the reading takes, are together of bulk at most 1048576: NARROWER than '..Said'. Prove '..Said' where nothing that the law and all that it calls make is longer than what came in: it says more and counts as full. Else prove '..UptoSaid'. A law counts once. -/
mutual
def uptoBulk {H : Type} : DataW H → Nat
  | .lit (.string bytes) => bytes.length + 1
  | .lit _ => 1
  | .nil => 1
  | .ptr d => uptoBulk d + 1
  | .slice elems spare => uptoBulkAll elems + uptoBulkAll spare + 1
  | .agg parts => uptoBulkAll parts + 1
  | .iface _ d => uptoBulk d + 1
  | .map entries => uptoBulkEntries entries + 1
  | .held _ => 1
def uptoBulkAll {H : Type} : List (DataW H) → Nat
  | [] => 0
  | d :: r => uptoBulk d + uptoBulkAll r
def uptoBulkEntries {H : Type} : List (Lit × DataW H) → Nat
  | [] => 0
  | x :: r => uptoBulkEntry x + uptoBulkEntries r
def uptoBulkEntry {H : Type} : Lit × DataW H → Nat
  | (.string bytes, d) => bytes.length + uptoBulk d + 1
  | (_, d) => uptoBulk d + 1
 end
def uptoSmall : (H : Type) → List (DataW H) → Bool := fun _ ds => decide (uptoBulkAll ds ≤ 1048576)
def OpenSpec.upto (s : _root_.Go.ChangeSpec) : _root_.Go.OpenSpec := { _root_.Go.OpenSpec.ofChange s with cond := some uptoSmall }

/-- 'laws.FnExactConstants', WHERE WHAT IT READS IS OF BULK AT MOST 1048576: true; the input reads as it did. -/
def fnExactConstantsUptoRow : OpenClaim := { program := "ytajkihibineoaaa", sum := "ff4aba9e313be1a78184393a64f89798f58076723a90cd818161d39e272f209f", func := "loop.example/chartulary/laws.FnExactConstants", spec := "fnExactConstants", apart := false, narrowed := true }
def FnExactConstantsUptoSaid : Prop := fnExactConstantsUptoRow.holds Try.pinned (OpenSpec.upto fnExactConstantsSpec)

/-- 'laws.FnExactObjLeaf', WHERE WHAT IT READS IS OF BULK AT MOST 1048576: true; the input reads as it did. -/
def fnExactObjLeafUptoRow : OpenClaim := { program := "ytajkihibineoaaa", sum := "ff4aba9e313be1a78184393a64f89798f58076723a90cd818161d39e272f209f", func := "loop.example/chartulary/laws.FnExactObjLeaf", spec := "fnExactObjLeaf", apart := false, narrowed := true }
def FnExactObjLeafUptoSaid : Prop := fnExactObjLeafUptoRow.holds Try.pinned (OpenSpec.upto fnExactObjLeafSpec)

/-- 'laws.FnExactIdOf', WHERE WHAT IT READS IS OF BULK AT MOST 1048576: true; the input reads as it did. -/
def fnExactIdOfUptoRow : OpenClaim := { program := "ytajkihibineoaaa", sum := "ff4aba9e313be1a78184393a64f89798f58076723a90cd818161d39e272f209f", func := "loop.example/chartulary/laws.FnExactIdOf", spec := "fnExactIdOf", apart := false, narrowed := true }
def FnExactIdOfUptoSaid : Prop := fnExactIdOfUptoRow.holds Try.pinned (OpenSpec.upto fnExactIdOfSpec)

/-- 'laws.FnExactNamOk', WHERE WHAT IT READS IS OF BULK AT MOST 1048576: true; the input reads as it did. -/
def fnExactNamOkUptoRow : OpenClaim := { program := "ytajkihibineoaaa", sum := "ff4aba9e313be1a78184393a64f89798f58076723a90cd818161d39e272f209f", func := "loop.example/chartulary/laws.FnExactNamOk", spec := "fnExactNamOk", apart := false, narrowed := true }
def FnExactNamOkUptoSaid : Prop := fnExactNamOkUptoRow.holds Try.pinned (OpenSpec.upto fnExactNamOkSpec)

/-- 'laws.FnTreSize', WHERE WHAT IT READS IS OF BULK AT MOST 1048576: true; the input reads as it did. -/
def fnTreSizeUptoRow : OpenClaim := { program := "ytajkihibineoaaa", sum := "ff4aba9e313be1a78184393a64f89798f58076723a90cd818161d39e272f209f", func := "loop.example/chartulary/laws.FnTreSize", spec := "fnTreSize", apart := false, narrowed := true }
def FnTreSizeUptoSaid : Prop := fnTreSizeUptoRow.holds Try.pinned (OpenSpec.upto fnTreSizeSpec)

/-- 'laws.FnExactPolSize', WHERE WHAT IT READS IS OF BULK AT MOST 1048576: true; the input reads as it did. -/
def fnExactPolSizeUptoRow : OpenClaim := { program := "ytajkihibineoaaa", sum := "ff4aba9e313be1a78184393a64f89798f58076723a90cd818161d39e272f209f", func := "loop.example/chartulary/laws.FnExactPolSize", spec := "fnExactPolSize", apart := false, narrowed := true }
def FnExactPolSizeUptoSaid : Prop := fnExactPolSizeUptoRow.holds Try.pinned (OpenSpec.upto fnExactPolSizeSpec)

/-- 'laws.FnExactTreSize', WHERE WHAT IT READS IS OF BULK AT MOST 1048576: true; the input reads as it did. -/
def fnExactTreSizeUptoRow : OpenClaim := { program := "ytajkihibineoaaa", sum := "ff4aba9e313be1a78184393a64f89798f58076723a90cd818161d39e272f209f", func := "loop.example/chartulary/laws.FnExactTreSize", spec := "fnExactTreSize", apart := false, narrowed := true }
def FnExactTreSizeUptoSaid : Prop := fnExactTreSizeUptoRow.holds Try.pinned (OpenSpec.upto fnExactTreSizeSpec)

/-- 'laws.FnExactTreFind', WHERE WHAT IT READS IS OF BULK AT MOST 1048576: true; the input reads as it did. -/
def fnExactTreFindUptoRow : OpenClaim := { program := "ytajkihibineoaaa", sum := "ff4aba9e313be1a78184393a64f89798f58076723a90cd818161d39e272f209f", func := "loop.example/chartulary/laws.FnExactTreFind", spec := "fnExactTreFind", unfollowed := true, recurses := true, apart := false, narrowed := true }
def FnExactTreFindUptoSaid : Prop := fnExactTreFindUptoRow.holds Try.pinned (OpenSpec.upto fnExactTreFindSpec)

/-- 'laws.FnExactPolGet', WHERE WHAT IT READS IS OF BULK AT MOST 1048576: true; the input reads as it did. -/
def fnExactPolGetUptoRow : OpenClaim := { program := "ytajkihibineoaaa", sum := "ff4aba9e313be1a78184393a64f89798f58076723a90cd818161d39e272f209f", func := "loop.example/chartulary/laws.FnExactPolGet", spec := "fnExactPolGet", apart := false, narrowed := true }
def FnExactPolGetUptoSaid : Prop := fnExactPolGetUptoRow.holds Try.pinned (OpenSpec.upto fnExactPolGetSpec)

/-- 'laws.FnExactPolOut', WHERE WHAT IT READS IS OF BULK AT MOST 1048576: true; the input reads as it did. -/
def fnExactPolOutUptoRow : OpenClaim := { program := "ytajkihibineoaaa", sum := "ff4aba9e313be1a78184393a64f89798f58076723a90cd818161d39e272f209f", func := "loop.example/chartulary/laws.FnExactPolOut", spec := "fnExactPolOut", apart := false, narrowed := true }
def FnExactPolOutUptoSaid : Prop := fnExactPolOutUptoRow.holds Try.pinned (OpenSpec.upto fnExactPolOutSpec)

/-- 'laws.FnExactPolIds', WHERE WHAT IT READS IS OF BULK AT MOST 1048576: true; the input reads as it did. -/
def fnExactPolIdsUptoRow : OpenClaim := { program := "ytajkihibineoaaa", sum := "ff4aba9e313be1a78184393a64f89798f58076723a90cd818161d39e272f209f", func := "loop.example/chartulary/laws.FnExactPolIds", spec := "fnExactPolIds", apart := false, narrowed := true }
def FnExactPolIdsUptoSaid : Prop := fnExactPolIdsUptoRow.holds Try.pinned (OpenSpec.upto fnExactPolIdsSpec)

/-- 'laws.FnExactObjBytes', WHERE WHAT IT READS IS OF BULK AT MOST 1048576: true; the input reads as it did. -/
def fnExactObjBytesUptoRow : OpenClaim := { program := "ytajkihibineoaaa", sum := "ff4aba9e313be1a78184393a64f89798f58076723a90cd818161d39e272f209f", func := "loop.example/chartulary/laws.FnExactObjBytes", spec := "fnExactObjBytes", apart := false, narrowed := true }
def FnExactObjBytesUptoSaid : Prop := fnExactObjBytesUptoRow.holds Try.pinned (OpenSpec.upto fnExactObjBytesSpec)

end Rows
end Go.Proofs.Ytajkihibineoaaa
