/-
  DERIVED. GIVEN WITH THE SEED: THE CARDS: each row of YtkghhmjmfcnbnaaDoorRows.lean that lists a variable, with what it lists TIED to the program's text (the seventh form; the later family's looks); each row that meets fmt, with fmt's text TOLD by the authors' own Lean function (tested against real Go, not proved from fmt's source: count such statements apart). THE CARD IS WHAT COUNTS. Prove the row's statement (the work); the ties are given (YtkghhmjmfcnbnaaDoorTie.lean); close each card by the builder's one call (the guide's Derived/Test/ToyasCard.lean, 'card_holds'). Laid BY PROGRAM, IN A SANDBOX (cutbox-door.mjs). By AI agents, Wed Nov 11 2026. No macro, syntax, notation, axiom, sorry.
-/
import Derived.Test.YtkghhmjmfcnbnaaDoorRows
import GoSem.ClaimSeven
namespace Go.Proofs.YtkghhmjmfcnbnaaDoor
namespace Rows

/-- THE TIED CARD OF 'laws.FnExactTreNames'. -/
def fnExactTreNamesCard : Claim7 := { stood := { row := fnExactTreNamesRow, standIns := [], harness := (true, "f8eae1b1422870513fee2c7494d3de6fef503e314b850728d056210446fd986a"), looks := false }, kinds := [], alts := [], laidByText := true, laidKinds := [.data, .pinned], laidTests := true, laidLooks := .later }
def FnExactTreNamesCardSaid : Prop := Claim7.holds Tryd.pinned (.plain (OpenSpec.ofChange fnExactTreNamesSpec)) fnExactTreNamesCard

/-- THE TIED CARD OF 'laws.FnTreUnder'. -/
def fnTreUnderCard : Claim7 := { stood := { row := fnTreUnderRow, standIns := [], harness := (true, "f8eae1b1422870513fee2c7494d3de6fef503e314b850728d056210446fd986a"), looks := false }, kinds := [], alts := [], laidByText := true, laidKinds := [.data, .pinned], laidTests := true, laidLooks := .later }
def FnTreUnderCardSaid : Prop := Claim7.holds Tryd.pinned (.plain (OpenSpec.ofChange fnTreUnderSpec)) fnTreUnderCard

/-- THE TIED CARD OF 'laws.FnTreDiffers'. -/
def fnTreDiffersCard : Claim7 := { stood := { row := fnTreDiffersRow, standIns := [], harness := (true, "f8eae1b1422870513fee2c7494d3de6fef503e314b850728d056210446fd986a"), looks := false }, kinds := [], alts := [], laidByText := true, laidKinds := [.data, .pinned], laidTests := true, laidLooks := .later }
def FnTreDiffersCardSaid : Prop := Claim7.holds Tryd.pinned (.plain (OpenSpec.ofChange fnTreDiffersSpec)) fnTreDiffersCard

/-- THE TIED CARD OF 'laws.FnTreTurn'. -/
def fnTreTurnCard : Claim7 := { stood := { row := fnTreTurnRow, standIns := [], harness := (true, "f8eae1b1422870513fee2c7494d3de6fef503e314b850728d056210446fd986a"), looks := false }, kinds := [], alts := [], laidByText := true, laidKinds := [.data, .pinned], laidTests := true, laidLooks := .later }
def FnTreTurnCardSaid : Prop := Claim7.holds Tryd.pinned (.plain (OpenSpec.ofChange fnTreTurnSpec)) fnTreTurnCard

/-- THE TIED CARD OF 'laws.FnExactTreTurn'. -/
def fnExactTreTurnCard : Claim7 := { stood := { row := fnExactTreTurnRow, standIns := [], harness := (true, "f8eae1b1422870513fee2c7494d3de6fef503e314b850728d056210446fd986a"), looks := false }, kinds := [], alts := [], laidByText := true, laidKinds := [.data, .pinned], laidTests := true, laidLooks := .later }
def FnExactTreTurnCardSaid : Prop := Claim7.holds Tryd.pinned (.plain (OpenSpec.ofChange fnExactTreTurnSpec)) fnExactTreTurnCard

/-- THE SECOND FORM's CARD OF 'laws.FnExactTreNames'. -/
def fnExactTreNamesUptoCard : Claim7 := { stood := { row := fnExactTreNamesUptoRow, standIns := [], harness := (true, "f8eae1b1422870513fee2c7494d3de6fef503e314b850728d056210446fd986a"), looks := false }, kinds := [], alts := [], laidByText := true, laidKinds := [.data, .pinned], laidTests := true, laidLooks := .later }
def FnExactTreNamesUptoCardSaid : Prop := Claim7.holds Tryd.pinned (.plain (OpenSpec.upto fnExactTreNamesSpec)) fnExactTreNamesUptoCard

/-- THE SECOND FORM's CARD OF 'laws.FnTreUnder'. -/
def fnTreUnderUptoCard : Claim7 := { stood := { row := fnTreUnderUptoRow, standIns := [], harness := (true, "f8eae1b1422870513fee2c7494d3de6fef503e314b850728d056210446fd986a"), looks := false }, kinds := [], alts := [], laidByText := true, laidKinds := [.data, .pinned], laidTests := true, laidLooks := .later }
def FnTreUnderUptoCardSaid : Prop := Claim7.holds Tryd.pinned (.plain (OpenSpec.upto fnTreUnderSpec)) fnTreUnderUptoCard

/-- THE SECOND FORM's CARD OF 'laws.FnTreDiffers'. -/
def fnTreDiffersUptoCard : Claim7 := { stood := { row := fnTreDiffersUptoRow, standIns := [], harness := (true, "f8eae1b1422870513fee2c7494d3de6fef503e314b850728d056210446fd986a"), looks := false }, kinds := [], alts := [], laidByText := true, laidKinds := [.data, .pinned], laidTests := true, laidLooks := .later }
def FnTreDiffersUptoCardSaid : Prop := Claim7.holds Tryd.pinned (.plain (OpenSpec.upto fnTreDiffersSpec)) fnTreDiffersUptoCard

/-- THE SECOND FORM's CARD OF 'laws.FnTreTurn'. -/
def fnTreTurnUptoCard : Claim7 := { stood := { row := fnTreTurnUptoRow, standIns := [], harness := (true, "f8eae1b1422870513fee2c7494d3de6fef503e314b850728d056210446fd986a"), looks := false }, kinds := [], alts := [], laidByText := true, laidKinds := [.data, .pinned], laidTests := true, laidLooks := .later }
def FnTreTurnUptoCardSaid : Prop := Claim7.holds Tryd.pinned (.plain (OpenSpec.upto fnTreTurnSpec)) fnTreTurnUptoCard

/-- THE SECOND FORM's CARD OF 'laws.FnExactTreTurn'. -/
def fnExactTreTurnUptoCard : Claim7 := { stood := { row := fnExactTreTurnUptoRow, standIns := [], harness := (true, "f8eae1b1422870513fee2c7494d3de6fef503e314b850728d056210446fd986a"), looks := false }, kinds := [], alts := [], laidByText := true, laidKinds := [.data, .pinned], laidTests := true, laidLooks := .later }
def FnExactTreTurnUptoCardSaid : Prop := Claim7.holds Tryd.pinned (.plain (OpenSpec.upto fnExactTreTurnSpec)) fnExactTreTurnUptoCard
end Rows
end Go.Proofs.YtkghhmjmfcnbnaaDoor
