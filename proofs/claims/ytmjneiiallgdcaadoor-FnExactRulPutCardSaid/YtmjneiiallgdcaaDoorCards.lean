/-
  DERIVED. GIVEN WITH THE SEED: THE CARDS: each row of YtmjneiiallgdcaaDoorRows.lean that lists a variable, with what it lists TIED to the program's text (the seventh form; the later family's looks); each row that meets fmt, with fmt's text TOLD by the authors' own Lean function (tested against real Go, not proved from fmt's source: count such statements apart). THE CARD IS WHAT COUNTS. Prove the row's statement (the work); the ties are given (YtmjneiiallgdcaaDoorTie.lean); close each card by the builder's one call (the guide's Derived/Test/ToyasCard.lean, 'card_holds'). Laid BY PROGRAM, IN A SANDBOX (cutbox-door.mjs). By AI agents, Wed Nov 11 2026. No macro, syntax, notation, axiom, sorry.
-/
import Derived.Test.YtmjneiiallgdcaaDoorRows
import GoSem.ClaimSeven
namespace Go.Proofs.YtmjneiiallgdcaaDoor
namespace Rows

/-- THE TIED CARD OF 'laws.FnExactPthOk'. -/
def fnExactPthOkCard : Claim7 := { stood := { row := fnExactPthOkRow, standIns := [], harness := (true, "f022f16b69966f1b087c9202f4fd193c4b97e0f750c6df515dfc3db58583dc7e"), looks := false }, kinds := [], alts := [], laidByText := true, laidKinds := [.data, .pinned], laidTests := true, laidLooks := .later }
def FnExactPthOkCardSaid : Prop := Claim7.holds Tryd.pinned (.plain (OpenSpec.ofChange fnExactPthOkSpec)) fnExactPthOkCard

/-- THE TIED CARD OF 'laws.FnExactPthUnder'. -/
def fnExactPthUnderCard : Claim7 := { stood := { row := fnExactPthUnderRow, standIns := [], harness := (true, "f022f16b69966f1b087c9202f4fd193c4b97e0f750c6df515dfc3db58583dc7e"), looks := false }, kinds := [], alts := [], laidByText := true, laidKinds := [.data, .pinned], laidTests := true, laidLooks := .later }
def FnExactPthUnderCardSaid : Prop := Claim7.holds Tryd.pinned (.plain (OpenSpec.ofChange fnExactPthUnderSpec)) fnExactPthUnderCard

/-- THE TIED CARD OF 'laws.FnExactPthFirst'. -/
def fnExactPthFirstCard : Claim7 := { stood := { row := fnExactPthFirstRow, standIns := [], harness := (true, "f022f16b69966f1b087c9202f4fd193c4b97e0f750c6df515dfc3db58583dc7e"), looks := false }, kinds := [], alts := [], laidByText := true, laidKinds := [.data, .pinned], laidTests := true, laidLooks := .later }
def FnExactPthFirstCardSaid : Prop := Claim7.holds Tryd.pinned (.plain (OpenSpec.ofChange fnExactPthFirstSpec)) fnExactPthFirstCard

/-- THE TIED CARD OF 'laws.FnExactPthJoin'. -/
def fnExactPthJoinCard : Claim7 := { stood := { row := fnExactPthJoinRow, standIns := [], harness := (true, "f022f16b69966f1b087c9202f4fd193c4b97e0f750c6df515dfc3db58583dc7e"), looks := false }, kinds := [], alts := [], laidByText := true, laidKinds := [.data, .pinned], laidTests := true, laidLooks := .later }
def FnExactPthJoinCardSaid : Prop := Claim7.holds Tryd.pinned (.plain (OpenSpec.ofChange fnExactPthJoinSpec)) fnExactPthJoinCard

/-- THE TIED CARD OF 'laws.FnExactPthRest'. -/
def fnExactPthRestCard : Claim7 := { stood := { row := fnExactPthRestRow, standIns := [], harness := (true, "f022f16b69966f1b087c9202f4fd193c4b97e0f750c6df515dfc3db58583dc7e"), looks := false }, kinds := [], alts := [], laidByText := true, laidKinds := [.data, .pinned], laidTests := true, laidLooks := .later }
def FnExactPthRestCardSaid : Prop := Claim7.holds Tryd.pinned (.plain (OpenSpec.ofChange fnExactPthRestSpec)) fnExactPthRestCard

/-- THE TIED CARD OF 'laws.FnExactPthParts'. -/
def fnExactPthPartsCard : Claim7 := { stood := { row := fnExactPthPartsRow, standIns := [], harness := (true, "f022f16b69966f1b087c9202f4fd193c4b97e0f750c6df515dfc3db58583dc7e"), looks := false }, kinds := [], alts := [], laidByText := true, laidKinds := [.data, .pinned], laidTests := true, laidLooks := .later }
def FnExactPthPartsCardSaid : Prop := Claim7.holds Tryd.pinned (.plain (OpenSpec.ofChange fnExactPthPartsSpec)) fnExactPthPartsCard

/-- THE TIED CARD OF 'laws.FnExactRulOk'. -/
def fnExactRulOkCard : Claim7 := { stood := { row := fnExactRulOkRow, standIns := [], harness := (true, "f022f16b69966f1b087c9202f4fd193c4b97e0f750c6df515dfc3db58583dc7e"), looks := false }, kinds := [], alts := [], laidByText := true, laidKinds := [.data, .pinned], laidTests := true, laidLooks := .later }
def FnExactRulOkCardSaid : Prop := Claim7.holds Tryd.pinned (.plain (OpenSpec.ofChange fnExactRulOkSpec)) fnExactRulOkCard

/-- THE TIED CARD OF 'laws.FnExactRulSees'. -/
def fnExactRulSeesCard : Claim7 := { stood := { row := fnExactRulSeesRow, standIns := [], harness := (true, "f022f16b69966f1b087c9202f4fd193c4b97e0f750c6df515dfc3db58583dc7e"), looks := false }, kinds := [], alts := [], laidByText := true, laidKinds := [.data, .pinned], laidTests := true, laidLooks := .later }
def FnExactRulSeesCardSaid : Prop := Claim7.holds Tryd.pinned (.plain (OpenSpec.ofChange fnExactRulSeesSpec)) fnExactRulSeesCard

/-- THE TIED CARD OF 'laws.FnExactRulMay'. -/
def fnExactRulMayCard : Claim7 := { stood := { row := fnExactRulMayRow, standIns := [], harness := (true, "f022f16b69966f1b087c9202f4fd193c4b97e0f750c6df515dfc3db58583dc7e"), looks := false }, kinds := [], alts := [], laidByText := true, laidKinds := [.data, .pinned], laidTests := true, laidLooks := .later }
def FnExactRulMayCardSaid : Prop := Claim7.holds Tryd.pinned (.plain (OpenSpec.ofChange fnExactRulMaySpec)) fnExactRulMayCard

/-- THE TIED CARD OF 'laws.FnExactRulListOk'. -/
def fnExactRulListOkCard : Claim7 := { stood := { row := fnExactRulListOkRow, standIns := [], harness := (true, "f022f16b69966f1b087c9202f4fd193c4b97e0f750c6df515dfc3db58583dc7e"), looks := false }, kinds := [], alts := [], laidByText := true, laidKinds := [.data, .pinned], laidTests := true, laidLooks := .later }
def FnExactRulListOkCardSaid : Prop := Claim7.holds Tryd.pinned (.plain (OpenSpec.ofChange fnExactRulListOkSpec)) fnExactRulListOkCard

/-- THE TIED CARD OF 'laws.FnExactRulPut'. -/
def fnExactRulPutCard : Claim7 := { stood := { row := fnExactRulPutRow, standIns := [], harness := (true, "f022f16b69966f1b087c9202f4fd193c4b97e0f750c6df515dfc3db58583dc7e"), looks := false }, kinds := [], alts := [], laidByText := true, laidKinds := [.data, .pinned], laidTests := true, laidLooks := .later }
def FnExactRulPutCardSaid : Prop := Claim7.holds Tryd.pinned (.plain (OpenSpec.ofChange fnExactRulPutSpec)) fnExactRulPutCard

/-- THE SECOND FORM's CARD OF 'laws.FnExactPthOk'. -/
def fnExactPthOkUptoCard : Claim7 := { stood := { row := fnExactPthOkUptoRow, standIns := [], harness := (true, "f022f16b69966f1b087c9202f4fd193c4b97e0f750c6df515dfc3db58583dc7e"), looks := false }, kinds := [], alts := [], laidByText := true, laidKinds := [.data, .pinned], laidTests := true, laidLooks := .later }
def FnExactPthOkUptoCardSaid : Prop := Claim7.holds Tryd.pinned (.plain (OpenSpec.upto fnExactPthOkSpec)) fnExactPthOkUptoCard

/-- THE SECOND FORM's CARD OF 'laws.FnExactPthUnder'. -/
def fnExactPthUnderUptoCard : Claim7 := { stood := { row := fnExactPthUnderUptoRow, standIns := [], harness := (true, "f022f16b69966f1b087c9202f4fd193c4b97e0f750c6df515dfc3db58583dc7e"), looks := false }, kinds := [], alts := [], laidByText := true, laidKinds := [.data, .pinned], laidTests := true, laidLooks := .later }
def FnExactPthUnderUptoCardSaid : Prop := Claim7.holds Tryd.pinned (.plain (OpenSpec.upto fnExactPthUnderSpec)) fnExactPthUnderUptoCard

/-- THE SECOND FORM's CARD OF 'laws.FnExactPthFirst'. -/
def fnExactPthFirstUptoCard : Claim7 := { stood := { row := fnExactPthFirstUptoRow, standIns := [], harness := (true, "f022f16b69966f1b087c9202f4fd193c4b97e0f750c6df515dfc3db58583dc7e"), looks := false }, kinds := [], alts := [], laidByText := true, laidKinds := [.data, .pinned], laidTests := true, laidLooks := .later }
def FnExactPthFirstUptoCardSaid : Prop := Claim7.holds Tryd.pinned (.plain (OpenSpec.upto fnExactPthFirstSpec)) fnExactPthFirstUptoCard

/-- THE SECOND FORM's CARD OF 'laws.FnExactPthJoin'. -/
def fnExactPthJoinUptoCard : Claim7 := { stood := { row := fnExactPthJoinUptoRow, standIns := [], harness := (true, "f022f16b69966f1b087c9202f4fd193c4b97e0f750c6df515dfc3db58583dc7e"), looks := false }, kinds := [], alts := [], laidByText := true, laidKinds := [.data, .pinned], laidTests := true, laidLooks := .later }
def FnExactPthJoinUptoCardSaid : Prop := Claim7.holds Tryd.pinned (.plain (OpenSpec.upto fnExactPthJoinSpec)) fnExactPthJoinUptoCard

/-- THE SECOND FORM's CARD OF 'laws.FnExactPthRest'. -/
def fnExactPthRestUptoCard : Claim7 := { stood := { row := fnExactPthRestUptoRow, standIns := [], harness := (true, "f022f16b69966f1b087c9202f4fd193c4b97e0f750c6df515dfc3db58583dc7e"), looks := false }, kinds := [], alts := [], laidByText := true, laidKinds := [.data, .pinned], laidTests := true, laidLooks := .later }
def FnExactPthRestUptoCardSaid : Prop := Claim7.holds Tryd.pinned (.plain (OpenSpec.upto fnExactPthRestSpec)) fnExactPthRestUptoCard

/-- THE SECOND FORM's CARD OF 'laws.FnExactPthParts'. -/
def fnExactPthPartsUptoCard : Claim7 := { stood := { row := fnExactPthPartsUptoRow, standIns := [], harness := (true, "f022f16b69966f1b087c9202f4fd193c4b97e0f750c6df515dfc3db58583dc7e"), looks := false }, kinds := [], alts := [], laidByText := true, laidKinds := [.data, .pinned], laidTests := true, laidLooks := .later }
def FnExactPthPartsUptoCardSaid : Prop := Claim7.holds Tryd.pinned (.plain (OpenSpec.upto fnExactPthPartsSpec)) fnExactPthPartsUptoCard

/-- THE SECOND FORM's CARD OF 'laws.FnExactRulOk'. -/
def fnExactRulOkUptoCard : Claim7 := { stood := { row := fnExactRulOkUptoRow, standIns := [], harness := (true, "f022f16b69966f1b087c9202f4fd193c4b97e0f750c6df515dfc3db58583dc7e"), looks := false }, kinds := [], alts := [], laidByText := true, laidKinds := [.data, .pinned], laidTests := true, laidLooks := .later }
def FnExactRulOkUptoCardSaid : Prop := Claim7.holds Tryd.pinned (.plain (OpenSpec.upto fnExactRulOkSpec)) fnExactRulOkUptoCard

/-- THE SECOND FORM's CARD OF 'laws.FnExactRulSees'. -/
def fnExactRulSeesUptoCard : Claim7 := { stood := { row := fnExactRulSeesUptoRow, standIns := [], harness := (true, "f022f16b69966f1b087c9202f4fd193c4b97e0f750c6df515dfc3db58583dc7e"), looks := false }, kinds := [], alts := [], laidByText := true, laidKinds := [.data, .pinned], laidTests := true, laidLooks := .later }
def FnExactRulSeesUptoCardSaid : Prop := Claim7.holds Tryd.pinned (.plain (OpenSpec.upto fnExactRulSeesSpec)) fnExactRulSeesUptoCard

/-- THE SECOND FORM's CARD OF 'laws.FnExactRulMay'. -/
def fnExactRulMayUptoCard : Claim7 := { stood := { row := fnExactRulMayUptoRow, standIns := [], harness := (true, "f022f16b69966f1b087c9202f4fd193c4b97e0f750c6df515dfc3db58583dc7e"), looks := false }, kinds := [], alts := [], laidByText := true, laidKinds := [.data, .pinned], laidTests := true, laidLooks := .later }
def FnExactRulMayUptoCardSaid : Prop := Claim7.holds Tryd.pinned (.plain (OpenSpec.upto fnExactRulMaySpec)) fnExactRulMayUptoCard

/-- THE SECOND FORM's CARD OF 'laws.FnExactRulListOk'. -/
def fnExactRulListOkUptoCard : Claim7 := { stood := { row := fnExactRulListOkUptoRow, standIns := [], harness := (true, "f022f16b69966f1b087c9202f4fd193c4b97e0f750c6df515dfc3db58583dc7e"), looks := false }, kinds := [], alts := [], laidByText := true, laidKinds := [.data, .pinned], laidTests := true, laidLooks := .later }
def FnExactRulListOkUptoCardSaid : Prop := Claim7.holds Tryd.pinned (.plain (OpenSpec.upto fnExactRulListOkSpec)) fnExactRulListOkUptoCard

/-- THE SECOND FORM's CARD OF 'laws.FnExactRulPut'. -/
def fnExactRulPutUptoCard : Claim7 := { stood := { row := fnExactRulPutUptoRow, standIns := [], harness := (true, "f022f16b69966f1b087c9202f4fd193c4b97e0f750c6df515dfc3db58583dc7e"), looks := false }, kinds := [], alts := [], laidByText := true, laidKinds := [.data, .pinned], laidTests := true, laidLooks := .later }
def FnExactRulPutUptoCardSaid : Prop := Claim7.holds Tryd.pinned (.plain (OpenSpec.upto fnExactRulPutSpec)) fnExactRulPutUptoCard
end Rows
end Go.Proofs.YtmjneiiallgdcaaDoor
