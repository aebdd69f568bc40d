/-
  DERIVED. GIVEN WITH THE SEED: THE CARDS: each row of YtfiempmdmkoagaaDoorRows.lean that lists a variable, with what it lists TIED to the program's text (the seventh form; the later family's looks); each row that meets fmt, with fmt's text TOLD by the authors' own Lean function (tested against real Go, not proved from fmt's source: count such statements apart). THE CARD IS WHAT COUNTS. Prove the row's statement (the work); the ties are given (YtfiempmdmkoagaaDoorTie.lean); close each card by the builder's one call (the guide's Derived/Test/ToyasCard.lean, 'card_holds'). Laid BY PROGRAM, IN A SANDBOX (cutbox-door.mjs). By AI agents, Wed Nov 11 2026. No macro, syntax, notation, axiom, sorry.
-/
import Derived.Test.YtfiempmdmkoagaaDoorRows
import GoSem.ClaimSeven
namespace Go.Proofs.YtfiempmdmkoagaaDoor
namespace Rows

/-- THE TIED CARD OF 'laws.FnPthOrder'. -/
def fnPthOrderCard : Claim7 := { stood := { row := fnPthOrderRow, standIns := [], harness := (true, "b3780bee6ae4b9e8e7d87a42eb4f1e433f500333e023bddc6b47613fa773b834"), looks := false }, kinds := [], alts := [], laidByText := true, laidKinds := [.data, .pinned], laidTests := true, laidLooks := .later }
def FnPthOrderCardSaid : Prop := Claim7.holds Tryd.pinned (.plain (OpenSpec.ofChange fnPthOrderSpec)) fnPthOrderCard

/-- THE TIED CARD OF 'laws.FnPthJoin'. -/
def fnPthJoinCard : Claim7 := { stood := { row := fnPthJoinRow, standIns := [], harness := (true, "b3780bee6ae4b9e8e7d87a42eb4f1e433f500333e023bddc6b47613fa773b834"), looks := false }, kinds := [], alts := [], laidByText := true, laidKinds := [.data, .pinned], laidTests := true, laidLooks := .later }
def FnPthJoinCardSaid : Prop := Claim7.holds Tryd.pinned (.plain (OpenSpec.ofChange fnPthJoinSpec)) fnPthJoinCard

/-- THE TIED CARD OF 'laws.FnNamParts'. -/
def fnNamPartsCard : Claim7 := { stood := { row := fnNamPartsRow, standIns := [], harness := (true, "b3780bee6ae4b9e8e7d87a42eb4f1e433f500333e023bddc6b47613fa773b834"), looks := false }, kinds := [], alts := [], laidByText := true, laidKinds := [.data, .pinned], laidTests := true, laidLooks := .later }
def FnNamPartsCardSaid : Prop := Claim7.holds Tryd.pinned (.plain (OpenSpec.ofChange fnNamPartsSpec)) fnNamPartsCard

/-- THE TIED CARD OF 'laws.FnRulSees'. -/
def fnRulSeesCard : Claim7 := { stood := { row := fnRulSeesRow, standIns := [], harness := (true, "b3780bee6ae4b9e8e7d87a42eb4f1e433f500333e023bddc6b47613fa773b834"), looks := false }, kinds := [], alts := [], laidByText := true, laidKinds := [.data, .pinned], laidTests := true, laidLooks := .later }
def FnRulSeesCardSaid : Prop := Claim7.holds Tryd.pinned (.plain (OpenSpec.ofChange fnRulSeesSpec)) fnRulSeesCard

/-- THE TIED CARD OF 'laws.FnRulAll'. -/
def fnRulAllCard : Claim7 := { stood := { row := fnRulAllRow, standIns := [], harness := (true, "b3780bee6ae4b9e8e7d87a42eb4f1e433f500333e023bddc6b47613fa773b834"), looks := false }, kinds := [], alts := [], laidByText := true, laidKinds := [.data, .pinned], laidTests := true, laidLooks := .later }
def FnRulAllCardSaid : Prop := Claim7.holds Tryd.pinned (.plain (OpenSpec.ofChange fnRulAllSpec)) fnRulAllCard

/-- THE TIED CARD OF 'laws.FnRulMay'. -/
def fnRulMayCard : Claim7 := { stood := { row := fnRulMayRow, standIns := [], harness := (true, "b3780bee6ae4b9e8e7d87a42eb4f1e433f500333e023bddc6b47613fa773b834"), looks := false }, kinds := [], alts := [], laidByText := true, laidKinds := [.data, .pinned], laidTests := true, laidLooks := .later }
def FnRulMayCardSaid : Prop := Claim7.holds Tryd.pinned (.plain (OpenSpec.ofChange fnRulMaySpec)) fnRulMayCard

/-- THE TIED CARD OF 'laws.FnExactTreOk'. -/
def fnExactTreOkCard : Claim7 := { stood := { row := fnExactTreOkRow, standIns := [], harness := (true, "b3780bee6ae4b9e8e7d87a42eb4f1e433f500333e023bddc6b47613fa773b834"), looks := false }, kinds := [], alts := [], laidByText := true, laidKinds := [.data, .pinned], laidTests := true, laidLooks := .later }
def FnExactTreOkCardSaid : Prop := Claim7.holds Tryd.pinned (.plain (OpenSpec.ofChange fnExactTreOkSpec)) fnExactTreOkCard

/-- THE TIED CARD OF 'laws.FnExactTreUnder'. -/
def fnExactTreUnderCard : Claim7 := { stood := { row := fnExactTreUnderRow, standIns := [], harness := (true, "b3780bee6ae4b9e8e7d87a42eb4f1e433f500333e023bddc6b47613fa773b834"), looks := false }, kinds := [], alts := [], laidByText := true, laidKinds := [.data, .pinned], laidTests := true, laidLooks := .later }
def FnExactTreUnderCardSaid : Prop := Claim7.holds Tryd.pinned (.plain (OpenSpec.ofChange fnExactTreUnderSpec)) fnExactTreUnderCard

/-- THE SECOND FORM's CARD OF 'laws.FnPthOrder'. -/
def fnPthOrderUptoCard : Claim7 := { stood := { row := fnPthOrderUptoRow, standIns := [], harness := (true, "b3780bee6ae4b9e8e7d87a42eb4f1e433f500333e023bddc6b47613fa773b834"), looks := false }, kinds := [], alts := [], laidByText := true, laidKinds := [.data, .pinned], laidTests := true, laidLooks := .later }
def FnPthOrderUptoCardSaid : Prop := Claim7.holds Tryd.pinned (.plain (OpenSpec.upto fnPthOrderSpec)) fnPthOrderUptoCard

/-- THE SECOND FORM's CARD OF 'laws.FnPthJoin'. -/
def fnPthJoinUptoCard : Claim7 := { stood := { row := fnPthJoinUptoRow, standIns := [], harness := (true, "b3780bee6ae4b9e8e7d87a42eb4f1e433f500333e023bddc6b47613fa773b834"), looks := false }, kinds := [], alts := [], laidByText := true, laidKinds := [.data, .pinned], laidTests := true, laidLooks := .later }
def FnPthJoinUptoCardSaid : Prop := Claim7.holds Tryd.pinned (.plain (OpenSpec.upto fnPthJoinSpec)) fnPthJoinUptoCard

/-- THE SECOND FORM's CARD OF 'laws.FnNamParts'. -/
def fnNamPartsUptoCard : Claim7 := { stood := { row := fnNamPartsUptoRow, standIns := [], harness := (true, "b3780bee6ae4b9e8e7d87a42eb4f1e433f500333e023bddc6b47613fa773b834"), looks := false }, kinds := [], alts := [], laidByText := true, laidKinds := [.data, .pinned], laidTests := true, laidLooks := .later }
def FnNamPartsUptoCardSaid : Prop := Claim7.holds Tryd.pinned (.plain (OpenSpec.upto fnNamPartsSpec)) fnNamPartsUptoCard

/-- THE SECOND FORM's CARD OF 'laws.FnRulSees'. -/
def fnRulSeesUptoCard : Claim7 := { stood := { row := fnRulSeesUptoRow, standIns := [], harness := (true, "b3780bee6ae4b9e8e7d87a42eb4f1e433f500333e023bddc6b47613fa773b834"), looks := false }, kinds := [], alts := [], laidByText := true, laidKinds := [.data, .pinned], laidTests := true, laidLooks := .later }
def FnRulSeesUptoCardSaid : Prop := Claim7.holds Tryd.pinned (.plain (OpenSpec.upto fnRulSeesSpec)) fnRulSeesUptoCard

/-- THE SECOND FORM's CARD OF 'laws.FnRulAll'. -/
def fnRulAllUptoCard : Claim7 := { stood := { row := fnRulAllUptoRow, standIns := [], harness := (true, "b3780bee6ae4b9e8e7d87a42eb4f1e433f500333e023bddc6b47613fa773b834"), looks := false }, kinds := [], alts := [], laidByText := true, laidKinds := [.data, .pinned], laidTests := true, laidLooks := .later }
def FnRulAllUptoCardSaid : Prop := Claim7.holds Tryd.pinned (.plain (OpenSpec.upto fnRulAllSpec)) fnRulAllUptoCard

/-- THE SECOND FORM's CARD OF 'laws.FnRulMay'. -/
def fnRulMayUptoCard : Claim7 := { stood := { row := fnRulMayUptoRow, standIns := [], harness := (true, "b3780bee6ae4b9e8e7d87a42eb4f1e433f500333e023bddc6b47613fa773b834"), looks := false }, kinds := [], alts := [], laidByText := true, laidKinds := [.data, .pinned], laidTests := true, laidLooks := .later }
def FnRulMayUptoCardSaid : Prop := Claim7.holds Tryd.pinned (.plain (OpenSpec.upto fnRulMaySpec)) fnRulMayUptoCard

/-- THE SECOND FORM's CARD OF 'laws.FnExactTreOk'. -/
def fnExactTreOkUptoCard : Claim7 := { stood := { row := fnExactTreOkUptoRow, standIns := [], harness := (true, "b3780bee6ae4b9e8e7d87a42eb4f1e433f500333e023bddc6b47613fa773b834"), looks := false }, kinds := [], alts := [], laidByText := true, laidKinds := [.data, .pinned], laidTests := true, laidLooks := .later }
def FnExactTreOkUptoCardSaid : Prop := Claim7.holds Tryd.pinned (.plain (OpenSpec.upto fnExactTreOkSpec)) fnExactTreOkUptoCard

/-- THE SECOND FORM's CARD OF 'laws.FnExactTreUnder'. -/
def fnExactTreUnderUptoCard : Claim7 := { stood := { row := fnExactTreUnderUptoRow, standIns := [], harness := (true, "b3780bee6ae4b9e8e7d87a42eb4f1e433f500333e023bddc6b47613fa773b834"), looks := false }, kinds := [], alts := [], laidByText := true, laidKinds := [.data, .pinned], laidTests := true, laidLooks := .later }
def FnExactTreUnderUptoCardSaid : Prop := Claim7.holds Tryd.pinned (.plain (OpenSpec.upto fnExactTreUnderSpec)) fnExactTreUnderUptoCard
end Rows
end Go.Proofs.YtfiempmdmkoagaaDoor
