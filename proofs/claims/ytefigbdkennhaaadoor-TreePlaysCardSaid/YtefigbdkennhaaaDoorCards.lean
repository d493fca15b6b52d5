/-
  DERIVED. GIVEN WITH THE SEED: THE CARDS: each row of YtefigbdkennhaaaDoorRows.lean that lists a variable, with what it lists TIED to the program's text (the seventh form; the later family's looks); each row that meets fmt, with fmt's text TOLD by the authors' own Lean function (tested against real Go, not proved from fmt's source: count such statements apart). THE CARD IS WHAT COUNTS. Prove the row's statement (the work); the ties are given (YtefigbdkennhaaaDoorTie.lean); close each card by the builder's one call (the guide's Derived/Test/ToyasCard.lean, 'card_holds'). Laid BY PROGRAM, IN A SANDBOX (cutbox-door.mjs). By AI agents, Wed Nov 11 2026. No macro, syntax, notation, axiom, sorry.
-/
import Derived.Test.YtefigbdkennhaaaDoorRows
import GoSem.ClaimSeven
namespace Go.Proofs.YtefigbdkennhaaaDoor
namespace Rows

/-- THE TIED CARD OF 'dioramalaw10.TreeReaches'. -/
def treeReachesCard : Claim7 := { stood := { row := treeReachesRow, standIns := [], harness := (true, "221633c728177fe8c77168c3d273c9ba813fec1b7694204edcb74433bdf3efc6"), looks := true }, kinds := [], alts := [], laidByText := true, laidKinds := [.data, .data], laidTests := true, laidLooks := .later }
def TreeReachesCardSaid : Prop := Claim7.holds Tryd.pinned (.plain (OpenSpec.ofChange treeReachesSpec)) treeReachesCard

/-- THE TIED CARD OF 'dioramalaw10.TreeBelow'. -/
def treeBelowCard : Claim7 := { stood := { row := treeBelowRow, standIns := [], harness := (true, "221633c728177fe8c77168c3d273c9ba813fec1b7694204edcb74433bdf3efc6"), looks := true }, kinds := [], alts := [], laidByText := true, laidKinds := [.data, .data], laidTests := true, laidLooks := .later }
def TreeBelowCardSaid : Prop := Claim7.holds Tryd.pinned (.plain (OpenSpec.ofChange treeBelowSpec)) treeBelowCard

/-- THE TIED CARD OF 'dioramalaw10.TreeBack'. -/
def treeBackCard : Claim7 := { stood := { row := treeBackRow, standIns := [], harness := (true, "221633c728177fe8c77168c3d273c9ba813fec1b7694204edcb74433bdf3efc6"), looks := true }, kinds := [], alts := [], laidByText := true, laidKinds := [.data, .data], laidTests := true, laidLooks := .later }
def TreeBackCardSaid : Prop := Claim7.holds Tryd.pinned (.plain (OpenSpec.ofChange treeBackSpec)) treeBackCard

/-- THE TIED CARD OF 'dioramalaw10.TreePlays'. -/
def treePlaysCard : Claim7 := { stood := { row := treePlaysRow, standIns := [], harness := (true, "221633c728177fe8c77168c3d273c9ba813fec1b7694204edcb74433bdf3efc6"), looks := true }, kinds := [], alts := [], laidByText := true, laidKinds := [.data, .data], laidTests := true, laidLooks := .later }
def TreePlaysCardSaid : Prop := Claim7.holds Tryd.pinned (.plain (OpenSpec.ofChange treePlaysSpec)) treePlaysCard

/-- THE TIED CARD OF 'dioramalaw10.TreeNil'. -/
def treeNilCard : Claim7 := { stood := { row := treeNilRow, standIns := [], harness := (true, "221633c728177fe8c77168c3d273c9ba813fec1b7694204edcb74433bdf3efc6"), looks := true }, kinds := [], alts := [], laidByText := true, laidKinds := [.data, .data], laidTests := true, laidLooks := .later }
def TreeNilCardSaid : Prop := Claim7.holds Tryd.pinned (.plain (OpenSpec.ofChange treeNilSpec)) treeNilCard

/-- THE TIED CARD OF 'dioramalaw13.GraphAnyOrder'. -/
def graphAnyOrderCard : Claim7 := { stood := { row := graphAnyOrderRow, standIns := [], harness := (true, "221633c728177fe8c77168c3d273c9ba813fec1b7694204edcb74433bdf3efc6"), looks := true }, kinds := [], alts := [], laidByText := true, laidKinds := [.data, .data], laidTests := true, laidLooks := .later }
def GraphAnyOrderCardSaid : Prop := Claim7.holds Tryd.pinned (.plain (OpenSpec.ofChange graphAnyOrderSpec)) graphAnyOrderCard

/-- THE TIED CARD OF 'dioramalaw13.GraphPassed'. -/
def graphPassedCard : Claim7 := { stood := { row := graphPassedRow, standIns := [], harness := (true, "221633c728177fe8c77168c3d273c9ba813fec1b7694204edcb74433bdf3efc6"), looks := true }, kinds := [], alts := [], laidByText := true, laidKinds := [.data, .data], laidTests := true, laidLooks := .later }
def GraphPassedCardSaid : Prop := Claim7.holds Tryd.pinned (.plain (OpenSpec.ofChange graphPassedSpec)) graphPassedCard

/-- THE SECOND FORM's CARD OF 'dioramalaw10.TreeReaches'. -/
def treeReachesUptoCard : Claim7 := { stood := { row := treeReachesUptoRow, standIns := [], harness := (true, "221633c728177fe8c77168c3d273c9ba813fec1b7694204edcb74433bdf3efc6"), looks := true }, kinds := [], alts := [], laidByText := true, laidKinds := [.data, .data], laidTests := true, laidLooks := .later }
def TreeReachesUptoCardSaid : Prop := Claim7.holds Tryd.pinned (.plain (OpenSpec.upto treeReachesSpec)) treeReachesUptoCard

/-- THE SECOND FORM's CARD OF 'dioramalaw10.TreeBelow'. -/
def treeBelowUptoCard : Claim7 := { stood := { row := treeBelowUptoRow, standIns := [], harness := (true, "221633c728177fe8c77168c3d273c9ba813fec1b7694204edcb74433bdf3efc6"), looks := true }, kinds := [], alts := [], laidByText := true, laidKinds := [.data, .data], laidTests := true, laidLooks := .later }
def TreeBelowUptoCardSaid : Prop := Claim7.holds Tryd.pinned (.plain (OpenSpec.upto treeBelowSpec)) treeBelowUptoCard

/-- THE SECOND FORM's CARD OF 'dioramalaw10.TreeBack'. -/
def treeBackUptoCard : Claim7 := { stood := { row := treeBackUptoRow, standIns := [], harness := (true, "221633c728177fe8c77168c3d273c9ba813fec1b7694204edcb74433bdf3efc6"), looks := true }, kinds := [], alts := [], laidByText := true, laidKinds := [.data, .data], laidTests := true, laidLooks := .later }
def TreeBackUptoCardSaid : Prop := Claim7.holds Tryd.pinned (.plain (OpenSpec.upto treeBackSpec)) treeBackUptoCard

/-- THE SECOND FORM's CARD OF 'dioramalaw10.TreePlays'. -/
def treePlaysUptoCard : Claim7 := { stood := { row := treePlaysUptoRow, standIns := [], harness := (true, "221633c728177fe8c77168c3d273c9ba813fec1b7694204edcb74433bdf3efc6"), looks := true }, kinds := [], alts := [], laidByText := true, laidKinds := [.data, .data], laidTests := true, laidLooks := .later }
def TreePlaysUptoCardSaid : Prop := Claim7.holds Tryd.pinned (.plain (OpenSpec.upto treePlaysSpec)) treePlaysUptoCard

/-- THE SECOND FORM's CARD OF 'dioramalaw10.TreeNil'. -/
def treeNilUptoCard : Claim7 := { stood := { row := treeNilUptoRow, standIns := [], harness := (true, "221633c728177fe8c77168c3d273c9ba813fec1b7694204edcb74433bdf3efc6"), looks := true }, kinds := [], alts := [], laidByText := true, laidKinds := [.data, .data], laidTests := true, laidLooks := .later }
def TreeNilUptoCardSaid : Prop := Claim7.holds Tryd.pinned (.plain (OpenSpec.upto treeNilSpec)) treeNilUptoCard

/-- THE SECOND FORM's CARD OF 'dioramalaw13.GraphAnyOrder'. -/
def graphAnyOrderUptoCard : Claim7 := { stood := { row := graphAnyOrderUptoRow, standIns := [], harness := (true, "221633c728177fe8c77168c3d273c9ba813fec1b7694204edcb74433bdf3efc6"), looks := true }, kinds := [], alts := [], laidByText := true, laidKinds := [.data, .data], laidTests := true, laidLooks := .later }
def GraphAnyOrderUptoCardSaid : Prop := Claim7.holds Tryd.pinned (.plain (OpenSpec.upto graphAnyOrderSpec)) graphAnyOrderUptoCard

/-- THE SECOND FORM's CARD OF 'dioramalaw13.GraphPassed'. -/
def graphPassedUptoCard : Claim7 := { stood := { row := graphPassedUptoRow, standIns := [], harness := (true, "221633c728177fe8c77168c3d273c9ba813fec1b7694204edcb74433bdf3efc6"), looks := true }, kinds := [], alts := [], laidByText := true, laidKinds := [.data, .data], laidTests := true, laidLooks := .later }
def GraphPassedUptoCardSaid : Prop := Claim7.holds Tryd.pinned (.plain (OpenSpec.upto graphPassedSpec)) graphPassedUptoCard
end Rows
end Go.Proofs.YtefigbdkennhaaaDoor
