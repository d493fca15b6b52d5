/-
  DERIVED. GIVEN WITH THE SEED: THE CARDS: each row of YtefigbdkennhaaaGreatDoorRows.lean that lists a variable, with what it lists TIED to the program's text (the seventh form; the later family's looks); each row that meets fmt, with fmt's text TOLD by the authors' own Lean function (tested against real Go, not proved from fmt's source: count such statements apart). THE CARD IS WHAT COUNTS. Prove the row's statement (the work); the ties are given (YtefigbdkennhaaaGreatDoorTie.lean); close each card by the builder's one call (the guide's Derived/Test/ToyasCard.lean, 'card_holds'). Laid BY PROGRAM, IN A SANDBOX (cutbox-door.mjs). By AI agents, Wed Nov 11 2026. No macro, syntax, notation, axiom, sorry.
-/
import Derived.Test.YtefigbdkennhaaaGreatDoorRows
import GoSem.ClaimSeven
namespace Go.Proofs.YtefigbdkennhaaaGreatDoor
namespace Rows

/-- THE TIED CARD OF 'dioramalaw11.OrderTrees'. -/
def orderTreesCard : Claim7 := { stood := { row := orderTreesRow, standIns := [], harness := (true, "1e88b8d68dacf68471c41fd2267ea12d438f390d5559ecef75f8b7a9b156129e"), looks := true }, kinds := [], alts := [], laidByText := true, laidKinds := [.data, .data], laidTests := true, laidLooks := .later }
def OrderTreesCardSaid : Prop := Claim7.holds Tryz.pinned (.plain (OpenSpec.ofChange orderTreesSpec)) orderTreesCard

/-- THE TIED CARD OF 'dioramalaw13.GraphNoRing'. -/
def graphNoRingCard : Claim7 := { stood := { row := graphNoRingRow, standIns := [], harness := (true, "1e88b8d68dacf68471c41fd2267ea12d438f390d5559ecef75f8b7a9b156129e"), looks := true }, kinds := [], alts := [], laidByText := true, laidKinds := [.data, .data], laidTests := true, laidLooks := .later }
def GraphNoRingCardSaid : Prop := Claim7.holds Tryz.pinned (.plain (OpenSpec.ofChange graphNoRingSpec)) graphNoRingCard

/-- THE TIED CARD OF 'dioramalaw13.GraphPlays'. -/
def graphPlaysCard : Claim7 := { stood := { row := graphPlaysRow, standIns := [], harness := (true, "1e88b8d68dacf68471c41fd2267ea12d438f390d5559ecef75f8b7a9b156129e"), looks := true }, kinds := [], alts := [], laidByText := true, laidKinds := [.data, .data], laidTests := true, laidLooks := .later }
def GraphPlaysCardSaid : Prop := Claim7.holds Tryz.pinned (.plain (OpenSpec.ofChange graphPlaysSpec)) graphPlaysCard

/-- THE TIED CARD OF 'dioramalaw13.GraphNil'. -/
def graphNilCard : Claim7 := { stood := { row := graphNilRow, standIns := [], harness := (true, "1e88b8d68dacf68471c41fd2267ea12d438f390d5559ecef75f8b7a9b156129e"), looks := true }, kinds := [], alts := [], laidByText := true, laidKinds := [.data, .data], laidTests := true, laidLooks := .later }
def GraphNilCardSaid : Prop := Claim7.holds Tryz.pinned (.plain (OpenSpec.ofChange graphNilSpec)) graphNilCard

/-- THE SECOND FORM's CARD OF 'dioramalaw11.OrderTrees'. -/
def orderTreesUptoCard : Claim7 := { stood := { row := orderTreesUptoRow, standIns := [], harness := (true, "1e88b8d68dacf68471c41fd2267ea12d438f390d5559ecef75f8b7a9b156129e"), looks := true }, kinds := [], alts := [], laidByText := true, laidKinds := [.data, .data], laidTests := true, laidLooks := .later }
def OrderTreesUptoCardSaid : Prop := Claim7.holds Tryz.pinned (.plain (OpenSpec.upto orderTreesSpec)) orderTreesUptoCard

/-- THE SECOND FORM's CARD OF 'dioramalaw13.GraphNoRing'. -/
def graphNoRingUptoCard : Claim7 := { stood := { row := graphNoRingUptoRow, standIns := [], harness := (true, "1e88b8d68dacf68471c41fd2267ea12d438f390d5559ecef75f8b7a9b156129e"), looks := true }, kinds := [], alts := [], laidByText := true, laidKinds := [.data, .data], laidTests := true, laidLooks := .later }
def GraphNoRingUptoCardSaid : Prop := Claim7.holds Tryz.pinned (.plain (OpenSpec.upto graphNoRingSpec)) graphNoRingUptoCard

/-- THE SECOND FORM's CARD OF 'dioramalaw13.GraphPlays'. -/
def graphPlaysUptoCard : Claim7 := { stood := { row := graphPlaysUptoRow, standIns := [], harness := (true, "1e88b8d68dacf68471c41fd2267ea12d438f390d5559ecef75f8b7a9b156129e"), looks := true }, kinds := [], alts := [], laidByText := true, laidKinds := [.data, .data], laidTests := true, laidLooks := .later }
def GraphPlaysUptoCardSaid : Prop := Claim7.holds Tryz.pinned (.plain (OpenSpec.upto graphPlaysSpec)) graphPlaysUptoCard

/-- THE SECOND FORM's CARD OF 'dioramalaw13.GraphNil'. -/
def graphNilUptoCard : Claim7 := { stood := { row := graphNilUptoRow, standIns := [], harness := (true, "1e88b8d68dacf68471c41fd2267ea12d438f390d5559ecef75f8b7a9b156129e"), looks := true }, kinds := [], alts := [], laidByText := true, laidKinds := [.data, .data], laidTests := true, laidLooks := .later }
def GraphNilUptoCardSaid : Prop := Claim7.holds Tryz.pinned (.plain (OpenSpec.upto graphNilSpec)) graphNilUptoCard
end Rows
end Go.Proofs.YtefigbdkennhaaaGreatDoor
