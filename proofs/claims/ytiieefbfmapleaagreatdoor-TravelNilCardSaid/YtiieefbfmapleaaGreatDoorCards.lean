/-
  DERIVED. GIVEN WITH THE SEED: THE CARDS: each row of YtiieefbfmapleaaGreatDoorRows.lean that lists a variable, with what it lists TIED to the program's text (the seventh form; the later family's looks); each row that meets fmt, with fmt's text TOLD by the authors' own Lean function (tested against real Go, not proved from fmt's source: count such statements apart). THE CARD IS WHAT COUNTS. Prove the row's statement (the work); the ties are given (YtiieefbfmapleaaGreatDoorTie.lean); close each card by the builder's one call (the guide's Derived/Test/ToyasCard.lean, 'card_holds'). Laid BY PROGRAM, IN A SANDBOX (cutbox-door.mjs). By AI agents, Wed Nov 11 2026. No macro, syntax, notation, axiom, sorry.
-/
import Derived.Test.YtiieefbfmapleaaGreatDoorRows
import GoSem.ClaimSeven
namespace Go.Proofs.YtiieefbfmapleaaGreatDoor
namespace Rows

/-- THE TIED CARD OF 'hindcastlaw12.TravelNil'. -/
def travelNilCard : Claim7 := { stood := { row := travelNilRow, standIns := [], harness := (true, "436f91e6417e083fdaf63a345d9e5c1c802cfd66016e2229c7a8cb628312517f"), looks := true }, kinds := [], alts := [], laidByText := true, laidKinds := [.data, .data, .data, .data, .data], laidTests := true, laidLooks := .later }
def TravelNilCardSaid : Prop := Claim7.holds Tryz.pinned (.plain (OpenSpec.ofChange travelNilSpec)) travelNilCard

/-- THE SECOND FORM's CARD OF 'hindcastlaw12.TravelNil'. -/
def travelNilUptoCard : Claim7 := { stood := { row := travelNilUptoRow, standIns := [], harness := (true, "436f91e6417e083fdaf63a345d9e5c1c802cfd66016e2229c7a8cb628312517f"), looks := true }, kinds := [], alts := [], laidByText := true, laidKinds := [.data, .data, .data, .data, .data], laidTests := true, laidLooks := .later }
def TravelNilUptoCardSaid : Prop := Claim7.holds Tryz.pinned (.plain (OpenSpec.upto travelNilSpec)) travelNilUptoCard
end Rows
end Go.Proofs.YtiieefbfmapleaaGreatDoor
