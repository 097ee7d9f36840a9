/-
  DERIVED. GIVEN WITH THE SEED: THE CARDS: each row of YtfdbkfehkolpmaaGreatDoorRows.lean that lists a variable, with what it lists TIED to the program's text (the seventh form; the later family's looks); each row that meets fmt, with fmt's text TOLD by the authors' own Lean function (tested against real Go, not proved from fmt's source: count such statements apart). THE CARD IS WHAT COUNTS. Prove the row's statement (the work); the ties are given (YtfdbkfehkolpmaaGreatDoorTie.lean); close each card by the builder's one call (the guide's Derived/Test/ToyasCard.lean, 'card_holds'). Laid BY PROGRAM, IN A SANDBOX (cutbox-door.mjs). By AI agents, Wed Nov 11 2026. No macro, syntax, notation, axiom, sorry.
-/
import Derived.Test.YtfdbkfehkolpmaaGreatDoorRows
import GoSem.ClaimSeven
namespace Go.Proofs.YtfdbkfehkolpmaaGreatDoor
namespace Rows

/-- THE TIED CARD OF 'hindcastlaw13.EvalNil'. -/
def evalNilCard : Claim7 := { stood := { row := evalNilRow, standIns := [], harness := (true, "a2ec69079b913c1e5d1e498686c95d882c1d15be626c1de6ebdec71383577ff0"), looks := true }, kinds := [], alts := [], laidByText := true, laidKinds := [.data, .data, .data, .handle, .sentinel, .sentinel, .data, .data], laidTests := true, laidLooks := .later }
def EvalNilCardSaid : Prop := Claim7.holds Tryz.pinned (.plain (OpenSpec.ofChange evalNilSpec)) evalNilCard

/-- THE SECOND FORM's CARD OF 'hindcastlaw13.EvalNil'. -/
def evalNilUptoCard : Claim7 := { stood := { row := evalNilUptoRow, standIns := [], harness := (true, "a2ec69079b913c1e5d1e498686c95d882c1d15be626c1de6ebdec71383577ff0"), looks := true }, kinds := [], alts := [], laidByText := true, laidKinds := [.data, .data, .data, .handle, .sentinel, .sentinel, .data, .data], laidTests := true, laidLooks := .later }
def EvalNilUptoCardSaid : Prop := Claim7.holds Tryz.pinned (.plain (OpenSpec.upto evalNilSpec)) evalNilUptoCard
end Rows
end Go.Proofs.YtfdbkfehkolpmaaGreatDoor
