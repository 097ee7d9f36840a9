/-
  DERIVED. GIVEN WITH THE SEED: THE CARDS: each row of YtiigciolhfcjkaaGreatDoorRows.lean that lists a variable, with what it lists TIED to the program's text (the seventh form; the later family's looks); each row that meets fmt, with fmt's text TOLD by the authors' own Lean function (tested against real Go, not proved from fmt's source: count such statements apart). THE CARD IS WHAT COUNTS. Prove the row's statement (the work); the ties are given (YtiigciolhfcjkaaGreatDoorTie.lean); close each card by the builder's one call (the guide's Derived/Test/ToyasCard.lean, 'card_holds'). Laid BY PROGRAM, IN A SANDBOX (cutbox-door.mjs). By AI agents, Wed Nov 11 2026. No macro, syntax, notation, axiom, sorry.
-/
import Derived.Test.YtiigciolhfcjkaaGreatDoorRows
import GoSem.ClaimSeven
namespace Go.Proofs.YtiigciolhfcjkaaGreatDoor
namespace Rows

/-- THE TIED CARD OF 'hindcastlaw15.DebugNil'. -/
def debugNilCard : Claim7 := { stood := { row := debugNilRow, standIns := [], harness := (true, "b545f591546ef2930c624f4f2de194ebbddae74edef87bd07448fb98e6d90b1f"), looks := true }, kinds := [], alts := [], laidByText := true, laidKinds := [.data, .sentinel, .sentinel, .data, .data, .data, .data, .handle], laidTests := true, laidLooks := .later }
def DebugNilCardSaid : Prop := Claim7.holds Tryz.pinned (.plain (OpenSpec.ofChange debugNilSpec)) debugNilCard

/-- THE SECOND FORM's CARD OF 'hindcastlaw15.DebugNil'. -/
def debugNilUptoCard : Claim7 := { stood := { row := debugNilUptoRow, standIns := [], harness := (true, "b545f591546ef2930c624f4f2de194ebbddae74edef87bd07448fb98e6d90b1f"), looks := true }, kinds := [], alts := [], laidByText := true, laidKinds := [.data, .sentinel, .sentinel, .data, .data, .data, .data, .handle], laidTests := true, laidLooks := .later }
def DebugNilUptoCardSaid : Prop := Claim7.holds Tryz.pinned (.plain (OpenSpec.upto debugNilSpec)) debugNilUptoCard
end Rows
end Go.Proofs.YtiigciolhfcjkaaGreatDoor
