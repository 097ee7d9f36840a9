/-
  DERIVED. GIVEN WITH THE SEED: THE CARDS: each row of YtlkejbpcaabdkaaGreatDoorRows.lean that lists a variable, with what it lists TIED to the program's text (the seventh form; the later family's looks); each row that meets fmt, with fmt's text TOLD by the authors' own Lean function (tested against real Go, not proved from fmt's source: count such statements apart). THE CARD IS WHAT COUNTS. Prove the row's statement (the work); the ties are given (YtlkejbpcaabdkaaGreatDoorTie.lean); close each card by the builder's one call (the guide's Derived/Test/ToyasCard.lean, 'card_holds'). Laid BY PROGRAM, IN A SANDBOX (cutbox-door.mjs). By AI agents, Wed Nov 11 2026. No macro, syntax, notation, axiom, sorry.
-/
import Derived.Test.YtlkejbpcaabdkaaGreatDoorRows
import GoSem.ClaimSeven
namespace Go.Proofs.YtlkejbpcaabdkaaGreatDoor
namespace Rows

/-- THE TIED CARD OF 'hindcastlaw14.StopsNil'. -/
def stopsNilCard : Claim7 := { stood := { row := stopsNilRow, standIns := [], harness := (true, "d06cda2dd54b6573a64268184d2c88e48814a7023d0b940e530d69458a87e5b5"), looks := true }, kinds := [], alts := [], laidByText := true, laidKinds := [.data, .data, .data, .handle, .sentinel, .sentinel, .data, .data], laidTests := true, laidLooks := .later }
def StopsNilCardSaid : Prop := Claim7.holds Tryz.pinned (.plain (OpenSpec.ofChange stopsNilSpec)) stopsNilCard

/-- THE SECOND FORM's CARD OF 'hindcastlaw14.StopsNil'. -/
def stopsNilUptoCard : Claim7 := { stood := { row := stopsNilUptoRow, standIns := [], harness := (true, "d06cda2dd54b6573a64268184d2c88e48814a7023d0b940e530d69458a87e5b5"), looks := true }, kinds := [], alts := [], laidByText := true, laidKinds := [.data, .data, .data, .handle, .sentinel, .sentinel, .data, .data], laidTests := true, laidLooks := .later }
def StopsNilUptoCardSaid : Prop := Claim7.holds Tryz.pinned (.plain (OpenSpec.upto stopsNilSpec)) stopsNilUptoCard
end Rows
end Go.Proofs.YtlkejbpcaabdkaaGreatDoor
