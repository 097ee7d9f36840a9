/-
  DERIVED. GIVEN WITH THE SEED: THE CARDS: each row of YtflblenelggblaaGreatDoorRows.lean that lists a variable, with what it lists TIED to the program's text (the seventh form; the later family's looks); each row that meets fmt, with fmt's text TOLD by the authors' own Lean function (tested against real Go, not proved from fmt's source: count such statements apart). THE CARD IS WHAT COUNTS. Prove the row's statement (the work); the ties are given (YtflblenelggblaaGreatDoorTie.lean); close each card by the builder's one call (the guide's Derived/Test/ToyasCard.lean, 'card_holds'). Laid BY PROGRAM, IN A SANDBOX (cutbox-door.mjs). By AI agents, Wed Nov 11 2026. No macro, syntax, notation, axiom, sorry.
-/
import Derived.Test.YtflblenelggblaaGreatDoorRows
import GoSem.ClaimSeven
namespace Go.Proofs.YtflblenelggblaaGreatDoor
namespace Rows

/-- THE TIED CARD OF 'hindcastlaw09.VmAdds'. -/
def vmAddsCard : Claim7 := { stood := { row := vmAddsRow, standIns := [], harness := (true, "21fe808912be81db59898000dc17edbcd948d15b7023aa43ac206c2522a7fb8f"), looks := true }, kinds := [], alts := [], laidByText := true, laidKinds := [.data, .data, .data, .data, .data], laidTests := true, laidLooks := .later }
def VmAddsCardSaid : Prop := Claim7.holds Tryz.pinned (.plain (OpenSpec.ofChange vmAddsSpec)) vmAddsCard

/-- THE SECOND FORM's CARD OF 'hindcastlaw09.VmAdds'. -/
def vmAddsUptoCard : Claim7 := { stood := { row := vmAddsUptoRow, standIns := [], harness := (true, "21fe808912be81db59898000dc17edbcd948d15b7023aa43ac206c2522a7fb8f"), looks := true }, kinds := [], alts := [], laidByText := true, laidKinds := [.data, .data, .data, .data, .data], laidTests := true, laidLooks := .later }
def VmAddsUptoCardSaid : Prop := Claim7.holds Tryz.pinned (.plain (OpenSpec.upto vmAddsSpec)) vmAddsUptoCard
end Rows
end Go.Proofs.YtflblenelggblaaGreatDoor
