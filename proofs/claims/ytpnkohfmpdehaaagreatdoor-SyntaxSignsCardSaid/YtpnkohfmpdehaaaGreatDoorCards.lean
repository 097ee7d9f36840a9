/-
  DERIVED. GIVEN WITH THE SEED: THE CARDS: each row of YtpnkohfmpdehaaaGreatDoorRows.lean that lists a variable, with what it lists TIED to the program's text (the seventh form; the later family's looks); each row that meets fmt, with fmt's text TOLD by the authors' own Lean function (tested against real Go, not proved from fmt's source: count such statements apart). THE CARD IS WHAT COUNTS. Prove the row's statement (the work); the ties are given (YtpnkohfmpdehaaaGreatDoorTie.lean); close each card by the builder's one call (the guide's Derived/Test/ToyasCard.lean, 'card_holds'). Laid BY PROGRAM, IN A SANDBOX (cutbox-door.mjs). By AI agents, Wed Nov 11 2026. No macro, syntax, notation, axiom, sorry.
-/
import Derived.Test.YtpnkohfmpdehaaaGreatDoorRows
import GoSem.ClaimSeven
namespace Go.Proofs.YtpnkohfmpdehaaaGreatDoor
namespace Rows

/-- THE TIED CARD OF 'hindcastlaw04.SyntaxSigns'. -/
def syntaxSignsCard : Claim7 := { stood := { row := syntaxSignsRow, standIns := [], harness := (true, "1f50e3c957ae37af467138d73188b80039a9171a29c527cb4c5e84548a8e64c4"), looks := true }, kinds := [], alts := [], laidByText := true, laidKinds := [.data, .data, .data, .handle, .sentinel, .sentinel, .data, .data], laidTests := true, laidLooks := .later }
def SyntaxSignsCardSaid : Prop := Claim7.holds Tryz.pinned (.plain (OpenSpec.ofChange syntaxSignsSpec)) syntaxSignsCard

/-- THE SECOND FORM's CARD OF 'hindcastlaw04.SyntaxSigns'. -/
def syntaxSignsUptoCard : Claim7 := { stood := { row := syntaxSignsUptoRow, standIns := [], harness := (true, "1f50e3c957ae37af467138d73188b80039a9171a29c527cb4c5e84548a8e64c4"), looks := true }, kinds := [], alts := [], laidByText := true, laidKinds := [.data, .data, .data, .handle, .sentinel, .sentinel, .data, .data], laidTests := true, laidLooks := .later }
def SyntaxSignsUptoCardSaid : Prop := Claim7.holds Tryz.pinned (.plain (OpenSpec.upto syntaxSignsSpec)) syntaxSignsUptoCard
end Rows
end Go.Proofs.YtpnkohfmpdehaaaGreatDoor
