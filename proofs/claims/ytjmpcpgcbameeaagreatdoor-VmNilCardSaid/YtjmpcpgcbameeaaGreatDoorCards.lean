/-
  DERIVED. GIVEN WITH THE SEED: THE CARDS: each row of YtjmpcpgcbameeaaGreatDoorRows.lean that lists a variable, with what it lists TIED to the program's text (the seventh form; the later family's looks); each row that meets fmt, with fmt's text TOLD by the authors' own Lean function (tested against real Go, not proved from fmt's source: count such statements apart). THE CARD IS WHAT COUNTS. Prove the row's statement (the work); the ties are given (YtjmpcpgcbameeaaGreatDoorTie.lean); close each card by the builder's one call (the guide's Derived/Test/ToyasCard.lean, 'card_holds'). Laid BY PROGRAM, IN A SANDBOX (cutbox-door.mjs). By AI agents, Wed Nov 11 2026. No macro, syntax, notation, axiom, sorry.
-/
import Derived.Test.YtjmpcpgcbameeaaGreatDoorRows
import GoSem.ClaimSeven
namespace Go.Proofs.YtjmpcpgcbameeaaGreatDoor
namespace Rows

/-- THE TIED CARD OF 'hindcastlaw09.VmTyped'. -/
def vmTypedCard : Claim7 := { stood := { row := vmTypedRow, standIns := [], harness := (true, "4e4ab94459c11fa3d9c3bc07fcd62dbc2b215d989b080cc175c8f5a2f0fac5d7"), looks := true }, kinds := [], alts := [], laidByText := true, laidKinds := [.data, .data, .data, .data, .data], laidTests := true, laidLooks := .later }
def VmTypedCardSaid : Prop := Claim7.holds Tryz.pinned (.plain (OpenSpec.ofChange vmTypedSpec)) vmTypedCard

/-- THE TIED CARD OF 'hindcastlaw09.VmAdds'. -/
def vmAddsCard : Claim7 := { stood := { row := vmAddsRow, standIns := [], harness := (true, "4e4ab94459c11fa3d9c3bc07fcd62dbc2b215d989b080cc175c8f5a2f0fac5d7"), looks := true }, kinds := [], alts := [], laidByText := true, laidKinds := [.data, .data, .data, .data, .data], laidTests := true, laidLooks := .later }
def VmAddsCardSaid : Prop := Claim7.holds Tryz.pinned (.plain (OpenSpec.ofChange vmAddsSpec)) vmAddsCard

/-- THE TIED CARD OF 'hindcastlaw09.VmCounts'. -/
def vmCountsCard : Claim7 := { stood := { row := vmCountsRow, standIns := [], harness := (true, "4e4ab94459c11fa3d9c3bc07fcd62dbc2b215d989b080cc175c8f5a2f0fac5d7"), looks := true }, kinds := [], alts := [], laidByText := true, laidKinds := [.data, .data, .data, .data, .data], laidTests := true, laidLooks := .later }
def VmCountsCardSaid : Prop := Claim7.holds Tryz.pinned (.plain (OpenSpec.ofChange vmCountsSpec)) vmCountsCard

/-- THE TIED CARD OF 'hindcastlaw09.VmNil'. -/
def vmNilCard : Claim7 := { stood := { row := vmNilRow, standIns := [], harness := (true, "4e4ab94459c11fa3d9c3bc07fcd62dbc2b215d989b080cc175c8f5a2f0fac5d7"), looks := true }, kinds := [], alts := [], laidByText := true, laidKinds := [.data, .data, .data, .data, .data], laidTests := true, laidLooks := .later }
def VmNilCardSaid : Prop := Claim7.holds Tryz.pinned (.plain (OpenSpec.ofChange vmNilSpec)) vmNilCard

/-- THE TIED CARD OF 'hindcastlaw09.VmAgain'. -/
def vmAgainCard : Claim7 := { stood := { row := vmAgainRow, standIns := [], harness := (true, "4e4ab94459c11fa3d9c3bc07fcd62dbc2b215d989b080cc175c8f5a2f0fac5d7"), looks := true }, kinds := [], alts := [], laidByText := true, laidKinds := [.data, .data, .data, .data, .data], laidTests := true, laidLooks := .later }
def VmAgainCardSaid : Prop := Claim7.holds Tryz.pinned (.plain (OpenSpec.ofChange vmAgainSpec)) vmAgainCard

/-- THE SECOND FORM's CARD OF 'hindcastlaw09.VmTyped'. -/
def vmTypedUptoCard : Claim7 := { stood := { row := vmTypedUptoRow, standIns := [], harness := (true, "4e4ab94459c11fa3d9c3bc07fcd62dbc2b215d989b080cc175c8f5a2f0fac5d7"), looks := true }, kinds := [], alts := [], laidByText := true, laidKinds := [.data, .data, .data, .data, .data], laidTests := true, laidLooks := .later }
def VmTypedUptoCardSaid : Prop := Claim7.holds Tryz.pinned (.plain (OpenSpec.upto vmTypedSpec)) vmTypedUptoCard

/-- THE SECOND FORM's CARD OF 'hindcastlaw09.VmAdds'. -/
def vmAddsUptoCard : Claim7 := { stood := { row := vmAddsUptoRow, standIns := [], harness := (true, "4e4ab94459c11fa3d9c3bc07fcd62dbc2b215d989b080cc175c8f5a2f0fac5d7"), looks := true }, kinds := [], alts := [], laidByText := true, laidKinds := [.data, .data, .data, .data, .data], laidTests := true, laidLooks := .later }
def VmAddsUptoCardSaid : Prop := Claim7.holds Tryz.pinned (.plain (OpenSpec.upto vmAddsSpec)) vmAddsUptoCard

/-- THE SECOND FORM's CARD OF 'hindcastlaw09.VmCounts'. -/
def vmCountsUptoCard : Claim7 := { stood := { row := vmCountsUptoRow, standIns := [], harness := (true, "4e4ab94459c11fa3d9c3bc07fcd62dbc2b215d989b080cc175c8f5a2f0fac5d7"), looks := true }, kinds := [], alts := [], laidByText := true, laidKinds := [.data, .data, .data, .data, .data], laidTests := true, laidLooks := .later }
def VmCountsUptoCardSaid : Prop := Claim7.holds Tryz.pinned (.plain (OpenSpec.upto vmCountsSpec)) vmCountsUptoCard

/-- THE SECOND FORM's CARD OF 'hindcastlaw09.VmNil'. -/
def vmNilUptoCard : Claim7 := { stood := { row := vmNilUptoRow, standIns := [], harness := (true, "4e4ab94459c11fa3d9c3bc07fcd62dbc2b215d989b080cc175c8f5a2f0fac5d7"), looks := true }, kinds := [], alts := [], laidByText := true, laidKinds := [.data, .data, .data, .data, .data], laidTests := true, laidLooks := .later }
def VmNilUptoCardSaid : Prop := Claim7.holds Tryz.pinned (.plain (OpenSpec.upto vmNilSpec)) vmNilUptoCard

/-- THE SECOND FORM's CARD OF 'hindcastlaw09.VmAgain'. -/
def vmAgainUptoCard : Claim7 := { stood := { row := vmAgainUptoRow, standIns := [], harness := (true, "4e4ab94459c11fa3d9c3bc07fcd62dbc2b215d989b080cc175c8f5a2f0fac5d7"), looks := true }, kinds := [], alts := [], laidByText := true, laidKinds := [.data, .data, .data, .data, .data], laidTests := true, laidLooks := .later }
def VmAgainUptoCardSaid : Prop := Claim7.holds Tryz.pinned (.plain (OpenSpec.upto vmAgainSpec)) vmAgainUptoCard
end Rows
end Go.Proofs.YtjmpcpgcbameeaaGreatDoor
