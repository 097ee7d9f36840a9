/-
  No cell of these rows narrows 'for every input' (looked for: loops, veiled, ifaces, maps, wideKeys, modest, calm, conditions, laid).
  DERIVED. THE GIVEN ROWS OF THIS SEAT. 5 by the template 'for every input the law returns true; each argument reads behind the call as it read before'; 0 by the template 'total and deterministic' (their statements: YtiagpaoomijidaaTotals.lean).
  GIVEN WITH THE SEED: the statements are not yours to turn. If you find one false, say at which input.
  Laid BY PROGRAM, IN A SANDBOX (cutbox-rows.mjs): the forced cells as the released guide's own fill.sh prints them over the translation 2c02688c9fc04460… (all of the seat's roots in one cut). By AI agents, Wed Nov 11 2026. No macro, syntax, notation, axiom, sorry.
-/
import Derived.Test.YtiagpaoomijidaaChecked
import GoSem.Claim
import GoSem.ClaimJoined
import GoSem.ClaimMapViews
import Derived.JoinedTies
import Derived.KernelRfl
namespace Go.Proofs.Ytiagpaoomijidaa
/- THE CELL 'sum', in the pinned program and in every row, IS THE sha256 OF THE DUMP (.gsa) THAT YtiagpaoomijidaaProg.lean LOADS. Nothing in Lean hashes anything: it is a label: what it is worth is what the hold of that sum in a sandbox is worth. -/
noncomputable def Try.pinned : Pinned := { name := "ytiagpaoomijidaa", sum := "2c02688c9fc0446072b3dea37cc762921392f17b6650d1c463a1653786d95215", checked := Try.checked }
namespace Rows
def none {H : Type} : Left H := { results := [], args := [] }

/-- 'hindcastlaw11.StorePlays': WHATEVER THE INPUT: true; the input reads as it did. -/
def storePlaysSpec : ChangeSpec := { name := "storePlays", fn := fun _ => fun
  | [d1, d2, d3] => { results := [.lit (.bool true)], args := [d1, d2, d3] }
  | _ => none }
def storePlaysRow : OpenClaim := { program := "ytiagpaoomijidaa", sum := "2c02688c9fc0446072b3dea37cc762921392f17b6650d1c463a1653786d95215", func := "hindcast/hindcastlaw11.StorePlays", spec := "storePlays", inPlace := ["slices.overlaps[hindcast/store.item]"], unfollowed := true, recurses := true, apart := false }
def StorePlaysSaid : Prop := storePlaysRow.holds Try.pinned (OpenSpec.ofChange storePlaysSpec)

/-- ITS FALSE NEIGHBOUR: 'it returns false'. Refute it at one input. -/
def storePlaysWrong : ChangeSpec := { name := "storePlays", fn := fun _ => fun
  | [d1, d2, d3] => { results := [.lit (.bool false)], args := [d1, d2, d3] }
  | _ => none }
def StorePlaysWrongFalsely : Prop := storePlaysRow.holds Try.pinned (OpenSpec.ofChange storePlaysWrong)

/-- 'hindcastlaw11.StoreFirst': WHATEVER THE INPUT: true; the input reads as it did. -/
def storeFirstSpec : ChangeSpec := { name := "storeFirst", fn := fun _ => fun
  | [d1, d2] => { results := [.lit (.bool true)], args := [d1, d2] }
  | _ => none }
def storeFirstRow : OpenClaim := { program := "ytiagpaoomijidaa", sum := "2c02688c9fc0446072b3dea37cc762921392f17b6650d1c463a1653786d95215", func := "hindcast/hindcastlaw11.StoreFirst", spec := "storeFirst", inPlace := ["slices.overlaps[hindcast/store.item]"], unfollowed := true, recurses := true, apart := false }
def StoreFirstSaid : Prop := storeFirstRow.holds Try.pinned (OpenSpec.ofChange storeFirstSpec)

/-- ITS FALSE NEIGHBOUR: 'it returns false'. Refute it at one input. -/
def storeFirstWrong : ChangeSpec := { name := "storeFirst", fn := fun _ => fun
  | [d1, d2] => { results := [.lit (.bool false)], args := [d1, d2] }
  | _ => none }
def StoreFirstWrongFalsely : Prop := storeFirstRow.holds Try.pinned (OpenSpec.ofChange storeFirstWrong)

/-- 'hindcastlaw11.StoreKept': WHATEVER THE INPUT: true; the input reads as it did. -/
def storeKeptSpec : ChangeSpec := { name := "storeKept", fn := fun _ => fun
  | [d1, d2, d3] => { results := [.lit (.bool true)], args := [d1, d2, d3] }
  | _ => none }
def storeKeptRow : OpenClaim := { program := "ytiagpaoomijidaa", sum := "2c02688c9fc0446072b3dea37cc762921392f17b6650d1c463a1653786d95215", func := "hindcast/hindcastlaw11.StoreKept", spec := "storeKept", inPlace := ["slices.overlaps[hindcast/store.item]"], unfollowed := true, recurses := true, apart := false }
def StoreKeptSaid : Prop := storeKeptRow.holds Try.pinned (OpenSpec.ofChange storeKeptSpec)

/-- ITS FALSE NEIGHBOUR: 'it returns false'. Refute it at one input. -/
def storeKeptWrong : ChangeSpec := { name := "storeKept", fn := fun _ => fun
  | [d1, d2, d3] => { results := [.lit (.bool false)], args := [d1, d2, d3] }
  | _ => none }
def StoreKeptWrongFalsely : Prop := storeKeptRow.holds Try.pinned (OpenSpec.ofChange storeKeptWrong)

/-- 'hindcastlaw11.StoreSpread': WHATEVER THE INPUT: true; the input reads as it did. -/
def storeSpreadSpec : ChangeSpec := { name := "storeSpread", fn := fun _ => fun
  | [d1, d2, d3] => { results := [.lit (.bool true)], args := [d1, d2, d3] }
  | _ => none }
def storeSpreadRow : OpenClaim := { program := "ytiagpaoomijidaa", sum := "2c02688c9fc0446072b3dea37cc762921392f17b6650d1c463a1653786d95215", func := "hindcast/hindcastlaw11.StoreSpread", spec := "storeSpread", inPlace := ["slices.overlaps[hindcast/store.item]"], unfollowed := true, recurses := true, apart := false }
def StoreSpreadSaid : Prop := storeSpreadRow.holds Try.pinned (OpenSpec.ofChange storeSpreadSpec)

/-- ITS FALSE NEIGHBOUR: 'it returns false'. Refute it at one input. -/
def storeSpreadWrong : ChangeSpec := { name := "storeSpread", fn := fun _ => fun
  | [d1, d2, d3] => { results := [.lit (.bool false)], args := [d1, d2, d3] }
  | _ => none }
def StoreSpreadWrongFalsely : Prop := storeSpreadRow.holds Try.pinned (OpenSpec.ofChange storeSpreadWrong)

/-- 'hindcastlaw11.StoreNil': WHATEVER THE INPUT: true; the input reads as it did. -/
def storeNilSpec : ChangeSpec := { name := "storeNil", fn := fun _ => fun
  | [d1, d2, d3] => { results := [.lit (.bool true)], args := [d1, d2, d3] }
  | _ => none }
def storeNilRow : OpenClaim := { program := "ytiagpaoomijidaa", sum := "2c02688c9fc0446072b3dea37cc762921392f17b6650d1c463a1653786d95215", func := "hindcast/hindcastlaw11.StoreNil", spec := "storeNil", inPlace := ["slices.overlaps[hindcast/store.item]"], unfollowed := true, recurses := true, apart := false }
def StoreNilSaid : Prop := storeNilRow.holds Try.pinned (OpenSpec.ofChange storeNilSpec)

/-- ITS FALSE NEIGHBOUR: 'it returns false'. Refute it at one input. -/
def storeNilWrong : ChangeSpec := { name := "storeNil", fn := fun _ => fun
  | [d1, d2, d3] => { results := [.lit (.bool false)], args := [d1, d2, d3] }
  | _ => none }
def StoreNilWrongFalsely : Prop := storeNilRow.holds Try.pinned (OpenSpec.ofChange storeNilWrong)

/- THE SECOND FORM. 'bulk': how many values and letters a reading holds, each counted each time it is reached (what is shared counts as often as it is met; a slice's spare places count too). A statement '..UptoSaid' is the law's where the arguments, and the package variables that the reading takes, are together of bulk at most 1048576: NARROWER than '..Said'. Prove '..Said' where nothing that the law and all that it calls make is longer than what came in: it says more and counts as full. Else prove '..UptoSaid'. A law counts once. -/
mutual
def uptoBulk {H : Type} : DataW H → Nat
  | .lit (.string bytes) => bytes.length + 1
  | .lit _ => 1
  | .nil => 1
  | .ptr d => uptoBulk d + 1
  | .slice elems spare => uptoBulkAll elems + uptoBulkAll spare + 1
  | .agg parts => uptoBulkAll parts + 1
  | .iface _ d => uptoBulk d + 1
  | .map entries => uptoBulkEntries entries + 1
  | .held _ => 1
def uptoBulkAll {H : Type} : List (DataW H) → Nat
  | [] => 0
  | d :: r => uptoBulk d + uptoBulkAll r
def uptoBulkEntries {H : Type} : List (Lit × DataW H) → Nat
  | [] => 0
  | x :: r => uptoBulkEntry x + uptoBulkEntries r
def uptoBulkEntry {H : Type} : Lit × DataW H → Nat
  | (.string bytes, d) => bytes.length + uptoBulk d + 1
  | (_, d) => uptoBulk d + 1
 end
def uptoSmall : (H : Type) → List (DataW H) → Bool := fun _ ds => decide (uptoBulkAll ds ≤ 1048576)
def OpenSpec.upto (s : _root_.Go.ChangeSpec) : _root_.Go.OpenSpec := { _root_.Go.OpenSpec.ofChange s with cond := some uptoSmall }

/-- 'hindcastlaw11.StorePlays', WHERE WHAT IT READS IS OF BULK AT MOST 1048576: true; the input reads as it did. -/
def storePlaysUptoRow : OpenClaim := { program := "ytiagpaoomijidaa", sum := "2c02688c9fc0446072b3dea37cc762921392f17b6650d1c463a1653786d95215", func := "hindcast/hindcastlaw11.StorePlays", spec := "storePlays", inPlace := ["slices.overlaps[hindcast/store.item]"], unfollowed := true, recurses := true, apart := false, narrowed := true }
def StorePlaysUptoSaid : Prop := storePlaysUptoRow.holds Try.pinned (OpenSpec.upto storePlaysSpec)

/-- 'hindcastlaw11.StoreFirst', WHERE WHAT IT READS IS OF BULK AT MOST 1048576: true; the input reads as it did. -/
def storeFirstUptoRow : OpenClaim := { program := "ytiagpaoomijidaa", sum := "2c02688c9fc0446072b3dea37cc762921392f17b6650d1c463a1653786d95215", func := "hindcast/hindcastlaw11.StoreFirst", spec := "storeFirst", inPlace := ["slices.overlaps[hindcast/store.item]"], unfollowed := true, recurses := true, apart := false, narrowed := true }
def StoreFirstUptoSaid : Prop := storeFirstUptoRow.holds Try.pinned (OpenSpec.upto storeFirstSpec)

/-- 'hindcastlaw11.StoreKept', WHERE WHAT IT READS IS OF BULK AT MOST 1048576: true; the input reads as it did. -/
def storeKeptUptoRow : OpenClaim := { program := "ytiagpaoomijidaa", sum := "2c02688c9fc0446072b3dea37cc762921392f17b6650d1c463a1653786d95215", func := "hindcast/hindcastlaw11.StoreKept", spec := "storeKept", inPlace := ["slices.overlaps[hindcast/store.item]"], unfollowed := true, recurses := true, apart := false, narrowed := true }
def StoreKeptUptoSaid : Prop := storeKeptUptoRow.holds Try.pinned (OpenSpec.upto storeKeptSpec)

/-- 'hindcastlaw11.StoreSpread', WHERE WHAT IT READS IS OF BULK AT MOST 1048576: true; the input reads as it did. -/
def storeSpreadUptoRow : OpenClaim := { program := "ytiagpaoomijidaa", sum := "2c02688c9fc0446072b3dea37cc762921392f17b6650d1c463a1653786d95215", func := "hindcast/hindcastlaw11.StoreSpread", spec := "storeSpread", inPlace := ["slices.overlaps[hindcast/store.item]"], unfollowed := true, recurses := true, apart := false, narrowed := true }
def StoreSpreadUptoSaid : Prop := storeSpreadUptoRow.holds Try.pinned (OpenSpec.upto storeSpreadSpec)

/-- 'hindcastlaw11.StoreNil', WHERE WHAT IT READS IS OF BULK AT MOST 1048576: true; the input reads as it did. -/
def storeNilUptoRow : OpenClaim := { program := "ytiagpaoomijidaa", sum := "2c02688c9fc0446072b3dea37cc762921392f17b6650d1c463a1653786d95215", func := "hindcast/hindcastlaw11.StoreNil", spec := "storeNil", inPlace := ["slices.overlaps[hindcast/store.item]"], unfollowed := true, recurses := true, apart := false, narrowed := true }
def StoreNilUptoSaid : Prop := storeNilUptoRow.holds Try.pinned (OpenSpec.upto storeNilSpec)

end Rows
end Go.Proofs.Ytiagpaoomijidaa
