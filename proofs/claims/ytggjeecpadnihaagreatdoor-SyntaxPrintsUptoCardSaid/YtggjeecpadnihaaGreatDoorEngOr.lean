/- The engine: of two ways to meet a call the first that answers. -/
import Derived.Test.YtggjeecpadnihaaGreatDoorEngW
set_option linter.unusedSectionVars false
set_option linter.unusedVariables false
noncomputable section
namespace Go.Eng
open Go.RowKit
section
variable {P : Program} {env : Nat → Value} {okc : FuncId → Code → Bool}
def orExt (a b : CallF) : CallF := fun t args h => match a t args h with | some r => some r | none => b t args h
theorem orExt_ok {ng : Nat} {a b : CallF} (ha : CallOk P env okc ng a) (hb : CallOk P env okc ng b) : CallOk P env okc ng (orExt a b) := by
  refine ⟨?_, ?_⟩
  · intro ρ h w hr hg f args e h' hx hbd args' hv cs
    unfold orExt at hx
    split at hx
    · rename_i r hr1; cases hx; exact ha.fn ρ h w hr hg f args e h' hr1 hbd args' hv cs
    · exact hb.fn ρ h w hr hg f args e h' hx hbd args' hv cs
  · intro ρ h w hr hg b' i args e h' hx hi args' hv
    unfold orExt at hx
    split at hx
    · rename_i r hr1; cases hx; exact ha.round ρ h w hr hg b' i args e h' hr1 hi args' hv
    · exact hb.round ρ h w hr hg b' i args e h' hx hi args' hv
end
end Go.Eng
