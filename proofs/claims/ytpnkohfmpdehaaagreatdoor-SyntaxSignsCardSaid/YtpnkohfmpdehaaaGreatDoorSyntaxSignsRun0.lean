/- SyntaxSigns: the law's run, lives by its contract: where the first of the numbers is 0 or 1. -/
import Derived.Test.YtpnkohfmpdehaaaGreatDoorSyntaxSignsRun
namespace Go.Proofs.YtpnkohfmpdehaaaGreatDoor.syntaxSigns
open Go Go.Eng
noncomputable section
theorem run0 (es : Nat → TypeId) : test es 0 = true := by kernel_rfl
theorem run1 (es : Nat → TypeId) : test es 1 = true := by kernel_rfl
end
end Go.Proofs.YtpnkohfmpdehaaaGreatDoor.syntaxSigns
