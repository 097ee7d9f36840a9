/- SyntaxSigns: the law's run, lives by its contract: where the first of the numbers is 4 or 5. -/
import Derived.Test.YtpnkohfmpdehaaaGreatDoorSyntaxSignsRun
namespace Go.Proofs.YtpnkohfmpdehaaaGreatDoor.syntaxSigns
open Go Go.Eng
noncomputable section
theorem run4 (es : Nat → TypeId) : test es 4 = true := by kernel_rfl
theorem run5 (es : Nat → TypeId) : test es 5 = true := by kernel_rfl
end
end Go.Proofs.YtpnkohfmpdehaaaGreatDoor.syntaxSigns
