/- SyntaxSigns: the law's run, lives by its contract: where the first of the numbers is 12. -/
import Derived.Test.YtpnkohfmpdehaaaGreatDoorSyntaxSignsRun
namespace Go.Proofs.YtpnkohfmpdehaaaGreatDoor.syntaxSigns
open Go Go.Eng
noncomputable section
theorem run12 (es : Nat → TypeId) : test es 12 = true := by kernel_rfl
end
end Go.Proofs.YtpnkohfmpdehaaaGreatDoor.syntaxSigns
