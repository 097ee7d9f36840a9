/- SyntaxSigns: the law's run, lives by its contract: where the first of the numbers is 6 or 7. -/
import Derived.Test.YtpnkohfmpdehaaaGreatDoorSyntaxSignsRun
namespace Go.Proofs.YtpnkohfmpdehaaaGreatDoor.syntaxSigns
open Go Go.Eng
noncomputable section
theorem run6 (es : Nat → TypeId) : test es 6 = true := by kernel_rfl
theorem run7 (es : Nat → TypeId) : test es 7 = true := by kernel_rfl
end
end Go.Proofs.YtpnkohfmpdehaaaGreatDoor.syntaxSigns
