/- SyntaxSigns: the law's run, lives by its contract: where the first of the numbers is 10 or 11. -/
import Derived.Test.YtpnkohfmpdehaaaGreatDoorSyntaxSignsRun
namespace Go.Proofs.YtpnkohfmpdehaaaGreatDoor.syntaxSigns
open Go Go.Eng
noncomputable section
theorem run10 (es : Nat → TypeId) : test es 10 = true := by kernel_rfl
theorem run11 (es : Nat → TypeId) : test es 11 = true := by kernel_rfl
end
end Go.Proofs.YtpnkohfmpdehaaaGreatDoor.syntaxSigns
