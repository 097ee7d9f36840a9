/- SyntaxSigns: the law's run, lives by its contract: where the first of the numbers is 8 or 9. -/
import Derived.Test.YtpnkohfmpdehaaaGreatDoorSyntaxSignsRun
namespace Go.Proofs.YtpnkohfmpdehaaaGreatDoor.syntaxSigns
open Go Go.Eng
noncomputable section
theorem run8 (es : Nat → TypeId) : test es 8 = true := by kernel_rfl
theorem run9 (es : Nat → TypeId) : test es 9 = true := by kernel_rfl
end
end Go.Proofs.YtpnkohfmpdehaaaGreatDoor.syntaxSigns
