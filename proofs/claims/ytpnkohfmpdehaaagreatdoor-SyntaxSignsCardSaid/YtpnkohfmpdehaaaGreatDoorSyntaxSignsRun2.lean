/- SyntaxSigns: the law's run, lives by its contract: where the first of the numbers is 2 or 3. -/
import Derived.Test.YtpnkohfmpdehaaaGreatDoorSyntaxSignsRun
namespace Go.Proofs.YtpnkohfmpdehaaaGreatDoor.syntaxSigns
open Go Go.Eng
noncomputable section
theorem run2 (es : Nat → TypeId) : test es 2 = true := by kernel_rfl
theorem run3 (es : Nat → TypeId) : test es 3 = true := by kernel_rfl
end
end Go.Proofs.YtpnkohfmpdehaaaGreatDoor.syntaxSigns
