/- SyntaxPrints, the second form: the row's closed facts. -/
import Derived.Test.YtggjeecpadnihaaGreatDoorRows
import Derived.Test.YtggjeecpadnihaaGreatDoorEngW
import Derived.JoinedOf
namespace Go.Proofs.YtggjeecpadnihaaGreatDoor.syntaxPrints
open Go Go.Eng
set_option maxRecDepth 100000 in
set_option maxHeartbeats 0 in
/-- The row's closed facts, one by one. -/
theorem facts : joinedFacts Tryz.checked.prog 4 Tryz.f4 (Rows.OpenSpec.upto Rows.syntaxPrintsSpec).bare Rows.syntaxPrintsUptoRow = true := by
  unfold joinedFacts
  repeat' (with_reducible refine and_intro ?_ ?_)
  all_goals (as_aux_lemma => kernel_rfl)
end Go.Proofs.YtggjeecpadnihaaGreatDoor.syntaxPrints
