/- SyntaxWrites: the row's closed facts. -/
import Derived.Test.YtggjeecpadnihaaGreatDoorRows
import Derived.Test.YtggjeecpadnihaaGreatDoorEngW
import Derived.JoinedOf
namespace Go.Proofs.YtggjeecpadnihaaGreatDoor.syntaxWrites
open Go Go.Eng
set_option maxRecDepth 100000 in
set_option maxHeartbeats 0 in
/-- The row's closed facts, one by one. -/
theorem facts : joinedFacts Tryz.checked.prog 3 Tryz.f3 Rows.syntaxWritesSpec Rows.syntaxWritesRow = true := by
  unfold joinedFacts
  repeat' (with_reducible refine and_intro ?_ ?_)
  all_goals (as_aux_lemma => kernel_rfl)
end Go.Proofs.YtggjeecpadnihaaGreatDoor.syntaxWrites
