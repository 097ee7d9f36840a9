/- VmNil: the row's closed facts. -/
import Derived.Test.YtjmpcpgcbameeaaGreatDoorRows
import Derived.Test.YtjmpcpgcbameeaaGreatDoorEngV
import Derived.JoinedOf
namespace Go.Proofs.YtjmpcpgcbameeaaGreatDoor.vmNil
open Go Go.Eng
set_option maxRecDepth 100000 in
set_option maxHeartbeats 0 in
/-- The row's closed facts, one by one. -/
theorem facts : joinedFacts Tryz.checked.prog 6 Tryz.f6 Rows.vmNilSpec Rows.vmNilRow = true := by
  unfold joinedFacts
  repeat' (with_reducible refine and_intro ?_ ?_)
  all_goals (as_aux_lemma => kernel_rfl)
end Go.Proofs.YtjmpcpgcbameeaaGreatDoor.vmNil
