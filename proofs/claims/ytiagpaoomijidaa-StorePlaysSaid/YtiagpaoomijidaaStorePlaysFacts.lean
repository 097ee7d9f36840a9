/- StorePlays: the row's closed facts. -/
import Derived.Test.YtiagpaoomijidaaPost
namespace Go.Proofs.Ytiagpaoomijidaa.storePlays
open Go
set_option maxRecDepth 100000 in
set_option maxHeartbeats 0 in
theorem facts : joinedFacts Try.checked.prog 3 Try.f3 Rows.storePlaysSpec Rows.storePlaysRow = true := by
  unfold joinedFacts
  repeat' (with_reducible refine and_intro ?_ ?_)
  all_goals (as_aux_lemma => kernel_rfl)
end Go.Proofs.Ytiagpaoomijidaa.storePlays
