/- VmAdds: the runs, what they are over. -/
import Derived.Test.YtflblenelggblaaGreatDoorVa5
set_option linter.unusedVariables false
namespace Go.Proofs.YtflblenelggblaaGreatDoor
open Go Go.Proofs Go.Eng Go.RowKit
theorem vals_ok {a b : Int} {lt le eq ne gt ge : Bool} : EnvOk (envL hv (valsL a b lt le eq ne gt ge)) := by
  refine envL_ok rfl fun x hx => ?_
  unfold valsL at hx
  rcases List.mem_append.1 hx with hx | hx
  · simp only [headL, List.mem_cons, List.not_mem_nil, or_false] at hx
    rcases hx with rfl | rfl | rfl | rfl | rfl | rfl | rfl | rfl | rfl | rfl | rfl | rfl | rfl | rfl | rfl | rfl | rfl | rfl | rfl | rfl <;> rfl
  rcases List.mem_append.1 hx with hx | hx
  · obtain ⟨s, _, rfl⟩ := List.mem_map.1 hx
    rfl
  · simp only [List.mem_cons, List.not_mem_nil, or_false] at hx
    rcases hx with rfl | rfl <;> rfl
noncomputable section
def vmX (lt le eq ne gt ge b0 : Bool) : Cx := ⟨vmF lt le eq ne gt ge b0, 5⟩
def vmExt : CallF := orExt (sumExt gl lsums) (orExt (extOf 10 gl) (orExt (extV 200 gl showChk) (extV 16 gl digChk)))
theorem vmExt_ok {a b : Int} {lt le eq ne gt ge : Bool} (ha0 : -9223372036854775808 ≤ a) (ha1 : a ≤ 9223372036854775807) : CallOk Tryz.prog (envL hv (valsL a b lt le eq ne gt ge)) (okcP Tryz.prog) 5 vmExt :=
  orExt_ok (lsums_ok vals_ok envK) (orExt_ok (extOf_ok envK gl_lt gl_lit lives_calls) (orExt_ok (show_ok ha0 ha1) (dig_ok ha0 ha1)))
end
end Go.Proofs.YtflblenelggblaaGreatDoor
