import Derived.Test.YtlpffainhdnaiaaGreatDoorEntD
/- DelegNames: the closed facts of its row. -/
namespace Go.Ab
open Go Go.Proofs Go.Proofs.YtlpffainhdnaiaaGreatDoor
noncomputable section
theorem names_facts : joinedFacts Tryz.prog 4 Tryz.f4 Rows.delegNamesSpec Rows.delegNamesRow = true := by kernel_rfl
end
end Go.Ab
