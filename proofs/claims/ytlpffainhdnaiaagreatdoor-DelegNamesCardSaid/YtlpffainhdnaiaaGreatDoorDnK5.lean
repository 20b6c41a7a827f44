import Derived.Test.YtlpffainhdnaiaaGreatDoorDnV
namespace Go.Ab
open Go
noncomputable section
theorem dnk83 : chkT dnc7 1000 15 dnt83 = true := by kernel_rfl
theorem dnk84 : chkT dnc8 1000 13 dnt84 = true := by kernel_rfl
theorem dnk85 : chkT dnc9 1000 4 dnt85 = true := by kernel_rfl
end
end Go.Ab
