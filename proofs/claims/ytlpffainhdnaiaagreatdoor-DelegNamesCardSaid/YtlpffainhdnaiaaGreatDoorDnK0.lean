import Derived.Test.YtlpffainhdnaiaaGreatDoorDnV
namespace Go.Ab
open Go
noncomputable section
theorem dnk0 : chkT dnc0 1000 22 dnt0 = true := by kernel_rfl
theorem dnk1 : chkT dnc0 1000 60 dnt1 = true := by kernel_rfl
theorem dnk2 : chkT dnc0 1000 119 dnt2 = true := by kernel_rfl
theorem dnk3 : chkT dnc0 1000 250 dnt3 = true := by kernel_rfl
theorem dnk4 : chkT dnc0 1000 168 dnt4 = true := by kernel_rfl
theorem dnk5 : chkT dnc0 1000 139 dnt5 = true := by kernel_rfl
theorem dnk6 : chkT dnc0 1000 149 dnt6 = true := by kernel_rfl
theorem dnk7 : chkT dnc0 1000 148 dnt7 = true := by kernel_rfl
theorem dnk8 : chkT dnc0 1000 216 dnt8 = true := by kernel_rfl
theorem dnk9 : chkT dnc0 1000 150 dnt9 = true := by kernel_rfl
theorem dnk10 : chkT dnc0 1000 155 dnt10 = true := by kernel_rfl
theorem dnk11 : chkT dnc0 1000 86 dnt11 = true := by kernel_rfl
theorem dnk12 : chkT dnc0 1000 154 dnt12 = true := by kernel_rfl
theorem dnk13 : chkT dnc0 1000 102 dnt13 = true := by kernel_rfl
theorem dnk14 : chkT dnc0 1000 174 dnt14 = true := by kernel_rfl
theorem dnk15 : chkT dnc0 1000 171 dnt15 = true := by kernel_rfl
end
end Go.Ab
