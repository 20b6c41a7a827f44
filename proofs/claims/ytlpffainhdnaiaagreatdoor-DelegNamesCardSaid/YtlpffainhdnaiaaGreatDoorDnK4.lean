import Derived.Test.YtlpffainhdnaiaaGreatDoorDnV
namespace Go.Ab
open Go
noncomputable section
theorem dnk73 : chkT dnc4 1000 138 dnt73 = true := by kernel_rfl
theorem dnk74 : chkT dnc4 1000 80 dnt74 = true := by kernel_rfl
theorem dnk75 : chkT dnc4 1000 30 dnt75 = true := by kernel_rfl
theorem dnk76 : chkT dnc5 1000 79 dnt76 = true := by kernel_rfl
theorem dnk77 : chkT dnc5 1000 81 dnt77 = true := by kernel_rfl
theorem dnk78 : chkT dnc5 1000 138 dnt78 = true := by kernel_rfl
theorem dnk79 : chkT dnc5 1000 26 dnt79 = true := by kernel_rfl
theorem dnk80 : chkT dnc5 1000 73 dnt80 = true := by kernel_rfl
theorem dnk81 : chkT dnc6 1000 30 dnt81 = true := by kernel_rfl
theorem dnk82 : chkT dnc6 1000 26 dnt82 = true := by kernel_rfl
end
end Go.Ab
