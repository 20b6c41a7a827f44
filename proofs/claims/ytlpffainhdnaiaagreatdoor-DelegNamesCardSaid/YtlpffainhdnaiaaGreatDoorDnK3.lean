import Derived.Test.YtlpffainhdnaiaaGreatDoorDnV
namespace Go.Ab
open Go
noncomputable section
theorem dnk59 : chkT dnc3 1000 45 dnt59 = true := by kernel_rfl
theorem dnk60 : chkT dnc3 1000 40 dnt60 = true := by kernel_rfl
theorem dnk61 : chkT dnc3 1000 332 dnt61 = true := by kernel_rfl
theorem dnk62 : chkT dnc3 1000 26 dnt62 = true := by kernel_rfl
theorem dnk63 : chkT dnc3 1000 33 dnt63 = true := by kernel_rfl
theorem dnk64 : chkT dnc3 1000 138 dnt64 = true := by kernel_rfl
theorem dnk65 : chkT dnc3 1000 69 dnt65 = true := by kernel_rfl
theorem dnk66 : chkT dnc3 1000 81 dnt66 = true := by kernel_rfl
theorem dnk67 : chkT dnc4 1000 63 dnt67 = true := by kernel_rfl
theorem dnk68 : chkT dnc4 1000 146 dnt68 = true := by kernel_rfl
theorem dnk69 : chkT dnc4 1000 330 dnt69 = true := by kernel_rfl
theorem dnk70 : chkT dnc4 1000 81 dnt70 = true := by kernel_rfl
theorem dnk71 : chkT dnc4 1000 56 dnt71 = true := by kernel_rfl
theorem dnk72 : chkT dnc4 1000 26 dnt72 = true := by kernel_rfl
end
end Go.Ab
