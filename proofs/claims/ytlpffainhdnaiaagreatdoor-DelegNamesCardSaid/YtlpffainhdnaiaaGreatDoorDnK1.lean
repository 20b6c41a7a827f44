import Derived.Test.YtlpffainhdnaiaaGreatDoorDnV
namespace Go.Ab
open Go
noncomputable section
theorem dnk16 : chkT dnc0 1000 173 dnt16 = true := by kernel_rfl
theorem dnk17 : chkT dnc0 1000 61 dnt17 = true := by kernel_rfl
theorem dnk18 : chkT dnc0 1000 334 dnt18 = true := by kernel_rfl
theorem dnk19 : chkT dnc0 1000 62 dnt19 = true := by kernel_rfl
theorem dnk20 : chkT dnc0 1000 85 dnt20 = true := by kernel_rfl
theorem dnk21 : chkT dnc0 1000 138 dnt21 = true := by kernel_rfl
theorem dnk22 : chkT dnc1 1000 203 dnt22 = true := by kernel_rfl
theorem dnk23 : chkT dnc1 1000 39 dnt23 = true := by kernel_rfl
theorem dnk24 : chkT dnc1 1000 32 dnt24 = true := by kernel_rfl
theorem dnk25 : chkT dnc1 1000 214 dnt25 = true := by kernel_rfl
theorem dnk26 : chkT dnc1 1000 86 dnt26 = true := by kernel_rfl
theorem dnk27 : chkT dnc1 1000 155 dnt27 = true := by kernel_rfl
theorem dnk28 : chkT dnc1 1000 154 dnt28 = true := by kernel_rfl
theorem dnk29 : chkT dnc1 1000 240 dnt29 = true := by kernel_rfl
theorem dnk30 : chkT dnc1 1000 85 dnt30 = true := by kernel_rfl
theorem dnk31 : chkT dnc1 1000 45 dnt31 = true := by kernel_rfl
theorem dnk32 : chkT dnc1 1000 97 dnt32 = true := by kernel_rfl
theorem dnk33 : chkT dnc1 1000 98 dnt33 = true := by kernel_rfl
theorem dnk34 : chkT dnc1 1000 27 dnt34 = true := by kernel_rfl
theorem dnk35 : chkT dnc1 1000 138 dnt35 = true := by kernel_rfl
theorem dnk36 : chkT dnc1 1000 28 dnt36 = true := by kernel_rfl
theorem dnk37 : chkT dnc1 1000 146 dnt37 = true := by kernel_rfl
theorem dnk38 : chkT dnc1 1000 30 dnt38 = true := by kernel_rfl
theorem dnk39 : chkT dnc2 1000 202 dnt39 = true := by kernel_rfl
theorem dnk40 : chkT dnc2 1000 122 dnt40 = true := by kernel_rfl
theorem dnk41 : chkT dnc2 1000 146 dnt41 = true := by kernel_rfl
theorem dnk42 : chkT dnc2 1000 86 dnt42 = true := by kernel_rfl
theorem dnk43 : chkT dnc2 1000 155 dnt43 = true := by kernel_rfl
end
end Go.Ab
