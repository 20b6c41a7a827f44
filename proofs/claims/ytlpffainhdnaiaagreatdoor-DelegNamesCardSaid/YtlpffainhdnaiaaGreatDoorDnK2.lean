import Derived.Test.YtlpffainhdnaiaaGreatDoorDnV
namespace Go.Ab
open Go
noncomputable section
theorem dnk44 : chkT dnc2 1000 174 dnt44 = true := by kernel_rfl
theorem dnk45 : chkT dnc2 1000 154 dnt45 = true := by kernel_rfl
theorem dnk46 : chkT dnc2 1000 69 dnt46 = true := by kernel_rfl
theorem dnk47 : chkT dnc2 1000 33 dnt47 = true := by kernel_rfl
theorem dnk48 : chkT dnc2 1000 99 dnt48 = true := by kernel_rfl
theorem dnk49 : chkT dnc2 1000 333 dnt49 = true := by kernel_rfl
theorem dnk50 : chkT dnc2 1000 26 dnt50 = true := by kernel_rfl
theorem dnk51 : chkT dnc2 1000 45 dnt51 = true := by kernel_rfl
theorem dnk52 : chkT dnc2 1000 81 dnt52 = true := by kernel_rfl
theorem dnk53 : chkT dnc3 1000 121 dnt53 = true := by kernel_rfl
theorem dnk54 : chkT dnc3 1000 143 dnt54 = true := by kernel_rfl
theorem dnk55 : chkT dnc3 1000 144 dnt55 = true := by kernel_rfl
theorem dnk56 : chkT dnc3 1000 86 dnt56 = true := by kernel_rfl
theorem dnk57 : chkT dnc3 1000 45 dnt57 = true := by kernel_rfl
theorem dnk58 : chkT dnc3 1000 45 dnt58 = true := by kernel_rfl
end
end Go.Ab
