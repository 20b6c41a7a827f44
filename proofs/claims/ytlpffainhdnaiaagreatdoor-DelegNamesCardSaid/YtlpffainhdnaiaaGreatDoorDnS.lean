import Derived.Test.YtlpffainhdnaiaaGreatDoorDnK0
import Derived.Test.YtlpffainhdnaiaaGreatDoorDnK1
import Derived.Test.YtlpffainhdnaiaaGreatDoorDnK2
import Derived.Test.YtlpffainhdnaiaaGreatDoorDnK3
import Derived.Test.YtlpffainhdnaiaaGreatDoorDnK4
import Derived.Test.YtlpffainhdnaiaaGreatDoorDnK5
namespace Go.Ab
open Go
noncomputable section
section
variable (h : CfgOk dnc0)
include h
theorem dnok1 : CfgOk dnc1 := memo_ok h (TabOk.cons (gok_of_chk h dnk0) (TabOk.cons (gok_of_chk h dnk1) (TabOk.cons (gok_of_chk h dnk2) (TabOk.cons (gok_of_chk h dnk3) (TabOk.cons (gok_of_chk h dnk4) (TabOk.cons (gok_of_chk h dnk5) (TabOk.cons (gok_of_chk h dnk6) (TabOk.cons (gok_of_chk h dnk7) (TabOk.cons (gok_of_chk h dnk8) (TabOk.cons (gok_of_chk h dnk9) (TabOk.cons (gok_of_chk h dnk10) (TabOk.cons (gok_of_chk h dnk11) (TabOk.cons (gok_of_chk h dnk12) (TabOk.cons (gok_of_chk h dnk13) (TabOk.cons (gok_of_chk h dnk14) (TabOk.cons (gok_of_chk h dnk15) (TabOk.cons (gok_of_chk h dnk16) (TabOk.cons (gok_of_chk h dnk17) (TabOk.cons (gok_of_chk h dnk18) (TabOk.cons (gok_of_chk h dnk19) (TabOk.cons (gok_of_chk h dnk20) (TabOk.cons (gok_of_chk h dnk21) TabOk.nil))))))))))))))))))))))
theorem dnok2 : CfgOk dnc2 := memo_ok (dnok1 h) (TabOk.cons (gok_of_chk (dnok1 h) dnk22) (TabOk.cons (gok_of_chk (dnok1 h) dnk23) (TabOk.cons (gok_of_chk (dnok1 h) dnk24) (TabOk.cons (gok_of_chk (dnok1 h) dnk25) (TabOk.cons (gok_of_chk (dnok1 h) dnk26) (TabOk.cons (gok_of_chk (dnok1 h) dnk27) (TabOk.cons (gok_of_chk (dnok1 h) dnk28) (TabOk.cons (gok_of_chk (dnok1 h) dnk29) (TabOk.cons (gok_of_chk (dnok1 h) dnk30) (TabOk.cons (gok_of_chk (dnok1 h) dnk31) (TabOk.cons (gok_of_chk (dnok1 h) dnk32) (TabOk.cons (gok_of_chk (dnok1 h) dnk33) (TabOk.cons (gok_of_chk (dnok1 h) dnk34) (TabOk.cons (gok_of_chk (dnok1 h) dnk35) (TabOk.cons (gok_of_chk (dnok1 h) dnk36) (TabOk.cons (gok_of_chk (dnok1 h) dnk37) (TabOk.cons (gok_of_chk (dnok1 h) dnk38) TabOk.nil)))))))))))))))))
theorem dnok3 : CfgOk dnc3 := memo_ok (dnok2 h) (TabOk.cons (gok_of_chk (dnok2 h) dnk39) (TabOk.cons (gok_of_chk (dnok2 h) dnk40) (TabOk.cons (gok_of_chk (dnok2 h) dnk41) (TabOk.cons (gok_of_chk (dnok2 h) dnk42) (TabOk.cons (gok_of_chk (dnok2 h) dnk43) (TabOk.cons (gok_of_chk (dnok2 h) dnk44) (TabOk.cons (gok_of_chk (dnok2 h) dnk45) (TabOk.cons (gok_of_chk (dnok2 h) dnk46) (TabOk.cons (gok_of_chk (dnok2 h) dnk47) (TabOk.cons (gok_of_chk (dnok2 h) dnk48) (TabOk.cons (gok_of_chk (dnok2 h) dnk49) (TabOk.cons (gok_of_chk (dnok2 h) dnk50) (TabOk.cons (gok_of_chk (dnok2 h) dnk51) (TabOk.cons (gok_of_chk (dnok2 h) dnk52) TabOk.nil))))))))))))))
theorem dnok4 : CfgOk dnc4 := memo_ok (dnok3 h) (TabOk.cons (gok_of_chk (dnok3 h) dnk53) (TabOk.cons (gok_of_chk (dnok3 h) dnk54) (TabOk.cons (gok_of_chk (dnok3 h) dnk55) (TabOk.cons (gok_of_chk (dnok3 h) dnk56) (TabOk.cons (GOk.append (GOk.append (gok_of_chk (dnok3 h) dnk57) (gok_of_chk (dnok3 h) dnk58)) (gok_of_chk (dnok3 h) dnk59)) (TabOk.cons (gok_of_chk (dnok3 h) dnk60) (TabOk.cons (gok_of_chk (dnok3 h) dnk61) (TabOk.cons (gok_of_chk (dnok3 h) dnk62) (TabOk.cons (gok_of_chk (dnok3 h) dnk63) (TabOk.cons (gok_of_chk (dnok3 h) dnk64) (TabOk.cons (gok_of_chk (dnok3 h) dnk65) (TabOk.cons (gok_of_chk (dnok3 h) dnk66) TabOk.nil))))))))))))
theorem dnok5 : CfgOk dnc5 := memo_ok (dnok4 h) (TabOk.cons (gok_of_chk (dnok4 h) dnk67) (TabOk.cons (gok_of_chk (dnok4 h) dnk68) (TabOk.cons (gok_of_chk (dnok4 h) dnk69) (TabOk.cons (gok_of_chk (dnok4 h) dnk70) (TabOk.cons (gok_of_chk (dnok4 h) dnk71) (TabOk.cons (gok_of_chk (dnok4 h) dnk72) (TabOk.cons (gok_of_chk (dnok4 h) dnk73) (TabOk.cons (gok_of_chk (dnok4 h) dnk74) (TabOk.cons (gok_of_chk (dnok4 h) dnk75) TabOk.nil)))))))))
theorem dnok6 : CfgOk dnc6 := memo_ok (dnok5 h) (TabOk.cons (gok_of_chk (dnok5 h) dnk76) (TabOk.cons (gok_of_chk (dnok5 h) dnk77) (TabOk.cons (gok_of_chk (dnok5 h) dnk78) (TabOk.cons (gok_of_chk (dnok5 h) dnk79) (TabOk.cons (gok_of_chk (dnok5 h) dnk80) TabOk.nil)))))
theorem dnok7 : CfgOk dnc7 := memo_ok (dnok6 h) (TabOk.cons (gok_of_chk (dnok6 h) dnk81) (TabOk.cons (gok_of_chk (dnok6 h) dnk82) TabOk.nil))
theorem dnok8 : CfgOk dnc8 := memo_ok (dnok7 h) (TabOk.cons (gok_of_chk (dnok7 h) dnk83) TabOk.nil)
theorem dnok9 : CfgOk dnc9 := memo_ok (dnok8 h) (TabOk.cons (gok_of_chk (dnok8 h) dnk84) TabOk.nil)
theorem dnok10 : CfgOk dnc10 := memo_ok (dnok9 h) (TabOk.cons (gok_of_chk (dnok9 h) dnk85) TabOk.nil)
end
end
end Go.Ab
