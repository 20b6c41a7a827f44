import Derived.Test.YtlpffainhdnaiaaGreatDoorAbMemo
import Derived.Test.YtlpffainhdnaiaaGreatDoorKcfg
namespace Go.Ab
open Go
noncomputable section
def dnv0 : AV := .str [97, 97, 97, 97, 97, 97, 97, 97, 97, 97, 97, 97, 97, 97, 97, 97, 97, 97, 97, 97, 97, 97, 97, 97, 97, 97, 97, 97, 97, 97, 97, 97, 97, 97, 97, 97, 97, 97, 97, 97, 97, 97, 97, 97, 97, 97, 97, 97, 97, 97, 97, 97, 97, 97, 97, 97, 97, 97, 97, 97, 97, 97, 97, 97]
def dnv1 : AV := .sl [[dnv0]] .full
def dnv2 : AV := .agg [(.int .i64 1), dnv1, (.int .i64 2), (.str [112])]
def dnv3 : AV := .str [116, 101, 114, 109, 105, 110, 97, 116, 105, 110, 103]
def dnv4 : AV := .str [116, 104, 114, 101, 115, 104, 111, 108, 100]
def dnv5 : AV := .str [115, 117, 99, 99, 105, 110, 99, 116, 95, 114, 111, 108, 101, 115]
def dnv6 : AV := .str [98, 105, 116, 95, 108, 101, 110, 103, 116, 104]
def dnv7 : AV := .str [110, 97, 109, 101, 95, 112, 114, 101, 102, 105, 120]
def dnv8 : AV := .str [112, 97, 116, 104, 95, 104, 97, 115, 104, 95, 112, 114, 101, 102, 105, 120, 101, 115]
def dnv9 : AV := .sl [[dnv0]] .frs
def dnv10 : AV := .sl [[(.int .u8 3), (.int .i64 0), dnv0, (.sl [] .frs), (.sl [] .frs)]] .frs
def dnv11 : AV := .agg [(.int .u8 4), (.int .i64 0), (.str []), (.sl [] .frs), dnv10]
def dnv12 : AV := .sl [[(.int .u8 3), (.int .i64 0), (.str [120, 47, 42]), (.sl [] .frs), (.sl [] .frs)]] .frs
def dnv13 : AV := .agg [(.int .u8 4), (.int .i64 0), (.str []), (.sl [] .frs), dnv12]
def dnv14 : AV := .sl [[(.int .u8 3), (.int .i64 0), (.str [42]), (.sl [] .frs), (.sl [] .frs)]] .frs
def dnv15 : AV := .agg [(.int .u8 4), (.int .i64 0), (.str []), (.sl [] .frs), dnv14]
def dnv16 : AV := .sl [[(.int .u8 3), (.int .i64 0), (.str [120, 47, 121]), (.sl [] .frs), (.sl [] .frs)]] .frs
def dnv17 : AV := .agg [(.int .u8 4), (.int .i64 0), (.str []), (.sl [] .frs), dnv16]
def dnv18 : AV := .sl [[(.str [42])], [(.str [42])], [(.str [42])], [(.str [42])], [(.str [42])], [(.str [42])], [(.str [42])], [(.str [42])], [(.str [42])], [(.str [42])], [(.str [42])], [(.str [42])], [(.str [42])], [(.str [42])], [(.str [42])], [(.str [42])], [(.str [42])], [(.str [42])], [(.str [42])], [(.str [42])], [(.str [42])], [(.str [42])], [(.str [42])], [(.str [42])], [(.str [42])], [(.str [42])], [(.str [42])], [(.str [42])], [(.str [42])], [(.str [42])], [(.str [42])], [(.str [42])]] .frs
def dnv19 : AV := .sl [[(.int .u8 3), (.int .i64 0), (.str [42]), (.sl [] .frs), (.sl [] .frs)], [(.int .u8 3), (.int .i64 0), (.str [42]), (.sl [] .frs), (.sl [] .frs)], [(.int .u8 3), (.int .i64 0), (.str [42]), (.sl [] .frs), (.sl [] .frs)], [(.int .u8 3), (.int .i64 0), (.str [42]), (.sl [] .frs), (.sl [] .frs)], [(.int .u8 3), (.int .i64 0), (.str [42]), (.sl [] .frs), (.sl [] .frs)], [(.int .u8 3), (.int .i64 0), (.str [42]), (.sl [] .frs), (.sl [] .frs)], [(.int .u8 3), (.int .i64 0), (.str [42]), (.sl [] .frs), (.sl [] .frs)], [(.int .u8 3), (.int .i64 0), (.str [42]), (.sl [] .frs), (.sl [] .frs)], [(.int .u8 3), (.int .i64 0), (.str [42]), (.sl [] .frs), (.sl [] .frs)], [(.int .u8 3), (.int .i64 0), (.str [42]), (.sl [] .frs), (.sl [] .frs)], [(.int .u8 3), (.int .i64 0), (.str [42]), (.sl [] .frs), (.sl [] .frs)], [(.int .u8 3), (.int .i64 0), (.str [42]), (.sl [] .frs), (.sl [] .frs)], [(.int .u8 3), (.int .i64 0), (.str [42]), (.sl [] .frs), (.sl [] .frs)], [(.int .u8 3), (.int .i64 0), (.str [42]), (.sl [] .frs), (.sl [] .frs)], [(.int .u8 3), (.int .i64 0), (.str [42]), (.sl [] .frs), (.sl [] .frs)], [(.int .u8 3), (.int .i64 0), (.str [42]), (.sl [] .frs), (.sl [] .frs)], [(.int .u8 3), (.int .i64 0), (.str [42]), (.sl [] .frs), (.sl [] .frs)], [(.int .u8 3), (.int .i64 0), (.str [42]), (.sl [] .frs), (.sl [] .frs)], [(.int .u8 3), (.int .i64 0), (.str [42]), (.sl [] .frs), (.sl [] .frs)], [(.int .u8 3), (.int .i64 0), (.str [42]), (.sl [] .frs), (.sl [] .frs)], [(.int .u8 3), (.int .i64 0), (.str [42]), (.sl [] .frs), (.sl [] .frs)], [(.int .u8 3), (.int .i64 0), (.str [42]), (.sl [] .frs), (.sl [] .frs)], [(.int .u8 3), (.int .i64 0), (.str [42]), (.sl [] .frs), (.sl [] .frs)], [(.int .u8 3), (.int .i64 0), (.str [42]), (.sl [] .frs), (.sl [] .frs)], [(.int .u8 3), (.int .i64 0), (.str [42]), (.sl [] .frs), (.sl [] .frs)], [(.int .u8 3), (.int .i64 0), (.str [42]), (.sl [] .frs), (.sl [] .frs)], [(.int .u8 3), (.int .i64 0), (.str [42]), (.sl [] .frs), (.sl [] .frs)], [(.int .u8 3), (.int .i64 0), (.str [42]), (.sl [] .frs), (.sl [] .frs)], [(.int .u8 3), (.int .i64 0), (.str [42]), (.sl [] .frs), (.sl [] .frs)], [(.int .u8 3), (.int .i64 0), (.str [42]), (.sl [] .frs), (.sl [] .frs)], [(.int .u8 3), (.int .i64 0), (.str [42]), (.sl [] .frs), (.sl [] .frs)], [(.int .u8 3), (.int .i64 0), (.str [42]), (.sl [] .frs), (.sl [] .frs)]] .frs
def dnv20 : AV := .agg [(.int .u8 4), (.int .i64 0), (.str []), (.sl [] .frs), dnv19]
def dnv21 : AV := .agg [(.int .u8 3), (.int .i64 0), dnv0, (.sl [] .frs), (.sl [] .frs)]
def dnv22 : AV := .agg [(.int .u8 3), (.int .i64 0), (.str [120, 47, 42]), (.sl [] .frs), (.sl [] .frs)]
def dnv23 : AV := .agg [(.int .u8 3), (.int .i64 0), (.str [42]), (.sl [] .frs), (.sl [] .frs)]
def dnv24 : AV := .agg [(.int .u8 3), (.int .i64 0), (.str [120, 47, 121]), (.sl [] .frs), (.sl [] .frs)]
def dnv25 : AV := .agg [(.int .u8 3), (.int .i64 0), (.str [97]), (.sl [] .frs), (.sl [] .frs)]
def dnv26 : AV := .agg [(.int .u8 1), (.int .i64 0), (.str []), (.sl [] .frs), (.sl [] .frs)]
def dnv27 : AV := .agg [(.int .u8 2), (.int .i64 1), (.str []), (.sl [] .frs), (.sl [] .frs)]
def dnv28 : AV := .agg [(.int .u8 3), (.int .i64 0), (.str [98]), (.sl [] .frs), (.sl [] .frs)]
def dnv29 : AV := .agg [(.int .u8 1), (.int .i64 1), (.str []), (.sl [] .frs), (.sl [] .frs)]
def dnv30 : AV := .agg [(.int .u8 3), (.int .i64 0), (.str [99]), (.sl [] .frs), (.sl [] .frs)]
def dnv31 : AV := .agg [(.int .u8 5), (.int .i64 0), (.str []), (.sl [] .frs), (.sl [] .frs)]
def dnv32 : AV := .agg [(.int .u8 3), (.int .i64 0), (.str [112]), (.sl [] .frs), (.sl [] .frs)]
def dnv33 : AV := .agg [(.int .u8 4), (.int .i64 0), (.str []), (.sl [] .frs), (.sl [] .frs)]
def dnv34 : AV := .agg [(.int .u8 3), (.int .i64 0), (.str [48, 102]), (.sl [] .frs), (.sl [] .frs)]
def dnv35 : AV := .agg [(.int .u8 3), (.int .i64 0), (.str [116, 97, 114, 103, 101, 116, 115]), (.sl [] .frs), (.sl [] .frs)]
def dnv36 : AV := .agg [(.int .u8 3), (.int .i64 0), (.str [47]), (.sl [] .frs), (.sl [] .frs)]
def dnv37 : AV := .ip [(.int .u8 4), (.int .i64 0), (.str []), (.sl [] .frs), dnv10] .frs
def dnv38 : AV := .ip [(.int .u8 4), (.int .i64 0), (.str []), (.sl [] .frs), dnv14] .frs
def dnv39 : AV := .sl [[(.int .u8 3), (.int .i64 0), (.str [48, 102]), (.sl [] .frs), (.sl [] .frs)]] .frs
def dnv40 : AV := .ip [(.int .u8 4), (.int .i64 0), (.str []), (.sl [] .frs), dnv39] .frs
def dnv41 : AV := .sl [[(.int .u8 5), (.int .i64 0), (.str []), (.sl [] .frs), (.sl [] .frs)]] .frs
def dnv42 : AV := .sl [[(.str [107, 101, 121, 115])], [(.str [114, 111, 108, 101, 115])]] .frs
def dnv43 : AV := .sl [[(.str [107, 101, 121, 105, 100, 115])], [(.str [110, 97, 109, 101])], [(.str [112, 97, 116, 104, 115])], [dnv3], [dnv4]] .frs
def dnv44 : AV := .sl [[(.str [107, 101, 121, 115])], [dnv5]] .frs
def dnv45 : AV := .sl [[dnv6], [(.str [107, 101, 121, 105, 100, 115])], [dnv7], [dnv4]] .frs
def dnv46 : AV := .sl [[(.str [107, 101, 121, 105, 100, 115])], [(.str [110, 97, 109, 101])], [dnv8], [dnv3], [dnv4]] .frs
def dnv47 : AV := .sl [[(.str [107, 101, 121, 105, 100, 115])], [(.str [110, 97, 109, 101])], [dnv8], [(.str [112, 97, 116, 104, 115])], [dnv3], [dnv4]] .frs
def dnv48 : AV := .sl [[(.str [107, 101, 121, 115])], [(.str [114, 111, 108, 101, 115])], [dnv5]] .frs
def dnv49 : AV := .sl [[(.str [107, 101, 121, 115])], [(.str [109, 111, 114, 101])], [(.str [114, 111, 108, 101, 115])]] .frs
def dnv50 : AV := .sl [[(.int .u8 4), (.int .i64 0), (.str []), (.sl [] .frs), dnv10], [(.int .u8 3), (.int .i64 0), (.str [97]), (.sl [] .frs), (.sl [] .frs)], [(.int .u8 4), (.int .i64 0), (.str []), (.sl [] .frs), dnv12], [(.int .u8 1), (.int .i64 0), (.str []), (.sl [] .frs), (.sl [] .frs)], [(.int .u8 2), (.int .i64 1), (.str []), (.sl [] .frs), (.sl [] .frs)]] .frs
def dnv51 : AV := .sl [[(.int .u8 4), (.int .i64 0), (.str []), (.sl [] .frs), dnv10], [(.int .u8 3), (.int .i64 0), (.str [98]), (.sl [] .frs), (.sl [] .frs)], [(.int .u8 4), (.int .i64 0), (.str []), (.sl [] .frs), dnv14], [(.int .u8 1), (.int .i64 1), (.str []), (.sl [] .frs), (.sl [] .frs)], [(.int .u8 2), (.int .i64 1), (.str []), (.sl [] .frs), (.sl [] .frs)]] .frs
def dnv52 : AV := .sl [[(.int .u8 4), (.int .i64 0), (.str []), (.sl [] .frs), dnv10], [(.int .u8 3), (.int .i64 0), (.str [99]), (.sl [] .frs), (.sl [] .frs)], [(.int .u8 4), (.int .i64 0), (.str []), (.sl [] .frs), dnv16], [(.int .u8 1), (.int .i64 0), (.str []), (.sl [] .frs), (.sl [] .frs)], [(.int .u8 2), (.int .i64 1), (.str []), (.sl [] .frs), (.sl [] .frs)]] .frs
def dnv53 : AV := .sl [[(.int .u8 5), (.int .i64 0), (.str []), dnv43, dnv50], [(.int .u8 5), (.int .i64 0), (.str []), dnv43, dnv51], [(.int .u8 5), (.int .i64 0), (.str []), dnv43, dnv52]] .frs
def dnv54 : AV := .agg [(.int .u8 4), (.int .i64 0), (.str []), (.sl [] .frs), dnv53]
def dnv55 : AV := .agg [(.int .u8 4), (.int .i64 0), (.str []), (.sl [] .frs), dnv39]
def dnv56 : AV := .agg [(.int .i64 1), dnv9]
def dnv57 : AV := .sl [[(.int .i32 120)], [(.int .i32 47)], [(.int .i32 121)]] .frs
def dnv58 : AV := .agg [(.str []), (.int .i64 0), (.sl [] .full), (.bool false), (.sl [] .full), (.sl [] .full)]
def dnv59 : AV := .tup [dnv58, (.int .i64 10)]
def dnv60 : AV := .agg [(.int .u8 4), (.int .i64 0), (.str []), (.sl [] .frs), (.sl [[(.int .u8 3), (.int .i64 0), (.str [47]), (.sl [] .frs), (.sl [] .frs)]] .frs)]
def dnv61 : AV := .sl [[(.int .u8 4), (.int .i64 0), (.str []), (.sl [] .frs), dnv10], [(.int .u8 3), (.int .i64 0), (.str [97]), (.sl [] .frs), (.sl [] .frs)], [(.int .u8 4), (.int .i64 0), (.str []), (.sl [] .frs), dnv14], [(.int .u8 1), (.int .i64 1), (.str []), (.sl [] .frs), (.sl [] .frs)], [(.int .u8 2), (.int .i64 1), (.str []), (.sl [] .frs), (.sl [] .frs)]] .frs
def dnv62 : AV := .sl [[(.int .u8 5), (.int .i64 0), (.str []), dnv43, (.sl [[(.int .u8 4), (.int .i64 0), (.str []), (.sl [] .frs), dnv10], [(.int .u8 3), (.int .i64 0), (.str [97]), (.sl [] .frs), (.sl [] .frs)], [(.int .u8 4), (.int .i64 0), (.str []), (.sl [] .frs), (.sl [[(.int .u8 3), (.int .i64 0), (.str [47]), (.sl [] .frs), (.sl [] .frs)]] .frs)], [(.int .u8 1), (.int .i64 1), (.str []), (.sl [] .frs), (.sl [] .frs)], [(.int .u8 2), (.int .i64 1), (.str []), (.sl [] .frs), (.sl [] .frs)]] .frs)]] .frs
def dnv63 : AV := .sl [[(.int .u8 2), (.int .i64 1), (.str []), (.sl [] .frs), (.sl [] .frs)], [(.int .u8 4), (.int .i64 0), (.str []), (.sl [] .frs), dnv10], [(.int .u8 3), (.int .i64 0), (.str [112]), (.sl [] .frs), (.sl [] .frs)], [(.int .u8 2), (.int .i64 1), (.str []), (.sl [] .frs), (.sl [] .frs)]] .frs
def dnv64 : AV := .agg [(.int .i64 1), dnv9, (.int .i64 1), (.str [112])]
def dnv65 : AV := .agg [(.sl [] .frs), (.sl [[(.str [97]), (.int .i64 1), dnv9, (.bool false), (.sl [[(.str [120, 47, 42])]] .frs), (.sl [] .frs)], [(.str [98]), (.int .i64 1), dnv9, (.bool true), (.sl [[(.str [42])]] .frs), (.sl [] .frs)], [(.str [99]), (.int .i64 1), dnv9, (.bool false), (.sl [[(.str [120, 47, 121])]] .frs), (.sl [] .frs)]] .frs), (.int .i64 0), (.sl [] .frs), (.int .i64 0), (.str [])]
def dnv66 : AV := .sl [[(.str [97]), (.int .i64 1), dnv9, (.bool false), (.sl [[(.str [120, 47, 42])]] .frs), (.sl [] .frs)], [(.str [98]), (.int .i64 1), dnv9, (.bool true), (.sl [[(.str [42])]] .frs), (.sl [] .frs)], [(.str [99]), (.int .i64 1), dnv9, (.bool false), (.sl [[(.str [120, 47, 121])]] .frs), (.sl [] .frs)]] .full
def dnv67 : AV := .agg [(.sl [] .full), dnv66, (.int .i64 0), (.sl [] .full), (.int .i64 0), (.str [])]
def dnv68 : AV := .agg [(.sl [] .full), (.sl [] .full), (.int .i64 0), (.sl [] .full), (.int .i64 0), (.str [])]
def dnv69 : AV := .agg [(.int .u8 5), (.int .i64 0), (.str []), dnv42, (.sl [[(.int .u8 5), (.int .i64 0), (.str []), (.sl [] .frs), (.sl [] .frs)], [(.int .u8 4), (.int .i64 0), (.str []), (.sl [] .frs), (.sl [] .frs)]] .frs)]
def dnv70 : AV := .sl [[(.str [97]), (.int .i64 1), dnv9, (.bool false), dnv18, (.sl [] .frs)]] .full
def dnv71 : AV := .agg [(.int .u8 5), (.int .i64 0), (.str []), dnv43, dnv50]
def dnv72 : AV := .agg [(.int .u8 5), (.int .i64 0), (.str []), dnv43, dnv51]
def dnv73 : AV := .agg [(.int .u8 5), (.int .i64 0), (.str []), dnv43, dnv52]
def dnv74 : AV := .sl [[(.int .u8 2), (.int .i64 2), (.str []), (.sl [] .frs), (.sl [] .frs)], [(.int .u8 4), (.int .i64 0), (.str []), (.sl [] .frs), dnv10], [(.int .u8 3), (.int .i64 0), (.str [112]), (.sl [] .frs), (.sl [] .frs)], [(.int .u8 2), (.int .i64 1), (.str []), (.sl [] .frs), (.sl [] .frs)]] .frs
def dnv75 : AV := .agg [(.int .u8 5), (.int .i64 0), (.str []), dnv44, (.sl [[(.int .u8 5), (.int .i64 0), (.str []), (.sl [] .frs), (.sl [] .frs)], [(.int .u8 5), (.int .i64 0), (.str []), dnv45, dnv74]] .frs)]
def dnv76 : AV := .agg [(.int .u8 5), (.int .i64 0), (.str []), dnv43, dnv61]
def dnv77 : AV := .agg [(.int .u8 5), (.int .i64 0), (.str []), dnv45, dnv63]
def dnv78 : AV := .agg [(.int .u8 4), (.int .i64 0), (.str []), (.sl [] .frs), (.sl [[(.int .u8 5), (.int .i64 0), (.str []), dnv43, (.sl [[(.int .u8 4), (.int .i64 0), (.str []), (.sl [] .frs), dnv10], [(.int .u8 3), (.int .i64 0), (.str [97]), (.sl [] .frs), (.sl [] .frs)], [(.int .u8 4), (.int .i64 0), (.str []), (.sl [] .frs), dnv19], [(.int .u8 1), (.int .i64 0), (.str []), (.sl [] .frs), (.sl [] .frs)], [(.int .u8 2), (.int .i64 1), (.str []), (.sl [] .frs), (.sl [] .frs)]] .frs)]] .frs)]
def dnv79 : AV := .agg [(.int .u8 5), (.int .i64 0), (.str []), dnv46, (.sl [[(.int .u8 4), (.int .i64 0), (.str []), (.sl [] .frs), dnv10], [(.int .u8 3), (.int .i64 0), (.str [97]), (.sl [] .frs), (.sl [] .frs)], [(.int .u8 4), (.int .i64 0), (.str []), (.sl [] .frs), dnv39], [(.int .u8 1), (.int .i64 1), (.str []), (.sl [] .frs), (.sl [] .frs)], [(.int .u8 2), (.int .i64 1), (.str []), (.sl [] .frs), (.sl [] .frs)]] .frs)]
def dnv80 : AV := .agg [(.int .u8 5), (.int .i64 0), (.str []), dnv47, (.sl [[(.int .u8 4), (.int .i64 0), (.str []), (.sl [] .frs), dnv10], [(.int .u8 3), (.int .i64 0), (.str [97]), (.sl [] .frs), (.sl [] .frs)], [(.int .u8 4), (.int .i64 0), (.str []), (.sl [] .frs), dnv39], [(.int .u8 4), (.int .i64 0), (.str []), (.sl [] .frs), dnv14], [(.int .u8 1), (.int .i64 1), (.str []), (.sl [] .frs), (.sl [] .frs)], [(.int .u8 2), (.int .i64 1), (.str []), (.sl [] .frs), (.sl [] .frs)]] .frs)]
def dnv81 : AV := .agg [(.int .u8 5), (.int .i64 0), (.str []), dnv43, (.sl [[(.int .u8 4), (.int .i64 0), (.str []), (.sl [] .frs), dnv10], [(.int .u8 3), (.int .i64 0), (.str [116, 97, 114, 103, 101, 116, 115]), (.sl [] .frs), (.sl [] .frs)], [(.int .u8 4), (.int .i64 0), (.str []), (.sl [] .frs), dnv14], [(.int .u8 1), (.int .i64 1), (.str []), (.sl [] .frs), (.sl [] .frs)], [(.int .u8 2), (.int .i64 1), (.str []), (.sl [] .frs), (.sl [] .frs)]] .frs)]
def dnv82 : AV := .agg [(.int .u8 5), (.int .i64 0), (.str []), dnv43, (.sl [[(.int .u8 4), (.int .i64 0), (.str []), (.sl [] .frs), dnv10], [(.int .u8 3), (.int .i64 0), (.str [97]), (.sl [] .frs), (.sl [] .frs)], [(.int .u8 4), (.int .i64 0), (.str []), (.sl [] .frs), (.sl [] .frs)], [(.int .u8 1), (.int .i64 1), (.str []), (.sl [] .frs), (.sl [] .frs)], [(.int .u8 2), (.int .i64 1), (.str []), (.sl [] .frs), (.sl [] .frs)]] .frs)]
def dnv83 : AV := .agg [(.int .u8 5), (.int .i64 0), (.str []), dnv43, (.sl [[(.int .u8 4), (.int .i64 0), (.str []), (.sl [] .frs), dnv10], [(.int .u8 3), (.int .i64 0), (.str [97]), (.sl [] .frs), (.sl [] .frs)], [(.int .u8 4), (.int .i64 0), (.str []), (.sl [] .frs), (.sl [[(.int .u8 3), (.int .i64 0), (.str [47]), (.sl [] .frs), (.sl [] .frs)]] .frs)], [(.int .u8 1), (.int .i64 1), (.str []), (.sl [] .frs), (.sl [] .frs)], [(.int .u8 2), (.int .i64 1), (.str []), (.sl [] .frs), (.sl [] .frs)]] .frs)]
def dnv84 : AV := .agg [(.int .u8 5), (.int .i64 0), (.str []), dnv43, (.sl [[(.int .u8 4), (.int .i64 0), (.str []), (.sl [] .frs), dnv10], [(.int .u8 3), (.int .i64 0), (.str [97]), (.sl [] .frs), (.sl [] .frs)], [(.int .u8 3), (.int .i64 0), (.str [42]), (.sl [] .frs), (.sl [] .frs)], [(.int .u8 1), (.int .i64 1), (.str []), (.sl [] .frs), (.sl [] .frs)], [(.int .u8 2), (.int .i64 1), (.str []), (.sl [] .frs), (.sl [] .frs)]] .frs)]
def dnv85 : AV := .agg [(.int .u8 5), (.int .i64 0), (.str []), dnv42, (.sl [[(.int .u8 5), (.int .i64 0), (.str []), (.sl [] .frs), (.sl [] .frs)], [(.int .u8 4), (.int .i64 0), (.str []), (.sl [] .frs), dnv53]] .frs)]
def dnv86 : AV := .tup [dnv11, (.bool true)]
def dnv87 : AV := .tup [dnv27, (.bool true)]
def dnv88 : AV := .tup [dnv29, (.bool true)]
def dnv89 : AV := .tup [(.agg [(.int .u8 0), (.int .i64 0), (.str []), (.sl [] .full), (.sl [] .full)]), (.bool false)]
def dnv90 : AV := .tup [dnv15, (.bool true)]
def dnv91 : AV := .tup [dnv55, (.bool true)]
def dnv92 : AV := .tup [(.str [112, 45, 50]), (.int .i64 0)]
def dnv93 : AV := .tup [dnv68, (.int .i64 10)]
def dnv94 : AV := .tup [dnv68, (.int .i64 6)]
def dnv95 : AV := .sl [[(.int .u8 4), (.int .i64 0), (.str []), (.sl [] .frs), (.sl [] .frs)]] .frs
def dnv96 : AV := .agg [(.str [97]), (.int .i64 1), dnv9, (.bool false), (.sl [[(.str [120, 47, 42])]] .frs), (.sl [] .frs)]
def dnv97 : AV := .agg [(.str [98]), (.int .i64 1), dnv9, (.bool true), (.sl [[(.str [42])]] .frs), (.sl [] .frs)]
def dnv98 : AV := .agg [(.str [99]), (.int .i64 1), dnv9, (.bool false), (.sl [[(.str [120, 47, 121])]] .frs), (.sl [] .frs)]
def dnv99 : AV := .agg [(.int .u8 4), (.int .i64 0), (.str []), (.sl [] .frs), (.sl [[(.int .u8 5), (.int .i64 0), (.str []), dnv43, (.sl [[(.int .u8 4), (.int .i64 0), (.str []), (.sl [] .frs), dnv10], [(.int .u8 3), (.int .i64 0), (.str [99]), (.sl [] .frs), (.sl [] .frs)], [(.int .u8 4), (.int .i64 0), (.str []), (.sl [] .frs), dnv16], [(.int .u8 1), (.int .i64 1), (.str []), (.sl [] .frs), (.sl [] .frs)], [(.int .u8 2), (.int .i64 1), (.str []), (.sl [] .frs), (.sl [] .frs)]] .frs)], [(.int .u8 5), (.int .i64 0), (.str []), dnv43, dnv50]] .frs)]
def dnv100 : AV := .agg [(.int .u8 5), (.int .i64 0), (.str []), dnv42, (.sl [[(.int .u8 5), (.int .i64 0), (.str []), (.sl [] .frs), (.sl [] .frs)], [(.int .u8 4), (.int .i64 0), (.str []), (.sl [] .frs), (.sl [[(.int .u8 5), (.int .i64 0), (.str []), dnv46, (.sl [[(.int .u8 4), (.int .i64 0), (.str []), (.sl [] .frs), dnv10], [(.int .u8 3), (.int .i64 0), (.str [97]), (.sl [] .frs), (.sl [] .frs)], [(.int .u8 4), (.int .i64 0), (.str []), (.sl [] .frs), dnv39], [(.int .u8 1), (.int .i64 1), (.str []), (.sl [] .frs), (.sl [] .frs)], [(.int .u8 2), (.int .i64 1), (.str []), (.sl [] .frs), (.sl [] .frs)]] .frs)]] .frs)]] .frs)]
def dnv101 : AV := .agg [(.int .u8 5), (.int .i64 0), (.str []), dnv42, (.sl [[(.int .u8 5), (.int .i64 0), (.str []), (.sl [] .frs), (.sl [] .frs)], [(.int .u8 4), (.int .i64 0), (.str []), (.sl [] .frs), (.sl [[(.int .u8 5), (.int .i64 0), (.str []), dnv47, (.sl [[(.int .u8 4), (.int .i64 0), (.str []), (.sl [] .frs), dnv10], [(.int .u8 3), (.int .i64 0), (.str [97]), (.sl [] .frs), (.sl [] .frs)], [(.int .u8 4), (.int .i64 0), (.str []), (.sl [] .frs), dnv39], [(.int .u8 4), (.int .i64 0), (.str []), (.sl [] .frs), dnv14], [(.int .u8 1), (.int .i64 1), (.str []), (.sl [] .frs), (.sl [] .frs)], [(.int .u8 2), (.int .i64 1), (.str []), (.sl [] .frs), (.sl [] .frs)]] .frs)]] .frs)]] .frs)]
def dnv102 : AV := .agg [(.int .u8 5), (.int .i64 0), (.str []), dnv42, (.sl [[(.int .u8 5), (.int .i64 0), (.str []), (.sl [] .frs), (.sl [] .frs)], [(.int .u8 4), (.int .i64 0), (.str []), (.sl [] .frs), (.sl [[(.int .u8 5), (.int .i64 0), (.str []), dnv43, (.sl [[(.int .u8 4), (.int .i64 0), (.str []), (.sl [] .frs), dnv10], [(.int .u8 3), (.int .i64 0), (.str [116, 97, 114, 103, 101, 116, 115]), (.sl [] .frs), (.sl [] .frs)], [(.int .u8 4), (.int .i64 0), (.str []), (.sl [] .frs), dnv14], [(.int .u8 1), (.int .i64 1), (.str []), (.sl [] .frs), (.sl [] .frs)], [(.int .u8 2), (.int .i64 1), (.str []), (.sl [] .frs), (.sl [] .frs)]] .frs)]] .frs)]] .frs)]
def dnv103 : AV := .agg [(.int .u8 5), (.int .i64 0), (.str []), dnv42, (.sl [[(.int .u8 5), (.int .i64 0), (.str []), (.sl [] .frs), (.sl [] .frs)], [(.int .u8 4), (.int .i64 0), (.str []), (.sl [] .frs), (.sl [[(.int .u8 5), (.int .i64 0), (.str []), dnv43, (.sl [[(.int .u8 4), (.int .i64 0), (.str []), (.sl [] .frs), dnv10], [(.int .u8 3), (.int .i64 0), (.str [97]), (.sl [] .frs), (.sl [] .frs)], [(.int .u8 4), (.int .i64 0), (.str []), (.sl [] .frs), (.sl [] .frs)], [(.int .u8 1), (.int .i64 1), (.str []), (.sl [] .frs), (.sl [] .frs)], [(.int .u8 2), (.int .i64 1), (.str []), (.sl [] .frs), (.sl [] .frs)]] .frs)]] .frs)]] .frs)]
def dnv104 : AV := .agg [(.int .u8 4), (.int .i64 0), (.str []), (.sl [] .frs), dnv62]
def dnv105 : AV := .agg [(.int .u8 5), (.int .i64 0), (.str []), dnv42, (.sl [[(.int .u8 5), (.int .i64 0), (.str []), (.sl [] .frs), (.sl [] .frs)], [(.int .u8 4), (.int .i64 0), (.str []), (.sl [] .frs), (.sl [[(.int .u8 5), (.int .i64 0), (.str []), dnv43, (.sl [[(.int .u8 4), (.int .i64 0), (.str []), (.sl [] .frs), dnv10], [(.int .u8 3), (.int .i64 0), (.str [97]), (.sl [] .frs), (.sl [] .frs)], [(.int .u8 3), (.int .i64 0), (.str [42]), (.sl [] .frs), (.sl [] .frs)], [(.int .u8 1), (.int .i64 1), (.str []), (.sl [] .frs), (.sl [] .frs)], [(.int .u8 2), (.int .i64 1), (.str []), (.sl [] .frs), (.sl [] .frs)]] .frs)]] .frs)]] .frs)]
def dnv106 : AV := .agg [(.int .u8 5), (.int .i64 0), (.str []), dnv42, (.sl [[(.int .u8 5), (.int .i64 0), (.str []), (.sl [] .frs), (.sl [] .frs)], [(.int .u8 4), (.int .i64 0), (.str []), (.sl [] .frs), (.sl [[(.int .u8 5), (.int .i64 0), (.str []), dnv43, (.sl [[(.int .u8 4), (.int .i64 0), (.str []), (.sl [] .frs), dnv10], [(.int .u8 3), (.int .i64 0), (.str [99]), (.sl [] .frs), (.sl [] .frs)], [(.int .u8 4), (.int .i64 0), (.str []), (.sl [] .frs), dnv16], [(.int .u8 1), (.int .i64 1), (.str []), (.sl [] .frs), (.sl [] .frs)], [(.int .u8 2), (.int .i64 1), (.str []), (.sl [] .frs), (.sl [] .frs)]] .frs)], [(.int .u8 5), (.int .i64 0), (.str []), dnv43, dnv50]] .frs)]] .frs)]
def dnv107 : AV := .agg [(.int .u8 5), (.int .i64 0), (.str []), dnv44, (.sl [[(.int .u8 5), (.int .i64 0), (.str []), (.sl [] .frs), (.sl [] .frs)], [(.int .u8 5), (.int .i64 0), (.str []), dnv45, dnv63]] .frs)]
def dnv108 : AV := .agg [(.int .u8 5), (.int .i64 0), (.str []), dnv48, (.sl [[(.int .u8 5), (.int .i64 0), (.str []), (.sl [] .frs), (.sl [] .frs)], [(.int .u8 4), (.int .i64 0), (.str []), (.sl [] .frs), (.sl [] .frs)], [(.int .u8 5), (.int .i64 0), (.str []), dnv45, dnv63]] .frs)]
def dnv109 : AV := .agg [(.int .u8 5), (.int .i64 0), (.str []), dnv42, (.sl [[(.int .u8 5), (.int .i64 0), (.str []), (.sl [] .frs), (.sl [] .frs)], [(.int .u8 4), (.int .i64 0), (.str []), (.sl [] .frs), (.sl [[(.int .u8 5), (.int .i64 0), (.str []), dnv43, (.sl [[(.int .u8 4), (.int .i64 0), (.str []), (.sl [] .frs), dnv10], [(.int .u8 3), (.int .i64 0), (.str [97]), (.sl [] .frs), (.sl [] .frs)], [(.int .u8 4), (.int .i64 0), (.str []), (.sl [] .frs), dnv19], [(.int .u8 1), (.int .i64 0), (.str []), (.sl [] .frs), (.sl [] .frs)], [(.int .u8 2), (.int .i64 1), (.str []), (.sl [] .frs), (.sl [] .frs)]] .frs)]] .frs)]] .frs)]
def dnv110 : AV := .tup [dnv68, (.int .i64 11)]
def dnv111 : AV := .tup [dnv77, (.bool true)]
def dnv112 : AV := .tup [dnv58, (.int .i64 3)]
def dnv113 : AV := .agg [(.str [97]), (.int .i64 1), dnv9, (.bool true), (.sl [[(.str [42])]] .frs), (.sl [] .frs)]
def dnv114 : AV := .tup [dnv68, (.int .i64 3)]
def dnt0 : List (List AV × AV) := [([(.int .u8 97)], dnv0)]
def dnt1 : List (List AV × AV) := [([(.agg [(.int .i64 0), (.sl [] .full), (.int .i64 0), (.str [])])], (.bool true)),
  ([dnv2], (.bool false))]
def dnt2 : List (List AV × AV) := [([(.str [97])], (.bool true)),
  ([(.str [98])], (.bool true)),
  ([(.str [99])], (.bool true)),
  ([(.str [112])], (.bool true))]
def dnt3 : List (List AV × AV) := [([dnv0, (.int .i64 0)], (.tup [(.int .i64 10), (.bool true)])),
  ([dnv0, (.int .i64 1)], (.tup [(.int .i64 10), (.bool true)])),
  ([dnv0, (.int .i64 2)], (.tup [(.int .i64 10), (.bool true)])),
  ([dnv0, (.int .i64 3)], (.tup [(.int .i64 10), (.bool true)])),
  ([dnv0, (.int .i64 4)], (.tup [(.int .i64 10), (.bool true)])),
  ([dnv0, (.int .i64 5)], (.tup [(.int .i64 10), (.bool true)])),
  ([dnv0, (.int .i64 6)], (.tup [(.int .i64 10), (.bool true)])),
  ([dnv0, (.int .i64 7)], (.tup [(.int .i64 10), (.bool true)])),
  ([dnv0, (.int .i64 8)], (.tup [(.int .i64 10), (.bool true)])),
  ([dnv0, (.int .i64 9)], (.tup [(.int .i64 10), (.bool true)])),
  ([dnv0, (.int .i64 10)], (.tup [(.int .i64 10), (.bool true)])),
  ([dnv0, (.int .i64 11)], (.tup [(.int .i64 10), (.bool true)])),
  ([dnv0, (.int .i64 12)], (.tup [(.int .i64 10), (.bool true)])),
  ([dnv0, (.int .i64 13)], (.tup [(.int .i64 10), (.bool true)])),
  ([dnv0, (.int .i64 14)], (.tup [(.int .i64 10), (.bool true)])),
  ([dnv0, (.int .i64 15)], (.tup [(.int .i64 10), (.bool true)])),
  ([dnv0, (.int .i64 16)], (.tup [(.int .i64 10), (.bool true)])),
  ([dnv0, (.int .i64 17)], (.tup [(.int .i64 10), (.bool true)])),
  ([dnv0, (.int .i64 18)], (.tup [(.int .i64 10), (.bool true)])),
  ([dnv0, (.int .i64 19)], (.tup [(.int .i64 10), (.bool true)])),
  ([dnv0, (.int .i64 20)], (.tup [(.int .i64 10), (.bool true)])),
  ([dnv0, (.int .i64 21)], (.tup [(.int .i64 10), (.bool true)])),
  ([dnv0, (.int .i64 22)], (.tup [(.int .i64 10), (.bool true)])),
  ([dnv0, (.int .i64 23)], (.tup [(.int .i64 10), (.bool true)])),
  ([dnv0, (.int .i64 24)], (.tup [(.int .i64 10), (.bool true)])),
  ([dnv0, (.int .i64 25)], (.tup [(.int .i64 10), (.bool true)])),
  ([dnv0, (.int .i64 26)], (.tup [(.int .i64 10), (.bool true)])),
  ([dnv0, (.int .i64 27)], (.tup [(.int .i64 10), (.bool true)])),
  ([dnv0, (.int .i64 28)], (.tup [(.int .i64 10), (.bool true)])),
  ([dnv0, (.int .i64 29)], (.tup [(.int .i64 10), (.bool true)])),
  ([dnv0, (.int .i64 30)], (.tup [(.int .i64 10), (.bool true)])),
  ([dnv0, (.int .i64 31)], (.tup [(.int .i64 10), (.bool true)])),
  ([dnv0, (.int .i64 32)], (.tup [(.int .i64 10), (.bool true)])),
  ([dnv0, (.int .i64 33)], (.tup [(.int .i64 10), (.bool true)])),
  ([dnv0, (.int .i64 34)], (.tup [(.int .i64 10), (.bool true)])),
  ([dnv0, (.int .i64 35)], (.tup [(.int .i64 10), (.bool true)])),
  ([dnv0, (.int .i64 36)], (.tup [(.int .i64 10), (.bool true)])),
  ([dnv0, (.int .i64 37)], (.tup [(.int .i64 10), (.bool true)])),
  ([dnv0, (.int .i64 38)], (.tup [(.int .i64 10), (.bool true)])),
  ([dnv0, (.int .i64 39)], (.tup [(.int .i64 10), (.bool true)])),
  ([dnv0, (.int .i64 40)], (.tup [(.int .i64 10), (.bool true)])),
  ([dnv0, (.int .i64 41)], (.tup [(.int .i64 10), (.bool true)])),
  ([dnv0, (.int .i64 42)], (.tup [(.int .i64 10), (.bool true)])),
  ([dnv0, (.int .i64 43)], (.tup [(.int .i64 10), (.bool true)])),
  ([dnv0, (.int .i64 44)], (.tup [(.int .i64 10), (.bool true)])),
  ([dnv0, (.int .i64 45)], (.tup [(.int .i64 10), (.bool true)])),
  ([dnv0, (.int .i64 46)], (.tup [(.int .i64 10), (.bool true)])),
  ([dnv0, (.int .i64 47)], (.tup [(.int .i64 10), (.bool true)])),
  ([dnv0, (.int .i64 48)], (.tup [(.int .i64 10), (.bool true)])),
  ([dnv0, (.int .i64 49)], (.tup [(.int .i64 10), (.bool true)])),
  ([dnv0, (.int .i64 50)], (.tup [(.int .i64 10), (.bool true)])),
  ([dnv0, (.int .i64 51)], (.tup [(.int .i64 10), (.bool true)])),
  ([dnv0, (.int .i64 52)], (.tup [(.int .i64 10), (.bool true)])),
  ([dnv0, (.int .i64 53)], (.tup [(.int .i64 10), (.bool true)])),
  ([dnv0, (.int .i64 54)], (.tup [(.int .i64 10), (.bool true)])),
  ([dnv0, (.int .i64 55)], (.tup [(.int .i64 10), (.bool true)])),
  ([dnv0, (.int .i64 56)], (.tup [(.int .i64 10), (.bool true)])),
  ([dnv0, (.int .i64 57)], (.tup [(.int .i64 10), (.bool true)])),
  ([dnv0, (.int .i64 58)], (.tup [(.int .i64 10), (.bool true)])),
  ([dnv0, (.int .i64 59)], (.tup [(.int .i64 10), (.bool true)])),
  ([dnv0, (.int .i64 60)], (.tup [(.int .i64 10), (.bool true)])),
  ([dnv0, (.int .i64 61)], (.tup [(.int .i64 10), (.bool true)])),
  ([dnv0, (.int .i64 62)], (.tup [(.int .i64 10), (.bool true)])),
  ([dnv0, (.int .i64 63)], (.tup [(.int .i64 10), (.bool true)]))]
def dnt4 : List (List AV × AV) := [([(.str [120, 47, 42])], (.tup [(.int .i64 3), (.bool true)])),
  ([(.str [42])], (.tup [(.int .i64 1), (.bool true)])),
  ([(.str [120, 47, 121])], (.tup [(.int .i64 3), (.bool true)])),
  ([(.str [107, 101, 121, 115])], (.tup [(.int .i64 4), (.bool true)])),
  ([(.str [114, 111, 108, 101, 115])], (.tup [(.int .i64 5), (.bool true)])),
  ([(.str [107, 101, 121, 105, 100, 115])], (.tup [(.int .i64 6), (.bool true)])),
  ([(.str [110, 97, 109, 101])], (.tup [(.int .i64 4), (.bool true)])),
  ([(.str [112, 97, 116, 104, 115])], (.tup [(.int .i64 5), (.bool true)])),
  ([dnv3], (.tup [(.int .i64 11), (.bool true)])),
  ([dnv4], (.tup [(.int .i64 9), (.bool true)])),
  ([dnv0], (.tup [(.int .i64 64), (.bool true)])),
  ([(.str [97])], (.tup [(.int .i64 1), (.bool true)])),
  ([(.str [98])], (.tup [(.int .i64 1), (.bool true)])),
  ([(.str [99])], (.tup [(.int .i64 1), (.bool true)])),
  ([(.str [122])], (.tup [(.int .i64 1), (.bool true)])),
  ([dnv5], (.tup [(.int .i64 14), (.bool true)])),
  ([dnv6], (.tup [(.int .i64 10), (.bool true)])),
  ([dnv7], (.tup [(.int .i64 11), (.bool true)])),
  ([(.str [112])], (.tup [(.int .i64 1), (.bool true)])),
  ([dnv8], (.tup [(.int .i64 18), (.bool true)])),
  ([(.str [48, 102])], (.tup [(.int .i64 2), (.bool true)])),
  ([(.str [120])], (.tup [(.int .i64 1), (.bool true)]))]
def dnt5 : List (List AV × AV) := [([(.sl [[(.str [97]), (.int .i64 1), dnv9, (.bool false), (.sl [[(.str [120, 47, 42])]] .frs), (.sl [] .frs)]] .frs), (.str [98])], (.bool false)),
  ([(.sl [[(.str [97]), (.int .i64 1), dnv9, (.bool false), (.sl [[(.str [120, 47, 42])]] .frs), (.sl [] .frs)], [(.str [98]), (.int .i64 1), dnv9, (.bool true), (.sl [[(.str [42])]] .frs), (.sl [] .frs)]] .frs), (.str [99])], (.bool false))]
def dnt6 : List (List AV × AV) := [([(.int .u64 0)], (.int .i64 0)),
  ([(.int .u64 5)], (.int .i64 3)),
  ([(.int .u64 2)], (.int .i64 2))]
def dnt7 : List (List AV × AV) := [([(.sl [] .frs), (.int .i64 0), (.int .i64 0), (.int .i64 0), (.fn (.func 84) [] [])], (.tup []))]
def dnt8 : List (List AV × AV) := [([dnv9], dnv11),
  ([(.sl [[(.str [120, 47, 42])]] .frs)], dnv13),
  ([(.sl [[(.str [42])]] .frs)], dnv15),
  ([(.sl [[(.str [120, 47, 121])]] .frs)], dnv17),
  ([dnv18], dnv20)]
def dnt9 : List (List AV × AV) := [([dnv4, (.str [107, 101, 121, 105, 100, 115])], (.int .i64 1)),
  ([(.str [110, 97, 109, 101]), dnv4], (.int .i64 (-1))),
  ([(.str [110, 97, 109, 101]), (.str [107, 101, 121, 105, 100, 115])], (.int .i64 1)),
  ([dnv3, dnv4], (.int .i64 (-1))),
  ([dnv3, (.str [110, 97, 109, 101])], (.int .i64 1)),
  ([(.str [112, 97, 116, 104, 115]), dnv4], (.int .i64 (-1))),
  ([(.str [112, 97, 116, 104, 115]), dnv3], (.int .i64 (-1))),
  ([(.str [112, 97, 116, 104, 115]), (.str [110, 97, 109, 101])], (.int .i64 1)),
  ([(.str [114, 111, 108, 101, 115]), (.str [107, 101, 121, 115])], (.int .i64 1))]
def dnt10 : List (List AV × AV) := [([dnv21], dnv21),
  ([dnv22], dnv22),
  ([dnv23], dnv23),
  ([dnv24], dnv24),
  ([dnv25], dnv25),
  ([dnv26], dnv26),
  ([dnv27], dnv27),
  ([dnv28], dnv28),
  ([dnv29], dnv29),
  ([dnv30], dnv30),
  ([dnv31], dnv31),
  ([dnv32], dnv32),
  ([dnv33], dnv33),
  ([dnv34], dnv34),
  ([dnv35], dnv35),
  ([dnv36], dnv36)]
def dnt11 : List (List AV × AV) := [([dnv25], dnv25),
  ([dnv26], dnv26),
  ([dnv27], dnv27),
  ([dnv28], dnv28),
  ([dnv29], dnv29),
  ([dnv30], dnv30),
  ([dnv31], dnv31),
  ([dnv32], dnv32),
  ([dnv33], dnv33)]
def dnt12 : List (List AV × AV) := [([dnv10, (.int .i64 1), .np, (.bool false)], (.bool false)),
  ([dnv12, (.int .i64 1), .np, (.bool false)], (.bool false)),
  ([dnv14, (.int .i64 1), .np, (.bool false)], (.bool false)),
  ([dnv16, (.int .i64 1), .np, (.bool false)], (.bool false)),
  ([dnv10, (.int .i64 2), dnv37, (.bool false)], (.bool false)),
  ([dnv12, (.int .i64 2), (.ip [(.int .u8 4), (.int .i64 0), (.str []), (.sl [] .frs), dnv12] .frs), (.bool false)], (.bool false)),
  ([dnv14, (.int .i64 2), dnv38, (.bool false)], (.bool false)),
  ([dnv16, (.int .i64 2), (.ip [(.int .u8 4), (.int .i64 0), (.str []), (.sl [] .frs), dnv16] .frs), (.bool false)], (.bool false)),
  ([dnv10, (.int .i64 3), dnv37, (.bool false)], (.bool false)),
  ([dnv14, (.int .i64 3), dnv38, (.bool false)], (.bool false)),
  ([dnv39, (.int .i64 3), dnv40, (.bool false)], (.bool false)),
  ([dnv39, (.int .i64 2), dnv40, (.bool false)], (.bool false)),
  ([dnv39, (.int .i64 1), .np, (.bool false)], (.bool false)),
  ([dnv41, (.int .i64 1), .np, (.bool false)], (.bool false)),
  ([dnv19, (.int .i64 1), .np, (.bool false)], (.bool false)),
  ([dnv19, (.int .i64 2), (.ip [(.int .u8 4), (.int .i64 0), (.str []), (.sl [] .frs), dnv19] .frs), (.bool false)], (.bool false))]
def dnt13 : List (List AV × AV) := [([dnv42], (.bool true)),
  ([dnv43], (.bool true)),
  ([dnv44], (.bool true)),
  ([dnv45], (.bool true)),
  ([dnv46], (.bool true)),
  ([dnv47], (.bool true)),
  ([dnv48], (.bool true)),
  ([dnv49], (.bool true))]
def dnt14 : List (List AV × AV) := [([dnv31], (.bool true)),
  ([dnv54], (.bool true)),
  ([dnv11], (.bool true)),
  ([dnv13], (.bool true)),
  ([dnv26], (.bool true)),
  ([dnv27], (.bool true)),
  ([dnv15], (.bool true)),
  ([dnv29], (.bool true)),
  ([dnv17], (.bool true)),
  ([(.agg [(.int .u8 0), (.int .i64 0), (.str []), (.sl [] .frs), (.sl [] .frs)])], (.bool false)),
  ([dnv33], (.bool true)),
  ([dnv55], (.bool true))]
def dnt15 : List (List AV × AV) := [([(.str [120, 47, 121])], (.str [189, 60, 144, 71, 214, 129, 108, 49, 114, 245, 45, 219, 66, 191, 119, 199, 44, 160, 37, 228, 210, 42, 203, 255, 62, 155, 189, 74, 181, 185, 4, 139]))]
def dnt16 : List (List AV × AV) := [([(.int .u32 2), (.int .i64 1)], (.str [50]))]
def dnt17 : List (List AV × AV) := [([dnv56], dnv56)]
def dnt18 : List (List AV × AV) := [([dnv57, dnv57], (.bool true))]
def dnt19 : List (List AV × AV) := [([dnv56, dnv56], (.bool true)),
  ([(.agg [(.int .i64 0), (.sl [] .full)]), (.agg [(.int .i64 0), (.sl [] .full)])], (.bool true))]
def dnt20 : List (List AV × AV) := [([(.sl [[(.str [107, 101, 121, 115])]] .frs), (.str [107, 101, 121, 115])], (.tup [(.int .i64 0), (.bool true)]))]
def dnt21 : List (List AV × AV) := [([dnv27], dnv59)]
def dnt22 : List (List AV × AV) := [([dnv0], (.bool true))]
def dnt23 : List (List AV × AV) := [([(.str [120, 47, 42])], (.bool true)),
  ([(.str [42])], (.bool true)),
  ([(.str [120, 47, 121])], (.bool true)),
  ([(.str [122])], (.bool true)),
  ([(.str [120])], (.bool true))]
def dnt24 : List (List AV × AV) := [([(.sl [] .full)], (.tup [dnv31, (.int .i64 0)]))]
def dnt25 : List (List AV × AV) := [([dnv56], (.sl [[(.str [107, 101, 121, 105, 100, 115]), (.int .u8 4), (.int .i64 0), (.str []), (.sl [] .frs), dnv10], [dnv4, (.int .u8 2), (.int .i64 1), (.str []), (.sl [] .frs), (.sl [] .frs)]] .full))]
def dnt26 : List (List AV × AV) := [([dnv11], dnv11),
  ([dnv13], dnv13),
  ([dnv15], dnv15),
  ([dnv17], dnv17),
  ([dnv55], dnv55),
  ([dnv20], dnv20)]
def dnt27 : List (List AV × AV) := [([dnv11], dnv11),
  ([dnv13], dnv13),
  ([dnv15], dnv15),
  ([dnv17], dnv17),
  ([dnv55], dnv55),
  ([dnv60], dnv60),
  ([dnv20], dnv20)]
def dnt28 : List (List AV × AV) := [([dnv50, (.int .i64 1), .np, (.bool false)], (.bool false)),
  ([dnv51, (.int .i64 1), .np, (.bool false)], (.bool false)),
  ([dnv52, (.int .i64 1), .np, (.bool false)], (.bool false)),
  ([dnv51, (.int .i64 2), (.ip [(.int .u8 5), (.int .i64 0), (.str []), dnv43, dnv51] .frs), (.bool false)], (.bool false)),
  ([dnv61, (.int .i64 2), (.ip [(.int .u8 5), (.int .i64 0), (.str []), dnv43, dnv61] .frs), (.bool false)], (.bool false)),
  ([dnv61, (.int .i64 1), .np, (.bool false)], (.bool false)),
  ([dnv62, (.int .i64 1), .np, (.bool false)], (.bool false)),
  ([dnv63, (.int .i64 1), .np, (.bool false)], (.bool false))]
def dnt29 : List (List AV × AV) := [([(.str [107, 101, 121, 115])], (.bool true)),
  ([(.str [114, 111, 108, 101, 115])], (.bool true)),
  ([(.str [107, 101, 121, 105, 100, 115])], (.bool true)),
  ([(.str [110, 97, 109, 101])], (.bool true)),
  ([(.str [112, 97, 116, 104, 115])], (.bool true)),
  ([dnv3], (.bool true)),
  ([dnv4], (.bool true)),
  ([dnv0], (.bool true)),
  ([(.str [97])], (.bool true)),
  ([(.str [120, 47, 42])], (.bool true)),
  ([(.str [98])], (.bool true)),
  ([(.str [42])], (.bool true)),
  ([(.str [99])], (.bool true)),
  ([(.str [120, 47, 121])], (.bool true)),
  ([dnv5], (.bool true)),
  ([dnv6], (.bool true)),
  ([dnv7], (.bool true)),
  ([(.str [112])], (.bool true)),
  ([dnv8], (.bool true)),
  ([(.str [48, 102])], (.bool true))]
def dnt30 : List (List AV × AV) := [([dnv42, (.str [107, 101, 121, 115])], (.tup [(.int .i64 0), (.bool true)])),
  ([dnv42, dnv5], (.tup [(.int .i64 2), (.bool false)])),
  ([dnv42, (.str [114, 111, 108, 101, 115])], (.tup [(.int .i64 1), (.bool true)])),
  ([dnv43, (.str [110, 97, 109, 101])], (.tup [(.int .i64 1), (.bool true)])),
  ([dnv43, (.str [107, 101, 121, 105, 100, 115])], (.tup [(.int .i64 0), (.bool true)])),
  ([dnv43, dnv4], (.tup [(.int .i64 4), (.bool true)])),
  ([dnv43, dnv3], (.tup [(.int .i64 3), (.bool true)])),
  ([dnv43, dnv8], (.tup [(.int .i64 2), (.bool false)])),
  ([dnv43, (.str [112, 97, 116, 104, 115])], (.tup [(.int .i64 2), (.bool true)])),
  ([dnv46, dnv8], (.tup [(.int .i64 2), (.bool true)])),
  ([dnv47, dnv8], (.tup [(.int .i64 2), (.bool true)])),
  ([dnv44, dnv5], (.tup [(.int .i64 1), (.bool true)])),
  ([dnv45, (.str [107, 101, 121, 105, 100, 115])], (.tup [(.int .i64 1), (.bool true)])),
  ([dnv45, dnv4], (.tup [(.int .i64 3), (.bool true)])),
  ([dnv45, dnv6], (.tup [(.int .i64 0), (.bool true)])),
  ([dnv45, dnv7], (.tup [(.int .i64 2), (.bool true)])),
  ([dnv48, dnv5], (.tup [(.int .i64 2), (.bool true)]))]
def dnt31 : List (List AV × AV) := [([dnv31], (.bool true)),
  ([(.agg [(.int .u8 0), (.int .i64 0), (.str []), (.sl [] .frs), (.sl [] .frs)])], (.bool false))]
def dnt32 : List (List AV × AV) := [([dnv2], (.int .i64 0)),
  ([dnv64], (.int .i64 0))]
def dnt33 : List (List AV × AV) := [([(.str [120, 47, 121]), (.int .i64 2)], (.tup [(.int .u32 2), (.int .i64 0)]))]
def dnt34 : List (List AV × AV) := [([dnv65, dnv67], (.bool true)),
  ([dnv68, dnv68], (.bool true))]
def dnt35 : List (List AV × AV) := [([dnv31], (.tup [dnv58, (.int .i64 6)]))]
def dnt36 : List (List AV × AV) := [([(.str [97]), (.str [42]), (.bool false)], (.agg [(.str [97]), (.int .i64 1), dnv1, (.bool false), (.sl [[(.str [42])]] .full), (.sl [] .full)]))]
def dnt37 : List (List AV × AV) := [([(.sl [[(.str [107, 101, 121, 115]), (.int .u8 5), (.int .i64 0), (.str []), (.sl [] .frs), (.sl [] .frs)], [(.str [114, 111, 108, 101, 115]), (.int .u8 4), (.int .i64 0), (.str []), (.sl [] .frs), (.sl [] .frs)]] .frs)], (.tup [dnv69, (.int .i64 0)]))]
def dnt38 : List (List AV × AV) := [([(.agg [(.sl [] .full), dnv70, (.int .i64 1), dnv1, (.int .i64 2), (.str [112])])], (.bool false))]
def dnt39 : List (List AV × AV) := [([dnv9], (.int .i64 0)),
  ([dnv1], (.int .i64 0))]
def dnt40 : List (List AV × AV) := [([(.sl [[(.str [120, 47, 42])]] .frs), (.fn (.func 123) [] [])], (.bool true)),
  ([(.sl [[(.str [42])]] .frs), (.fn (.func 123) [] [])], (.bool true)),
  ([(.sl [[(.str [120, 47, 121])]] .frs), (.fn (.func 123) [] [])], (.bool true)),
  ([dnv18, (.fn (.func 123) [] [])], (.bool true))]
def dnt41 : List (List AV × AV) := [([(.sl [[(.str [107, 101, 121, 105, 100, 115]), (.int .u8 4), (.int .i64 0), (.str []), (.sl [] .frs), dnv10], [dnv4, (.int .u8 2), (.int .i64 1), (.str []), (.sl [] .frs), (.sl [] .frs)], [(.str [110, 97, 109, 101]), (.int .u8 3), (.int .i64 0), (.str [97]), (.sl [] .frs), (.sl [] .frs)], [dnv3, (.int .u8 1), (.int .i64 0), (.str []), (.sl [] .frs), (.sl [] .frs)], [(.str [112, 97, 116, 104, 115]), (.int .u8 4), (.int .i64 0), (.str []), (.sl [] .frs), dnv12]] .frs)], (.tup [dnv71, (.int .i64 0)])),
  ([(.sl [[(.str [107, 101, 121, 105, 100, 115]), (.int .u8 4), (.int .i64 0), (.str []), (.sl [] .frs), dnv10], [dnv4, (.int .u8 2), (.int .i64 1), (.str []), (.sl [] .frs), (.sl [] .frs)], [(.str [110, 97, 109, 101]), (.int .u8 3), (.int .i64 0), (.str [98]), (.sl [] .frs), (.sl [] .frs)], [dnv3, (.int .u8 1), (.int .i64 1), (.str []), (.sl [] .frs), (.sl [] .frs)], [(.str [112, 97, 116, 104, 115]), (.int .u8 4), (.int .i64 0), (.str []), (.sl [] .frs), dnv14]] .frs)], (.tup [dnv72, (.int .i64 0)])),
  ([(.sl [[(.str [107, 101, 121, 105, 100, 115]), (.int .u8 4), (.int .i64 0), (.str []), (.sl [] .frs), dnv10], [dnv4, (.int .u8 2), (.int .i64 1), (.str []), (.sl [] .frs), (.sl [] .frs)], [(.str [110, 97, 109, 101]), (.int .u8 3), (.int .i64 0), (.str [99]), (.sl [] .frs), (.sl [] .frs)], [dnv3, (.int .u8 1), (.int .i64 0), (.str []), (.sl [] .frs), (.sl [] .frs)], [(.str [112, 97, 116, 104, 115]), (.int .u8 4), (.int .i64 0), (.str []), (.sl [] .frs), dnv16]] .frs)], (.tup [dnv73, (.int .i64 0)])),
  ([(.sl [[(.str [107, 101, 121, 105, 100, 115]), (.int .u8 4), (.int .i64 0), (.str []), (.sl [] .frs), dnv10], [dnv4, (.int .u8 2), (.int .i64 1), (.str []), (.sl [] .frs), (.sl [] .frs)], [(.str [110, 97, 109, 101]), (.int .u8 3), (.int .i64 0), (.str [99]), (.sl [] .frs), (.sl [] .frs)], [dnv3, (.int .u8 1), (.int .i64 1), (.str []), (.sl [] .frs), (.sl [] .frs)], [(.str [112, 97, 116, 104, 115]), (.int .u8 4), (.int .i64 0), (.str []), (.sl [] .frs), dnv16]] .frs)], (.tup [(.agg [(.int .u8 5), (.int .i64 0), (.str []), dnv43, (.sl [[(.int .u8 4), (.int .i64 0), (.str []), (.sl [] .frs), dnv10], [(.int .u8 3), (.int .i64 0), (.str [99]), (.sl [] .frs), (.sl [] .frs)], [(.int .u8 4), (.int .i64 0), (.str []), (.sl [] .frs), dnv16], [(.int .u8 1), (.int .i64 1), (.str []), (.sl [] .frs), (.sl [] .frs)], [(.int .u8 2), (.int .i64 1), (.str []), (.sl [] .frs), (.sl [] .frs)]] .frs)]), (.int .i64 0)])),
  ([(.sl [[(.str [107, 101, 121, 105, 100, 115]), (.int .u8 4), (.int .i64 0), (.str []), (.sl [] .frs), dnv10], [dnv4, (.int .u8 2), (.int .i64 1), (.str []), (.sl [] .frs), (.sl [] .frs)], [dnv6, (.int .u8 2), (.int .i64 2), (.str []), (.sl [] .frs), (.sl [] .frs)], [dnv7, (.int .u8 3), (.int .i64 0), (.str [112]), (.sl [] .frs), (.sl [] .frs)]] .frs)], (.tup [(.agg [(.int .u8 5), (.int .i64 0), (.str []), dnv45, dnv74]), (.int .i64 0)])),
  ([(.sl [[(.str [107, 101, 121, 115]), (.int .u8 5), (.int .i64 0), (.str []), (.sl [] .frs), (.sl [] .frs)], [dnv5, (.int .u8 5), (.int .i64 0), (.str []), dnv45, dnv74]] .frs)], (.tup [dnv75, (.int .i64 0)])),
  ([(.sl [[(.str [107, 101, 121, 105, 100, 115]), (.int .u8 4), (.int .i64 0), (.str []), (.sl [] .frs), dnv10], [dnv4, (.int .u8 2), (.int .i64 1), (.str []), (.sl [] .frs), (.sl [] .frs)], [(.str [110, 97, 109, 101]), (.int .u8 3), (.int .i64 0), (.str [97]), (.sl [] .frs), (.sl [] .frs)], [dnv3, (.int .u8 1), (.int .i64 0), (.str []), (.sl [] .frs), (.sl [] .frs)], [(.str [112, 97, 116, 104, 115]), (.int .u8 4), (.int .i64 0), (.str []), (.sl [] .frs), dnv19]] .frs)], (.tup [(.agg [(.int .u8 5), (.int .i64 0), (.str []), dnv43, (.sl [[(.int .u8 4), (.int .i64 0), (.str []), (.sl [] .frs), dnv10], [(.int .u8 3), (.int .i64 0), (.str [97]), (.sl [] .frs), (.sl [] .frs)], [(.int .u8 4), (.int .i64 0), (.str []), (.sl [] .frs), dnv19], [(.int .u8 1), (.int .i64 0), (.str []), (.sl [] .frs), (.sl [] .frs)], [(.int .u8 2), (.int .i64 1), (.str []), (.sl [] .frs), (.sl [] .frs)]] .frs)]), (.int .i64 0)]))]
def dnt42 : List (List AV × AV) := [([dnv71], dnv71),
  ([dnv72], dnv72),
  ([dnv73], dnv73),
  ([dnv76], dnv76),
  ([dnv77], dnv77),
  ([dnv78], dnv78)]
def dnt43 : List (List AV × AV) := [([dnv71], dnv71),
  ([dnv72], dnv72),
  ([dnv73], dnv73),
  ([dnv76], dnv76),
  ([dnv79], dnv79),
  ([dnv80], dnv80),
  ([dnv81], dnv81),
  ([dnv82], dnv82),
  ([dnv83], dnv83),
  ([dnv84], dnv84),
  ([dnv77], dnv77)]
def dnt44 : List (List AV × AV) := [([dnv85], (.bool true)),
  ([dnv71], (.bool true)),
  ([dnv21], (.bool true)),
  ([dnv25], (.bool true)),
  ([dnv22], (.bool true)),
  ([dnv72], (.bool true)),
  ([dnv28], (.bool true)),
  ([dnv23], (.bool true)),
  ([dnv73], (.bool true)),
  ([dnv30], (.bool true)),
  ([dnv24], (.bool true)),
  ([dnv32], (.bool true)),
  ([dnv69], (.bool true)),
  ([dnv76], (.bool true)),
  ([dnv34], (.bool true)),
  ([dnv77], (.bool true)),
  ([(.agg [(.int .u8 5), (.int .i64 0), (.str []), (.sl [[(.str [97])]] .frs), dnv41])], (.bool true))]
def dnt45 : List (List AV × AV) := [([dnv53, (.int .i64 1), .np, (.bool false)], (.bool false))]
def dnt46 : List (List AV × AV) := [([dnv31], (.tup [(.sl [] .frs), (.int .i64 0)]))]
def dnt47 : List (List AV × AV) := [([dnv72, (.str [110, 97, 109, 101])], (.tup [dnv28, (.bool true)])),
  ([dnv72, (.str [107, 101, 121, 105, 100, 115])], dnv86),
  ([dnv72, dnv4], dnv87),
  ([dnv72, dnv3], dnv88),
  ([dnv72, dnv8], dnv89),
  ([dnv72, (.str [112, 97, 116, 104, 115])], dnv90),
  ([dnv76, (.str [110, 97, 109, 101])], (.tup [dnv25, (.bool true)])),
  ([dnv76, (.str [107, 101, 121, 105, 100, 115])], dnv86),
  ([dnv76, dnv4], dnv87),
  ([dnv76, dnv3], dnv88),
  ([dnv76, dnv8], dnv89),
  ([dnv76, (.str [112, 97, 116, 104, 115])], dnv90),
  ([dnv79, dnv8], dnv91),
  ([dnv80, dnv8], dnv91),
  ([dnv77, (.str [107, 101, 121, 105, 100, 115])], dnv86),
  ([dnv77, dnv4], dnv87),
  ([dnv77, dnv6], dnv87),
  ([dnv77, dnv7], (.tup [dnv32, (.bool true)]))]
def dnt48 : List (List AV × AV) := [([dnv2, (.int .u32 2)], dnv92)]
def dnt49 : List (List AV × AV) := [([(.str [120, 47, 121]), (.str [120, 47, 121])], (.bool true))]
def dnt50 : List (List AV × AV) := [([dnv33], dnv93),
  ([dnv31], dnv94),
  ([(.agg [(.int .u8 5), (.int .i64 0), (.str []), (.sl [[(.str [107, 101, 121, 115])]] .frs), dnv95])], dnv93),
  ([(.agg [(.int .u8 5), (.int .i64 0), (.str []), (.sl [[(.str [114, 111, 108, 101, 115])]] .frs), dnv95])], dnv94)]
def dnt51 : List (List AV × AV) := [([(.agg [(.int .u8 5), (.int .i64 0), (.str []), dnv42, (.sl [[(.int .u8 5), (.int .i64 0), (.str []), (.sl [] .frs), (.sl [] .frs)], [(.int .u8 4), (.int .i64 0), (.str []), (.sl [] .frs), dnv41]] .frs)])], (.bool true)),
  ([(.agg [(.int .u8 5), (.int .i64 0), (.str []), dnv49, (.sl [[(.int .u8 5), (.int .i64 0), (.str []), (.sl [] .frs), (.sl [] .frs)], [(.int .u8 2), (.int .i64 1), (.str []), (.sl [] .frs), (.sl [] .frs)], [(.int .u8 4), (.int .i64 0), (.str []), (.sl [] .frs), (.sl [] .frs)]] .frs)])], (.bool true))]
def dnt52 : List (List AV × AV) := [([dnv68], dnv69)]
def dnt53 : List (List AV × AV) := [([dnv56], (.bool true)),
  ([(.agg [(.int .i64 1), dnv1])], (.bool true))]
def dnt54 : List (List AV × AV) := [([dnv96], dnv71),
  ([dnv97], dnv72),
  ([dnv98], dnv73)]
def dnt55 : List (List AV × AV) := [([dnv53], dnv54)]
def dnt56 : List (List AV × AV) := [([dnv54], dnv54),
  ([dnv99], dnv99),
  ([dnv100], dnv100),
  ([dnv101], dnv101),
  ([dnv102], dnv102),
  ([dnv103], dnv103),
  ([dnv104], dnv104),
  ([dnv105], dnv105)]
def dnt57 : List (List AV × AV) := [([dnv85], (.bool true)),
  ([dnv106], (.bool true)),
  ([dnv75], (.bool true)),
  ([dnv69], (.bool true)),
  ([(.agg [(.int .u8 5), (.int .i64 0), (.str []), dnv42, (.sl [[(.int .u8 5), (.int .i64 0), (.str []), (.sl [] .frs), (.sl [] .frs)], [(.int .u8 4), (.int .i64 0), (.str []), (.sl [] .frs), (.sl [[(.int .u8 5), (.int .i64 0), (.str []), dnv43, dnv61]] .frs)]] .frs)])], (.bool true)),
  ([dnv100], (.bool true))]
def dnt58 : List (List AV × AV) := [([dnv101], (.bool true)),
  ([dnv102], (.bool true)),
  ([dnv103], (.bool true)),
  ([(.agg [(.int .u8 5), (.int .i64 0), (.str []), dnv42, (.sl [[(.int .u8 5), (.int .i64 0), (.str []), (.sl [] .frs), (.sl [] .frs)], [(.int .u8 4), (.int .i64 0), (.str []), (.sl [] .frs), dnv62]] .frs)])], (.bool true)),
  ([dnv105], (.bool true))]
def dnt59 : List (List AV × AV) := [([(.agg [(.int .u8 5), (.int .i64 0), (.str []), dnv42, (.sl [[(.int .u8 5), (.int .i64 0), (.str []), (.sl [] .frs), (.sl [] .frs)], [(.int .u8 4), (.int .i64 0), (.str []), (.sl [] .frs), (.sl [[(.int .u8 5), (.int .i64 0), (.str []), dnv43, dnv61], [(.int .u8 5), (.int .i64 0), (.str []), dnv43, dnv61]] .frs)]] .frs)])], (.bool true)),
  ([(.agg [(.int .u8 5), (.int .i64 0), (.str []), dnv42, (.sl [[(.int .u8 5), (.int .i64 0), (.str []), (.sl [] .frs), (.sl [] .frs)], [(.int .u8 4), (.int .i64 0), (.str []), (.sl [] .frs), (.sl [[(.int .u8 5), (.int .i64 0), (.str []), dnv43, dnv61], [(.int .u8 5), (.int .i64 0), (.str []), dnv43, dnv51]] .frs)]] .frs)])], (.bool true)),
  ([dnv107], (.bool true)),
  ([dnv108], (.bool true)),
  ([dnv109], (.bool true))]
def dnt60 : List (List AV × AV) := [([dnv2, (.str [120, 47, 121])], dnv92)]
def dnt61 : List (List AV × AV) := [([(.sl [[(.str [120, 47, 121])]] .frs), (.str [120, 47, 121])], (.tup [(.int .i64 0), (.bool true)]))]
def dnt62 : List (List AV × AV) := [([(.agg [(.int .u8 5), (.int .i64 0), (.str []), (.sl [[(.str [107, 101, 121, 115])]] .frs), dnv41])], dnv94),
  ([(.agg [(.int .u8 5), (.int .i64 0), (.str []), dnv42, (.sl [[(.int .u8 5), (.int .i64 0), (.str []), (.sl [] .frs), (.sl [] .frs)], [(.int .u8 4), (.int .i64 0), (.str []), (.sl [] .frs), (.sl [[(.int .u8 2), (.int .i64 1), (.str []), (.sl [] .frs), (.sl [] .frs)]] .frs)]] .frs)])], dnv93),
  ([(.agg [(.int .u8 5), (.int .i64 0), (.str []), dnv42, (.sl [[(.int .u8 5), (.int .i64 0), (.str []), (.sl [] .frs), (.sl [] .frs)], [(.int .u8 4), (.int .i64 0), (.str []), (.sl [] .frs), dnv41]] .frs)])], dnv94),
  ([(.agg [(.int .u8 5), (.int .i64 0), (.str []), dnv49, (.sl [[(.int .u8 5), (.int .i64 0), (.str []), (.sl [] .frs), (.sl [] .frs)], [(.int .u8 2), (.int .i64 1), (.str []), (.sl [] .frs), (.sl [] .frs)], [(.int .u8 4), (.int .i64 0), (.str []), (.sl [] .frs), (.sl [] .frs)]] .frs)])], dnv110)]
def dnt63 : List (List AV × AV) := [([dnv101, (.str [114, 111, 108, 101, 115])], (.tup [(.agg [(.int .u8 4), (.int .i64 0), (.str []), (.sl [] .frs), (.sl [[(.int .u8 5), (.int .i64 0), (.str []), dnv47, (.sl [[(.int .u8 4), (.int .i64 0), (.str []), (.sl [] .frs), dnv10], [(.int .u8 3), (.int .i64 0), (.str [97]), (.sl [] .frs), (.sl [] .frs)], [(.int .u8 4), (.int .i64 0), (.str []), (.sl [] .frs), dnv39], [(.int .u8 4), (.int .i64 0), (.str []), (.sl [] .frs), dnv14], [(.int .u8 1), (.int .i64 1), (.str []), (.sl [] .frs), (.sl [] .frs)], [(.int .u8 2), (.int .i64 1), (.str []), (.sl [] .frs), (.sl [] .frs)]] .frs)]] .frs)]), (.bool true)])),
  ([dnv107, dnv5], dnv111),
  ([dnv108, dnv5], dnv111)]
def dnt64 : List (List AV × AV) := [([dnv80], (.tup [dnv58, (.int .i64 11)])),
  ([dnv81], dnv112),
  ([dnv84], dnv59)]
def dnt65 : List (List AV × AV) := [([(.agg [(.int .u8 5), (.int .i64 0), (.str []), (.sl [[(.str [97])]] .frs), dnv41])], (.tup [(.sl [] .full), (.int .i64 6)]))]
def dnt66 : List (List AV × AV) := [([(.agg [(.sl [] .full), dnv70, (.int .i64 0), (.sl [] .full), (.int .i64 0), (.str [])])], dnv109)]
def dnt67 : List (List AV × AV) := [([dnv96], (.bool true)),
  ([dnv97], (.bool true)),
  ([dnv98], (.bool true)),
  ([(.agg [(.str [99]), (.int .i64 1), dnv9, (.bool true), (.sl [[(.str [120, 47, 121])]] .frs), (.sl [] .frs)])], (.bool true)),
  ([dnv113], (.bool true)),
  ([(.agg [(.str [97]), (.int .i64 1), dnv9, (.bool false), dnv18, (.sl [] .frs)])], (.bool true))]
def dnt68 : List (List AV × AV) := [([(.sl [[(.str [107, 101, 121, 115]), (.int .u8 5), (.int .i64 0), (.str []), (.sl [] .frs), (.sl [] .frs)], [(.str [114, 111, 108, 101, 115]), (.int .u8 4), (.int .i64 0), (.str []), (.sl [] .frs), dnv53]] .frs)], (.tup [dnv85, (.int .i64 0)]))]
def dnt69 : List (List AV × AV) := [([(.sl [[(.str [120, 47, 121])]] .frs), (.str [120, 47, 121])], (.bool true))]
def dnt70 : List (List AV × AV) := [([(.agg [(.sl [] .full), (.sl [[(.str [99]), (.int .i64 1), dnv9, (.bool true), (.sl [[(.str [120, 47, 121])]] .frs), (.sl [] .frs)], [(.str [97]), (.int .i64 1), dnv9, (.bool false), (.sl [[(.str [120, 47, 42])]] .frs), (.sl [] .frs)]] .full), (.int .i64 0), (.sl [] .full), (.int .i64 0), (.str [])])], dnv106)]
def dnt71 : List (List AV × AV) := [([(.agg [(.sl [] .full), (.sl [] .full), (.int .i64 1), dnv1, (.int .i64 2), (.str [112])]), (.str [120, 47, 121]), (.sl [[(.str [112, 45, 50])]] .full)], (.bool true))]
def dnt72 : List (List AV × AV) := [([dnv69], (.tup [(.agg [(.sl [] .frs), (.sl [] .frs), (.int .i64 0), (.sl [] .frs), (.int .i64 0), (.str [])]), (.int .i64 0)])),
  ([dnv101], dnv110),
  ([dnv102], dnv114),
  ([dnv105], dnv93),
  ([(.agg [(.int .u8 5), (.int .i64 0), (.str []), dnv42, (.sl [[(.int .u8 5), (.int .i64 0), (.str []), (.sl [[(.str [97])]] .frs), dnv41], [(.int .u8 4), (.int .i64 0), (.str []), (.sl [] .frs), (.sl [] .frs)]] .frs)])], dnv94)]
def dnt73 : List (List AV × AV) := [([dnv79], (.tup [(.agg [(.str [97]), (.int .i64 1), dnv9, (.bool true), (.sl [] .frs), (.sl [[(.str [48, 102])]] .frs)]), (.int .i64 0)])),
  ([dnv82], dnv112),
  ([dnv83], dnv112)]
def dnt74 : List (List AV × AV) := [([dnv64], (.bool true))]
def dnt75 : List (List AV × AV) := [([dnv68], (.bool true))]
def dnt76 : List (List AV × AV) := [([dnv66], (.bool true))]
def dnt77 : List (List AV × AV) := [([dnv67], dnv85)]
def dnt78 : List (List AV × AV) := [([dnv71], (.tup [dnv96, (.int .i64 0)])),
  ([dnv72], (.tup [dnv97, (.int .i64 0)])),
  ([dnv73], (.tup [dnv98, (.int .i64 0)])),
  ([dnv76], (.tup [dnv113, (.int .i64 0)]))]
def dnt79 : List (List AV × AV) := [([dnv100], (.tup [(.agg [(.sl [] .frs), (.sl [[(.str [97]), (.int .i64 1), dnv9, (.bool true), (.sl [] .frs), (.sl [[(.str [48, 102])]] .frs)]] .frs), (.int .i64 0), (.sl [] .frs), (.int .i64 0), (.str [])]), (.int .i64 0)])),
  ([dnv103], dnv114),
  ([(.agg [(.int .u8 5), (.int .i64 0), (.str []), dnv42, (.sl [[(.int .u8 5), (.int .i64 0), (.str []), (.sl [] .frs), (.sl [] .frs)], [(.int .u8 4), (.int .i64 0), (.str []), (.sl [] .frs), dnv62]] .frs)])], dnv114)]
def dnt80 : List (List AV × AV) := [([dnv77], (.tup [dnv64, (.int .i64 0)]))]
def dnt81 : List (List AV × AV) := [([dnv67], (.bool true))]
def dnt82 : List (List AV × AV) := [([dnv85], (.tup [dnv65, (.int .i64 0)])),
  ([(.agg [(.int .u8 5), (.int .i64 0), (.str []), dnv42, (.sl [[(.int .u8 5), (.int .i64 0), (.str []), (.sl [] .frs), (.sl [] .frs)], [(.int .u8 4), (.int .i64 0), (.str []), (.sl [] .frs), (.sl [[(.int .u8 5), (.int .i64 0), (.str []), dnv43, dnv61]] .frs)]] .frs)])], (.tup [(.agg [(.sl [] .frs), (.sl [[(.str [97]), (.int .i64 1), dnv9, (.bool true), (.sl [[(.str [42])]] .frs), (.sl [] .frs)]] .frs), (.int .i64 0), (.sl [] .frs), (.int .i64 0), (.str [])]), (.int .i64 0)])),
  ([(.agg [(.int .u8 5), (.int .i64 0), (.str []), dnv42, (.sl [[(.int .u8 5), (.int .i64 0), (.str []), (.sl [] .frs), (.sl [] .frs)], [(.int .u8 4), (.int .i64 0), (.str []), (.sl [] .frs), (.sl [[(.int .u8 5), (.int .i64 0), (.str []), dnv43, dnv61], [(.int .u8 5), (.int .i64 0), (.str []), dnv43, dnv61]] .frs)]] .frs)])], (.tup [dnv68, (.int .i64 7)])),
  ([(.agg [(.int .u8 5), (.int .i64 0), (.str []), dnv42, (.sl [[(.int .u8 5), (.int .i64 0), (.str []), (.sl [] .frs), (.sl [] .frs)], [(.int .u8 4), (.int .i64 0), (.str []), (.sl [] .frs), (.sl [[(.int .u8 5), (.int .i64 0), (.str []), dnv43, dnv61], [(.int .u8 5), (.int .i64 0), (.str []), dnv43, dnv51]] .frs)]] .frs)])], (.tup [(.agg [(.sl [] .frs), (.sl [[(.str [97]), (.int .i64 1), dnv9, (.bool true), (.sl [[(.str [42])]] .frs), (.sl [] .frs)], [(.str [98]), (.int .i64 1), dnv9, (.bool true), (.sl [[(.str [42])]] .frs), (.sl [] .frs)]] .frs), (.int .i64 0), (.sl [] .frs), (.int .i64 0), (.str [])]), (.int .i64 0)])),
  ([dnv107], (.tup [(.agg [(.sl [] .frs), (.sl [] .frs), (.int .i64 1), dnv9, (.int .i64 1), (.str [112])]), (.int .i64 0)])),
  ([dnv108], dnv110)]
def dnt83 : List (List AV × AV) := [([dnv67, (.str [120, 47, 121])], (.sl [[(.str [97]), (.int .i64 1), dnv9, (.bool false)], [(.str [99]), (.int .i64 1), dnv9, (.bool false)]] .frs)),
  ([dnv67, (.str [122])], (.sl [[(.str [98]), (.int .i64 1), dnv9, (.bool true)]] .frs))]
def dnt84 : List (List AV × AV) := [([], (.bool true))]
def dnt85 : List (List AV × AV) := [([], (.bool true))]
def dnT0 : List (FuncId × List (List AV × AV)) := [(22, dnt0), (60, dnt1), (119, dnt2), (250, dnt3), (168, dnt4), (139, dnt5), (149, dnt6), (148, dnt7), (216, dnt8), (150, dnt9), (155, dnt10), (86, dnt11), (154, dnt12), (102, dnt13), (174, dnt14), (171, dnt15), (173, dnt16), (61, dnt17), (334, dnt18), (62, dnt19), (85, dnt20), (138, dnt21)]
def dnT1 : List (FuncId × List (List AV × AV)) := [(203, dnt22), (39, dnt23), (32, dnt24), (214, dnt25), (86, dnt26), (155, dnt27), (154, dnt28), (240, dnt29), (85, dnt30), (45, dnt31), (97, dnt32), (98, dnt33), (27, dnt34), (138, dnt35), (28, dnt36), (146, dnt37), (30, dnt38)]
def dnT2 : List (FuncId × List (List AV × AV)) := [(202, dnt39), (122, dnt40), (146, dnt41), (86, dnt42), (155, dnt43), (174, dnt44), (154, dnt45), (69, dnt46), (33, dnt47), (99, dnt48), (333, dnt49), (26, dnt50), (45, dnt51), (81, dnt52)]
def dnT3 : List (FuncId × List (List AV × AV)) := [(121, dnt53), (143, dnt54), (144, dnt55), (86, dnt56), (45, dnt57 ++ dnt58 ++ dnt59), (40, dnt60), (332, dnt61), (26, dnt62), (33, dnt63), (138, dnt64), (69, dnt65), (81, dnt66)]
def dnT4 : List (FuncId × List (List AV × AV)) := [(63, dnt67), (146, dnt68), (330, dnt69), (81, dnt70), (56, dnt71), (26, dnt72), (138, dnt73), (80, dnt74), (30, dnt75)]
def dnT5 : List (FuncId × List (List AV × AV)) := [(79, dnt76), (81, dnt77), (138, dnt78), (26, dnt79), (73, dnt80)]
def dnT6 : List (FuncId × List (List AV × AV)) := [(30, dnt81), (26, dnt82)]
def dnT7 : List (FuncId × List (List AV × AV)) := [(15, dnt83)]
def dnT8 : List (FuncId × List (List AV × AV)) := [(13, dnt84)]
def dnT9 : List (FuncId × List (List AV × AV)) := [(4, dnt85)]
noncomputable def dnc0 : Cfg := cK
noncomputable def dnc1 : Cfg := dnc0.memo dnT0
noncomputable def dnc2 : Cfg := dnc1.memo dnT1
noncomputable def dnc3 : Cfg := dnc2.memo dnT2
noncomputable def dnc4 : Cfg := dnc3.memo dnT3
noncomputable def dnc5 : Cfg := dnc4.memo dnT4
noncomputable def dnc6 : Cfg := dnc5.memo dnT5
noncomputable def dnc7 : Cfg := dnc6.memo dnT6
noncomputable def dnc8 : Cfg := dnc7.memo dnT7
noncomputable def dnc9 : Cfg := dnc8.memo dnT8
noncomputable def dnc10 : Cfg := dnc9.memo dnT9
end
end Go.Ab
