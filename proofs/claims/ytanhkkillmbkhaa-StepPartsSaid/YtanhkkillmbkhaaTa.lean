import Derived.Test.YtanhkkillmbkhaaLd
import Derived.Test.YtanhkkillmbkhaaProg
import Derived.KernelRfl
namespace Go.AL
open Go.Proofs
@[go_sem] theorem Try.sz2 : szP Try.prog 2 = some 1 := by kernel_rfl
@[go_sem] theorem Try.by2 : bytesP Try.prog 2 = some 8 := by kernel_rfl
@[go_sem] theorem Try.zero2 : zeroP Try.prog 2 = some [.int .i64 0] := by kernel_rfl
@[go_sem] theorem Try.agg2 : aggP Try.prog 2 = some false := by kernel_rfl
@[go_sem] theorem Try.conc2 : concP Try.prog 2 = true := by kernel_rfl
@[go_sem] theorem Try.known2 : knownP Try.prog 2 = true := by kernel_rfl
@[go_sem] theorem Try.int2 : intP Try.prog 2 = some .i64 := by kernel_rfl
@[go_sem] theorem Try.sz3 : szP Try.prog 3 = some 1 := by kernel_rfl
@[go_sem] theorem Try.by3 : bytesP Try.prog 3 = some 8 := by kernel_rfl
@[go_sem] theorem Try.zero3 : zeroP Try.prog 3 = some [.int .i64 0] := by kernel_rfl
@[go_sem] theorem Try.agg3 : aggP Try.prog 3 = some false := by kernel_rfl
@[go_sem] theorem Try.conc3 : concP Try.prog 3 = true := by kernel_rfl
@[go_sem] theorem Try.known3 : knownP Try.prog 3 = true := by kernel_rfl
@[go_sem] theorem Try.int3 : intP Try.prog 3 = some .i64 := by kernel_rfl
@[go_sem] theorem Try.sz4 : szP Try.prog 4 = some 1 := by kernel_rfl
@[go_sem] theorem Try.by4 : bytesP Try.prog 4 = some 1 := by kernel_rfl
@[go_sem] theorem Try.zero4 : zeroP Try.prog 4 = some [.bool false] := by kernel_rfl
@[go_sem] theorem Try.agg4 : aggP Try.prog 4 = some false := by kernel_rfl
@[go_sem] theorem Try.conc4 : concP Try.prog 4 = true := by kernel_rfl
@[go_sem] theorem Try.known4 : knownP Try.prog 4 = true := by kernel_rfl
@[go_sem] theorem Try.bool4 : boolP Try.prog 4 = true := by kernel_rfl
@[go_sem] theorem Try.sz5 : szP Try.prog 5 = some 1 := by kernel_rfl
@[go_sem] theorem Try.by5 : bytesP Try.prog 5 = some 1 := by kernel_rfl
@[go_sem] theorem Try.zero5 : zeroP Try.prog 5 = some [.int .u8 0] := by kernel_rfl
@[go_sem] theorem Try.agg5 : aggP Try.prog 5 = some false := by kernel_rfl
@[go_sem] theorem Try.conc5 : concP Try.prog 5 = true := by kernel_rfl
@[go_sem] theorem Try.known5 : knownP Try.prog 5 = true := by kernel_rfl
@[go_sem] theorem Try.int5 : intP Try.prog 5 = some .u8 := by kernel_rfl
@[go_sem] theorem Try.sz6 : szP Try.prog 6 = some 1 := by kernel_rfl
@[go_sem] theorem Try.by6 : bytesP Try.prog 6 = some 1 := by kernel_rfl
@[go_sem] theorem Try.zero6 : zeroP Try.prog 6 = some [.int .u8 0] := by kernel_rfl
@[go_sem] theorem Try.agg6 : aggP Try.prog 6 = some false := by kernel_rfl
@[go_sem] theorem Try.conc6 : concP Try.prog 6 = true := by kernel_rfl
@[go_sem] theorem Try.known6 : knownP Try.prog 6 = true := by kernel_rfl
@[go_sem] theorem Try.int6 : intP Try.prog 6 = some .u8 := by kernel_rfl
@[go_sem] theorem Try.sz7 : szP Try.prog 7 = some 4 := by kernel_rfl
@[go_sem] theorem Try.by7 : bytesP Try.prog 7 = some 24 := by kernel_rfl
@[go_sem] theorem Try.zero7 : zeroP Try.prog 7 = some [.int .i64 0, .int .i64 0, .bool false, .int .u8 0] := by kernel_rfl
@[go_sem] theorem Try.agg7 : aggP Try.prog 7 = some true := by kernel_rfl
@[go_sem] theorem Try.conc7 : concP Try.prog 7 = true := by kernel_rfl
@[go_sem] theorem Try.known7 : knownP Try.prog 7 = true := by kernel_rfl
@[go_sem] theorem Try.bld7 : buildP Try.prog 7 = some none := by kernel_rfl
@[go_sem] theorem Try.fld7_0 : fldP Try.prog 7 0 = some (0, 2) := by kernel_rfl
@[go_sem] theorem Try.fld7_1 : fldP Try.prog 7 1 = some (1, 3) := by kernel_rfl
@[go_sem] theorem Try.fld7_2 : fldP Try.prog 7 2 = some (2, 4) := by kernel_rfl
@[go_sem] theorem Try.fld7_3 : fldP Try.prog 7 3 = some (3, 6) := by kernel_rfl
@[go_sem] theorem Try.eqg7 : eqGP Try.prog 7 = true := by kernel_rfl
@[go_sem] theorem Try.sz8 : szP Try.prog 8 = some 4 := by kernel_rfl
@[go_sem] theorem Try.by8 : bytesP Try.prog 8 = some 24 := by kernel_rfl
@[go_sem] theorem Try.zero8 : zeroP Try.prog 8 = some [.int .i64 0, .int .i64 0, .bool false, .int .u8 0] := by kernel_rfl
@[go_sem] theorem Try.agg8 : aggP Try.prog 8 = some true := by kernel_rfl
@[go_sem] theorem Try.conc8 : concP Try.prog 8 = true := by kernel_rfl
@[go_sem] theorem Try.known8 : knownP Try.prog 8 = true := by kernel_rfl
@[go_sem] theorem Try.bld8 : buildP Try.prog 8 = some none := by kernel_rfl
@[go_sem] theorem Try.fld8_0 : fldP Try.prog 8 0 = some (0, 2) := by kernel_rfl
@[go_sem] theorem Try.fld8_1 : fldP Try.prog 8 1 = some (1, 3) := by kernel_rfl
@[go_sem] theorem Try.fld8_2 : fldP Try.prog 8 2 = some (2, 4) := by kernel_rfl
@[go_sem] theorem Try.fld8_3 : fldP Try.prog 8 3 = some (3, 6) := by kernel_rfl
@[go_sem] theorem Try.eqg8 : eqGP Try.prog 8 = true := by kernel_rfl
@[go_sem] theorem Try.sz9 : szP Try.prog 9 = some 1 := by kernel_rfl
@[go_sem] theorem Try.by9 : bytesP Try.prog 9 = some 16 := by kernel_rfl
@[go_sem] theorem Try.zero9 : zeroP Try.prog 9 = some [.str ByteArray.empty] := by kernel_rfl
@[go_sem] theorem Try.agg9 : aggP Try.prog 9 = some false := by kernel_rfl
@[go_sem] theorem Try.conc9 : concP Try.prog 9 = true := by kernel_rfl
@[go_sem] theorem Try.known9 : knownP Try.prog 9 = true := by kernel_rfl
@[go_sem] theorem Try.str9 : strP Try.prog 9 = true := by kernel_rfl
@[go_sem] theorem Try.sz10 : szP Try.prog 10 = some 1 := by kernel_rfl
@[go_sem] theorem Try.by10 : bytesP Try.prog 10 = some 16 := by kernel_rfl
@[go_sem] theorem Try.zero10 : zeroP Try.prog 10 = some [.str ByteArray.empty] := by kernel_rfl
@[go_sem] theorem Try.agg10 : aggP Try.prog 10 = some false := by kernel_rfl
@[go_sem] theorem Try.conc10 : concP Try.prog 10 = true := by kernel_rfl
@[go_sem] theorem Try.known10 : knownP Try.prog 10 = true := by kernel_rfl
@[go_sem] theorem Try.str10 : strP Try.prog 10 = true := by kernel_rfl
@[go_sem] theorem Try.sz11 : szP Try.prog 11 = some 1 := by kernel_rfl
@[go_sem] theorem Try.by11 : bytesP Try.prog 11 = some 16 := by kernel_rfl
@[go_sem] theorem Try.zero11 : zeroP Try.prog 11 = some [.str ByteArray.empty] := by kernel_rfl
@[go_sem] theorem Try.agg11 : aggP Try.prog 11 = some false := by kernel_rfl
@[go_sem] theorem Try.conc11 : concP Try.prog 11 = true := by kernel_rfl
@[go_sem] theorem Try.known11 : knownP Try.prog 11 = true := by kernel_rfl
@[go_sem] theorem Try.str11 : strP Try.prog 11 = true := by kernel_rfl
@[go_sem] theorem Try.sz12 : szP Try.prog 12 = some 1 := by kernel_rfl
@[go_sem] theorem Try.by12 : bytesP Try.prog 12 = some 8 := by kernel_rfl
@[go_sem] theorem Try.zero12 : zeroP Try.prog 12 = some [.int .u64 0] := by kernel_rfl
@[go_sem] theorem Try.agg12 : aggP Try.prog 12 = some false := by kernel_rfl
@[go_sem] theorem Try.conc12 : concP Try.prog 12 = true := by kernel_rfl
@[go_sem] theorem Try.known12 : knownP Try.prog 12 = true := by kernel_rfl
@[go_sem] theorem Try.int12 : intP Try.prog 12 = some .u64 := by kernel_rfl
@[go_sem] theorem Try.sz13 : szP Try.prog 13 = some 2 := by kernel_rfl
@[go_sem] theorem Try.by13 : bytesP Try.prog 13 = some 24 := by kernel_rfl
@[go_sem] theorem Try.zero13 : zeroP Try.prog 13 = some [.str ByteArray.empty, .int .u64 0] := by kernel_rfl
@[go_sem] theorem Try.agg13 : aggP Try.prog 13 = some true := by kernel_rfl
@[go_sem] theorem Try.conc13 : concP Try.prog 13 = true := by kernel_rfl
@[go_sem] theorem Try.known13 : knownP Try.prog 13 = true := by kernel_rfl
@[go_sem] theorem Try.bld13 : buildP Try.prog 13 = some none := by kernel_rfl
@[go_sem] theorem Try.fld13_0 : fldP Try.prog 13 0 = some (0, 9) := by kernel_rfl
@[go_sem] theorem Try.fld13_1 : fldP Try.prog 13 1 = some (1, 12) := by kernel_rfl
@[go_sem] theorem Try.eqg13 : eqGP Try.prog 13 = true := by kernel_rfl
@[go_sem] theorem Try.sz14 : szP Try.prog 14 = some 2 := by kernel_rfl
@[go_sem] theorem Try.by14 : bytesP Try.prog 14 = some 24 := by kernel_rfl
@[go_sem] theorem Try.zero14 : zeroP Try.prog 14 = some [.str ByteArray.empty, .int .u64 0] := by kernel_rfl
@[go_sem] theorem Try.agg14 : aggP Try.prog 14 = some true := by kernel_rfl
@[go_sem] theorem Try.conc14 : concP Try.prog 14 = true := by kernel_rfl
@[go_sem] theorem Try.known14 : knownP Try.prog 14 = true := by kernel_rfl
@[go_sem] theorem Try.bld14 : buildP Try.prog 14 = some none := by kernel_rfl
@[go_sem] theorem Try.fld14_0 : fldP Try.prog 14 0 = some (0, 9) := by kernel_rfl
@[go_sem] theorem Try.fld14_1 : fldP Try.prog 14 1 = some (1, 12) := by kernel_rfl
@[go_sem] theorem Try.eqg14 : eqGP Try.prog 14 = true := by kernel_rfl
@[go_sem] theorem Try.sz15 : szP Try.prog 15 = some 1 := by kernel_rfl
@[go_sem] theorem Try.by15 : bytesP Try.prog 15 = some 8 := by kernel_rfl
@[go_sem] theorem Try.zero15 : zeroP Try.prog 15 = some [.nilptr] := by kernel_rfl
@[go_sem] theorem Try.agg15 : aggP Try.prog 15 = some false := by kernel_rfl
@[go_sem] theorem Try.conc15 : concP Try.prog 15 = true := by kernel_rfl
@[go_sem] theorem Try.known15 : knownP Try.prog 15 = true := by kernel_rfl
@[go_sem] theorem Try.sz16 : szP Try.prog 16 = some 1 := by kernel_rfl
@[go_sem] theorem Try.by16 : bytesP Try.prog 16 = some 8 := by kernel_rfl
@[go_sem] theorem Try.zero16 : zeroP Try.prog 16 = some [.nilptr] := by kernel_rfl
@[go_sem] theorem Try.agg16 : aggP Try.prog 16 = some false := by kernel_rfl
@[go_sem] theorem Try.conc16 : concP Try.prog 16 = true := by kernel_rfl
@[go_sem] theorem Try.known16 : knownP Try.prog 16 = true := by kernel_rfl
@[go_sem] theorem Try.sz17 : szP Try.prog 17 = some 1 := by kernel_rfl
@[go_sem] theorem Try.by17 : bytesP Try.prog 17 = some 8 := by kernel_rfl
@[go_sem] theorem Try.zero17 : zeroP Try.prog 17 = some [.nilptr] := by kernel_rfl
@[go_sem] theorem Try.agg17 : aggP Try.prog 17 = some false := by kernel_rfl
@[go_sem] theorem Try.conc17 : concP Try.prog 17 = true := by kernel_rfl
@[go_sem] theorem Try.known17 : knownP Try.prog 17 = true := by kernel_rfl
@[go_sem] theorem Try.sz18 : szP Try.prog 18 = some 1 := by kernel_rfl
@[go_sem] theorem Try.by18 : bytesP Try.prog 18 = some 8 := by kernel_rfl
@[go_sem] theorem Try.zero18 : zeroP Try.prog 18 = some [.nilptr] := by kernel_rfl
@[go_sem] theorem Try.agg18 : aggP Try.prog 18 = some true := by kernel_rfl
@[go_sem] theorem Try.conc18 : concP Try.prog 18 = true := by kernel_rfl
@[go_sem] theorem Try.known18 : knownP Try.prog 18 = true := by kernel_rfl
@[go_sem] theorem Try.bld18 : buildP Try.prog 18 = some none := by kernel_rfl
@[go_sem] theorem Try.fld18_0 : fldP Try.prog 18 0 = some (0, 17) := by kernel_rfl
@[go_sem] theorem Try.sz19 : szP Try.prog 19 = some 1 := by kernel_rfl
@[go_sem] theorem Try.by19 : bytesP Try.prog 19 = some 8 := by kernel_rfl
@[go_sem] theorem Try.zero19 : zeroP Try.prog 19 = some [.nilptr] := by kernel_rfl
@[go_sem] theorem Try.agg19 : aggP Try.prog 19 = some true := by kernel_rfl
@[go_sem] theorem Try.conc19 : concP Try.prog 19 = true := by kernel_rfl
@[go_sem] theorem Try.known19 : knownP Try.prog 19 = true := by kernel_rfl
@[go_sem] theorem Try.bld19 : buildP Try.prog 19 = some none := by kernel_rfl
@[go_sem] theorem Try.fld19_0 : fldP Try.prog 19 0 = some (0, 17) := by kernel_rfl
@[go_sem] theorem Try.sz20 : szP Try.prog 20 = some 1 := by kernel_rfl
@[go_sem] theorem Try.by20 : bytesP Try.prog 20 = some 16 := by kernel_rfl
@[go_sem] theorem Try.zero20 : zeroP Try.prog 20 = some [.niliface] := by kernel_rfl
@[go_sem] theorem Try.agg20 : aggP Try.prog 20 = some false := by kernel_rfl
@[go_sem] theorem Try.sz21 : szP Try.prog 21 = some 1 := by kernel_rfl
@[go_sem] theorem Try.by21 : bytesP Try.prog 21 = some 4 := by kernel_rfl
@[go_sem] theorem Try.zero21 : zeroP Try.prog 21 = some [.int .i32 0] := by kernel_rfl
@[go_sem] theorem Try.agg21 : aggP Try.prog 21 = some false := by kernel_rfl
@[go_sem] theorem Try.conc21 : concP Try.prog 21 = true := by kernel_rfl
@[go_sem] theorem Try.known21 : knownP Try.prog 21 = true := by kernel_rfl
@[go_sem] theorem Try.int21 : intP Try.prog 21 = some .i32 := by kernel_rfl
@[go_sem] theorem Try.sz22 : szP Try.prog 22 = some 1 := by kernel_rfl
@[go_sem] theorem Try.by22 : bytesP Try.prog 22 = some 24 := by kernel_rfl
@[go_sem] theorem Try.zero22 : zeroP Try.prog 22 = some [.slice .nil []] := by kernel_rfl
@[go_sem] theorem Try.agg22 : aggP Try.prog 22 = some false := by kernel_rfl
@[go_sem] theorem Try.conc22 : concP Try.prog 22 = true := by kernel_rfl
@[go_sem] theorem Try.known22 : knownP Try.prog 22 = true := by kernel_rfl
@[go_sem] theorem Try.sli22 : sliP Try.prog 22 = some 23 := by kernel_rfl
@[go_sem] theorem Try.sz23 : szP Try.prog 23 = some 1 := by kernel_rfl
@[go_sem] theorem Try.by23 : bytesP Try.prog 23 = some 1 := by kernel_rfl
@[go_sem] theorem Try.zero23 : zeroP Try.prog 23 = some [.int .u8 0] := by kernel_rfl
@[go_sem] theorem Try.agg23 : aggP Try.prog 23 = some false := by kernel_rfl
@[go_sem] theorem Try.conc23 : concP Try.prog 23 = true := by kernel_rfl
@[go_sem] theorem Try.known23 : knownP Try.prog 23 = true := by kernel_rfl
@[go_sem] theorem Try.int23 : intP Try.prog 23 = some .u8 := by kernel_rfl
@[go_sem] theorem Try.sz24 : szP Try.prog 24 = some 2 := by kernel_rfl
@[go_sem] theorem Try.by24 : bytesP Try.prog 24 = some 32 := by kernel_rfl
@[go_sem] theorem Try.zero24 : zeroP Try.prog 24 = some [.slice .nil [], .int .u8 0] := by kernel_rfl
@[go_sem] theorem Try.agg24 : aggP Try.prog 24 = some true := by kernel_rfl
@[go_sem] theorem Try.conc24 : concP Try.prog 24 = true := by kernel_rfl
@[go_sem] theorem Try.known24 : knownP Try.prog 24 = true := by kernel_rfl
@[go_sem] theorem Try.bld24 : buildP Try.prog 24 = some none := by kernel_rfl
@[go_sem] theorem Try.fld24_0 : fldP Try.prog 24 0 = some (0, 22) := by kernel_rfl
@[go_sem] theorem Try.fld24_1 : fldP Try.prog 24 1 = some (1, 23) := by kernel_rfl
@[go_sem] theorem Try.sz25 : szP Try.prog 25 = some 2 := by kernel_rfl
@[go_sem] theorem Try.by25 : bytesP Try.prog 25 = some 32 := by kernel_rfl
@[go_sem] theorem Try.zero25 : zeroP Try.prog 25 = some [.slice .nil [], .int .u8 0] := by kernel_rfl
@[go_sem] theorem Try.agg25 : aggP Try.prog 25 = some true := by kernel_rfl
@[go_sem] theorem Try.conc25 : concP Try.prog 25 = true := by kernel_rfl
@[go_sem] theorem Try.known25 : knownP Try.prog 25 = true := by kernel_rfl
@[go_sem] theorem Try.bld25 : buildP Try.prog 25 = some none := by kernel_rfl
@[go_sem] theorem Try.fld25_0 : fldP Try.prog 25 0 = some (0, 22) := by kernel_rfl
@[go_sem] theorem Try.fld25_1 : fldP Try.prog 25 1 = some (1, 23) := by kernel_rfl
@[go_sem] theorem Try.sz26 : szP Try.prog 26 = some 1 := by kernel_rfl
@[go_sem] theorem Try.by26 : bytesP Try.prog 26 = some 24 := by kernel_rfl
@[go_sem] theorem Try.zero26 : zeroP Try.prog 26 = some [.slice .nil []] := by kernel_rfl
@[go_sem] theorem Try.agg26 : aggP Try.prog 26 = some false := by kernel_rfl
@[go_sem] theorem Try.conc26 : concP Try.prog 26 = true := by kernel_rfl
@[go_sem] theorem Try.known26 : knownP Try.prog 26 = true := by kernel_rfl
@[go_sem] theorem Try.sli26 : sliP Try.prog 26 = some 3 := by kernel_rfl
@[go_sem] theorem Try.sz32 : szP Try.prog 32 = some 1 := by kernel_rfl
@[go_sem] theorem Try.by32 : bytesP Try.prog 32 = some 24 := by kernel_rfl
@[go_sem] theorem Try.zero32 : zeroP Try.prog 32 = some [.slice .nil []] := by kernel_rfl
@[go_sem] theorem Try.agg32 : aggP Try.prog 32 = some false := by kernel_rfl
@[go_sem] theorem Try.conc32 : concP Try.prog 32 = true := by kernel_rfl
@[go_sem] theorem Try.known32 : knownP Try.prog 32 = true := by kernel_rfl
@[go_sem] theorem Try.sli32 : sliP Try.prog 32 = some 99 := by kernel_rfl
@[go_sem] theorem Try.sz33 : szP Try.prog 33 = some 1 := by kernel_rfl
@[go_sem] theorem Try.by33 : bytesP Try.prog 33 = some 24 := by kernel_rfl
@[go_sem] theorem Try.zero33 : zeroP Try.prog 33 = some [.slice .nil []] := by kernel_rfl
@[go_sem] theorem Try.agg33 : aggP Try.prog 33 = some false := by kernel_rfl
@[go_sem] theorem Try.conc33 : concP Try.prog 33 = true := by kernel_rfl
@[go_sem] theorem Try.known33 : knownP Try.prog 33 = true := by kernel_rfl
@[go_sem] theorem Try.sli33 : sliP Try.prog 33 = some 43 := by kernel_rfl
@[go_sem] theorem Try.sz34 : szP Try.prog 34 = some 2 := by kernel_rfl
@[go_sem] theorem Try.by34 : bytesP Try.prog 34 = some 48 := by kernel_rfl
@[go_sem] theorem Try.zero34 : zeroP Try.prog 34 = some [.slice .nil [], .slice .nil []] := by kernel_rfl
@[go_sem] theorem Try.agg34 : aggP Try.prog 34 = some true := by kernel_rfl
@[go_sem] theorem Try.conc34 : concP Try.prog 34 = true := by kernel_rfl
@[go_sem] theorem Try.known34 : knownP Try.prog 34 = true := by kernel_rfl
@[go_sem] theorem Try.bld34 : buildP Try.prog 34 = some none := by kernel_rfl
@[go_sem] theorem Try.fld34_0 : fldP Try.prog 34 0 = some (0, 32) := by kernel_rfl
@[go_sem] theorem Try.fld34_1 : fldP Try.prog 34 1 = some (1, 33) := by kernel_rfl
@[go_sem] theorem Try.sz35 : szP Try.prog 35 = some 2 := by kernel_rfl
@[go_sem] theorem Try.by35 : bytesP Try.prog 35 = some 48 := by kernel_rfl
@[go_sem] theorem Try.zero35 : zeroP Try.prog 35 = some [.slice .nil [], .slice .nil []] := by kernel_rfl
@[go_sem] theorem Try.agg35 : aggP Try.prog 35 = some true := by kernel_rfl
@[go_sem] theorem Try.conc35 : concP Try.prog 35 = true := by kernel_rfl
@[go_sem] theorem Try.known35 : knownP Try.prog 35 = true := by kernel_rfl
@[go_sem] theorem Try.bld35 : buildP Try.prog 35 = some none := by kernel_rfl
@[go_sem] theorem Try.fld35_0 : fldP Try.prog 35 0 = some (0, 32) := by kernel_rfl
@[go_sem] theorem Try.fld35_1 : fldP Try.prog 35 1 = some (1, 33) := by kernel_rfl
@[go_sem] theorem Try.sz40 : szP Try.prog 40 = some 1 := by kernel_rfl
@[go_sem] theorem Try.by40 : bytesP Try.prog 40 = some 24 := by kernel_rfl
@[go_sem] theorem Try.zero40 : zeroP Try.prog 40 = some [.slice .nil []] := by kernel_rfl
@[go_sem] theorem Try.agg40 : aggP Try.prog 40 = some false := by kernel_rfl
@[go_sem] theorem Try.conc40 : concP Try.prog 40 = true := by kernel_rfl
@[go_sem] theorem Try.known40 : knownP Try.prog 40 = true := by kernel_rfl
@[go_sem] theorem Try.sli40 : sliP Try.prog 40 = some 102 := by kernel_rfl
@[go_sem] theorem Try.sz41 : szP Try.prog 41 = some 1 := by kernel_rfl
@[go_sem] theorem Try.by41 : bytesP Try.prog 41 = some 24 := by kernel_rfl
@[go_sem] theorem Try.zero41 : zeroP Try.prog 41 = some [.slice .nil []] := by kernel_rfl
@[go_sem] theorem Try.agg41 : aggP Try.prog 41 = some false := by kernel_rfl
@[go_sem] theorem Try.conc41 : concP Try.prog 41 = true := by kernel_rfl
@[go_sem] theorem Try.known41 : knownP Try.prog 41 = true := by kernel_rfl
@[go_sem] theorem Try.sli41 : sliP Try.prog 41 = some 92 := by kernel_rfl
@[go_sem] theorem Try.sz42 : szP Try.prog 42 = some 7 := by kernel_rfl
@[go_sem] theorem Try.by42 : bytesP Try.prog 42 = some 104 := by kernel_rfl
@[go_sem] theorem Try.zero42 : zeroP Try.prog 42 = some [.int .i64 0, .str ByteArray.empty, .str ByteArray.empty, .slice .nil [], .slice .nil [], .int .u8 0, .int .i64 0] := by kernel_rfl
@[go_sem] theorem Try.agg42 : aggP Try.prog 42 = some true := by kernel_rfl
@[go_sem] theorem Try.conc42 : concP Try.prog 42 = true := by kernel_rfl
@[go_sem] theorem Try.known42 : knownP Try.prog 42 = true := by kernel_rfl
@[go_sem] theorem Try.bld42 : buildP Try.prog 42 = some none := by kernel_rfl
@[go_sem] theorem Try.fld42_0 : fldP Try.prog 42 0 = some (0, 3) := by kernel_rfl
@[go_sem] theorem Try.fld42_1 : fldP Try.prog 42 1 = some (1, 9) := by kernel_rfl
@[go_sem] theorem Try.fld42_2 : fldP Try.prog 42 2 = some (2, 9) := by kernel_rfl
@[go_sem] theorem Try.fld42_3 : fldP Try.prog 42 3 = some (3, 40) := by kernel_rfl
@[go_sem] theorem Try.fld42_4 : fldP Try.prog 42 4 = some (4, 41) := by kernel_rfl
@[go_sem] theorem Try.fld42_5 : fldP Try.prog 42 5 = some (5, 23) := by kernel_rfl
@[go_sem] theorem Try.fld42_6 : fldP Try.prog 42 6 = some (6, 3) := by kernel_rfl
@[go_sem] theorem Try.sz43 : szP Try.prog 43 = some 7 := by kernel_rfl
@[go_sem] theorem Try.by43 : bytesP Try.prog 43 = some 104 := by kernel_rfl
@[go_sem] theorem Try.zero43 : zeroP Try.prog 43 = some [.int .i64 0, .str ByteArray.empty, .str ByteArray.empty, .slice .nil [], .slice .nil [], .int .u8 0, .int .i64 0] := by kernel_rfl
@[go_sem] theorem Try.agg43 : aggP Try.prog 43 = some true := by kernel_rfl
@[go_sem] theorem Try.conc43 : concP Try.prog 43 = true := by kernel_rfl
@[go_sem] theorem Try.known43 : knownP Try.prog 43 = true := by kernel_rfl
@[go_sem] theorem Try.bld43 : buildP Try.prog 43 = some none := by kernel_rfl
@[go_sem] theorem Try.fld43_0 : fldP Try.prog 43 0 = some (0, 3) := by kernel_rfl
@[go_sem] theorem Try.fld43_1 : fldP Try.prog 43 1 = some (1, 9) := by kernel_rfl
@[go_sem] theorem Try.fld43_2 : fldP Try.prog 43 2 = some (2, 9) := by kernel_rfl
@[go_sem] theorem Try.fld43_3 : fldP Try.prog 43 3 = some (3, 40) := by kernel_rfl
@[go_sem] theorem Try.fld43_4 : fldP Try.prog 43 4 = some (4, 41) := by kernel_rfl
@[go_sem] theorem Try.fld43_5 : fldP Try.prog 43 5 = some (5, 23) := by kernel_rfl
@[go_sem] theorem Try.fld43_6 : fldP Try.prog 43 6 = some (6, 3) := by kernel_rfl
@[go_sem] theorem Try.sz45 : szP Try.prog 45 = some 1 := by kernel_rfl
@[go_sem] theorem Try.by45 : bytesP Try.prog 45 = some 8 := by kernel_rfl
@[go_sem] theorem Try.zero45 : zeroP Try.prog 45 = some [.int .i64 0] := by kernel_rfl
@[go_sem] theorem Try.agg45 : aggP Try.prog 45 = some false := by kernel_rfl
@[go_sem] theorem Try.conc45 : concP Try.prog 45 = true := by kernel_rfl
@[go_sem] theorem Try.known45 : knownP Try.prog 45 = true := by kernel_rfl
@[go_sem] theorem Try.int45 : intP Try.prog 45 = some .i64 := by kernel_rfl
@[go_sem] theorem Try.sz49 : szP Try.prog 49 = some 1 := by kernel_rfl
@[go_sem] theorem Try.by49 : bytesP Try.prog 49 = some 24 := by kernel_rfl
@[go_sem] theorem Try.zero49 : zeroP Try.prog 49 = some [.slice .nil []] := by kernel_rfl
@[go_sem] theorem Try.agg49 : aggP Try.prog 49 = some false := by kernel_rfl
@[go_sem] theorem Try.conc49 : concP Try.prog 49 = true := by kernel_rfl
@[go_sem] theorem Try.known49 : knownP Try.prog 49 = true := by kernel_rfl
@[go_sem] theorem Try.sli49 : sliP Try.prog 49 = some 25 := by kernel_rfl
@[go_sem] theorem Try.sz52 : szP Try.prog 52 = some 1 := by kernel_rfl
@[go_sem] theorem Try.by52 : bytesP Try.prog 52 = some 24 := by kernel_rfl
@[go_sem] theorem Try.zero52 : zeroP Try.prog 52 = some [.slice .nil []] := by kernel_rfl
@[go_sem] theorem Try.agg52 : aggP Try.prog 52 = some false := by kernel_rfl
@[go_sem] theorem Try.conc52 : concP Try.prog 52 = true := by kernel_rfl
@[go_sem] theorem Try.known52 : knownP Try.prog 52 = true := by kernel_rfl
@[go_sem] theorem Try.sli52 : sliP Try.prog 52 = some 107 := by kernel_rfl
@[go_sem] theorem Try.sz56 : szP Try.prog 56 = some 3 := by kernel_rfl
@[go_sem] theorem Try.by56 : bytesP Try.prog 56 = some 56 := by kernel_rfl
@[go_sem] theorem Try.zero56 : zeroP Try.prog 56 = some [.slice .nil [], .slice .nil [], .int .i64 0] := by kernel_rfl
@[go_sem] theorem Try.agg56 : aggP Try.prog 56 = some true := by kernel_rfl
@[go_sem] theorem Try.conc56 : concP Try.prog 56 = true := by kernel_rfl
@[go_sem] theorem Try.known56 : knownP Try.prog 56 = true := by kernel_rfl
@[go_sem] theorem Try.bld56 : buildP Try.prog 56 = some none := by kernel_rfl
@[go_sem] theorem Try.fld56_0 : fldP Try.prog 56 0 = some (0, 52) := by kernel_rfl
@[go_sem] theorem Try.fld56_1 : fldP Try.prog 56 1 = some (1, 49) := by kernel_rfl
@[go_sem] theorem Try.fld56_2 : fldP Try.prog 56 2 = some (2, 3) := by kernel_rfl
@[go_sem] theorem Try.sz57 : szP Try.prog 57 = some 3 := by kernel_rfl
@[go_sem] theorem Try.by57 : bytesP Try.prog 57 = some 56 := by kernel_rfl
@[go_sem] theorem Try.zero57 : zeroP Try.prog 57 = some [.slice .nil [], .slice .nil [], .int .i64 0] := by kernel_rfl
@[go_sem] theorem Try.agg57 : aggP Try.prog 57 = some true := by kernel_rfl
@[go_sem] theorem Try.conc57 : concP Try.prog 57 = true := by kernel_rfl
@[go_sem] theorem Try.known57 : knownP Try.prog 57 = true := by kernel_rfl
@[go_sem] theorem Try.bld57 : buildP Try.prog 57 = some none := by kernel_rfl
@[go_sem] theorem Try.fld57_0 : fldP Try.prog 57 0 = some (0, 52) := by kernel_rfl
@[go_sem] theorem Try.fld57_1 : fldP Try.prog 57 1 = some (1, 49) := by kernel_rfl
@[go_sem] theorem Try.fld57_2 : fldP Try.prog 57 2 = some (2, 3) := by kernel_rfl
@[go_sem] theorem Try.sz62 : szP Try.prog 62 = some 4 := by kernel_rfl
@[go_sem] theorem Try.by62 : bytesP Try.prog 62 = some 32 := by kernel_rfl
@[go_sem] theorem Try.zero62 : zeroP Try.prog 62 = some [.int .i64 0, .int .u8 0, .int .i64 0, .int .i64 0] := by kernel_rfl
@[go_sem] theorem Try.agg62 : aggP Try.prog 62 = some true := by kernel_rfl
@[go_sem] theorem Try.conc62 : concP Try.prog 62 = true := by kernel_rfl
@[go_sem] theorem Try.known62 : knownP Try.prog 62 = true := by kernel_rfl
@[go_sem] theorem Try.bld62 : buildP Try.prog 62 = some none := by kernel_rfl
@[go_sem] theorem Try.fld62_0 : fldP Try.prog 62 0 = some (0, 3) := by kernel_rfl
@[go_sem] theorem Try.fld62_1 : fldP Try.prog 62 1 = some (1, 5) := by kernel_rfl
@[go_sem] theorem Try.fld62_2 : fldP Try.prog 62 2 = some (2, 3) := by kernel_rfl
@[go_sem] theorem Try.fld62_3 : fldP Try.prog 62 3 = some (3, 3) := by kernel_rfl
@[go_sem] theorem Try.eqg62 : eqGP Try.prog 62 = true := by kernel_rfl
@[go_sem] theorem Try.sz63 : szP Try.prog 63 = some 4 := by kernel_rfl
@[go_sem] theorem Try.by63 : bytesP Try.prog 63 = some 32 := by kernel_rfl
@[go_sem] theorem Try.zero63 : zeroP Try.prog 63 = some [.int .i64 0, .int .u8 0, .int .i64 0, .int .i64 0] := by kernel_rfl
@[go_sem] theorem Try.agg63 : aggP Try.prog 63 = some true := by kernel_rfl
@[go_sem] theorem Try.conc63 : concP Try.prog 63 = true := by kernel_rfl
@[go_sem] theorem Try.known63 : knownP Try.prog 63 = true := by kernel_rfl
@[go_sem] theorem Try.bld63 : buildP Try.prog 63 = some none := by kernel_rfl
@[go_sem] theorem Try.fld63_0 : fldP Try.prog 63 0 = some (0, 3) := by kernel_rfl
@[go_sem] theorem Try.fld63_1 : fldP Try.prog 63 1 = some (1, 5) := by kernel_rfl
@[go_sem] theorem Try.fld63_2 : fldP Try.prog 63 2 = some (2, 3) := by kernel_rfl
@[go_sem] theorem Try.fld63_3 : fldP Try.prog 63 3 = some (3, 3) := by kernel_rfl
@[go_sem] theorem Try.eqg63 : eqGP Try.prog 63 = true := by kernel_rfl
@[go_sem] theorem Try.sz69 : szP Try.prog 69 = some 24 := by kernel_rfl
@[go_sem] theorem Try.by69 : bytesP Try.prog 69 = some 24 := by kernel_rfl
@[go_sem] theorem Try.zero69 : zeroP Try.prog 69 = some [.int .u8 0, .int .u8 0, .int .u8 0, .int .u8 0, .int .u8 0, .int .u8 0, .int .u8 0, .int .u8 0, .int .u8 0, .int .u8 0, .int .u8 0, .int .u8 0, .int .u8 0, .int .u8 0, .int .u8 0, .int .u8 0, .int .u8 0, .int .u8 0, .int .u8 0, .int .u8 0, .int .u8 0, .int .u8 0, .int .u8 0, .int .u8 0] := by kernel_rfl
@[go_sem] theorem Try.agg69 : aggP Try.prog 69 = some true := by kernel_rfl
@[go_sem] theorem Try.conc69 : concP Try.prog 69 = true := by kernel_rfl
@[go_sem] theorem Try.known69 : knownP Try.prog 69 = true := by kernel_rfl
@[go_sem] theorem Try.arr69 : arrP Try.prog 69 = some (24, 23) := by kernel_rfl
@[go_sem] theorem Try.bld69 : buildP Try.prog 69 = some (some (23, 1)) := by kernel_rfl
@[go_sem] theorem Try.eqg69 : eqGP Try.prog 69 = true := by kernel_rfl
@[go_sem] theorem Try.sz70 : szP Try.prog 70 = some 26 := by kernel_rfl
@[go_sem] theorem Try.by70 : bytesP Try.prog 70 = some 40 := by kernel_rfl
@[go_sem] theorem Try.zero70 : zeroP Try.prog 70 = some [.int .i64 0, .int .i64 0, .int .u8 0, .int .u8 0, .int .u8 0, .int .u8 0, .int .u8 0, .int .u8 0, .int .u8 0, .int .u8 0, .int .u8 0, .int .u8 0, .int .u8 0, .int .u8 0, .int .u8 0, .int .u8 0, .int .u8 0, .int .u8 0, .int .u8 0, .int .u8 0, .int .u8 0, .int .u8 0, .int .u8 0, .int .u8 0, .int .u8 0, .int .u8 0] := by kernel_rfl
@[go_sem] theorem Try.agg70 : aggP Try.prog 70 = some true := by kernel_rfl
@[go_sem] theorem Try.conc70 : concP Try.prog 70 = true := by kernel_rfl
@[go_sem] theorem Try.known70 : knownP Try.prog 70 = true := by kernel_rfl
@[go_sem] theorem Try.bld70 : buildP Try.prog 70 = some none := by kernel_rfl
@[go_sem] theorem Try.fld70_0 : fldP Try.prog 70 0 = some (0, 3) := by kernel_rfl
@[go_sem] theorem Try.fld70_1 : fldP Try.prog 70 1 = some (1, 3) := by kernel_rfl
@[go_sem] theorem Try.fld70_2 : fldP Try.prog 70 2 = some (2, 69) := by kernel_rfl
@[go_sem] theorem Try.eqg70 : eqGP Try.prog 70 = true := by kernel_rfl
@[go_sem] theorem Try.sz71 : szP Try.prog 71 = some 26 := by kernel_rfl
@[go_sem] theorem Try.by71 : bytesP Try.prog 71 = some 40 := by kernel_rfl
@[go_sem] theorem Try.zero71 : zeroP Try.prog 71 = some [.int .i64 0, .int .i64 0, .int .u8 0, .int .u8 0, .int .u8 0, .int .u8 0, .int .u8 0, .int .u8 0, .int .u8 0, .int .u8 0, .int .u8 0, .int .u8 0, .int .u8 0, .int .u8 0, .int .u8 0, .int .u8 0, .int .u8 0, .int .u8 0, .int .u8 0, .int .u8 0, .int .u8 0, .int .u8 0, .int .u8 0, .int .u8 0, .int .u8 0, .int .u8 0] := by kernel_rfl
@[go_sem] theorem Try.agg71 : aggP Try.prog 71 = some true := by kernel_rfl
@[go_sem] theorem Try.conc71 : concP Try.prog 71 = true := by kernel_rfl
@[go_sem] theorem Try.known71 : knownP Try.prog 71 = true := by kernel_rfl
@[go_sem] theorem Try.bld71 : buildP Try.prog 71 = some none := by kernel_rfl
@[go_sem] theorem Try.fld71_0 : fldP Try.prog 71 0 = some (0, 3) := by kernel_rfl
@[go_sem] theorem Try.fld71_1 : fldP Try.prog 71 1 = some (1, 3) := by kernel_rfl
@[go_sem] theorem Try.fld71_2 : fldP Try.prog 71 2 = some (2, 69) := by kernel_rfl
@[go_sem] theorem Try.eqg71 : eqGP Try.prog 71 = true := by kernel_rfl
@[go_sem] theorem Try.sz78 : szP Try.prog 78 = some 1 := by kernel_rfl
@[go_sem] theorem Try.by78 : bytesP Try.prog 78 = some 24 := by kernel_rfl
@[go_sem] theorem Try.zero78 : zeroP Try.prog 78 = some [.slice .nil []] := by kernel_rfl
@[go_sem] theorem Try.agg78 : aggP Try.prog 78 = some false := by kernel_rfl
@[go_sem] theorem Try.conc78 : concP Try.prog 78 = true := by kernel_rfl
@[go_sem] theorem Try.known78 : knownP Try.prog 78 = true := by kernel_rfl
@[go_sem] theorem Try.sli78 : sliP Try.prog 78 = some 63 := by kernel_rfl
@[go_sem] theorem Try.sz90 : szP Try.prog 90 = some 1 := by kernel_rfl
@[go_sem] theorem Try.by90 : bytesP Try.prog 90 = some 24 := by kernel_rfl
@[go_sem] theorem Try.zero90 : zeroP Try.prog 90 = some [.slice .nil []] := by kernel_rfl
@[go_sem] theorem Try.agg90 : aggP Try.prog 90 = some false := by kernel_rfl
@[go_sem] theorem Try.conc90 : concP Try.prog 90 = true := by kernel_rfl
@[go_sem] theorem Try.known90 : knownP Try.prog 90 = true := by kernel_rfl
@[go_sem] theorem Try.sli90 : sliP Try.prog 90 = some 160 := by kernel_rfl
@[go_sem] theorem Try.sz91 : szP Try.prog 91 = some 10 := by kernel_rfl
@[go_sem] theorem Try.by91 : bytesP Try.prog 91 = some 144 := by kernel_rfl
@[go_sem] theorem Try.zero91 : zeroP Try.prog 91 = some [.int .i64 0, .int .i64 0, .str ByteArray.empty, .str ByteArray.empty, .int .i64 0, .slice .nil [], .slice .nil [], .slice .nil [], .int .u8 0, .int .i64 0] := by kernel_rfl
@[go_sem] theorem Try.agg91 : aggP Try.prog 91 = some true := by kernel_rfl
@[go_sem] theorem Try.conc91 : concP Try.prog 91 = true := by kernel_rfl
@[go_sem] theorem Try.known91 : knownP Try.prog 91 = true := by kernel_rfl
@[go_sem] theorem Try.bld91 : buildP Try.prog 91 = some none := by kernel_rfl
@[go_sem] theorem Try.fld91_0 : fldP Try.prog 91 0 = some (0, 3) := by kernel_rfl
@[go_sem] theorem Try.fld91_1 : fldP Try.prog 91 1 = some (1, 3) := by kernel_rfl
@[go_sem] theorem Try.fld91_2 : fldP Try.prog 91 2 = some (2, 9) := by kernel_rfl
@[go_sem] theorem Try.fld91_3 : fldP Try.prog 91 3 = some (3, 9) := by kernel_rfl
@[go_sem] theorem Try.fld91_4 : fldP Try.prog 91 4 = some (4, 3) := by kernel_rfl
@[go_sem] theorem Try.fld91_5 : fldP Try.prog 91 5 = some (5, 90) := by kernel_rfl
@[go_sem] theorem Try.fld91_6 : fldP Try.prog 91 6 = some (6, 41) := by kernel_rfl
@[go_sem] theorem Try.fld91_7 : fldP Try.prog 91 7 = some (7, 41) := by kernel_rfl
@[go_sem] theorem Try.fld91_8 : fldP Try.prog 91 8 = some (8, 23) := by kernel_rfl
@[go_sem] theorem Try.fld91_9 : fldP Try.prog 91 9 = some (9, 3) := by kernel_rfl
@[go_sem] theorem Try.sz92 : szP Try.prog 92 = some 10 := by kernel_rfl
@[go_sem] theorem Try.by92 : bytesP Try.prog 92 = some 144 := by kernel_rfl
@[go_sem] theorem Try.zero92 : zeroP Try.prog 92 = some [.int .i64 0, .int .i64 0, .str ByteArray.empty, .str ByteArray.empty, .int .i64 0, .slice .nil [], .slice .nil [], .slice .nil [], .int .u8 0, .int .i64 0] := by kernel_rfl
@[go_sem] theorem Try.agg92 : aggP Try.prog 92 = some true := by kernel_rfl
@[go_sem] theorem Try.conc92 : concP Try.prog 92 = true := by kernel_rfl
@[go_sem] theorem Try.known92 : knownP Try.prog 92 = true := by kernel_rfl
@[go_sem] theorem Try.bld92 : buildP Try.prog 92 = some none := by kernel_rfl
@[go_sem] theorem Try.fld92_0 : fldP Try.prog 92 0 = some (0, 3) := by kernel_rfl
@[go_sem] theorem Try.fld92_1 : fldP Try.prog 92 1 = some (1, 3) := by kernel_rfl
@[go_sem] theorem Try.fld92_2 : fldP Try.prog 92 2 = some (2, 9) := by kernel_rfl
@[go_sem] theorem Try.fld92_3 : fldP Try.prog 92 3 = some (3, 9) := by kernel_rfl
@[go_sem] theorem Try.fld92_4 : fldP Try.prog 92 4 = some (4, 3) := by kernel_rfl
@[go_sem] theorem Try.fld92_5 : fldP Try.prog 92 5 = some (5, 90) := by kernel_rfl
@[go_sem] theorem Try.fld92_6 : fldP Try.prog 92 6 = some (6, 41) := by kernel_rfl
@[go_sem] theorem Try.fld92_7 : fldP Try.prog 92 7 = some (7, 41) := by kernel_rfl
@[go_sem] theorem Try.fld92_8 : fldP Try.prog 92 8 = some (8, 23) := by kernel_rfl
@[go_sem] theorem Try.fld92_9 : fldP Try.prog 92 9 = some (9, 3) := by kernel_rfl
@[go_sem] theorem Try.sz93 : szP Try.prog 93 = some 2 := by kernel_rfl
@[go_sem] theorem Try.by93 : bytesP Try.prog 93 = some 16 := by kernel_rfl
@[go_sem] theorem Try.zero93 : zeroP Try.prog 93 = some [.int .i64 0, .int .i64 0] := by kernel_rfl
@[go_sem] theorem Try.agg93 : aggP Try.prog 93 = some true := by kernel_rfl
@[go_sem] theorem Try.conc93 : concP Try.prog 93 = true := by kernel_rfl
@[go_sem] theorem Try.known93 : knownP Try.prog 93 = true := by kernel_rfl
@[go_sem] theorem Try.bld93 : buildP Try.prog 93 = some none := by kernel_rfl
@[go_sem] theorem Try.fld93_0 : fldP Try.prog 93 0 = some (0, 3) := by kernel_rfl
@[go_sem] theorem Try.fld93_1 : fldP Try.prog 93 1 = some (1, 45) := by kernel_rfl
@[go_sem] theorem Try.eqg93 : eqGP Try.prog 93 = true := by kernel_rfl
@[go_sem] theorem Try.sz94 : szP Try.prog 94 = some 2 := by kernel_rfl
@[go_sem] theorem Try.by94 : bytesP Try.prog 94 = some 16 := by kernel_rfl
@[go_sem] theorem Try.zero94 : zeroP Try.prog 94 = some [.int .i64 0, .int .i64 0] := by kernel_rfl
@[go_sem] theorem Try.agg94 : aggP Try.prog 94 = some true := by kernel_rfl
@[go_sem] theorem Try.conc94 : concP Try.prog 94 = true := by kernel_rfl
@[go_sem] theorem Try.known94 : knownP Try.prog 94 = true := by kernel_rfl
@[go_sem] theorem Try.bld94 : buildP Try.prog 94 = some none := by kernel_rfl
@[go_sem] theorem Try.fld94_0 : fldP Try.prog 94 0 = some (0, 3) := by kernel_rfl
@[go_sem] theorem Try.fld94_1 : fldP Try.prog 94 1 = some (1, 45) := by kernel_rfl
@[go_sem] theorem Try.eqg94 : eqGP Try.prog 94 = true := by kernel_rfl
@[go_sem] theorem Try.sz98 : szP Try.prog 98 = some 4 := by kernel_rfl
@[go_sem] theorem Try.by98 : bytesP Try.prog 98 = some 64 := by kernel_rfl
@[go_sem] theorem Try.zero98 : zeroP Try.prog 98 = some [.int .i64 0, .str ByteArray.empty, .str ByteArray.empty, .slice .nil []] := by kernel_rfl
@[go_sem] theorem Try.agg98 : aggP Try.prog 98 = some true := by kernel_rfl
@[go_sem] theorem Try.conc98 : concP Try.prog 98 = true := by kernel_rfl
@[go_sem] theorem Try.known98 : knownP Try.prog 98 = true := by kernel_rfl
@[go_sem] theorem Try.bld98 : buildP Try.prog 98 = some none := by kernel_rfl
@[go_sem] theorem Try.fld98_0 : fldP Try.prog 98 0 = some (0, 3) := by kernel_rfl
@[go_sem] theorem Try.fld98_1 : fldP Try.prog 98 1 = some (1, 9) := by kernel_rfl
@[go_sem] theorem Try.fld98_2 : fldP Try.prog 98 2 = some (2, 9) := by kernel_rfl
@[go_sem] theorem Try.fld98_3 : fldP Try.prog 98 3 = some (3, 40) := by kernel_rfl
@[go_sem] theorem Try.sz99 : szP Try.prog 99 = some 4 := by kernel_rfl
@[go_sem] theorem Try.by99 : bytesP Try.prog 99 = some 64 := by kernel_rfl
@[go_sem] theorem Try.zero99 : zeroP Try.prog 99 = some [.int .i64 0, .str ByteArray.empty, .str ByteArray.empty, .slice .nil []] := by kernel_rfl
@[go_sem] theorem Try.agg99 : aggP Try.prog 99 = some true := by kernel_rfl
@[go_sem] theorem Try.conc99 : concP Try.prog 99 = true := by kernel_rfl
@[go_sem] theorem Try.known99 : knownP Try.prog 99 = true := by kernel_rfl
@[go_sem] theorem Try.bld99 : buildP Try.prog 99 = some none := by kernel_rfl
@[go_sem] theorem Try.fld99_0 : fldP Try.prog 99 0 = some (0, 3) := by kernel_rfl
@[go_sem] theorem Try.fld99_1 : fldP Try.prog 99 1 = some (1, 9) := by kernel_rfl
@[go_sem] theorem Try.fld99_2 : fldP Try.prog 99 2 = some (2, 9) := by kernel_rfl
@[go_sem] theorem Try.fld99_3 : fldP Try.prog 99 3 = some (3, 40) := by kernel_rfl
@[go_sem] theorem Try.sz101 : szP Try.prog 101 = some 4 := by kernel_rfl
@[go_sem] theorem Try.by101 : bytesP Try.prog 101 = some 48 := by kernel_rfl
@[go_sem] theorem Try.zero101 : zeroP Try.prog 101 = some [.int .i64 0, .str ByteArray.empty, .str ByteArray.empty, .int .u8 0] := by kernel_rfl
@[go_sem] theorem Try.agg101 : aggP Try.prog 101 = some true := by kernel_rfl
@[go_sem] theorem Try.conc101 : concP Try.prog 101 = true := by kernel_rfl
@[go_sem] theorem Try.known101 : knownP Try.prog 101 = true := by kernel_rfl
@[go_sem] theorem Try.bld101 : buildP Try.prog 101 = some none := by kernel_rfl
@[go_sem] theorem Try.fld101_0 : fldP Try.prog 101 0 = some (0, 3) := by kernel_rfl
@[go_sem] theorem Try.fld101_1 : fldP Try.prog 101 1 = some (1, 9) := by kernel_rfl
@[go_sem] theorem Try.fld101_2 : fldP Try.prog 101 2 = some (2, 9) := by kernel_rfl
@[go_sem] theorem Try.fld101_3 : fldP Try.prog 101 3 = some (3, 23) := by kernel_rfl
@[go_sem] theorem Try.eqg101 : eqGP Try.prog 101 = true := by kernel_rfl
@[go_sem] theorem Try.sz102 : szP Try.prog 102 = some 4 := by kernel_rfl
@[go_sem] theorem Try.by102 : bytesP Try.prog 102 = some 48 := by kernel_rfl
@[go_sem] theorem Try.zero102 : zeroP Try.prog 102 = some [.int .i64 0, .str ByteArray.empty, .str ByteArray.empty, .int .u8 0] := by kernel_rfl
@[go_sem] theorem Try.agg102 : aggP Try.prog 102 = some true := by kernel_rfl
@[go_sem] theorem Try.conc102 : concP Try.prog 102 = true := by kernel_rfl
@[go_sem] theorem Try.known102 : knownP Try.prog 102 = true := by kernel_rfl
@[go_sem] theorem Try.bld102 : buildP Try.prog 102 = some none := by kernel_rfl
@[go_sem] theorem Try.fld102_0 : fldP Try.prog 102 0 = some (0, 3) := by kernel_rfl
@[go_sem] theorem Try.fld102_1 : fldP Try.prog 102 1 = some (1, 9) := by kernel_rfl
@[go_sem] theorem Try.fld102_2 : fldP Try.prog 102 2 = some (2, 9) := by kernel_rfl
@[go_sem] theorem Try.fld102_3 : fldP Try.prog 102 3 = some (3, 23) := by kernel_rfl
@[go_sem] theorem Try.eqg102 : eqGP Try.prog 102 = true := by kernel_rfl
@[go_sem] theorem Try.sz105 : szP Try.prog 105 = some 1 := by kernel_rfl
@[go_sem] theorem Try.by105 : bytesP Try.prog 105 = some 24 := by kernel_rfl
@[go_sem] theorem Try.zero105 : zeroP Try.prog 105 = some [.slice .nil []] := by kernel_rfl
@[go_sem] theorem Try.agg105 : aggP Try.prog 105 = some false := by kernel_rfl
@[go_sem] theorem Try.conc105 : concP Try.prog 105 = true := by kernel_rfl
@[go_sem] theorem Try.known105 : knownP Try.prog 105 = true := by kernel_rfl
@[go_sem] theorem Try.sli105 : sliP Try.prog 105 = some 110 := by kernel_rfl
@[go_sem] theorem Try.sz106 : szP Try.prog 106 = some 3 := by kernel_rfl
@[go_sem] theorem Try.by106 : bytesP Try.prog 106 = some 48 := by kernel_rfl
@[go_sem] theorem Try.zero106 : zeroP Try.prog 106 = some [.str ByteArray.empty, .int .i64 0, .slice .nil []] := by kernel_rfl
@[go_sem] theorem Try.agg106 : aggP Try.prog 106 = some true := by kernel_rfl
@[go_sem] theorem Try.conc106 : concP Try.prog 106 = true := by kernel_rfl
@[go_sem] theorem Try.known106 : knownP Try.prog 106 = true := by kernel_rfl
@[go_sem] theorem Try.bld106 : buildP Try.prog 106 = some none := by kernel_rfl
@[go_sem] theorem Try.fld106_0 : fldP Try.prog 106 0 = some (0, 9) := by kernel_rfl
@[go_sem] theorem Try.fld106_1 : fldP Try.prog 106 1 = some (1, 3) := by kernel_rfl
@[go_sem] theorem Try.fld106_2 : fldP Try.prog 106 2 = some (2, 105) := by kernel_rfl
@[go_sem] theorem Try.sz107 : szP Try.prog 107 = some 3 := by kernel_rfl
@[go_sem] theorem Try.by107 : bytesP Try.prog 107 = some 48 := by kernel_rfl
@[go_sem] theorem Try.zero107 : zeroP Try.prog 107 = some [.str ByteArray.empty, .int .i64 0, .slice .nil []] := by kernel_rfl
@[go_sem] theorem Try.agg107 : aggP Try.prog 107 = some true := by kernel_rfl
@[go_sem] theorem Try.conc107 : concP Try.prog 107 = true := by kernel_rfl
@[go_sem] theorem Try.known107 : knownP Try.prog 107 = true := by kernel_rfl
@[go_sem] theorem Try.bld107 : buildP Try.prog 107 = some none := by kernel_rfl
@[go_sem] theorem Try.fld107_0 : fldP Try.prog 107 0 = some (0, 9) := by kernel_rfl
@[go_sem] theorem Try.fld107_1 : fldP Try.prog 107 1 = some (1, 3) := by kernel_rfl
@[go_sem] theorem Try.fld107_2 : fldP Try.prog 107 2 = some (2, 105) := by kernel_rfl
@[go_sem] theorem Try.sz109 : szP Try.prog 109 = some 2 := by kernel_rfl
@[go_sem] theorem Try.by109 : bytesP Try.prog 109 = some 24 := by kernel_rfl
@[go_sem] theorem Try.zero109 : zeroP Try.prog 109 = some [.str ByteArray.empty, .int .u8 0] := by kernel_rfl
@[go_sem] theorem Try.agg109 : aggP Try.prog 109 = some true := by kernel_rfl
@[go_sem] theorem Try.conc109 : concP Try.prog 109 = true := by kernel_rfl
@[go_sem] theorem Try.known109 : knownP Try.prog 109 = true := by kernel_rfl
@[go_sem] theorem Try.bld109 : buildP Try.prog 109 = some none := by kernel_rfl
@[go_sem] theorem Try.fld109_0 : fldP Try.prog 109 0 = some (0, 9) := by kernel_rfl
@[go_sem] theorem Try.fld109_1 : fldP Try.prog 109 1 = some (1, 23) := by kernel_rfl
@[go_sem] theorem Try.eqg109 : eqGP Try.prog 109 = true := by kernel_rfl
@[go_sem] theorem Try.sz110 : szP Try.prog 110 = some 2 := by kernel_rfl
@[go_sem] theorem Try.by110 : bytesP Try.prog 110 = some 24 := by kernel_rfl
@[go_sem] theorem Try.zero110 : zeroP Try.prog 110 = some [.str ByteArray.empty, .int .u8 0] := by kernel_rfl
@[go_sem] theorem Try.agg110 : aggP Try.prog 110 = some true := by kernel_rfl
@[go_sem] theorem Try.conc110 : concP Try.prog 110 = true := by kernel_rfl
@[go_sem] theorem Try.known110 : knownP Try.prog 110 = true := by kernel_rfl
@[go_sem] theorem Try.bld110 : buildP Try.prog 110 = some none := by kernel_rfl
@[go_sem] theorem Try.fld110_0 : fldP Try.prog 110 0 = some (0, 9) := by kernel_rfl
@[go_sem] theorem Try.fld110_1 : fldP Try.prog 110 1 = some (1, 23) := by kernel_rfl
@[go_sem] theorem Try.eqg110 : eqGP Try.prog 110 = true := by kernel_rfl
@[go_sem] theorem Try.sz128 : szP Try.prog 128 = some 1 := by kernel_rfl
@[go_sem] theorem Try.by128 : bytesP Try.prog 128 = some 24 := by kernel_rfl
@[go_sem] theorem Try.zero128 : zeroP Try.prog 128 = some [.slice .nil []] := by kernel_rfl
@[go_sem] theorem Try.agg128 : aggP Try.prog 128 = some false := by kernel_rfl
@[go_sem] theorem Try.conc128 : concP Try.prog 128 = true := by kernel_rfl
@[go_sem] theorem Try.known128 : knownP Try.prog 128 = true := by kernel_rfl
@[go_sem] theorem Try.sli128 : sliP Try.prog 128 = some 188 := by kernel_rfl
@[go_sem] theorem Try.sz129 : szP Try.prog 129 = some 2 := by kernel_rfl
@[go_sem] theorem Try.by129 : bytesP Try.prog 129 = some 32 := by kernel_rfl
@[go_sem] theorem Try.zero129 : zeroP Try.prog 129 = some [.slice .nil [], .nilfunc] := by kernel_rfl
@[go_sem] theorem Try.agg129 : aggP Try.prog 129 = some true := by kernel_rfl
@[go_sem] theorem Try.conc129 : concP Try.prog 129 = true := by kernel_rfl
@[go_sem] theorem Try.known129 : knownP Try.prog 129 = true := by kernel_rfl
@[go_sem] theorem Try.bld129 : buildP Try.prog 129 = some none := by kernel_rfl
@[go_sem] theorem Try.fld129_0 : fldP Try.prog 129 0 = some (0, 128) := by kernel_rfl
@[go_sem] theorem Try.fld129_1 : fldP Try.prog 129 1 = some (1, 85) := by kernel_rfl
@[go_sem] theorem Try.sz130 : szP Try.prog 130 = some 2 := by kernel_rfl
@[go_sem] theorem Try.by130 : bytesP Try.prog 130 = some 32 := by kernel_rfl
@[go_sem] theorem Try.zero130 : zeroP Try.prog 130 = some [.slice .nil [], .nilfunc] := by kernel_rfl
@[go_sem] theorem Try.agg130 : aggP Try.prog 130 = some true := by kernel_rfl
@[go_sem] theorem Try.conc130 : concP Try.prog 130 = true := by kernel_rfl
@[go_sem] theorem Try.known130 : knownP Try.prog 130 = true := by kernel_rfl
@[go_sem] theorem Try.bld130 : buildP Try.prog 130 = some none := by kernel_rfl
@[go_sem] theorem Try.fld130_0 : fldP Try.prog 130 0 = some (0, 128) := by kernel_rfl
@[go_sem] theorem Try.fld130_1 : fldP Try.prog 130 1 = some (1, 85) := by kernel_rfl
@[go_sem] theorem Try.sz139 : szP Try.prog 139 = some 1 := by kernel_rfl
@[go_sem] theorem Try.by139 : bytesP Try.prog 139 = some 24 := by kernel_rfl
@[go_sem] theorem Try.zero139 : zeroP Try.prog 139 = some [.slice .nil []] := by kernel_rfl
@[go_sem] theorem Try.agg139 : aggP Try.prog 139 = some false := by kernel_rfl
@[go_sem] theorem Try.conc139 : concP Try.prog 139 = true := by kernel_rfl
@[go_sem] theorem Try.known139 : knownP Try.prog 139 = true := by kernel_rfl
@[go_sem] theorem Try.sli139 : sliP Try.prog 139 = some 78 := by kernel_rfl
@[go_sem] theorem Try.sz141 : szP Try.prog 141 = some 1 := by kernel_rfl
@[go_sem] theorem Try.by141 : bytesP Try.prog 141 = some 24 := by kernel_rfl
@[go_sem] theorem Try.zero141 : zeroP Try.prog 141 = some [.slice .nil []] := by kernel_rfl
@[go_sem] theorem Try.agg141 : aggP Try.prog 141 = some false := by kernel_rfl
@[go_sem] theorem Try.conc141 : concP Try.prog 141 = true := by kernel_rfl
@[go_sem] theorem Try.known141 : knownP Try.prog 141 = true := by kernel_rfl
@[go_sem] theorem Try.sli141 : sliP Try.prog 141 = some 192 := by kernel_rfl
@[go_sem] theorem Try.sz144 : szP Try.prog 144 = some 1 := by kernel_rfl
@[go_sem] theorem Try.by144 : bytesP Try.prog 144 = some 8 := by kernel_rfl
@[go_sem] theorem Try.zero144 : zeroP Try.prog 144 = some [.nilptr] := by kernel_rfl
@[go_sem] theorem Try.agg144 : aggP Try.prog 144 = some false := by kernel_rfl
@[go_sem] theorem Try.conc144 : concP Try.prog 144 = true := by kernel_rfl
@[go_sem] theorem Try.known144 : knownP Try.prog 144 = true := by kernel_rfl
@[go_sem] theorem Try.sz145 : szP Try.prog 145 = some 5 := by kernel_rfl
@[go_sem] theorem Try.by145 : bytesP Try.prog 145 = some 56 := by kernel_rfl
@[go_sem] theorem Try.zero145 : zeroP Try.prog 145 = some [.slice .nil [], .int .i64 0, .int .i64 0, .int .i64 0, .int .i64 0] := by kernel_rfl
@[go_sem] theorem Try.agg145 : aggP Try.prog 145 = some true := by kernel_rfl
@[go_sem] theorem Try.conc145 : concP Try.prog 145 = true := by kernel_rfl
@[go_sem] theorem Try.known145 : knownP Try.prog 145 = true := by kernel_rfl
@[go_sem] theorem Try.bld145 : buildP Try.prog 145 = some none := by kernel_rfl
@[go_sem] theorem Try.fld145_0 : fldP Try.prog 145 0 = some (0, 141) := by kernel_rfl
@[go_sem] theorem Try.fld145_1 : fldP Try.prog 145 1 = some (1, 3) := by kernel_rfl
@[go_sem] theorem Try.fld145_2 : fldP Try.prog 145 2 = some (2, 3) := by kernel_rfl
@[go_sem] theorem Try.fld145_3 : fldP Try.prog 145 3 = some (3, 45) := by kernel_rfl
@[go_sem] theorem Try.fld145_4 : fldP Try.prog 145 4 = some (4, 3) := by kernel_rfl
@[go_sem] theorem Try.sz146 : szP Try.prog 146 = some 5 := by kernel_rfl
@[go_sem] theorem Try.by146 : bytesP Try.prog 146 = some 56 := by kernel_rfl
@[go_sem] theorem Try.zero146 : zeroP Try.prog 146 = some [.slice .nil [], .int .i64 0, .int .i64 0, .int .i64 0, .int .i64 0] := by kernel_rfl
@[go_sem] theorem Try.agg146 : aggP Try.prog 146 = some true := by kernel_rfl
@[go_sem] theorem Try.conc146 : concP Try.prog 146 = true := by kernel_rfl
@[go_sem] theorem Try.known146 : knownP Try.prog 146 = true := by kernel_rfl
@[go_sem] theorem Try.bld146 : buildP Try.prog 146 = some none := by kernel_rfl
@[go_sem] theorem Try.fld146_0 : fldP Try.prog 146 0 = some (0, 141) := by kernel_rfl
@[go_sem] theorem Try.fld146_1 : fldP Try.prog 146 1 = some (1, 3) := by kernel_rfl
@[go_sem] theorem Try.fld146_2 : fldP Try.prog 146 2 = some (2, 3) := by kernel_rfl
@[go_sem] theorem Try.fld146_3 : fldP Try.prog 146 3 = some (3, 45) := by kernel_rfl
@[go_sem] theorem Try.fld146_4 : fldP Try.prog 146 4 = some (4, 3) := by kernel_rfl
@[go_sem] theorem Try.sz151 : szP Try.prog 151 = some 1 := by kernel_rfl
@[go_sem] theorem Try.by151 : bytesP Try.prog 151 = some 8 := by kernel_rfl
@[go_sem] theorem Try.zero151 : zeroP Try.prog 151 = some [.nilptr] := by kernel_rfl
@[go_sem] theorem Try.agg151 : aggP Try.prog 151 = some false := by kernel_rfl
@[go_sem] theorem Try.conc151 : concP Try.prog 151 = true := by kernel_rfl
@[go_sem] theorem Try.known151 : knownP Try.prog 151 = true := by kernel_rfl
@[go_sem] theorem Try.sz152 : szP Try.prog 152 = some 1 := by kernel_rfl
@[go_sem] theorem Try.by152 : bytesP Try.prog 152 = some 24 := by kernel_rfl
@[go_sem] theorem Try.zero152 : zeroP Try.prog 152 = some [.slice .nil []] := by kernel_rfl
@[go_sem] theorem Try.agg152 : aggP Try.prog 152 = some false := by kernel_rfl
@[go_sem] theorem Try.conc152 : concP Try.prog 152 = true := by kernel_rfl
@[go_sem] theorem Try.known152 : knownP Try.prog 152 = true := by kernel_rfl
@[go_sem] theorem Try.sli152 : sliP Try.prog 152 = some 156 := by kernel_rfl
@[go_sem] theorem Try.sz153 : szP Try.prog 153 = some 8 := by kernel_rfl
@[go_sem] theorem Try.by153 : bytesP Try.prog 153 = some 136 := by kernel_rfl
@[go_sem] theorem Try.zero153 : zeroP Try.prog 153 = some [.slice .nil [], .slice .nil [], .slice .nil [], .slice .nil [], .int .u8 0, .bool false, .slice .nil [], .int .i64 0] := by kernel_rfl
@[go_sem] theorem Try.agg153 : aggP Try.prog 153 = some true := by kernel_rfl
@[go_sem] theorem Try.conc153 : concP Try.prog 153 = true := by kernel_rfl
@[go_sem] theorem Try.known153 : knownP Try.prog 153 = true := by kernel_rfl
@[go_sem] theorem Try.bld153 : buildP Try.prog 153 = some none := by kernel_rfl
@[go_sem] theorem Try.fld153_0 : fldP Try.prog 153 0 = some (0, 35) := by kernel_rfl
@[go_sem] theorem Try.fld153_1 : fldP Try.prog 153 1 = some (2, 52) := by kernel_rfl
@[go_sem] theorem Try.fld153_2 : fldP Try.prog 153 2 = some (3, 49) := by kernel_rfl
@[go_sem] theorem Try.fld153_3 : fldP Try.prog 153 3 = some (4, 23) := by kernel_rfl
@[go_sem] theorem Try.fld153_4 : fldP Try.prog 153 4 = some (5, 4) := by kernel_rfl
@[go_sem] theorem Try.fld153_5 : fldP Try.prog 153 5 = some (6, 152) := by kernel_rfl
@[go_sem] theorem Try.fld153_6 : fldP Try.prog 153 6 = some (7, 3) := by kernel_rfl
@[go_sem] theorem Try.sz154 : szP Try.prog 154 = some 8 := by kernel_rfl
@[go_sem] theorem Try.by154 : bytesP Try.prog 154 = some 136 := by kernel_rfl
@[go_sem] theorem Try.zero154 : zeroP Try.prog 154 = some [.slice .nil [], .slice .nil [], .slice .nil [], .slice .nil [], .int .u8 0, .bool false, .slice .nil [], .int .i64 0] := by kernel_rfl
@[go_sem] theorem Try.agg154 : aggP Try.prog 154 = some true := by kernel_rfl
@[go_sem] theorem Try.conc154 : concP Try.prog 154 = true := by kernel_rfl
@[go_sem] theorem Try.known154 : knownP Try.prog 154 = true := by kernel_rfl
@[go_sem] theorem Try.bld154 : buildP Try.prog 154 = some none := by kernel_rfl
@[go_sem] theorem Try.fld154_0 : fldP Try.prog 154 0 = some (0, 35) := by kernel_rfl
@[go_sem] theorem Try.fld154_1 : fldP Try.prog 154 1 = some (2, 52) := by kernel_rfl
@[go_sem] theorem Try.fld154_2 : fldP Try.prog 154 2 = some (3, 49) := by kernel_rfl
@[go_sem] theorem Try.fld154_3 : fldP Try.prog 154 3 = some (4, 23) := by kernel_rfl
@[go_sem] theorem Try.fld154_4 : fldP Try.prog 154 4 = some (5, 4) := by kernel_rfl
@[go_sem] theorem Try.fld154_5 : fldP Try.prog 154 5 = some (6, 152) := by kernel_rfl
@[go_sem] theorem Try.fld154_6 : fldP Try.prog 154 6 = some (7, 3) := by kernel_rfl
@[go_sem] theorem Try.sz155 : szP Try.prog 155 = some 3 := by kernel_rfl
@[go_sem] theorem Try.by155 : bytesP Try.prog 155 = some 32 := by kernel_rfl
@[go_sem] theorem Try.zero155 : zeroP Try.prog 155 = some [.str ByteArray.empty, .int .u8 0, .int .i64 0] := by kernel_rfl
@[go_sem] theorem Try.agg155 : aggP Try.prog 155 = some true := by kernel_rfl
@[go_sem] theorem Try.conc155 : concP Try.prog 155 = true := by kernel_rfl
@[go_sem] theorem Try.known155 : knownP Try.prog 155 = true := by kernel_rfl
@[go_sem] theorem Try.bld155 : buildP Try.prog 155 = some none := by kernel_rfl
@[go_sem] theorem Try.fld155_0 : fldP Try.prog 155 0 = some (0, 9) := by kernel_rfl
@[go_sem] theorem Try.fld155_1 : fldP Try.prog 155 1 = some (1, 23) := by kernel_rfl
@[go_sem] theorem Try.fld155_2 : fldP Try.prog 155 2 = some (2, 3) := by kernel_rfl
@[go_sem] theorem Try.eqg155 : eqGP Try.prog 155 = true := by kernel_rfl
@[go_sem] theorem Try.sz156 : szP Try.prog 156 = some 3 := by kernel_rfl
@[go_sem] theorem Try.by156 : bytesP Try.prog 156 = some 32 := by kernel_rfl
@[go_sem] theorem Try.zero156 : zeroP Try.prog 156 = some [.str ByteArray.empty, .int .u8 0, .int .i64 0] := by kernel_rfl
@[go_sem] theorem Try.agg156 : aggP Try.prog 156 = some true := by kernel_rfl
@[go_sem] theorem Try.conc156 : concP Try.prog 156 = true := by kernel_rfl
@[go_sem] theorem Try.known156 : knownP Try.prog 156 = true := by kernel_rfl
@[go_sem] theorem Try.bld156 : buildP Try.prog 156 = some none := by kernel_rfl
@[go_sem] theorem Try.fld156_0 : fldP Try.prog 156 0 = some (0, 9) := by kernel_rfl
@[go_sem] theorem Try.fld156_1 : fldP Try.prog 156 1 = some (1, 23) := by kernel_rfl
@[go_sem] theorem Try.fld156_2 : fldP Try.prog 156 2 = some (2, 3) := by kernel_rfl
@[go_sem] theorem Try.eqg156 : eqGP Try.prog 156 = true := by kernel_rfl
@[go_sem] theorem Try.sz159 : szP Try.prog 159 = some 8 := by kernel_rfl
@[go_sem] theorem Try.by159 : bytesP Try.prog 159 = some 88 := by kernel_rfl
@[go_sem] theorem Try.zero159 : zeroP Try.prog 159 = some [.int .i64 0, .int .i64 0, .str ByteArray.empty, .int .i64 0, .slice .nil [], .int .u8 0, .int .i64 0, .int .i64 0] := by kernel_rfl
@[go_sem] theorem Try.agg159 : aggP Try.prog 159 = some true := by kernel_rfl
@[go_sem] theorem Try.conc159 : concP Try.prog 159 = true := by kernel_rfl
@[go_sem] theorem Try.known159 : knownP Try.prog 159 = true := by kernel_rfl
@[go_sem] theorem Try.bld159 : buildP Try.prog 159 = some none := by kernel_rfl
@[go_sem] theorem Try.fld159_0 : fldP Try.prog 159 0 = some (0, 3) := by kernel_rfl
@[go_sem] theorem Try.fld159_1 : fldP Try.prog 159 1 = some (1, 3) := by kernel_rfl
@[go_sem] theorem Try.fld159_2 : fldP Try.prog 159 2 = some (2, 9) := by kernel_rfl
@[go_sem] theorem Try.fld159_3 : fldP Try.prog 159 3 = some (3, 3) := by kernel_rfl
@[go_sem] theorem Try.fld159_4 : fldP Try.prog 159 4 = some (4, 90) := by kernel_rfl
@[go_sem] theorem Try.fld159_5 : fldP Try.prog 159 5 = some (5, 23) := by kernel_rfl
@[go_sem] theorem Try.fld159_6 : fldP Try.prog 159 6 = some (6, 3) := by kernel_rfl
@[go_sem] theorem Try.fld159_7 : fldP Try.prog 159 7 = some (7, 3) := by kernel_rfl
@[go_sem] theorem Try.sz160 : szP Try.prog 160 = some 8 := by kernel_rfl
@[go_sem] theorem Try.by160 : bytesP Try.prog 160 = some 88 := by kernel_rfl
@[go_sem] theorem Try.zero160 : zeroP Try.prog 160 = some [.int .i64 0, .int .i64 0, .str ByteArray.empty, .int .i64 0, .slice .nil [], .int .u8 0, .int .i64 0, .int .i64 0] := by kernel_rfl
@[go_sem] theorem Try.agg160 : aggP Try.prog 160 = some true := by kernel_rfl
@[go_sem] theorem Try.conc160 : concP Try.prog 160 = true := by kernel_rfl
@[go_sem] theorem Try.known160 : knownP Try.prog 160 = true := by kernel_rfl
@[go_sem] theorem Try.bld160 : buildP Try.prog 160 = some none := by kernel_rfl
@[go_sem] theorem Try.fld160_0 : fldP Try.prog 160 0 = some (0, 3) := by kernel_rfl
@[go_sem] theorem Try.fld160_1 : fldP Try.prog 160 1 = some (1, 3) := by kernel_rfl
@[go_sem] theorem Try.fld160_2 : fldP Try.prog 160 2 = some (2, 9) := by kernel_rfl
@[go_sem] theorem Try.fld160_3 : fldP Try.prog 160 3 = some (3, 3) := by kernel_rfl
@[go_sem] theorem Try.fld160_4 : fldP Try.prog 160 4 = some (4, 90) := by kernel_rfl
@[go_sem] theorem Try.fld160_5 : fldP Try.prog 160 5 = some (5, 23) := by kernel_rfl
@[go_sem] theorem Try.fld160_6 : fldP Try.prog 160 6 = some (6, 3) := by kernel_rfl
@[go_sem] theorem Try.fld160_7 : fldP Try.prog 160 7 = some (7, 3) := by kernel_rfl
@[go_sem] theorem Try.sz166 : szP Try.prog 166 = some 1 := by kernel_rfl
@[go_sem] theorem Try.by166 : bytesP Try.prog 166 = some 24 := by kernel_rfl
@[go_sem] theorem Try.zero166 : zeroP Try.prog 166 = some [.slice .nil []] := by kernel_rfl
@[go_sem] theorem Try.agg166 : aggP Try.prog 166 = some false := by kernel_rfl
@[go_sem] theorem Try.conc166 : concP Try.prog 166 = true := by kernel_rfl
@[go_sem] theorem Try.known166 : knownP Try.prog 166 = true := by kernel_rfl
@[go_sem] theorem Try.sli166 : sliP Try.prog 166 = some 9 := by kernel_rfl
@[go_sem] theorem Try.sz183 : szP Try.prog 183 = some 1 := by kernel_rfl
@[go_sem] theorem Try.by183 : bytesP Try.prog 183 = some 8 := by kernel_rfl
@[go_sem] theorem Try.zero183 : zeroP Try.prog 183 = some [.nilfunc] := by kernel_rfl
@[go_sem] theorem Try.agg183 : aggP Try.prog 183 = some false := by kernel_rfl
@[go_sem] theorem Try.conc183 : concP Try.prog 183 = true := by kernel_rfl
@[go_sem] theorem Try.known183 : knownP Try.prog 183 = true := by kernel_rfl
@[go_sem] theorem Try.sz184 : szP Try.prog 184 = some 34 := by kernel_rfl
@[go_sem] theorem Try.by184 : bytesP Try.prog 184 = some 272 := by kernel_rfl
@[go_sem] theorem Try.zero184 : zeroP Try.prog 184 = some [.nilfunc, .nilfunc, .nilfunc, .nilfunc, .nilfunc, .nilfunc, .nilfunc, .nilfunc, .nilfunc, .nilfunc, .nilfunc, .nilfunc, .nilfunc, .nilfunc, .nilfunc, .nilfunc, .nilfunc, .nilfunc, .nilfunc, .nilfunc, .nilfunc, .nilfunc, .nilfunc, .nilfunc, .nilfunc, .nilfunc, .nilfunc, .nilfunc, .nilfunc, .nilfunc, .nilfunc, .nilfunc, .nilfunc, .nilfunc] := by kernel_rfl
@[go_sem] theorem Try.agg184 : aggP Try.prog 184 = some true := by kernel_rfl
@[go_sem] theorem Try.conc184 : concP Try.prog 184 = true := by kernel_rfl
@[go_sem] theorem Try.known184 : knownP Try.prog 184 = true := by kernel_rfl
@[go_sem] theorem Try.arr184 : arrP Try.prog 184 = some (34, 183) := by kernel_rfl
@[go_sem] theorem Try.bld184 : buildP Try.prog 184 = some (some (183, 1)) := by kernel_rfl
@[go_sem] theorem Try.sz187 : szP Try.prog 187 = some 2 := by kernel_rfl
@[go_sem] theorem Try.by187 : bytesP Try.prog 187 = some 16 := by kernel_rfl
@[go_sem] theorem Try.zero187 : zeroP Try.prog 187 = some [.int .i64 0, .int .u8 0] := by kernel_rfl
@[go_sem] theorem Try.agg187 : aggP Try.prog 187 = some true := by kernel_rfl
@[go_sem] theorem Try.conc187 : concP Try.prog 187 = true := by kernel_rfl
@[go_sem] theorem Try.known187 : knownP Try.prog 187 = true := by kernel_rfl
@[go_sem] theorem Try.bld187 : buildP Try.prog 187 = some none := by kernel_rfl
@[go_sem] theorem Try.fld187_0 : fldP Try.prog 187 0 = some (0, 3) := by kernel_rfl
@[go_sem] theorem Try.fld187_1 : fldP Try.prog 187 1 = some (1, 23) := by kernel_rfl
@[go_sem] theorem Try.eqg187 : eqGP Try.prog 187 = true := by kernel_rfl
@[go_sem] theorem Try.sz188 : szP Try.prog 188 = some 2 := by kernel_rfl
@[go_sem] theorem Try.by188 : bytesP Try.prog 188 = some 16 := by kernel_rfl
@[go_sem] theorem Try.zero188 : zeroP Try.prog 188 = some [.int .i64 0, .int .u8 0] := by kernel_rfl
@[go_sem] theorem Try.agg188 : aggP Try.prog 188 = some true := by kernel_rfl
@[go_sem] theorem Try.conc188 : concP Try.prog 188 = true := by kernel_rfl
@[go_sem] theorem Try.known188 : knownP Try.prog 188 = true := by kernel_rfl
@[go_sem] theorem Try.bld188 : buildP Try.prog 188 = some none := by kernel_rfl
@[go_sem] theorem Try.fld188_0 : fldP Try.prog 188 0 = some (0, 3) := by kernel_rfl
@[go_sem] theorem Try.fld188_1 : fldP Try.prog 188 1 = some (1, 23) := by kernel_rfl
@[go_sem] theorem Try.eqg188 : eqGP Try.prog 188 = true := by kernel_rfl
@[go_sem] theorem Try.sz191 : szP Try.prog 191 = some 5 := by kernel_rfl
@[go_sem] theorem Try.by191 : bytesP Try.prog 191 = some 48 := by kernel_rfl
@[go_sem] theorem Try.zero191 : zeroP Try.prog 191 = some [.int .i64 0, .int .i64 0, .int .i64 0, .int .i64 0, .str ByteArray.empty] := by kernel_rfl
@[go_sem] theorem Try.agg191 : aggP Try.prog 191 = some true := by kernel_rfl
@[go_sem] theorem Try.conc191 : concP Try.prog 191 = true := by kernel_rfl
@[go_sem] theorem Try.known191 : knownP Try.prog 191 = true := by kernel_rfl
@[go_sem] theorem Try.bld191 : buildP Try.prog 191 = some none := by kernel_rfl
@[go_sem] theorem Try.fld191_0 : fldP Try.prog 191 0 = some (0, 3) := by kernel_rfl
@[go_sem] theorem Try.fld191_1 : fldP Try.prog 191 1 = some (1, 3) := by kernel_rfl
@[go_sem] theorem Try.fld191_2 : fldP Try.prog 191 2 = some (2, 3) := by kernel_rfl
@[go_sem] theorem Try.fld191_3 : fldP Try.prog 191 3 = some (3, 3) := by kernel_rfl
@[go_sem] theorem Try.fld191_4 : fldP Try.prog 191 4 = some (4, 9) := by kernel_rfl
@[go_sem] theorem Try.eqg191 : eqGP Try.prog 191 = true := by kernel_rfl
@[go_sem] theorem Try.sz192 : szP Try.prog 192 = some 5 := by kernel_rfl
@[go_sem] theorem Try.by192 : bytesP Try.prog 192 = some 48 := by kernel_rfl
@[go_sem] theorem Try.zero192 : zeroP Try.prog 192 = some [.int .i64 0, .int .i64 0, .int .i64 0, .int .i64 0, .str ByteArray.empty] := by kernel_rfl
@[go_sem] theorem Try.agg192 : aggP Try.prog 192 = some true := by kernel_rfl
@[go_sem] theorem Try.conc192 : concP Try.prog 192 = true := by kernel_rfl
@[go_sem] theorem Try.known192 : knownP Try.prog 192 = true := by kernel_rfl
@[go_sem] theorem Try.bld192 : buildP Try.prog 192 = some none := by kernel_rfl
@[go_sem] theorem Try.fld192_0 : fldP Try.prog 192 0 = some (0, 3) := by kernel_rfl
@[go_sem] theorem Try.fld192_1 : fldP Try.prog 192 1 = some (1, 3) := by kernel_rfl
@[go_sem] theorem Try.fld192_2 : fldP Try.prog 192 2 = some (2, 3) := by kernel_rfl
@[go_sem] theorem Try.fld192_3 : fldP Try.prog 192 3 = some (3, 3) := by kernel_rfl
@[go_sem] theorem Try.fld192_4 : fldP Try.prog 192 4 = some (4, 9) := by kernel_rfl
@[go_sem] theorem Try.eqg192 : eqGP Try.prog 192 = true := by kernel_rfl
end Go.AL
namespace Go.AL
open Go.Proofs
@[go_sem] theorem Try.sz85 : szP Try.prog 85 = some 1 := by kernel_rfl
@[go_sem] theorem Try.by85 : bytesP Try.prog 85 = some 8 := by kernel_rfl
@[go_sem] theorem Try.zero85 : zeroP Try.prog 85 = some [.nilfunc] := by kernel_rfl
@[go_sem] theorem Try.agg85 : aggP Try.prog 85 = some false := by kernel_rfl
@[go_sem] theorem Try.conc85 : concP Try.prog 85 = true := by kernel_rfl
@[go_sem] theorem Try.known85 : knownP Try.prog 85 = true := by kernel_rfl
@[go_sem] theorem Try.sz210 : szP Try.prog 210 = some 1 := by kernel_rfl
@[go_sem] theorem Try.by210 : bytesP Try.prog 210 = some 24 := by kernel_rfl
@[go_sem] theorem Try.zero210 : zeroP Try.prog 210 = some [.slice .nil []] := by kernel_rfl
@[go_sem] theorem Try.agg210 : aggP Try.prog 210 = some false := by kernel_rfl
@[go_sem] theorem Try.conc210 : concP Try.prog 210 = true := by kernel_rfl
@[go_sem] theorem Try.known210 : knownP Try.prog 210 = true := by kernel_rfl
@[go_sem] theorem Try.sli210 : sliP Try.prog 210 = some 5 := by kernel_rfl
end Go.AL
