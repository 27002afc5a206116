import Derived.Shelf.SlIterI.Nil
import Derived.Shelf.SortM.Plain
import Derived.Shelf.SortM.SortNone
import Derived.Ground.GgzProg
import Derived.Ground.SlgmProg
import Derived.Shelf.Slices.CompactI
import Derived.Ground.Names2Prog
import Derived.Test.YtobmoajkfbigkaaGreatProg
import Derived.Test.YtobmoajkfbigkaaGreatSd
import Derived.KernelRfl
import Derived.Test.YtobmoajkfbigkaaGreatSe
set_option linter.defProp false
set_option linter.unusedSimpArgs false
set_option linter.unusedVariables false
set_option maxRecDepth 100000
attribute [go_sem_proc] Nat.reduceEqDiff Nat.reduceLT Nat.reduceLeDiff Nat.reduceAdd Nat.reduceSub Nat.reduceMul Nat.reduceBEq reduceCtorEq Int.reduceEq Int.reduceLT Int.reduceLE Int.reduceNeg Int.reduceAdd Int.reduceSub Int.reduceToNat
attribute [go_sem_proc ↓] reduceIte
namespace Go.AL
abbrev rg (l:List DO):AC:= .reg false [] l
abbrev CT [Mo] (c:Code):={a:AC // strip c=a}
theorem gdD (l:List D) (i j:Nat):(l.drop i)[j]? =l[i+j]? :=List.getElem?_drop
theorem anD (l:List D):l++[]=l:=List.append_nil l
theorem ldD (l:List D) (i:Nat):(l.drop i).length=l.length-i:=List.length_drop
set_option linter.defProp false
theorem aI {a b:Prop} (x:a) (y:b):a∧b:=⟨x,y⟩
def mmB:=aI @zc5 (aI @zc4 (aI @ze4 (aI @zf5 (aI @ze3 (aI @ze7 (aI @ze5 (aI @zd4 (aI @zd7 (aI @gm_un (aI @zd3 (aI @zd1 (aI @zf6 @ze8))))))))))))
end Go.AL
namespace Go.Proofs
open Go.Shelf
end Go.Proofs
namespace Go.AL
open Go.Proofs
@[go_sem] theorem Tryz.sz3:szP Tryz.prog 3=some 1:=by kernel_rfl
@[go_sem] theorem Tryz.by3:zc3 Tryz.prog 3=some 8:=by kernel_rfl
@[go_sem] theorem Tryz.zero3:zf2 Tryz.prog 3=some [.int .i64 0]:=by kernel_rfl
@[go_sem] theorem Tryz.agg3:aggP Tryz.prog 3=some false:=by kernel_rfl
@[go_sem] theorem Tryz.known3:ze0 Tryz.prog 3=true:=by kernel_rfl
@[go_sem] theorem Tryz.int3:intP Tryz.prog 3=some .i64:=by kernel_rfl
@[go_sem] theorem Tryz.sz4:szP Tryz.prog 4=some 1:=by kernel_rfl
@[go_sem] theorem Tryz.by4:zc3 Tryz.prog 4=some 1:=by kernel_rfl
@[go_sem] theorem Tryz.zero4:zf2 Tryz.prog 4=some [.bool false]:=by kernel_rfl
@[go_sem] theorem Tryz.agg4:aggP Tryz.prog 4=some false:=by kernel_rfl
@[go_sem] theorem Tryz.bool4:boolP Tryz.prog 4=true:=by kernel_rfl
@[go_sem] theorem Tryz.sz5:szP Tryz.prog 5=some 1:=by kernel_rfl
@[go_sem] theorem Tryz.by5:zc3 Tryz.prog 5=some 1:=by kernel_rfl
@[go_sem] theorem Tryz.zero5:zf2 Tryz.prog 5=some [.int .u8 0]:=by kernel_rfl
@[go_sem] theorem Tryz.agg5:aggP Tryz.prog 5=some false:=by kernel_rfl
@[go_sem] theorem Tryz.known5:ze0 Tryz.prog 5=true:=by kernel_rfl
@[go_sem] theorem Tryz.int5:intP Tryz.prog 5=some .u8:=by kernel_rfl
@[go_sem] theorem Tryz.sz9:szP Tryz.prog 9=some 1:=by kernel_rfl
@[go_sem] theorem Tryz.by9:zc3 Tryz.prog 9=some 16:=by kernel_rfl
@[go_sem] theorem Tryz.zero9:zf2 Tryz.prog 9=some [.str ByteArray.empty]:=by kernel_rfl
@[go_sem] theorem Tryz.agg9:aggP Tryz.prog 9=some false:=by kernel_rfl
@[go_sem] theorem Tryz.str9:strP Tryz.prog 9=true:=by kernel_rfl
@[go_sem] theorem Tryz.known21:ze0 Tryz.prog 21=true:=by kernel_rfl
@[go_sem] theorem Tryz.int21:intP Tryz.prog 21=some .i32:=by kernel_rfl
@[go_sem] theorem Tryz.sz22:szP Tryz.prog 22=some 1:=by kernel_rfl
@[go_sem] theorem Tryz.agg22:aggP Tryz.prog 22=some false:=by kernel_rfl
@[go_sem] theorem Tryz.sli22:sliP Tryz.prog 22=some 154:=by kernel_rfl
@[go_sem] theorem Tryz.sz23:szP Tryz.prog 23=some 1:=by kernel_rfl
@[go_sem] theorem Tryz.agg23:aggP Tryz.prog 23=some false:=by kernel_rfl
@[go_sem] theorem Tryz.sli23:sliP Tryz.prog 23=some 95:=by kernel_rfl
@[go_sem] theorem Tryz.sz25:szP Tryz.prog 25=some 3:=by kernel_rfl
@[go_sem] theorem Tryz.zero25:zf2 Tryz.prog 25=some [.slice .nil [],.slice .nil [],.int .i64 0]:=by kernel_rfl
@[go_sem] theorem Tryz.agg25:aggP Tryz.prog 25=some true:=by kernel_rfl
@[go_sem] theorem Tryz.bld25:buildP Tryz.prog 25=some none:=by kernel_rfl
@[go_sem] theorem Tryz.fld25_0:fldP Tryz.prog 25 0=some (0,22):=by kernel_rfl
@[go_sem] theorem Tryz.fld25_1:fldP Tryz.prog 25 1=some (1,23):=by kernel_rfl
@[go_sem] theorem Tryz.fld25_2:fldP Tryz.prog 25 2=some (2,3):=by kernel_rfl
@[go_sem] theorem Tryz.sz26:szP Tryz.prog 26=some 1:=by kernel_rfl
@[go_sem] theorem Tryz.zero26:zf2 Tryz.prog 26=some [.slice .nil []]:=by kernel_rfl
@[go_sem] theorem Tryz.agg26:aggP Tryz.prog 26=some false:=by kernel_rfl
@[go_sem] theorem Tryz.sli26:sliP Tryz.prog 26=some 5:=by kernel_rfl
@[go_sem] theorem Tryz.sz29:szP Tryz.prog 29=some 1:=by kernel_rfl
@[go_sem] theorem Tryz.zero29:zf2 Tryz.prog 29=some [.slice .nil []]:=by kernel_rfl
@[go_sem] theorem Tryz.agg29:aggP Tryz.prog 29=some false:=by kernel_rfl
@[go_sem] theorem Tryz.sli29:sliP Tryz.prog 29=some 3:=by kernel_rfl
@[go_sem] theorem Tryz.sz31:szP Tryz.prog 31=some 2:=by kernel_rfl
@[go_sem] theorem Tryz.zero31:zf2 Tryz.prog 31=some [.slice .nil [],.int .i64 0]:=by kernel_rfl
@[go_sem] theorem Tryz.agg31:aggP Tryz.prog 31=some true:=by kernel_rfl
@[go_sem] theorem Tryz.fld31_0:fldP Tryz.prog 31 0=some (0,29):=by kernel_rfl
@[go_sem] theorem Tryz.fld31_1:fldP Tryz.prog 31 1=some (1,3):=by kernel_rfl
@[go_sem] theorem Tryz.sz32:szP Tryz.prog 32=some 1:=by kernel_rfl
@[go_sem] theorem Tryz.zero32:zf2 Tryz.prog 32=some [.int .i64 0]:=by kernel_rfl
@[go_sem] theorem Tryz.agg32:aggP Tryz.prog 32=some false:=by kernel_rfl
@[go_sem] theorem Tryz.sz38:szP Tryz.prog 38=some 4:=by kernel_rfl
@[go_sem] theorem Tryz.by38:zc3 Tryz.prog 38=some 32:=by kernel_rfl
@[go_sem] theorem Tryz.zero38:zf2 Tryz.prog 38=some [.int .i64 0,.int .u8 0,.int .i64 0,.int .i64 0]:=by kernel_rfl
@[go_sem] theorem Tryz.agg38:aggP Tryz.prog 38=some true:=by kernel_rfl
@[go_sem] theorem Tryz.bld38:buildP Tryz.prog 38=some none:=by kernel_rfl
@[go_sem] theorem Tryz.fld38_0:fldP Tryz.prog 38 0=some (0,3):=by kernel_rfl
@[go_sem] theorem Tryz.fld38_1:fldP Tryz.prog 38 1=some (1,5):=by kernel_rfl
@[go_sem] theorem Tryz.fld38_2:fldP Tryz.prog 38 2=some (2,3):=by kernel_rfl
@[go_sem] theorem Tryz.fld38_3:fldP Tryz.prog 38 3=some (3,3):=by kernel_rfl
@[go_sem] theorem Tryz.sli44:sliP Tryz.prog 44=some 38:=by kernel_rfl
@[go_sem] theorem Tryz.sz50:szP Tryz.prog 50=some 1:=by kernel_rfl
@[go_sem] theorem Tryz.agg50:aggP Tryz.prog 50=some false:=by kernel_rfl
@[go_sem] theorem Tryz.sli50:sliP Tryz.prog 50=some 86:=by kernel_rfl
@[go_sem] theorem Tryz.sz52:szP Tryz.prog 52=some 2:=by kernel_rfl
@[go_sem] theorem Tryz.zero52:zf2 Tryz.prog 52=some [.int .i64 0,.slice .nil []]:=by kernel_rfl
@[go_sem] theorem Tryz.agg52:aggP Tryz.prog 52=some true:=by kernel_rfl
@[go_sem] theorem Tryz.bld52:buildP Tryz.prog 52=some none:=by kernel_rfl
@[go_sem] theorem Tryz.fld52_0:fldP Tryz.prog 52 0=some (0,3):=by kernel_rfl
@[go_sem] theorem Tryz.fld52_1:fldP Tryz.prog 52 1=some (1,50):=by kernel_rfl
@[go_sem] theorem Tryz.sz68:szP Tryz.prog 68=some 1:=by kernel_rfl
@[go_sem] theorem Tryz.agg68:aggP Tryz.prog 68=some false:=by kernel_rfl
@[go_sem] theorem Tryz.sz81:szP Tryz.prog 81=some 1:=by kernel_rfl
@[go_sem] theorem Tryz.by81:zc3 Tryz.prog 81=some 1:=by kernel_rfl
@[go_sem] theorem Tryz.zero81:zf2 Tryz.prog 81=some [.int .u8 0]:=by kernel_rfl
@[go_sem] theorem Tryz.agg81:aggP Tryz.prog 81=some false:=by kernel_rfl
@[go_sem] theorem Tryz.known81:ze0 Tryz.prog 81=true:=by kernel_rfl
@[go_sem] theorem Tryz.int81:intP Tryz.prog 81=some .u8:=by kernel_rfl
@[go_sem] theorem Tryz.sz82:szP Tryz.prog 82=some 24:=by kernel_rfl
@[go_sem] theorem Tryz.agg82:aggP Tryz.prog 82=some true:=by kernel_rfl
@[go_sem] theorem Tryz.arr82:arrP Tryz.prog 82=some (24,81):=by kernel_rfl
@[go_sem] theorem Tryz.sz84:szP Tryz.prog 84=some 26:=by kernel_rfl
@[go_sem] theorem Tryz.by84:zc3 Tryz.prog 84=some 40:=by kernel_rfl
@[go_sem] theorem Tryz.zero84:zf2 Tryz.prog 84=some [.int .i64 0,.int .i64 0,.int .u8 0,.int .u8 0,.int .u8 0,.int .u8 0,.int .u8 0,.int .u8 0,.int .u8 0,.int .u8 0,.int .u8 0,.int .u8 0,.int .u8 0,.int .u8 0,.int .u8 0,.int .u8 0,.int .u8 0,.int .u8 0,.int .u8 0,.int .u8 0,.int .u8 0,.int .u8 0,.int .u8 0,.int .u8 0,.int .u8 0,.int .u8 0]:=by kernel_rfl
@[go_sem] theorem Tryz.agg84:aggP Tryz.prog 84=some true:=by kernel_rfl
@[go_sem] theorem Tryz.bld84:buildP Tryz.prog 84=some none:=by kernel_rfl
@[go_sem] theorem Tryz.fld84_0:fldP Tryz.prog 84 0=some (0,3):=by kernel_rfl
@[go_sem] theorem Tryz.fld84_1:fldP Tryz.prog 84 1=some (1,3):=by kernel_rfl
@[go_sem] theorem Tryz.fld84_2:fldP Tryz.prog 84 2=some (2,82):=by kernel_rfl
@[go_sem] theorem Tryz.eqg84:eqGP Tryz.prog 84=true:=by kernel_rfl
@[go_sem] theorem Tryz.sz86:szP Tryz.prog 86=some 28:=by kernel_rfl
@[go_sem] theorem Tryz.by86:zc3 Tryz.prog 86=some 56:=by kernel_rfl
@[go_sem] theorem Tryz.zero86:zf2 Tryz.prog 86=some [.int .i64 0,.bool false,.int .i64 0,.int .i64 0,.int .u8 0,.int .u8 0,.int .u8 0,.int .u8 0,.int .u8 0,.int .u8 0,.int .u8 0,.int .u8 0,.int .u8 0,.int .u8 0,.int .u8 0,.int .u8 0,.int .u8 0,.int .u8 0,.int .u8 0,.int .u8 0,.int .u8 0,.int .u8 0,.int .u8 0,.int .u8 0,.int .u8 0,.int .u8 0,.int .u8 0,.int .u8 0]:=by kernel_rfl
@[go_sem] theorem Tryz.agg86:aggP Tryz.prog 86=some true:=by kernel_rfl
@[go_sem] theorem Tryz.bld86:buildP Tryz.prog 86=some none:=by kernel_rfl
@[go_sem] theorem Tryz.fld86_0:fldP Tryz.prog 86 0=some (0,3):=by kernel_rfl
@[go_sem] theorem Tryz.fld86_1:fldP Tryz.prog 86 1=some (1,4):=by kernel_rfl
@[go_sem] theorem Tryz.fld86_2:fldP Tryz.prog 86 2=some (2,84):=by kernel_rfl
@[go_sem] theorem Tryz.sz93:szP Tryz.prog 93=some 1:=by kernel_rfl
@[go_sem] theorem Tryz.agg93:aggP Tryz.prog 93=some false:=by kernel_rfl
@[go_sem] theorem Tryz.sli93:sliP Tryz.prog 93=some 81:=by kernel_rfl
@[go_sem] theorem Tryz.sz95:szP Tryz.prog 95=some 2:=by kernel_rfl
@[go_sem] theorem Tryz.by95:zc3 Tryz.prog 95=some 32:=by kernel_rfl
@[go_sem] theorem Tryz.zero95:zf2 Tryz.prog 95=some [.slice .nil [],.int .u8 0]:=by kernel_rfl
@[go_sem] theorem Tryz.agg95:aggP Tryz.prog 95=some true:=by kernel_rfl
@[go_sem] theorem Tryz.fld95_0:fldP Tryz.prog 95 0=some (0,93):=by kernel_rfl
@[go_sem] theorem Tryz.fld95_1:fldP Tryz.prog 95 1=some (1,81):=by kernel_rfl
@[go_sem] theorem Tryz.sz104:szP Tryz.prog 104=some 36:=by kernel_rfl
@[go_sem] theorem Tryz.zero104:zf2 Tryz.prog 104=some [.slice .nil [],.slice .nil [],.int .i64 0,.int .i64 0,.slice .nil [],.int .i64 0,.nilfunc,.slice .nil [],.int .i64 0,.int .i64 0,.int .i64 0,.int .u8 0,.int .u8 0,.int .u8 0,.int .u8 0,.int .u8 0,.int .u8 0,.int .u8 0,.int .u8 0,.int .u8 0,.int .u8 0,.int .u8 0,.int .u8 0,.int .u8 0,.int .u8 0,.int .u8 0,.int .u8 0,.int .u8 0,.int .u8 0,.int .u8 0,.int .u8 0,.int .u8 0,.int .u8 0,.int .u8 0,.int .u8 0,.bool false]:=by kernel_rfl
@[go_sem] theorem Tryz.agg104:aggP Tryz.prog 104=some true:=by kernel_rfl
@[go_sem] theorem Tryz.bld104:buildP Tryz.prog 104=some none:=by kernel_rfl
@[go_sem] theorem Tryz.fld104_0:fldP Tryz.prog 104 0=some (0,25):=by kernel_rfl
@[go_sem] theorem Tryz.fld104_1:fldP Tryz.prog 104 1=some (3,3):=by kernel_rfl
@[go_sem] theorem Tryz.fld104_2:fldP Tryz.prog 104 2=some (4,50):=by kernel_rfl
@[go_sem] theorem Tryz.fld104_3:fldP Tryz.prog 104 3=some (5,3):=by kernel_rfl
@[go_sem] theorem Tryz.fld104_4:fldP Tryz.prog 104 4=some (6,68):=by kernel_rfl
@[go_sem] theorem Tryz.fld104_5:fldP Tryz.prog 104 5=some (7,31):=by kernel_rfl
@[go_sem] theorem Tryz.fld104_6:fldP Tryz.prog 104 6=some (9,84):=by kernel_rfl
@[go_sem] theorem Tryz.fld104_7:fldP Tryz.prog 104 7=some (35,4):=by kernel_rfl
@[go_sem] theorem Tryz.sz123:szP Tryz.prog 123=some 1:=by kernel_rfl
@[go_sem] theorem Tryz.agg123:aggP Tryz.prog 123=some false:=by kernel_rfl
@[go_sem] theorem Tryz.sli123:sliP Tryz.prog 123=some 4:=by kernel_rfl
@[go_sem] theorem Tryz.sz124:szP Tryz.prog 124=some 1:=by kernel_rfl
@[go_sem] theorem Tryz.agg124:aggP Tryz.prog 124=some false:=by kernel_rfl
@[go_sem] theorem Tryz.sli124:sliP Tryz.prog 124=some 84:=by kernel_rfl
@[go_sem] theorem Tryz.sz126:szP Tryz.prog 126=some 4:=by kernel_rfl
@[go_sem] theorem Tryz.zero126:zf2 Tryz.prog 126=some [.slice .nil [],.slice .nil [],.slice .nil [],.slice .nil []]:=by kernel_rfl
@[go_sem] theorem Tryz.agg126:aggP Tryz.prog 126=some true:=by kernel_rfl
@[go_sem] theorem Tryz.bld126:buildP Tryz.prog 126=some none:=by kernel_rfl
@[go_sem] theorem Tryz.fld126_0:fldP Tryz.prog 126 0=some (0,123):=by kernel_rfl
@[go_sem] theorem Tryz.fld126_1:fldP Tryz.prog 126 1=some (1,124):=by kernel_rfl
@[go_sem] theorem Tryz.fld126_2:fldP Tryz.prog 126 2=some (2,123):=by kernel_rfl
@[go_sem] theorem Tryz.fld126_3:fldP Tryz.prog 126 3=some (3,29):=by kernel_rfl
@[go_sem] theorem Tryz.sz152:szP Tryz.prog 152=some 1:=by kernel_rfl
@[go_sem] theorem Tryz.agg152:aggP Tryz.prog 152=some false:=by kernel_rfl
@[go_sem] theorem Tryz.sli152:sliP Tryz.prog 152=some 157:=by kernel_rfl
@[go_sem] theorem Tryz.sz154:szP Tryz.prog 154=some 3:=by kernel_rfl
@[go_sem] theorem Tryz.by154:zc3 Tryz.prog 154=some 48:=by kernel_rfl
@[go_sem] theorem Tryz.zero154:zf2 Tryz.prog 154=some [.str ByteArray.empty,.int .i64 0,.slice .nil []]:=by kernel_rfl
@[go_sem] theorem Tryz.agg154:aggP Tryz.prog 154=some true:=by kernel_rfl
@[go_sem] theorem Tryz.fld154_0:fldP Tryz.prog 154 0=some (0,9):=by kernel_rfl
@[go_sem] theorem Tryz.fld154_1:fldP Tryz.prog 154 1=some (1,3):=by kernel_rfl
@[go_sem] theorem Tryz.fld154_2:fldP Tryz.prog 154 2=some (2,152):=by kernel_rfl
@[go_sem] theorem Tryz.sz157:szP Tryz.prog 157=some 2:=by kernel_rfl
@[go_sem] theorem Tryz.by157:zc3 Tryz.prog 157=some 24:=by kernel_rfl
@[go_sem] theorem Tryz.zero157:zf2 Tryz.prog 157=some [.str ByteArray.empty,.int .u8 0]:=by kernel_rfl
@[go_sem] theorem Tryz.agg157:aggP Tryz.prog 157=some true:=by kernel_rfl
@[go_sem] theorem Tryz.fld157_0:fldP Tryz.prog 157 0=some (0,9):=by kernel_rfl
@[go_sem] theorem Tryz.fld157_1:fldP Tryz.prog 157 1=some (1,81):=by kernel_rfl
@[go_sem] theorem Tryz.sz158:szP Tryz.prog 158=some 1:=by kernel_rfl
@[go_sem] theorem Tryz.zero158:zf2 Tryz.prog 158=some [.nilfunc]:=by kernel_rfl
@[go_sem] theorem Tryz.agg158:aggP Tryz.prog 158=some false:=by kernel_rfl
@[go_sem] theorem Tryz.sz161:szP Tryz.prog 161=some 2:=by kernel_rfl
@[go_sem] theorem Tryz.zero161:zf2 Tryz.prog 161=some [.int .i64 0,.int .i64 0]:=by kernel_rfl
@[go_sem] theorem Tryz.agg161:aggP Tryz.prog 161=some true:=by kernel_rfl
@[go_sem] theorem Tryz.conc161:zf4 Tryz.prog 161=true:=by kernel_rfl
@[go_sem] theorem Tryz.bld161:buildP Tryz.prog 161=some none:=by kernel_rfl
@[go_sem] theorem Tryz.fld161_0:fldP Tryz.prog 161 0=some (0,3):=by kernel_rfl
@[go_sem] theorem Tryz.fld161_1:fldP Tryz.prog 161 1=some (1,32):=by kernel_rfl
@[go_sem] theorem Tryz.sz192:szP Tryz.prog 192=some 1:=by kernel_rfl
@[go_sem] theorem Tryz.agg192:aggP Tryz.prog 192=some false:=by kernel_rfl
@[go_sem] theorem Tryz.ptr192:ptrP Tryz.prog 192=true:=by kernel_rfl
@[go_sem] theorem Tryz.sz199:szP Tryz.prog 199=some 8:=by kernel_rfl
@[go_sem] theorem Tryz.zero199:zf2 Tryz.prog 199=some [.slice .nil [],.int .i64 0,.int .i64 0,.int .i64 0,.int .i64 0,.int .i64 0,.int .i64 0,.bool false]:=by kernel_rfl
@[go_sem] theorem Tryz.agg199:aggP Tryz.prog 199=some true:=by kernel_rfl
@[go_sem] theorem Tryz.bld199:buildP Tryz.prog 199=some none:=by kernel_rfl
@[go_sem] theorem Tryz.fld199_0:fldP Tryz.prog 199 0=some (0,26):=by kernel_rfl
@[go_sem] theorem Tryz.fld199_1:fldP Tryz.prog 199 1=some (1,3):=by kernel_rfl
@[go_sem] theorem Tryz.fld199_2:fldP Tryz.prog 199 2=some (2,3):=by kernel_rfl
@[go_sem] theorem Tryz.fld199_3:fldP Tryz.prog 199 3=some (3,3):=by kernel_rfl
@[go_sem] theorem Tryz.fld199_4:fldP Tryz.prog 199 4=some (4,3):=by kernel_rfl
@[go_sem] theorem Tryz.fld199_5:fldP Tryz.prog 199 5=some (5,3):=by kernel_rfl
@[go_sem] theorem Tryz.fld199_6:fldP Tryz.prog 199 6=some (6,32):=by kernel_rfl
@[go_sem] theorem Tryz.fld199_7:fldP Tryz.prog 199 7=some (7,4):=by kernel_rfl
@[go_sem] theorem Tryz.sz210:szP Tryz.prog 210=some 1:=by kernel_rfl
@[go_sem] theorem Tryz.zero210:zf2 Tryz.prog 210=some [.slice .nil []]:=by kernel_rfl
@[go_sem] theorem Tryz.agg210:aggP Tryz.prog 210=some false:=by kernel_rfl
@[go_sem] theorem Tryz.sli210:sliP Tryz.prog 210=some 9:=by kernel_rfl
@[go_sem] theorem Tryz.sz227:szP Tryz.prog 227=some 1:=by kernel_rfl
@[go_sem] theorem Tryz.agg227:aggP Tryz.prog 227=some false:=by kernel_rfl
@[go_sem] theorem Tryz.sli227:sliP Tryz.prog 227=some 266:=by kernel_rfl
@[go_sem] theorem Tryz.sz229:szP Tryz.prog 229=some 2:=by kernel_rfl
@[go_sem] theorem Tryz.zero229:zf2 Tryz.prog 229=some [.slice .nil [],.nilfunc]:=by kernel_rfl
@[go_sem] theorem Tryz.agg229:aggP Tryz.prog 229=some true:=by kernel_rfl
@[go_sem] theorem Tryz.bld229:buildP Tryz.prog 229=some none:=by kernel_rfl
@[go_sem] theorem Tryz.fld229_0:fldP Tryz.prog 229 0=some (0,227):=by kernel_rfl
@[go_sem] theorem Tryz.fld229_1:fldP Tryz.prog 229 1=some (1,158):=by kernel_rfl
@[go_sem] theorem Tryz.sz261:szP Tryz.prog 261=some 1:=by kernel_rfl
@[go_sem] theorem Tryz.agg261:aggP Tryz.prog 261=some false:=by kernel_rfl
@[go_sem] theorem Tryz.sz262:szP Tryz.prog 262=some 34:=by kernel_rfl
@[go_sem] theorem Tryz.zero262:zf2 Tryz.prog 262=some [.nilfunc,.nilfunc,.nilfunc,.nilfunc,.nilfunc,.nilfunc,.nilfunc,.nilfunc,.nilfunc,.nilfunc,.nilfunc,.nilfunc,.nilfunc,.nilfunc,.nilfunc,.nilfunc,.nilfunc,.nilfunc,.nilfunc,.nilfunc,.nilfunc,.nilfunc,.nilfunc,.nilfunc,.nilfunc,.nilfunc,.nilfunc,.nilfunc,.nilfunc,.nilfunc,.nilfunc,.nilfunc,.nilfunc,.nilfunc]:=by kernel_rfl
@[go_sem] theorem Tryz.agg262:aggP Tryz.prog 262=some true:=by kernel_rfl
@[go_sem] theorem Tryz.arr262:arrP Tryz.prog 262=some (34,261):=by kernel_rfl
@[go_sem] theorem Tryz.sz266:szP Tryz.prog 266=some 2:=by kernel_rfl
@[go_sem] theorem Tryz.by266:zc3 Tryz.prog 266=some 16:=by kernel_rfl
@[go_sem] theorem Tryz.zero266:zf2 Tryz.prog 266=some [.int .i64 0,.int .u8 0]:=by kernel_rfl
@[go_sem] theorem Tryz.agg266:aggP Tryz.prog 266=some true:=by kernel_rfl
@[go_sem] theorem Tryz.bld266:buildP Tryz.prog 266=some none:=by kernel_rfl
@[go_sem] theorem Tryz.fld266_0:fldP Tryz.prog 266 0=some (0,3):=by kernel_rfl
@[go_sem] theorem Tryz.fld266_1:fldP Tryz.prog 266 1=some (1,81):=by kernel_rfl
open Go.Proofs
theorem Tryz.follows_mixed:Tryz.prog.follows .mixedOrders=true:=by kernel_rfl
theorem mkT [Mo] {N:Nat} {f:FuncId} {c:AC} {rs:List ResultVar} {fn:Func} {code:Code} (hf:Tryz.prog.funcs[f]? =some fn) (hb:fn.body=some code) (hn:(fn.name== "runtime.NumGoroutine")=false) (hN:fn.ntmps=N) (hr:fn.results.toList=rs) (hs:strip code=c) (hl:decide (N≤1000000)=true):Fun1 Tryz.prog f N c rs:=Fun1.mk' Tryz.follows_mixed hf hb hn hN hr hs hl
def c57:CT (Tryz.f57.body.getD .skip):=⟨_,by conv=>lhs; cbv⟩
theorem F57:Fun1 Tryz.prog 57 8 c57.1 [.cell 2 95]:=mkT Tryz.func57 rfl (by decide +kernel) Tryz.ntmps57 rfl c57.2 rfl
def c90:CT (Tryz.f90.body.getD .skip):=⟨_,by conv=>lhs; cbv⟩
theorem F90:Fun1 Tryz.prog 90 8 c90.1 [.tmp 2]:=mkT Tryz.func90 rfl (by decide +kernel) Tryz.ntmps90 rfl c90.2 rfl
open Go.Proofs
theorem DLe_nils {o:Own} {es:List (List D)} (h:es=[]):DLe (.slice o []) (.slice .no es):=h▸DLe.slice o []
def rws {α:Type} (enc:α→List D) (xs:List α):List (List D):=xs.map enc
theorem za0 {α:Type} (enc:α→List D) (xs:List α):(rws enc xs).length=xs.length:=by simp[rws]
attribute [go_sem] za0
theorem rws_nil {α:Type} (enc:α→List D) (xs:List α):(rws enc xs=[])=(xs=[]):=by simp[rws]
theorem rws_mt {α:Type} (enc:α→List D):rws enc []=[]:=rfl
theorem rws_at {α:Type} {enc:α→List D} {xs:List α} {i:Nat} (h:i<xs.length):(rws enc xs)[i]?.getD []=enc xs[i]:=by simp[rws,h]
theorem rws_app {α:Type} {enc:α→List D} {xs ys:List α}:rws enc xs++rws enc ys=rws enc (xs++ys):=by simp[rws]
theorem rws_one {α:Type} {enc:α→List D} {xs:List α} {n:Nat} (h:∀x,(enc x).length=n):(∀r∈rws enc xs,r.length=n)=True:=by simp[rws,h]
def eI (n:Int):List D:=[.int .i64 n]
abbrev Ty:=Fin 256
def eT (t:Ty):List D:=[.int .u8 (t.val:Int)]
theorem eT_len (n:Ty):(eT n).length=1:=rfl
theorem eT_eq (a b:Ty):((a.val:Int)=(b.val:Int))=(a=b):=by rw[Fin.ext_iff]; simp only[eq_iff_iff]; omega
theorem zf3 {a b:Bool} (h:a=b):DLe (.bool a) (.bool b):=h▸DLe.refl _
theorem nilR_nil {o:Own} {es:List (List D)} {r:Bool} (h:nilR o es r) (hr:r=true) (h0:o= .nil→es=[]):es=[]:=by
 subst hr
 cases o <;> simp_all[nilR]
def nilOk (o:Own) (n:Nat):Prop:=o= .nil→n=0
theorem clone46 (xs:List Ty) (o:Own) (h0:nilOk o xs.length) (hl:xs.length*1≤140737488355328):PCall Tryz.prog 90 [.slice o (rws eT xs)] (.slice .no (rws eT xs)):=by
 refine F90.pcall' rfl fun T hT=> ?_
 simp -implicitDefEqProofs only[go_sem,c90,hT]
 intro r hr
 refine br_split (fun h=> ?_) fun h=> ?_
 ·exact DLe_nils (nilR_nil hr h fun h=>by simpa[rws_nil] using h0 h)
 ·simp -implicitDefEqProofs only[go_sem,hT,rws_one eT_len,rws_nil,hl]
  rintro rfl
  exact DLe_nils rfl
open Go.Proofs
structure Sg where
 ps:List Ty
 r:Ty
 deriving DecidableEq
def eSg (s:Sg):List D:=[.slice .no (rws eT s.ps),.int .u8 s.r.val]
theorem eSg_len (s:Sg):(eSg s).length=2:=rfl
theorem sig11 (s:Sg) (hl:s.ps.length≤140737488355328):PCall Tryz.prog 57 [.agg (eSg s)] (.agg (eSg s)):=by
 refine F57.pcall' rfl fun T hT=> ?_
 simp -implicitDefEqProofs only[go_sem,c57,hT,eSg]
 intro b b' hb hb'
 simp -implicitDefEqProofs only[go_sem,hb,hb',hT]
 refine za3 (clone46 s.ps .no (by simp[nilOk]) (by omega)) ?_
 simp -implicitDefEqProofs only[go_sem,hT,eSg,hb,hb']
open Go.Proofs
def c16:AC:=
.seq (rg [oO 1 (.box 25 (tT 0)),oO 2 (.alloc 25)])
 (.seq (.seq (.reg true [1] [⟨⟨some 6,.fieldAddr 25 (tT 1) 0,none⟩,false,true⟩,⟨⟨some 7,.load 22 (tT 6),none⟩,false,true⟩,⟨⟨some 8,cF (.func 56) #[tT 7] #[22],none⟩,false,true⟩,⟨⟨some 9,.fieldAddr 25 (tT 1) 2,none⟩,true,true⟩,⟨⟨some 10,.load 3 (tT 9),none⟩,true,true⟩,⟨⟨some 11,.build 25 #[(0,.tmp 8),(2,.tmp 10)],none⟩,false,true⟩,⟨⟨some 3,.alloc 25,none⟩,true,false⟩])
 (rg [oN (.store 25 (tT 3) (tT 11))]))
 (.seq (.seq (rg [oO 12 (.fieldAddr 25 (tT 1) 1),oO 13 (.load 23 (tT 12)),oO 14 (cB .len #[tT 13] #[23]),oO 15 (.move (kI 0))])
 (.block 0 (.loop (.seq (rg [oO 16 (.binOp .lss 3 (tT 15) (tT 14) 3)])
 (.seq (.cond (tT 16) (.skip)
 (.exit 0))
 (.seq (.block 1 (.seq (rg [oO 17 (.indexAddr 23 (tT 13) (tT 15)),oO 18 (.load 95 (tT 17)),oO 5 (.alloc 95),oN (.store 95 (tT 5) (tT 18))])
 (.seq (.reg true [3] [⟨⟨some 19,.fieldAddr 25 (tT 3) 1,none⟩,true,true⟩,⟨⟨some 20,.load 23 (tT 19),none⟩,true,true⟩,oO 21 (.load 95 (tT 5)),oO 22 (cF (.func 57) #[tT 21] #[95]),oO 23 (.buildSlice 23 1 #[(0,.tmp 22)])])
 (rg [oO 24 (cB .append #[tT 20,tT 23] #[23,23]),oO 25 (.fieldAddr 25 (tT 3) 1),oN (.store 23 (tT 25) (tT 24))]))))
 (rg [oO 26 (.binOp .add 3 (tT 15) (kI 1) 3),oO 15 (.move (tT 26))])))))))
 (.seq (rg [oO 27 (.load 25 (tT 3)),oN (.store 25 (tT 2) (tT 27))])
 .ret)))
theorem F16:Fun1 Tryz.prog 16 28 c16 [.cell 2 25]:=mkT Tryz.func16 rfl (by decide +kernel) Tryz.ntmps16 rfl (by kernel_rfl) rfl
def c77:CT (Tryz.f77.body.getD .skip):=⟨_,by conv=>lhs; cbv⟩
theorem F77:Fun1 Tryz.prog 77 79 c77.1 [.tmp 4]:=mkT Tryz.func77 rfl (by decide +kernel) Tryz.ntmps77 rfl c77.2 rfl
def c67:CT (Tryz.f67.body.getD .skip):=⟨_,by conv=>lhs; cbv⟩
theorem F67:Fun1 Tryz.prog 67 71 c67.1 [.tmp 4]:=mkT Tryz.func67 rfl (by decide +kernel) Tryz.ntmps67 rfl c67.2 rfl
def c56:CT (Tryz.f56.body.getD .skip):=⟨_,by conv=>lhs; cbv⟩
theorem F56:Fun1 Tryz.prog 56 22 c56.1 [.tmp 2]:=mkT Tryz.func56 rfl (by decide +kernel) Tryz.ntmps56 rfl c56.2 rfl
def c89:CT (Tryz.f89.body.getD .skip):=⟨_,by conv=>lhs; cbv⟩
theorem F89:Fun1 Tryz.prog 89 8 c89.1 [.tmp 2]:=mkT Tryz.func89 rfl (by decide +kernel) Tryz.ntmps89 rfl c89.2 rfl
def c119:CT (Tryz.f119.body.getD .skip):=⟨_,by conv=>lhs; cbv⟩
theorem F119:Fun1 Tryz.prog 119 52 c119.1 [.tmp 2,.tmp 3]:=mkT Tryz.func119 rfl (by decide +kernel) Tryz.ntmps119 rfl c119.2 rfl
def c156:CT (Tryz.f156.body.getD .skip):=⟨_,by conv=>lhs; cbv⟩
theorem F156:Fun1 Tryz.prog 156 9 c156.1 [.tmp 3]:=mkT Tryz.func156 rfl (by decide +kernel) Tryz.ntmps156 rfl c156.2 rfl
def c155:CT (Tryz.f155.body.getD .skip):=⟨_,by conv=>lhs; cbv⟩
theorem F155:Fun1 Tryz.prog 155 9 c155.1 [.tmp 4]:=mkT Tryz.func155 rfl (by decide +kernel) Tryz.ntmps155 rfl c155.2 rfl
def c153:CT (Tryz.f153.body.getD .skip):=⟨_,by conv=>lhs; cbv⟩
theorem F153:Fun1 Tryz.prog 153 9 c153.1 [.tmp 4]:=mkT Tryz.func153 rfl (by decide +kernel) Tryz.ntmps153 rfl c153.2 rfl
def c187:CT (Tryz.f187.body.getD .skip):=⟨_,by conv=>lhs; cbv⟩
theorem F187:Fun1 Tryz.prog 187 19 c187.1 [.tmp 4]:=mkT Tryz.func187 rfl (by decide +kernel) Tryz.ntmps187 rfl c187.2 rfl
def c188:CT (Tryz.f188.body.getD .skip):=⟨_,by conv=>lhs; cbv⟩
theorem F188:Fun1 Tryz.prog 188 19 c188.1 [.tmp 4]:=mkT Tryz.func188 rfl (by decide +kernel) Tryz.ntmps188 rfl c188.2 rfl
def c154:CT (Tryz.f154.body.getD .skip):=⟨_,by conv=>lhs; cbv⟩
theorem F154:Fun1 Tryz.prog 154 2 c154.1 [.tmp 0]:=mkT Tryz.func154 rfl (by decide +kernel) Tryz.ntmps154 rfl c154.2 rfl
def c152:CT (Tryz.f152.body.getD .skip):=⟨_,by conv=>lhs; cbv⟩
theorem F152:Fun1 Tryz.prog 152 50 c152.1 [.tmp 2]:=mkT Tryz.func152 rfl (by decide +kernel) Tryz.ntmps152 rfl c152.2 rfl
def c157:CT (Tryz.f157.body.getD .skip):=⟨_,by conv=>lhs; cbv⟩
theorem F157:Fun1 Tryz.prog 157 51 c157.1 [.tmp 4]:=mkT Tryz.func157 rfl (by decide +kernel) Tryz.ntmps157 rfl c157.2 rfl
def c190:CT (Tryz.f190.body.getD .skip):=⟨_,by conv=>lhs; cbv⟩
theorem F190:Fun1 Tryz.prog 190 23 c190.1 [.tmp 4]:=mkT Tryz.func190 rfl (by decide +kernel) Tryz.ntmps190 rfl c190.2 rfl
def c189:CT (Tryz.f189.body.getD .skip):=⟨_,by conv=>lhs; cbv⟩
theorem F189:Fun1 Tryz.prog 189 29 c189.1 []:=mkT Tryz.func189 rfl (by decide +kernel) Tryz.ntmps189 rfl c189.2 rfl
def c191:CT (Tryz.f191.body.getD .skip):=⟨_,by conv=>lhs; cbv⟩
theorem F191:Fun1 Tryz.prog 191 25 c191.1 [.tmp 4]:=mkT Tryz.func191 rfl (by decide +kernel) Tryz.ntmps191 rfl c191.2 rfl
def c170:CT (Tryz.f170.body.getD .skip):=⟨_,by conv=>lhs; cbv⟩
theorem F170:Fun1 Tryz.prog 170 18 c170.1 [.tmp 4]:=mkT Tryz.func170 rfl (by decide +kernel) Tryz.ntmps170 rfl c170.2 rfl
def c121:CT (Tryz.f121.body.getD .skip):=⟨_,by conv=>lhs; cbv⟩
theorem F121:Fun1 Tryz.prog 121 16 c121.1 [.tmp 4]:=mkT Tryz.func121 rfl (by decide +kernel) Tryz.ntmps121 rfl c121.2 rfl
def c120:CT (Tryz.f120.body.getD .skip):=⟨_,by conv=>lhs; cbv⟩
theorem F120:Fun1 Tryz.prog 120 9 c120.1 [.tmp 3]:=mkT Tryz.func120 rfl (by decide +kernel) Tryz.ntmps120 rfl c120.2 rfl
def c122:CT (Tryz.f122.body.getD .skip):=⟨_,by conv=>lhs; cbv⟩
theorem F122:Fun1 Tryz.prog 122 9 c122.1 [.tmp 4]:=mkT Tryz.func122 rfl (by decide +kernel) Tryz.ntmps122 rfl c122.2 rfl
def c158:CT (Tryz.f158.body.getD .skip):=⟨_,by conv=>lhs; cbv⟩
theorem F158:Fun1 Tryz.prog 158 19 c158.1 [.tmp 4]:=mkT Tryz.func158 rfl (by decide +kernel) Tryz.ntmps158 rfl c158.2 rfl
def c139:CT (Tryz.f139.body.getD .skip):=⟨_,by conv=>lhs; cbv⟩
theorem F139:Fun1 Tryz.prog 139 13 c139.1 [.tmp 4]:=mkT Tryz.func139 rfl (by decide +kernel) Tryz.ntmps139 rfl c139.2 rfl
def c97:CT (Tryz.f97.body.getD .skip):=⟨_,by conv=>lhs; cbv⟩
theorem F97:Fun1 Tryz.prog 97 57 c97.1 [.cell 6 84,.tmp 7]:=mkT Tryz.func97 rfl (by decide +kernel) Tryz.ntmps97 rfl c97.2 rfl
def c140:CT (Tryz.f140.body.getD .skip):=⟨_,by conv=>lhs; cbv⟩
theorem F140:Fun1 Tryz.prog 140 13 c140.1 [.cell 2 84,.tmp 3]:=mkT Tryz.func140 rfl (by decide +kernel) Tryz.ntmps140 rfl c140.2 rfl
def c100:CT (Tryz.f100.body.getD .skip):=⟨_,by conv=>lhs; cbv⟩
theorem F100:Fun1 Tryz.prog 100 19 c100.1 [.tmp 2,.tmp 3]:=mkT Tryz.func100 rfl (by decide +kernel) Tryz.ntmps100 rfl c100.2 rfl
def c146:CT (Tryz.f146.body.getD .skip):=⟨_,by conv=>lhs; cbv⟩
theorem F146:Fun1 Tryz.prog 146 92 c146.1 [.tmp 4]:=mkT Tryz.func146 rfl (by decide +kernel) Tryz.ntmps146 rfl c146.2 rfl
def c177:CT (Tryz.f177.body.getD .skip):=⟨_,by conv=>lhs; cbv⟩
theorem F177:Fun1 Tryz.prog 177 55 c177.1 [.tmp 2]:=mkT Tryz.func177 rfl (by decide +kernel) Tryz.ntmps177 rfl c177.2 rfl
def c178:CT (Tryz.f178.body.getD .skip):=⟨_,by conv=>lhs; cbv⟩
theorem F178:Fun1 Tryz.prog 178 12 c178.1 [.tmp 2]:=mkT Tryz.func178 rfl (by decide +kernel) Tryz.ntmps178 rfl c178.2 rfl
def c215:CT (Tryz.f215.body.getD .skip):=⟨_,by conv=>lhs; cbv⟩
theorem F215:Fun1 Tryz.prog 215 16 c215.1 [.tmp 2]:=mkT Tryz.func215 rfl (by decide +kernel) Tryz.ntmps215 rfl c215.2 rfl
def c180:CT (Tryz.f180.body.getD .skip):=⟨_,by conv=>lhs; cbv⟩
theorem F180:Fun1 Tryz.prog 180 19 c180.1 [.tmp 4]:=mkT Tryz.func180 rfl (by decide +kernel) Tryz.ntmps180 rfl c180.2 rfl
def c179:CT (Tryz.f179.body.getD .skip):=⟨_,by conv=>lhs; cbv⟩
theorem F179:Fun1 Tryz.prog 179 29 c179.1 [.tmp 4]:=mkT Tryz.func179 rfl (by decide +kernel) Tryz.ntmps179 rfl c179.2 rfl
def c133:CT (Tryz.f133.body.getD .skip):=⟨_,by conv=>lhs; cbv⟩
theorem F133:Fun1 Tryz.prog 133 31 c133.1 [.tmp 4]:=mkT Tryz.func133 rfl (by decide +kernel) Tryz.ntmps133 rfl c133.2 rfl
def c150:CT (Tryz.f150.body.getD .skip):=⟨_,by conv=>lhs; cbv⟩
theorem F150:Fun1 Tryz.prog 150 16 c150.1 [.tmp 4]:=mkT Tryz.func150 rfl (by decide +kernel) Tryz.ntmps150 rfl c150.2 rfl
def c103:CT (Tryz.f103.body.getD .skip):=⟨_,by conv=>lhs; cbv⟩
theorem F103:Fun1 Tryz.prog 103 19 c103.1 [.tmp 4]:=mkT Tryz.func103 rfl (by decide +kernel) Tryz.ntmps103 rfl c103.2 rfl
def c110:CT (Tryz.f110.body.getD .skip):=⟨_,by conv=>lhs; cbv⟩
theorem F110:Fun1 Tryz.prog 110 36 c110.1 [.tmp 4]:=mkT Tryz.func110 rfl (by decide +kernel) Tryz.ntmps110 rfl c110.2 rfl
def c60:CT (Tryz.f60.body.getD .skip):=⟨_,by conv=>lhs; cbv⟩
theorem F60:Fun1 Tryz.prog 60 49 c60.1 [.cell 6 84,.tmp 7]:=mkT Tryz.func60 rfl (by decide +kernel) Tryz.ntmps60 rfl c60.2 rfl
def c104:CT (Tryz.f104.body.getD .skip):=⟨_,by conv=>lhs; cbv⟩
theorem F104:Fun1 Tryz.prog 104 13 c104.1 [.cell 2 84,.tmp 3]:=mkT Tryz.func104 rfl (by decide +kernel) Tryz.ntmps104 rfl c104.2 rfl
def c105:CT (Tryz.f105.body.getD .skip):=⟨_,by conv=>lhs; cbv⟩
theorem F105:Fun1 Tryz.prog 105 16 c105.1 [.tmp 4]:=mkT Tryz.func105 rfl (by decide +kernel) Tryz.ntmps105 rfl c105.2 rfl
open Go.Proofs
structure Fd where
 name:ByteArray
 ty:Ty
 deriving DecidableEq
structure Cl where
 name:ByteArray
 parent:Int
 fields:List Fd
 deriving DecidableEq
def eF (f:Fd):List D:=[.str f.name,.int .u8 f.ty.val]
def eC (c:Cl):List D:=[.str c.name,.int .i64 c.parent,.slice .no (rws eF c.fields)]
theorem eF_len (f:Fd):(eF f).length=2:=rfl
theorem eC_len (c:Cl):(eC c).length=3:=rfl
theorem wrap_ty_i64 (t:Ty):IntKind.wrap .i64 (t.val:Int)=t.val:=zc1 (by omega) (by omega)
def clsOf (n:Nat) (t:Ty):Int:=if 16≤t.val∧t.val-16<n then(t.val:Int)-16 else -1
def validN (n:Nat) (t:Ty):Bool:=decide (t.val≤5∨16≤t.val∧t.val-16<n)
theorem class147 (l:List Cl) (o:Own) (t:Ty):PCall Tryz.prog 170 [.slice o (rws eC l),.int .u8 t.val] (.int .i64 (clsOf l.length t)):=by
 refine F170.pcall' rfl fun T hT=> ?_
 simp -implicitDefEqProofs only[go_sem,c170,hT]
 refine gbr_split (fun h=> ?_) fun h=> ?_
 ·have h1:16≤t.val:=by simp at h; omega
  have h2:((t.val:Int)<16)=False:=by simp; omega
  have h3:IntKind.wrap .u8 ((t.val:Int)-16)=(t.val:Int)-16:=wrap_u8 (by omega) (by omega)
  have h4:IntKind.wrap .i64 ((t.val:Int)-16)=(t.val:Int)-16:=zc1 (by omega) (by omega)
  simp -implicitDefEqProofs only[go_sem,hT,h2,h3,h4]
  refine br_split (fun h=>DLe.of_eq ?_) fun h=>DLe.of_eq ?_
  ·simp at h
   rw[clsOf,if_neg (by omega)]
  ·simp at h
   rw[clsOf,if_pos (by omega)]
 ·have h2:((t.val:Int)<16)=True:=by simp at h; simp; omega
  simp -implicitDefEqProofs only[go_sem,hT,h2]
  refine DLe.of_eq ?_
  simp at h2
  rw[clsOf,if_neg (by omega)]
theorem clsOf_ge (n:Nat) (t:Ty):(0≤clsOf n t)=(16≤t.val∧t.val-16<n):=by
 unfold clsOf
 split <;> rename_i h
 ·simp[h]; omega
 ·simp[h]
theorem valid105 (l:List Cl) (o:Own) (t:Ty):PCall Tryz.prog 139 [.slice o (rws eC l),.int .u8 t.val] (.bool (validN l.length t)):=by
 refine F139.pcall' rfl fun T hT=> ?_
 simp -implicitDefEqProofs only[go_sem,c139,hT]
 refine gbr_split (fun h=> ?_) fun h=> ?_
 ·have h2:((t.val:Int)≤5)=False:=by simp at h; simp; omega
  simp -implicitDefEqProofs only[go_sem,hT,h2]
  refine za3 (class147 l o t) ?_
  simp -implicitDefEqProofs only[go_sem,hT,h2]
  refine zf3 ?_
  simp at h2
  simp[validN,clsOf_ge]
  omega
 ·have h2:((t.val:Int)≤5)=True:=by simp at h; simp; omega
  simp -implicitDefEqProofs only[go_sem,hT,h2]
  refine zf3 ?_
  simp at h2
  simp[validN]
  omega
theorem refValid87 (l:List Cl) (o:Own) (t:Ty):PCall Tryz.prog 103 [.slice o (rws eC l),.int .u8 t.val] (.bool (validN l.length t)):=by
 refine F103.pcall' rfl fun T hT=> ?_
 by_cases h1:t.val≤5
 ·have h2:((t.val:Int)≤5)=True:=by simp; omega
  simp -implicitDefEqProofs only[go_sem,c103,hT,h2]
  refine zf3 ?_
  simp[validN,h1]
 ·have h2:((t.val:Int)≤5)=False:=by simp; omega
  by_cases h3:16≤t.val
  ·have h4:((16:Int)≤t.val)=True:=by simp; omega
   have h5:IntKind.wrap .u8 ((t.val:Int)-16)=(t.val:Int)-16:=wrap_u8 (by omega) (by omega)
   have h6:IntKind.wrap .i64 ((t.val:Int)-16)=(t.val:Int)-16:=zc1 (by omega) (by omega)
   simp -implicitDefEqProofs only[go_sem,c103,hT,h2,h4,h5,h6]
   refine zf3 ?_
   simp[validN,h1,h3]
   omega
  ·have h4:((16:Int)≤t.val)=False:=by simp; omega
   simp -implicitDefEqProofs only[go_sem,c103,hT,h2,h4]
   refine zf3 ?_
   simp[validN,h1,h3]
open Go.Proofs
def storedN (n:Nat) (t:Ty):Bool:=validN n t&&decide (t.val≠0∧t.val≠3)
theorem stored146 (l:List Cl) (o:Own) (t:Ty):PCall Tryz.prog 191 [.slice o (rws eC l),.int .u8 t.val] (.bool (storedN l.length t)):=by
 refine F191.pcall' rfl fun T hT=> ?_
 by_cases h1:(t.val:Int)=1
 ·simp -implicitDefEqProofs only[go_sem,c191,hT,h1]
  exact zf3 (by simp[storedN,validN]; omega)
 by_cases h2:(t.val:Int)=2
 ·simp -implicitDefEqProofs only[go_sem,c191,hT,h1,h2]
  exact zf3 (by simp[storedN,validN]; omega)
 by_cases h3:(t.val:Int)=4
 ·simp -implicitDefEqProofs only[go_sem,c191,hT,h1,h2,h3]
  exact zf3 (by simp[storedN,validN]; omega)
 by_cases h4:(t.val:Int)=5
 ·simp -implicitDefEqProofs only[go_sem,c191,hT,h1,h2,h3,h4]
  exact zf3 (by simp[storedN,validN]; omega)
 simp -implicitDefEqProofs only[go_sem,c191,hT,h1,h2,h3,h4]
 refine za3 (class147 l o t) ?_
 simp -implicitDefEqProofs only[go_sem,hT,h1,h2,h3,h4]
 exact zf3 (by rw[Bool.eq_iff_iff]; simp[storedN,validN,clsOf_ge]; omega)
theorem stored66 (l:List Cl) (o:Own) (t:Ty):PCall Tryz.prog 121 [.slice o (rws eC l),.int .u8 t.val] (.bool (storedN l.length t)):=by
 refine F121.pcall' rfl fun T hT=> ?_
 simp -implicitDefEqProofs only[go_sem,c121,hT]
 refine za3 (valid105 l o t) ?_
 cases hv:validN l.length t
 ·simp -implicitDefEqProofs only[go_sem,hT]
  exact zf3 (by simp[storedN,hv])
 ·by_cases h1:(t.val:Int)=0
  ·simp -implicitDefEqProofs only[go_sem,hT,h1]
   exact zf3 (by rw[Bool.eq_iff_iff]; simp[storedN,hv]; omega)
  ·simp -implicitDefEqProofs only[go_sem,hT,h1]
   exact zf3 (by rw[Bool.eq_iff_iff]; simp[storedN,hv]; omega)
theorem refStored109 (l:List Cl) (o:Own) (t:Ty):PCall Tryz.prog 150 [.slice o (rws eC l),.int .u8 t.val] (.bool (storedN l.length t)):=by
 refine F150.pcall' rfl fun T hT=> ?_
 simp -implicitDefEqProofs only[go_sem,c150,hT]
 refine za3 (refValid87 l o t) ?_
 cases hv:validN l.length t
 ·simp -implicitDefEqProofs only[go_sem,hT]
  exact zf3 (by simp[storedN,hv])
 ·by_cases h1:(t.val:Int)=0
  ·simp -implicitDefEqProofs only[go_sem,hT,h1]
   exact zf3 (by rw[Bool.eq_iff_iff]; simp[storedN,hv]; omega)
  ·simp -implicitDefEqProofs only[go_sem,hT,h1]
   exact zf3 (by rw[Bool.eq_iff_iff]; simp[storedN,hv]; omega)
theorem refStored111 (l:List Cl) (o:Own) (t:Ty):PCall Tryz.prog 105 [.slice o (rws eC l),.int .u8 t.val] (.bool (storedN l.length t)):=by
 refine F105.pcall' rfl fun T hT=> ?_
 simp -implicitDefEqProofs only[go_sem,c105,hT]
 refine za3 (refValid87 l o t) ?_
 cases hv:validN l.length t
 ·simp -implicitDefEqProofs only[go_sem,hT]
  exact zf3 (by simp[storedN,hv])
 ·by_cases h1:(t.val:Int)=0
  ·simp -implicitDefEqProofs only[go_sem,hT,h1]
   exact zf3 (by rw[Bool.eq_iff_iff]; simp[storedN,hv]; omega)
  ·simp -implicitDefEqProofs only[go_sem,hT,h1]
   exact zf3 (by rw[Bool.eq_iff_iff]; simp[storedN,hv]; omega)
def idxFrom {α:Type} (p:α→Bool):List α→Nat→Int
 |[],_=> -1
 |x::xs,i=>if p x then(i:Int) else idxFrom p xs (i+1)
def idxOf {α:Type} (p:α→Bool) (xs:List α):Int:=idxFrom p xs 0
theorem idxFrom_drop {α:Type} {p:α→Bool} {xs:List α} {i:Nat} (h:i<xs.length):idxFrom p (xs.drop i) i=if p xs[i] then(i:Int) else idxFrom p (xs.drop (i+1)) (i+1):=by
 rw[List.drop_eq_getElem_cons h]; rfl
theorem idxFrom_ge {α:Type} {p:α→Bool}:∀{xs:List α} {i:Nat},(0≤idxFrom p xs i)=(xs.any p=true)
 |[],i=>by simp[idxFrom]
 |x::xs,i=>by
  unfold idxFrom
  cases h:p x
  ·simp[h,idxFrom_ge (xs:=xs)]
  ·simp[h]
def Tests {α:Type} (g:FuncId) (fi ca:List D) (one:α→D) (p:α→Bool) (xs:List α) (σ:St):Prop:=
 ∀x∈xs,RCall Tryz.prog g (fi++[one x]++ca) σ fun d s'=>d= .bool (p x)∧s'=σ
theorem idxFunc106 (xs:List Ty) (o:Own) (g:FuncId) (fi ca:List D) (p:Ty→Bool) (σ:St) (hl:xs.length≤140737488355328) (hp:Tests g fi ca (fun t:Ty=>D.int .u8 t.val) p xs σ):
  RCall Tryz.prog 158 [.slice o (rws eT xs),.func (.func g) fi ca] σ fun d s'=>d= .int .i64 (idxOf p xs)∧s'=σ:=by
 refine F158.rcall rfl fun T hT=> ?_
 simp -implicitDefEqProofs only[go_sem,c158,hT]
 refine loopL F158 (fun i:Nat=>[(0,.slice o (rws eT xs)),(1,.func (.func g) fi ca),(7,.int .i64 xs.length),(8,.int .i64 i)]) (fun _=>σ) (fun i=>i≤xs.length∧idxFrom p xs 0=idxFrom p (xs.drop i) i) (fun i=>xs.length-i) 0
  ⟨Nat.zero_le _,rfl⟩ ?_ (St.le.refl _) ?_
 ·simp -implicitDefEqProofs only[go_sem,hT,Int.ofNat_zero]
 rintro i ⟨hi,heq⟩ T hT
 simp -implicitDefEqProofs only[go_sem,hT]
 refine br_split (fun h=> ?_) fun h=> ?_
 ·have h:i<xs.length:=by simpa using h
  simp -implicitDefEqProofs only[go_sem,hT,rws_at h,eT_len,eT]
  refine⟨⟨by omega,by omega⟩, ?_⟩
  refine callB_all (hp xs[i] (by simp)) ?_
  rintro d s' ⟨rfl,rfl⟩
  rw[idxFrom_drop h] at heq
  simp -implicitDefEqProofs only[go_sem,hT]
  refine br_split (fun h'=> ?_) fun h'=> ?_
  ·exact⟨_,_,DLe.refl _,St.le.refl _,by simp[idxOf,heq,h'],rfl⟩
  ·refine⟨i+1,⟨by omega,by simpa[h'] using heq⟩,by omega, ?_,St.le.refl _⟩
   rw[zc1 (by omega) (by omega)]
   simp
 ·have h:¬i<xs.length:=by simpa using h
  refine⟨_,_,DLe.refl _,St.le.refl _, ?_,rfl⟩
  rw[idxOf,heq,List.drop_of_length_le (by omega)]
  rfl
theorem contFunc67 (xs:List Ty) (o:Own) (g:FuncId) (fi ca:List D) (p:Ty→Bool) (σ:St) (hl:xs.length≤140737488355328) (hp:Tests g fi ca (fun t:Ty=>D.int .u8 t.val) p xs σ):
  RCall Tryz.prog 122 [.slice o (rws eT xs),.func (.func g) fi ca] σ fun d s'=>d= .bool (xs.any p)∧s'=σ:=by
 refine F122.rcall rfl fun T hT=> ?_
 simp -implicitDefEqProofs only[go_sem,c122,hT]
 refine callB_all (idxFunc106 xs o g fi ca p σ hl hp) ?_
 rintro d s' ⟨rfl,rfl⟩
 simp -implicitDefEqProofs only[go_sem,hT,idxOf,idxFrom_ge]
 exact⟨_,_,DLe.refl _,St.le.refl _,by rw[D.bool.injEq,Bool.eq_iff_iff]; simp,rfl⟩
open Go.Proofs
def upL (l:List Cl) (c:Nat):List Nat:=
 match l[c]? with
 |some x=>c::(if h:0≤x.parent∧x.parent<c then upL l x.parent.toNat else [])
 |none=>[]
termination_by c
decreasing_by omega
def upI (l:List Cl) (c:Int):List Nat:=if 0≤c then upL l c.toNat else []
theorem upI_step {l:List Cl} {c:Nat} (h:c<l.length):upI l c=c::(if l[c].parent<c then upI l l[c].parent else []):=by
 rw[upI,if_pos (by omega),upL]
 simp only[Int.toNat_natCast,List.getElem?_eq_getElem h]
 unfold upI
 by_cases h1:0≤l[c].parent <;> by_cases h2:l[c].parent<(c:Int) <;> simp[h1,h2]
theorem upI_neg {l:List Cl} {c:Int} (h:c<0):upI l c=[]:=by rw[upI,if_neg (by omega)]
theorem upI_out {l:List Cl} {c:Int} (h:(l.length:Int)≤c):upI l c=[]:=by
 rw[upI,if_pos (by omega),upL,List.getElem?_eq_none (by omega)]
def Runs {α:Type} (Step:α→Nat→Bool→α→Prop):List Nat→α→α→Prop
 |[],a,a'=>a'=a
 |c::cs,a,a''=>∃b a',Step a c b a'∧if b=true then Runs Step cs a' a'' else a''=a'
open Go.Proofs
def byteI (s:ByteArray) (i:Nat):Int:=((s.data.toList[i]?.getD 0).toNat:Int)
theorem byteI_eq (s:ByteArray) (i:Nat):(((s.data.toList[i]?.getD 0).toNat:Nat):Int)=byteI s i:=rfl
def letterI (c:Int):Bool:=decide (97≤c∧c≤122∨65≤c∧c≤90)
def nameByte (s:ByteArray) (i:Nat):Bool:=letterI (byteI s i)||decide (0<i∧(48≤byteI s i∧byteI s i≤57∨byteI s i=95))
def isNameB (s:ByteArray):Bool:=decide (0<s.size∧s.size≤24∧∀i<s.size,nameByte s i=true)
theorem isName99 (s:ByteArray):PCall Tryz.prog 152 [.str s] (.bool (isNameB s)):=by
 refine F152.pcall' rfl fun T hT=> ?_
 by_cases h0:(s.size:Int)=0
 ·simp -implicitDefEqProofs only[go_sem,c152,hT,h0]
  exact zf3 (by rw[Bool.eq_iff_iff]; simp[isNameB]; omega)
 by_cases h1:(24:Int)<s.size
 ·simp -implicitDefEqProofs only[go_sem,c152,hT,h0,h1]
  exact zf3 (by rw[Bool.eq_iff_iff]; simp[isNameB]; omega)
 simp -implicitDefEqProofs only[go_sem,c152,hT,h0,h1]
 refine loopL F152 (fun i:Nat=>[(0,.str s),(14,.int .i64 s.size),(15,.int .i64 i)]) (fun _=>{}) (fun i=>i≤s.size∧∀j<i,nameByte s j=true) (fun i=>s.size-i) 0
  ⟨Nat.zero_le _,by simp⟩ ?_ (St.le.refl _) ?_
 ·simp -implicitDefEqProofs only[go_sem,hT,Int.ofNat_zero]
 rintro i ⟨hi,hok⟩ T hT
 by_cases h:i<s.size
 ·have h2:((i:Int)<s.size)=True:=by simp; omega
  have good:nameByte s i=true→∃y:Nat,(y≤s.size∧∀j<y,nameByte s j=true)∧s.size-y<s.size-i∧D.int .i64 (IntKind.wrap .i64 ((i:Int)+1))=D.int .i64 (y:Int)∧({}:St).le {}:=fun g=>
   ⟨i+1,⟨by omega,fun j hj=>by
    rcases Nat.lt_or_eq_of_le (Nat.le_of_lt_succ hj) with hj|rfl
    ·exact hok j hj
    ·exact g⟩,by omega,by rw[zc1 (by omega) (by omega)]; simp,St.le.refl _⟩
  have bad:nameByte s i=false→DLe (.bool false) (.bool (isNameB s)):=fun g=>zf3 (by
   cases hh:isNameB s with
   |false=>rfl
   |true=>rw[(of_decide_eq_true hh).2.2 i h] at g; cases g)
  simp -implicitDefEqProofs only[go_sem,mmB,hT,h2,byteI_eq]
  refine⟨by omega,br_split (fun h=>good ?_) fun h=>bad ?_⟩
  ·simp at h; simp[nameByte,letterI]; omega
  ·rw[←Bool.not_eq_true] at h ⊢; simp at h; simp[nameByte,letterI]; omega
 ·have h2:((i:Int)<s.size)=False:=by simp; omega
  simp -implicitDefEqProofs only[go_sem,hT,h2]
  refine zf3 ?_
  symm
  exact decide_eq_true ⟨by omega,by omega,fun j hj=>hok j (by omega)⟩
open Go.Proofs
theorem isName148 (s:ByteArray):PCall Tryz.prog 177 [.str s] (.bool (isNameB s)):=by
 refine F177.pcall' rfl fun T hT=> ?_
 by_cases h0:((s.size:Int)<1)
 ·simp -implicitDefEqProofs only[go_sem,mmB,c177,hT,h0]
  exact zf3 (by rw[Bool.eq_iff_iff]; simp[isNameB]; omega)
 by_cases h1:(24:Int)<s.size
 ·simp -implicitDefEqProofs only[go_sem,mmB,c177,hT,h0,h1]
  exact zf3 (by rw[Bool.eq_iff_iff]; simp[isNameB]; omega)
 simp -implicitDefEqProofs only[go_sem,mmB,c177,hT,h0,h1]
 refine loopL F177 (fun i:Nat=>[(0,.str s),(3,.int .i64 i)]) (fun _=>{}) (fun i=>i≤s.size∧∀j<i,nameByte s j=true) (fun i=>s.size-i) 0
  ⟨Nat.zero_le _,by simp⟩ ?_ (St.le.refl _) ?_
 ·simp -implicitDefEqProofs only[go_sem,hT,Int.ofNat_zero]
 rintro i ⟨hi,hok⟩ T hT
 by_cases h:i<s.size
 ·have h2:((i:Int)<s.size)=True:=by simp; omega
  have good:nameByte s i=true→∃y:Nat,(y≤s.size∧∀j<y,nameByte s j=true)∧s.size-y<s.size-i∧D.int .i64 (IntKind.wrap .i64 ((i:Int)+1))=D.int .i64 (y:Int)∧({}:St).le {}:=fun g=>
   ⟨i+1,⟨by omega,fun j hj=>by
    rcases Nat.lt_or_eq_of_le (Nat.le_of_lt_succ hj) with hj|rfl
    ·exact hok j hj
    ·exact g⟩,by omega,by rw[zc1 (by omega) (by omega)]; simp,St.le.refl _⟩
  have bad:nameByte s i=false→DLe (.bool false) (.bool (isNameB s)):=fun g=>zf3 (by
   cases hh:isNameB s with
   |false=>rfl
   |true=>rw[(of_decide_eq_true hh).2.2 i h] at g; cases g)
  simp -implicitDefEqProofs only[go_sem,mmB,hT,h2,byteI_eq]
  refine⟨by omega,br_split (fun h=>bad ?_) fun h=>good ?_⟩
  ·rw[←Bool.not_eq_true]; simp at h; simp[nameByte,letterI]; omega
  ·rw[←Bool.not_eq_true] at h; simp at h; simp[nameByte,letterI]; omega
 ·have h2:((i:Int)<s.size)=False:=by simp; omega
  simp -implicitDefEqProofs only[go_sem,mmB,hT,h2]
  refine zf3 ?_
  symm
  exact decide_eq_true ⟨by omega,by omega,fun j hj=>hok j (by omega)⟩
def wordsL:List ByteArray:=[⟨#[116,111,112]⟩,⟨#[105,110,116]⟩,⟨#[98,111,111,108]⟩,⟨#[110,117,108,108]⟩,⟨#[105,110,116,115]⟩,⟨#[97,110,121]⟩]
def wordOf (t:Nat):ByteArray:=(wordsL[t]?).getD ⟨#[]⟩
def hasN (l:List ByteArray) (x:ByteArray):Bool:=l.any fun y=>decide (y=x)
theorem hasN_mem {l:List ByteArray} {x:ByteArray}:(hasN l x=true)=(x∈l):=by simp[hasN]
theorem hasN_congr {a b:List ByteArray} (h:∀x,x∈a↔x∈b) (x:ByteArray):hasN a x=hasN b x:=by
 rw[Bool.eq_iff_iff,hasN_mem,hasN_mem]; exact h x
def isWordB (s:ByteArray):Bool:=hasN wordsL s
def eY (s:ByteArray):List D:=[.str s]
theorem word183 (t:Ty):PCall Tryz.prog 215 [.int .u8 t.val] (.str (wordOf t.val)):=by
 refine F215.pcall' rfl fun T hT=> ?_
 have six:t.val=0∨t.val=1∨t.val=2∨t.val=3∨t.val=4∨t.val=5∨6≤t.val:=by omega
 rcases six with h|h|h|h|h|h|h
 case inr.inr.inr.inr.inr.inr=>
  have h0:((t.val:Int)=0)=False:=by simp; omega
  have h1:((t.val:Int)=1)=False:=by simp; omega
  have h2:((t.val:Int)=2)=False:=by simp; omega
  have h3:((t.val:Int)=3)=False:=by simp; omega
  have h4:((t.val:Int)=4)=False:=by simp; omega
  have h5:((t.val:Int)=5)=False:=by simp; omega
  simp -implicitDefEqProofs only[go_sem,c215,hT,h0,h1,h2,h3,h4,h5]
  exact DLe.of_eq (by rw[wordOf,List.getElem?_eq_none (by simp[wordsL]; omega)]; rfl)
 all_goals
  rw[h]
  have h':=congrArg (Nat.cast (R:=Int)) h
  simp only[Int.ofNat_zero,Int.ofNat_one,Int.cast_ofNat_Int] at h'
  simp -implicitDefEqProofs only[go_sem,c215,hT,h']
  exact DLe.of_eq rfl
theorem isWord149 (s:ByteArray):PCall Tryz.prog 178 [.str s] (.bool (isWordB s)):=by
 refine F178.pcall' rfl fun T hT=> ?_
 simp -implicitDefEqProofs only[go_sem,c178,hT]
 refine loopL F178 (fun i:Nat=>[(0,.str s),(3,.int .u8 i)]) (fun _=>{}) (fun i=>i≤6∧∀j<i,wordOf j≠s) (fun i=>6-i) 0
  ⟨Nat.zero_le _,by simp⟩ ?_ (St.le.refl _) ?_
 ·simp -implicitDefEqProofs only[go_sem,hT,Int.ofNat_zero]
 rintro i ⟨hi,hok⟩ T hT
 have iff:(isWordB s=true)↔∃j<6,wordOf j=s:=by
  simp only[isWordB,hasN_mem]
  constructor
  ·intro h
   obtain⟨j,hj,he⟩:=List.getElem_of_mem h
   exact⟨j,hj,by rw[wordOf,List.getElem?_eq_getElem hj]; exact he⟩
  ·rintro⟨j,hj,rfl⟩
   rw[wordOf,List.getElem?_eq_getElem (show j<wordsL.length from hj)]
   exact List.getElem_mem _
 by_cases h:i<6
 ·have h2:((i:Int)≤5)=True:=by simp; omega
  simp -implicitDefEqProofs only[go_sem,hT,h2]
  refine za3 (word183 ⟨i,by omega⟩) ?_
  simp -implicitDefEqProofs only[go_sem,hT,h2]
  refine br_split (fun h'=>zf3 ?_) fun h'=> ?_
  ·symm; rw[iff]; exact⟨i,h,of_decide_eq_true h'⟩
  ·refine⟨i+1,⟨by omega,fun j hj=> ?_⟩,by omega, ?_,St.le.refl _⟩
   ·rcases Nat.lt_or_eq_of_le (Nat.le_of_lt_succ hj) with hj|rfl
    ·exact hok j hj
    ·simpa using h'
   ·rw[wrap_u8 (by omega) (by omega)]; simp
 ·have h2:((i:Int)≤5)=False:=by simp; omega
  simp -implicitDefEqProofs only[go_sem,hT,h2]
  refine zf3 ?_
  symm; rw[←Bool.not_eq_true,iff]
  rintro⟨j,hj,he⟩
  exact hok j (by omega) he
theorem words101:PCall Tryz.prog 154 [] (.slice .no (rws eY wordsL)):=by
 refine F154.pcall' rfl fun T hT=> ?_
 simp -implicitDefEqProofs only[go_sem,c154,hT,frz]
 exact DLe.slice _ _
theorem index142 (xs:List ByteArray) (o:Own) (s:ByteArray) (hl:xs.length≤140737488355328):PCall Tryz.prog 187 [.slice o (rws eY xs),.str s] (.int .i64 (idxOf (fun y=>decide (y=s)) xs)):=by
 refine F187.pcall' rfl fun T hT=> ?_
 simp -implicitDefEqProofs only[go_sem,c187,hT]
 refine loopL F187 (fun i:Nat=>[(0,.slice o (rws eY xs)),(1,.str s),(7,.int .i64 xs.length),(8,.int .i64 i)]) (fun _=>{}) (fun i=>i≤xs.length∧idxFrom (fun y=>decide (y=s)) xs 0=idxFrom (fun y=>decide (y=s)) (xs.drop i) i) (fun i=>xs.length-i) 0
  ⟨Nat.zero_le _,rfl⟩ ?_ (St.le.refl _) ?_
 ·simp -implicitDefEqProofs only[go_sem,hT,Int.ofNat_zero]
 rintro i ⟨hi,heq⟩ T hT
 simp -implicitDefEqProofs only[go_sem,hT]
 refine br_split (fun h=> ?_) fun h=> ?_
 ·have h:i<xs.length:=by simpa using h
  simp -implicitDefEqProofs only[go_sem,hT,rws_at h,eY]
  refine⟨⟨by omega,by omega⟩, ?_⟩
  rw[idxFrom_drop h] at heq
  refine br_split (fun h'=> ?_) fun h'=> ?_
  ·have h':xs[i]=s:=(of_decide_eq_true h').symm
   exact DLe.of_eq (by simp[idxOf,heq,h'])
  ·have h':¬xs[i]=s:=fun e=>by simp[e] at h'
   refine⟨i+1,⟨by omega,by simpa[h'] using heq⟩,by omega, ?_,St.le.refl _⟩
   rw[zc1 (by omega) (by omega)]
   simp
 ·have h:¬i<xs.length:=by simpa using h
  refine DLe.of_eq ?_
  rw[idxOf,heq,List.drop_of_length_le (by omega)]
  rfl
theorem contains100 (xs:List ByteArray) (o:Own) (s:ByteArray) (hl:xs.length≤140737488355328):PCall Tryz.prog 153 [.slice o (rws eY xs),.str s] (.bool (hasN xs s)):=by
 refine F153.pcall' rfl fun T hT=> ?_
 simp -implicitDefEqProofs only[go_sem,c153,hT]
 refine za3 (index142 xs o s hl) ?_
 simp -implicitDefEqProofs only[go_sem,hT]
 exact zf3 (by rw[Bool.eq_iff_iff,decide_eq_true_iff,idxOf,idxFrom_ge]; rfl)
theorem has150 (l:List Fd) (o:Own) (s:ByteArray) (hl:l.length≤140737488355328):PCall Tryz.prog 180 [.slice o (rws eF l),.str s] (.bool (hasN (l.map Fd.name) s)):=by
 refine F180.pcall' rfl fun T hT=> ?_
 simp -implicitDefEqProofs only[go_sem,c180,hT]
 refine loopL F180 (fun i:Nat=>[(0,.slice o (rws eF l)),(1,.str s),(5,.int .i64 i)]) (fun _=>{}) (fun i=>i≤l.length∧hasN (l.map Fd.name) s=hasN ((l.drop i).map Fd.name) s) (fun i=>l.length-i) 0
  ⟨Nat.zero_le _,rfl⟩ ?_ (St.le.refl _) ?_
 ·simp -implicitDefEqProofs only[go_sem,hT,Int.ofNat_zero]
 rintro i ⟨hi,heq⟩ T hT
 simp -implicitDefEqProofs only[go_sem,hT]
 refine br_split (fun h=> ?_) fun h=> ?_
 ·have h:i<l.length:=by simpa using h
  simp -implicitDefEqProofs only[go_sem,hT,rws_at h,eF_len,eF]
  refine⟨⟨by omega,by omega⟩, ?_⟩
  rw[List.drop_eq_getElem_cons h] at heq
  refine br_split (fun h'=> ?_) fun h'=> ?_
  ·have h':l[i].name=s:=of_decide_eq_true h'
   exact zf3 (by rw[heq]; simp only[hasN,List.map_cons,List.any_cons,h',decide_true,Bool.true_or])
  ·have h':¬l[i].name=s:=by simpa using h'
   refine⟨i+1,⟨by omega,by rw[heq]; simp only[hasN,List.map_cons,List.any_cons,h',decide_false,Bool.false_or]⟩,by omega, ?_,St.le.refl _⟩
   rw[zc1 (by omega) (by omega)]
   simp
 ·have h:¬i<l.length:=by simpa using h
  refine zf3 ?_
  rw[heq,List.drop_of_length_le (by omega)]
  rfl
end Go.AL
