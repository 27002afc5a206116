import Derived.Test.YtobmoajkfbigkaaGreatKc
import Derived.Test.YtobmoajkfbigkaaGreatProg
import Derived.KernelRfl
import Derived.Test.YtobmoajkfbigkaaGreatKd
set_option linter.defProp false
set_option linter.unusedSimpArgs false
set_option linter.unusedVariables false
set_option maxRecDepth 100000
attribute [go_sem_proc] Nat.reduceEqDiff Nat.reduceLT Nat.reduceLeDiff Nat.reduceAdd Nat.reduceSub Nat.reduceMul Nat.reduceBEq reduceCtorEq Int.reduceEq Int.reduceLT Int.reduceLE Int.reduceNeg Int.reduceAdd Int.reduceSub Int.reduceToNat
attribute [go_sem_proc ↓] reduceIte
namespace Go.AL
abbrev rg (l : List DO) : AC := .reg false [] l
theorem gdD (l : List D) (i j : Nat) : (l.drop i)[j]? = l[i + j]? := List.getElem?_drop
theorem anD (l : List D) : l ++ [] = l := List.append_nil l
theorem ldD (l : List D) (i : Nat) : (l.drop i).length = l.length - i := List.length_drop
set_option linter.defProp false
theorem aI {a b : Prop} (x : a) (y : b) : a ∧ b := ⟨x, y⟩
def mmB := aI @zc7 (aI @zc6 (aI @ze9 (aI @ite_or (aI @ze8 (aI @zf2 (aI @zf0 (aI @zd6 (aI @zd9 (aI @gm_un (aI @zd5 (aI @zd3 (aI @gm_len @zf3))))))))))))
end Go.AL
namespace Go.AL
open Go.Proofs
@[go_sem] theorem Tryz.sz3 : szP Tryz.prog 3 = some 1 := by kernel_rfl
@[go_sem] theorem Tryz.by3 : zb4 Tryz.prog 3 = some 8 := by kernel_rfl
@[go_sem] theorem Tryz.zero3 : zc1 Tryz.prog 3 = some [.int .i64 0] := by kernel_rfl
@[go_sem] theorem Tryz.agg3 : aggP Tryz.prog 3 = some false := by kernel_rfl
@[go_sem] theorem Tryz.known3 : zb5 Tryz.prog 3 = true := by kernel_rfl
@[go_sem] theorem Tryz.int3 : intP Tryz.prog 3 = some .i64 := by kernel_rfl
@[go_sem] theorem Tryz.sz4 : szP Tryz.prog 4 = some 1 := by kernel_rfl
@[go_sem] theorem Tryz.zero4 : zc1 Tryz.prog 4 = some [.bool false] := by kernel_rfl
@[go_sem] theorem Tryz.agg4 : aggP Tryz.prog 4 = some false := by kernel_rfl
@[go_sem] theorem Tryz.sz5 : szP Tryz.prog 5 = some 1 := by kernel_rfl
@[go_sem] theorem Tryz.by5 : zb4 Tryz.prog 5 = some 1 := by kernel_rfl
@[go_sem] theorem Tryz.zero5 : zc1 Tryz.prog 5 = some [.int .u8 0] := by kernel_rfl
@[go_sem] theorem Tryz.agg5 : aggP Tryz.prog 5 = some false := by kernel_rfl
@[go_sem] theorem Tryz.known5 : zb5 Tryz.prog 5 = true := by kernel_rfl
@[go_sem] theorem Tryz.sz9 : szP Tryz.prog 9 = some 1 := by kernel_rfl
@[go_sem] theorem Tryz.by9 : zb4 Tryz.prog 9 = some 16 := by kernel_rfl
@[go_sem] theorem Tryz.zero9 : zc1 Tryz.prog 9 = some [.str ByteArray.empty] := by kernel_rfl
@[go_sem] theorem Tryz.agg9 : aggP Tryz.prog 9 = some false := by kernel_rfl
@[go_sem] theorem Tryz.str9 : strP Tryz.prog 9 = true := by kernel_rfl
@[go_sem] theorem Tryz.known21 : zb5 Tryz.prog 21 = true := by kernel_rfl
@[go_sem] theorem Tryz.int21 : intP Tryz.prog 21 = some .i32 := by kernel_rfl
@[go_sem] theorem Tryz.sz22 : szP Tryz.prog 22 = some 1 := by kernel_rfl
@[go_sem] theorem Tryz.agg22 : aggP Tryz.prog 22 = some false := by kernel_rfl
@[go_sem] theorem Tryz.sli22 : sliP Tryz.prog 22 = some 154 := by kernel_rfl
@[go_sem] theorem Tryz.sz23 : szP Tryz.prog 23 = some 1 := by kernel_rfl
@[go_sem] theorem Tryz.agg23 : aggP Tryz.prog 23 = some false := by kernel_rfl
@[go_sem] theorem Tryz.sli23 : sliP Tryz.prog 23 = some 95 := by kernel_rfl
@[go_sem] theorem Tryz.sz25 : szP Tryz.prog 25 = some 3 := by kernel_rfl
@[go_sem] theorem Tryz.zero25 : zc1 Tryz.prog 25 = some [.slice .nil [], .slice .nil [], .int .i64 0] := by kernel_rfl
@[go_sem] theorem Tryz.agg25 : aggP Tryz.prog 25 = some true := by kernel_rfl
@[go_sem] theorem Tryz.bld25 : buildP Tryz.prog 25 = some none := by kernel_rfl
@[go_sem] theorem Tryz.fld25_0 : fldP Tryz.prog 25 0 = some (0, 22) := by kernel_rfl
@[go_sem] theorem Tryz.fld25_1 : fldP Tryz.prog 25 1 = some (1, 23) := by kernel_rfl
@[go_sem] theorem Tryz.fld25_2 : fldP Tryz.prog 25 2 = some (2, 3) := by kernel_rfl
@[go_sem] theorem Tryz.sz26 : szP Tryz.prog 26 = some 1 := by kernel_rfl
@[go_sem] theorem Tryz.zero26 : zc1 Tryz.prog 26 = some [.slice .nil []] := by kernel_rfl
@[go_sem] theorem Tryz.agg26 : aggP Tryz.prog 26 = some false := by kernel_rfl
@[go_sem] theorem Tryz.sli26 : sliP Tryz.prog 26 = some 5 := by kernel_rfl
@[go_sem] theorem Tryz.sz28 : szP Tryz.prog 28 = some 3 := by kernel_rfl
@[go_sem] theorem Tryz.agg28 : aggP Tryz.prog 28 = some true := by kernel_rfl
@[go_sem] theorem Tryz.fld28_0 : fldP Tryz.prog 28 0 = some (0, 3) := by kernel_rfl
@[go_sem] theorem Tryz.fld28_1 : fldP Tryz.prog 28 1 = some (1, 26) := by kernel_rfl
@[go_sem] theorem Tryz.fld28_2 : fldP Tryz.prog 28 2 = some (2, 26) := by kernel_rfl
@[go_sem] theorem Tryz.sz29 : szP Tryz.prog 29 = some 1 := by kernel_rfl
@[go_sem] theorem Tryz.zero29 : zc1 Tryz.prog 29 = some [.slice .nil []] := by kernel_rfl
@[go_sem] theorem Tryz.agg29 : aggP Tryz.prog 29 = some false := by kernel_rfl
@[go_sem] theorem Tryz.sli29 : sliP Tryz.prog 29 = some 3 := by kernel_rfl
@[go_sem] theorem Tryz.sz31 : szP Tryz.prog 31 = some 2 := by kernel_rfl
@[go_sem] theorem Tryz.zero31 : zc1 Tryz.prog 31 = some [.slice .nil [], .int .i64 0] := by kernel_rfl
@[go_sem] theorem Tryz.agg31 : aggP Tryz.prog 31 = some true := by kernel_rfl
@[go_sem] theorem Tryz.bld31 : buildP Tryz.prog 31 = some none := by kernel_rfl
@[go_sem] theorem Tryz.fld31_0 : fldP Tryz.prog 31 0 = some (0, 29) := by kernel_rfl
@[go_sem] theorem Tryz.fld31_1 : fldP Tryz.prog 31 1 = some (1, 3) := by kernel_rfl
@[go_sem] theorem Tryz.sz32 : szP Tryz.prog 32 = some 1 := by kernel_rfl
@[go_sem] theorem Tryz.zero32 : zc1 Tryz.prog 32 = some [.int .i64 0] := by kernel_rfl
@[go_sem] theorem Tryz.agg32 : aggP Tryz.prog 32 = some false := by kernel_rfl
@[go_sem] theorem Tryz.sz38 : szP Tryz.prog 38 = some 4 := by kernel_rfl
@[go_sem] theorem Tryz.zero38 : zc1 Tryz.prog 38 = some [.int .i64 0, .int .u8 0, .int .i64 0, .int .i64 0] := by kernel_rfl
@[go_sem] theorem Tryz.agg38 : aggP Tryz.prog 38 = some true := by kernel_rfl
@[go_sem] theorem Tryz.bld38 : buildP Tryz.prog 38 = some none := by kernel_rfl
@[go_sem] theorem Tryz.fld38_0 : fldP Tryz.prog 38 0 = some (0, 3) := by kernel_rfl
@[go_sem] theorem Tryz.fld38_1 : fldP Tryz.prog 38 1 = some (1, 5) := by kernel_rfl
@[go_sem] theorem Tryz.fld38_2 : fldP Tryz.prog 38 2 = some (2, 3) := by kernel_rfl
@[go_sem] theorem Tryz.fld38_3 : fldP Tryz.prog 38 3 = some (3, 3) := by kernel_rfl
@[go_sem] theorem Tryz.sz50 : szP Tryz.prog 50 = some 1 := by kernel_rfl
@[go_sem] theorem Tryz.agg50 : aggP Tryz.prog 50 = some false := by kernel_rfl
@[go_sem] theorem Tryz.sli50 : sliP Tryz.prog 50 = some 86 := by kernel_rfl
@[go_sem] theorem Tryz.sz52 : szP Tryz.prog 52 = some 2 := by kernel_rfl
@[go_sem] theorem Tryz.zero52 : zc1 Tryz.prog 52 = some [.int .i64 0, .slice .nil []] := by kernel_rfl
@[go_sem] theorem Tryz.agg52 : aggP Tryz.prog 52 = some true := by kernel_rfl
@[go_sem] theorem Tryz.bld52 : buildP Tryz.prog 52 = some none := by kernel_rfl
@[go_sem] theorem Tryz.fld52_0 : fldP Tryz.prog 52 0 = some (0, 3) := by kernel_rfl
@[go_sem] theorem Tryz.fld52_1 : fldP Tryz.prog 52 1 = some (1, 50) := by kernel_rfl
@[go_sem] theorem Tryz.sz68 : szP Tryz.prog 68 = some 1 := by kernel_rfl
@[go_sem] theorem Tryz.agg68 : aggP Tryz.prog 68 = some false := by kernel_rfl
@[go_sem] theorem Tryz.sz81 : szP Tryz.prog 81 = some 1 := by kernel_rfl
@[go_sem] theorem Tryz.by81 : zb4 Tryz.prog 81 = some 1 := by kernel_rfl
@[go_sem] theorem Tryz.zero81 : zc1 Tryz.prog 81 = some [.int .u8 0] := by kernel_rfl
@[go_sem] theorem Tryz.agg81 : aggP Tryz.prog 81 = some false := by kernel_rfl
@[go_sem] theorem Tryz.known81 : zb5 Tryz.prog 81 = true := by kernel_rfl
@[go_sem] theorem Tryz.int81 : intP Tryz.prog 81 = some .u8 := by kernel_rfl
@[go_sem] theorem Tryz.sz82 : szP Tryz.prog 82 = some 24 := by kernel_rfl
@[go_sem] theorem Tryz.agg82 : aggP Tryz.prog 82 = some true := by kernel_rfl
@[go_sem] theorem Tryz.arr82 : arrP Tryz.prog 82 = some (24, 81) := by kernel_rfl
@[go_sem] theorem Tryz.sz84 : szP Tryz.prog 84 = some 26 := by kernel_rfl
@[go_sem] theorem Tryz.zero84 : zc1 Tryz.prog 84 = some [.int .i64 0, .int .i64 0, .int .u8 0, .int .u8 0, .int .u8 0, .int .u8 0, .int .u8 0, .int .u8 0, .int .u8 0, .int .u8 0, .int .u8 0, .int .u8 0, .int .u8 0, .int .u8 0, .int .u8 0, .int .u8 0, .int .u8 0, .int .u8 0, .int .u8 0, .int .u8 0, .int .u8 0, .int .u8 0, .int .u8 0, .int .u8 0, .int .u8 0, .int .u8 0] := by kernel_rfl
@[go_sem] theorem Tryz.agg84 : aggP Tryz.prog 84 = some true := by kernel_rfl
@[go_sem] theorem Tryz.bld84 : buildP Tryz.prog 84 = some none := by kernel_rfl
@[go_sem] theorem Tryz.fld84_0 : fldP Tryz.prog 84 0 = some (0, 3) := by kernel_rfl
@[go_sem] theorem Tryz.fld84_1 : fldP Tryz.prog 84 1 = some (1, 3) := by kernel_rfl
@[go_sem] theorem Tryz.fld84_2 : fldP Tryz.prog 84 2 = some (2, 82) := by kernel_rfl
@[go_sem] theorem Tryz.eqg84 : eqGP Tryz.prog 84 = true := by kernel_rfl
@[go_sem] theorem Tryz.sz86 : szP Tryz.prog 86 = some 28 := by kernel_rfl
@[go_sem] theorem Tryz.by86 : zb4 Tryz.prog 86 = some 56 := by kernel_rfl
@[go_sem] theorem Tryz.zero86 : zc1 Tryz.prog 86 = some [.int .i64 0, .bool false, .int .i64 0, .int .i64 0, .int .u8 0, .int .u8 0, .int .u8 0, .int .u8 0, .int .u8 0, .int .u8 0, .int .u8 0, .int .u8 0, .int .u8 0, .int .u8 0, .int .u8 0, .int .u8 0, .int .u8 0, .int .u8 0, .int .u8 0, .int .u8 0, .int .u8 0, .int .u8 0, .int .u8 0, .int .u8 0, .int .u8 0, .int .u8 0, .int .u8 0, .int .u8 0] := by kernel_rfl
@[go_sem] theorem Tryz.agg86 : aggP Tryz.prog 86 = some true := by kernel_rfl
@[go_sem] theorem Tryz.bld86 : buildP Tryz.prog 86 = some none := by kernel_rfl
@[go_sem] theorem Tryz.fld86_0 : fldP Tryz.prog 86 0 = some (0, 3) := by kernel_rfl
@[go_sem] theorem Tryz.fld86_1 : fldP Tryz.prog 86 1 = some (1, 4) := by kernel_rfl
@[go_sem] theorem Tryz.fld86_2 : fldP Tryz.prog 86 2 = some (2, 84) := by kernel_rfl
@[go_sem] theorem Tryz.sz93 : szP Tryz.prog 93 = some 1 := by kernel_rfl
@[go_sem] theorem Tryz.agg93 : aggP Tryz.prog 93 = some false := by kernel_rfl
@[go_sem] theorem Tryz.sli93 : sliP Tryz.prog 93 = some 81 := by kernel_rfl
@[go_sem] theorem Tryz.sz95 : szP Tryz.prog 95 = some 2 := by kernel_rfl
@[go_sem] theorem Tryz.by95 : zb4 Tryz.prog 95 = some 32 := by kernel_rfl
@[go_sem] theorem Tryz.zero95 : zc1 Tryz.prog 95 = some [.slice .nil [], .int .u8 0] := by kernel_rfl
@[go_sem] theorem Tryz.agg95 : aggP Tryz.prog 95 = some true := by kernel_rfl
@[go_sem] theorem Tryz.fld95_0 : fldP Tryz.prog 95 0 = some (0, 93) := by kernel_rfl
@[go_sem] theorem Tryz.fld95_1 : fldP Tryz.prog 95 1 = some (1, 81) := by kernel_rfl
@[go_sem] theorem Tryz.sz104 : szP Tryz.prog 104 = some 36 := by kernel_rfl
@[go_sem] theorem Tryz.zero104 : zc1 Tryz.prog 104 = some [.slice .nil [], .slice .nil [], .int .i64 0, .int .i64 0, .slice .nil [], .int .i64 0, .nilfunc, .slice .nil [], .int .i64 0, .int .i64 0, .int .i64 0, .int .u8 0, .int .u8 0, .int .u8 0, .int .u8 0, .int .u8 0, .int .u8 0, .int .u8 0, .int .u8 0, .int .u8 0, .int .u8 0, .int .u8 0, .int .u8 0, .int .u8 0, .int .u8 0, .int .u8 0, .int .u8 0, .int .u8 0, .int .u8 0, .int .u8 0, .int .u8 0, .int .u8 0, .int .u8 0, .int .u8 0, .int .u8 0, .bool false] := by kernel_rfl
@[go_sem] theorem Tryz.agg104 : aggP Tryz.prog 104 = some true := by kernel_rfl
@[go_sem] theorem Tryz.bld104 : buildP Tryz.prog 104 = some none := by kernel_rfl
@[go_sem] theorem Tryz.fld104_0 : fldP Tryz.prog 104 0 = some (0, 25) := by kernel_rfl
@[go_sem] theorem Tryz.fld104_1 : fldP Tryz.prog 104 1 = some (3, 3) := by kernel_rfl
@[go_sem] theorem Tryz.fld104_2 : fldP Tryz.prog 104 2 = some (4, 50) := by kernel_rfl
@[go_sem] theorem Tryz.fld104_3 : fldP Tryz.prog 104 3 = some (5, 3) := by kernel_rfl
@[go_sem] theorem Tryz.fld104_4 : fldP Tryz.prog 104 4 = some (6, 68) := by kernel_rfl
@[go_sem] theorem Tryz.fld104_5 : fldP Tryz.prog 104 5 = some (7, 31) := by kernel_rfl
@[go_sem] theorem Tryz.fld104_6 : fldP Tryz.prog 104 6 = some (9, 84) := by kernel_rfl
@[go_sem] theorem Tryz.fld104_7 : fldP Tryz.prog 104 7 = some (35, 4) := by kernel_rfl
@[go_sem] theorem Tryz.sz113 : szP Tryz.prog 113 = some 35 := by kernel_rfl
@[go_sem] theorem Tryz.zero113 : zc1 Tryz.prog 113 = some [.slice .nil [], .slice .nil [], .int .i64 0, .slice .nil [], .slice .nil [], .int .i64 0, .int .i64 0, .int .i64 0, .int .u8 0, .int .u8 0, .int .u8 0, .int .u8 0, .int .u8 0, .int .u8 0, .int .u8 0, .int .u8 0, .int .u8 0, .int .u8 0, .int .u8 0, .int .u8 0, .int .u8 0, .int .u8 0, .int .u8 0, .int .u8 0, .int .u8 0, .int .u8 0, .int .u8 0, .int .u8 0, .int .u8 0, .int .u8 0, .int .u8 0, .int .u8 0, .bool false, .slice .nil [], .int .i64 0] := by kernel_rfl
@[go_sem] theorem Tryz.agg113 : aggP Tryz.prog 113 = some true := by kernel_rfl
@[go_sem] theorem Tryz.bld113 : buildP Tryz.prog 113 = some none := by kernel_rfl
@[go_sem] theorem Tryz.fld113_0 : fldP Tryz.prog 113 0 = some (0, 25) := by kernel_rfl
@[go_sem] theorem Tryz.fld113_1 : fldP Tryz.prog 113 1 = some (3, 26) := by kernel_rfl
@[go_sem] theorem Tryz.fld113_2 : fldP Tryz.prog 113 2 = some (4, 50) := by kernel_rfl
@[go_sem] theorem Tryz.fld113_3 : fldP Tryz.prog 113 3 = some (5, 3) := by kernel_rfl
@[go_sem] theorem Tryz.fld113_4 : fldP Tryz.prog 113 4 = some (6, 84) := by kernel_rfl
@[go_sem] theorem Tryz.fld113_5 : fldP Tryz.prog 113 5 = some (32, 4) := by kernel_rfl
@[go_sem] theorem Tryz.fld113_6 : fldP Tryz.prog 113 6 = some (33, 31) := by kernel_rfl
@[go_sem] theorem Tryz.sz152 : szP Tryz.prog 152 = some 1 := by kernel_rfl
@[go_sem] theorem Tryz.agg152 : aggP Tryz.prog 152 = some false := by kernel_rfl
@[go_sem] theorem Tryz.sli152 : sliP Tryz.prog 152 = some 157 := by kernel_rfl
@[go_sem] theorem Tryz.sz154 : szP Tryz.prog 154 = some 3 := by kernel_rfl
@[go_sem] theorem Tryz.by154 : zb4 Tryz.prog 154 = some 48 := by kernel_rfl
@[go_sem] theorem Tryz.zero154 : zc1 Tryz.prog 154 = some [.str ByteArray.empty, .int .i64 0, .slice .nil []] := by kernel_rfl
@[go_sem] theorem Tryz.agg154 : aggP Tryz.prog 154 = some true := by kernel_rfl
@[go_sem] theorem Tryz.fld154_0 : fldP Tryz.prog 154 0 = some (0, 9) := by kernel_rfl
@[go_sem] theorem Tryz.fld154_1 : fldP Tryz.prog 154 1 = some (1, 3) := by kernel_rfl
@[go_sem] theorem Tryz.fld154_2 : fldP Tryz.prog 154 2 = some (2, 152) := by kernel_rfl
@[go_sem] theorem Tryz.sz157 : szP Tryz.prog 157 = some 2 := by kernel_rfl
@[go_sem] theorem Tryz.by157 : zb4 Tryz.prog 157 = some 24 := by kernel_rfl
@[go_sem] theorem Tryz.zero157 : zc1 Tryz.prog 157 = some [.str ByteArray.empty, .int .u8 0] := by kernel_rfl
@[go_sem] theorem Tryz.agg157 : aggP Tryz.prog 157 = some true := by kernel_rfl
@[go_sem] theorem Tryz.fld157_0 : fldP Tryz.prog 157 0 = some (0, 9) := by kernel_rfl
@[go_sem] theorem Tryz.fld157_1 : fldP Tryz.prog 157 1 = some (1, 81) := by kernel_rfl
@[go_sem] theorem Tryz.sz158 : szP Tryz.prog 158 = some 1 := by kernel_rfl
@[go_sem] theorem Tryz.zero158 : zc1 Tryz.prog 158 = some [.nilfunc] := by kernel_rfl
@[go_sem] theorem Tryz.agg158 : aggP Tryz.prog 158 = some false := by kernel_rfl
@[go_sem] theorem Tryz.sz161 : szP Tryz.prog 161 = some 2 := by kernel_rfl
@[go_sem] theorem Tryz.zero161 : zc1 Tryz.prog 161 = some [.int .i64 0, .int .i64 0] := by kernel_rfl
@[go_sem] theorem Tryz.agg161 : aggP Tryz.prog 161 = some true := by kernel_rfl
@[go_sem] theorem Tryz.conc161 : zc4 Tryz.prog 161 = true := by kernel_rfl
@[go_sem] theorem Tryz.bld161 : buildP Tryz.prog 161 = some none := by kernel_rfl
@[go_sem] theorem Tryz.fld161_0 : fldP Tryz.prog 161 0 = some (0, 3) := by kernel_rfl
@[go_sem] theorem Tryz.fld161_1 : fldP Tryz.prog 161 1 = some (1, 32) := by kernel_rfl
@[go_sem] theorem Tryz.sz192 : szP Tryz.prog 192 = some 1 := by kernel_rfl
@[go_sem] theorem Tryz.agg192 : aggP Tryz.prog 192 = some false := by kernel_rfl
@[go_sem] theorem Tryz.ptr192 : ptrP Tryz.prog 192 = true := by kernel_rfl
@[go_sem] theorem Tryz.sz199 : szP Tryz.prog 199 = some 8 := by kernel_rfl
@[go_sem] theorem Tryz.zero199 : zc1 Tryz.prog 199 = some [.slice .nil [], .int .i64 0, .int .i64 0, .int .i64 0, .int .i64 0, .int .i64 0, .int .i64 0, .bool false] := by kernel_rfl
@[go_sem] theorem Tryz.agg199 : aggP Tryz.prog 199 = some true := by kernel_rfl
@[go_sem] theorem Tryz.bld199 : buildP Tryz.prog 199 = some none := by kernel_rfl
@[go_sem] theorem Tryz.fld199_0 : fldP Tryz.prog 199 0 = some (0, 26) := by kernel_rfl
@[go_sem] theorem Tryz.fld199_1 : fldP Tryz.prog 199 1 = some (1, 3) := by kernel_rfl
@[go_sem] theorem Tryz.fld199_2 : fldP Tryz.prog 199 2 = some (2, 3) := by kernel_rfl
@[go_sem] theorem Tryz.fld199_3 : fldP Tryz.prog 199 3 = some (3, 3) := by kernel_rfl
@[go_sem] theorem Tryz.fld199_4 : fldP Tryz.prog 199 4 = some (4, 3) := by kernel_rfl
@[go_sem] theorem Tryz.fld199_5 : fldP Tryz.prog 199 5 = some (5, 3) := by kernel_rfl
@[go_sem] theorem Tryz.fld199_6 : fldP Tryz.prog 199 6 = some (6, 32) := by kernel_rfl
@[go_sem] theorem Tryz.fld199_7 : fldP Tryz.prog 199 7 = some (7, 4) := by kernel_rfl
@[go_sem] theorem Tryz.sz210 : szP Tryz.prog 210 = some 1 := by kernel_rfl
@[go_sem] theorem Tryz.zero210 : zc1 Tryz.prog 210 = some [.slice .nil []] := by kernel_rfl
@[go_sem] theorem Tryz.agg210 : aggP Tryz.prog 210 = some false := by kernel_rfl
@[go_sem] theorem Tryz.sli210 : sliP Tryz.prog 210 = some 9 := by kernel_rfl
@[go_sem] theorem Tryz.sz227 : szP Tryz.prog 227 = some 1 := by kernel_rfl
@[go_sem] theorem Tryz.agg227 : aggP Tryz.prog 227 = some false := by kernel_rfl
@[go_sem] theorem Tryz.sli227 : sliP Tryz.prog 227 = some 266 := by kernel_rfl
@[go_sem] theorem Tryz.sz229 : szP Tryz.prog 229 = some 2 := by kernel_rfl
@[go_sem] theorem Tryz.zero229 : zc1 Tryz.prog 229 = some [.slice .nil [], .nilfunc] := by kernel_rfl
@[go_sem] theorem Tryz.agg229 : aggP Tryz.prog 229 = some true := by kernel_rfl
@[go_sem] theorem Tryz.bld229 : buildP Tryz.prog 229 = some none := by kernel_rfl
@[go_sem] theorem Tryz.fld229_0 : fldP Tryz.prog 229 0 = some (0, 227) := by kernel_rfl
@[go_sem] theorem Tryz.fld229_1 : fldP Tryz.prog 229 1 = some (1, 158) := by kernel_rfl
@[go_sem] theorem Tryz.sz261 : szP Tryz.prog 261 = some 1 := by kernel_rfl
@[go_sem] theorem Tryz.agg261 : aggP Tryz.prog 261 = some false := by kernel_rfl
@[go_sem] theorem Tryz.sz262 : szP Tryz.prog 262 = some 34 := by kernel_rfl
@[go_sem] theorem Tryz.zero262 : zc1 Tryz.prog 262 = some [.nilfunc, .nilfunc, .nilfunc, .nilfunc, .nilfunc, .nilfunc, .nilfunc, .nilfunc, .nilfunc, .nilfunc, .nilfunc, .nilfunc, .nilfunc, .nilfunc, .nilfunc, .nilfunc, .nilfunc, .nilfunc, .nilfunc, .nilfunc, .nilfunc, .nilfunc, .nilfunc, .nilfunc, .nilfunc, .nilfunc, .nilfunc, .nilfunc, .nilfunc, .nilfunc, .nilfunc, .nilfunc, .nilfunc, .nilfunc] := by kernel_rfl
@[go_sem] theorem Tryz.agg262 : aggP Tryz.prog 262 = some true := by kernel_rfl
@[go_sem] theorem Tryz.arr262 : arrP Tryz.prog 262 = some (34, 261) := by kernel_rfl
@[go_sem] theorem Tryz.sz266 : szP Tryz.prog 266 = some 2 := by kernel_rfl
@[go_sem] theorem Tryz.by266 : zb4 Tryz.prog 266 = some 16 := by kernel_rfl
@[go_sem] theorem Tryz.zero266 : zc1 Tryz.prog 266 = some [.int .i64 0, .int .u8 0] := by kernel_rfl
@[go_sem] theorem Tryz.agg266 : aggP Tryz.prog 266 = some true := by kernel_rfl
@[go_sem] theorem Tryz.bld266 : buildP Tryz.prog 266 = some none := by kernel_rfl
@[go_sem] theorem Tryz.fld266_0 : fldP Tryz.prog 266 0 = some (0, 3) := by kernel_rfl
@[go_sem] theorem Tryz.fld266_1 : fldP Tryz.prog 266 1 = some (1, 81) := by kernel_rfl
open Go.Proofs
theorem Tryz.follows_mixed : Tryz.prog.follows .mixedOrders = true := by kernel_rfl
theorem mkT {N : Nat} {f : FuncId} {c : AC} {rs : List ResultVar} {fn : Func} {code : Code} (hf : Tryz.prog.funcs[f]? = some fn) (hb : fn.body = some code) (hn : (fn.name == "runtime.NumGoroutine") = false) (hN : fn.ntmps = N) (hr : fn.results.toList = rs) (hs : strip code = c) (hl : decide (N ≤ 1000000) = true) : Fun1 Tryz.prog f N c rs := Fun1.mk' Tryz.follows_mixed hf hb hn hN hr hs hl
def c36 : AC :=
.seq (rg [oO 4 (.assign (.const (.bool false)))])
 (.seq (.seq (rg [oO 6 (.move (tT 0)), oO 7 (cB .len #[tT 6] #[29]), oO 8 (.move (tT 1)), oO 9 (cB .len #[tT 8] #[29]), oO 10 (.binOp .neq 3 (tT 7) (tT 9) 3)])
 (.cond (tT 10) (.seq (rg [oO 4 (.assign (.const (.bool false)))])
 (.ret))
 (.skip)))
 (.seq (.seq (rg [oO 11 (.move (tT 0)), oO 12 (cB .len #[tT 11] #[29]), oO 13 (.move (kI 0))])
 (.block 0 (.loop (.seq (rg [oO 14 (.binOp .lss 3 (tT 13) (tT 12) 3)])
 (.seq (.cond (tT 14) (.skip)
 (.exit 0))
 (.seq (.block 1 (.seq (rg [oO 15 (.move (tT 13)), oO 5 (.assign (tT 15))])
 (.seq (.reg true [] [⟨⟨some 16, .move (tT 0), none⟩, false, true⟩, ⟨⟨some 17, .move (tT 5), none⟩, false, true⟩, ⟨⟨some 18, .indexAddr 29 (tT 16) (tT 17), none⟩, false, true⟩, ⟨⟨some 19, .load 3 (tT 18), none⟩, false, true⟩, ⟨⟨some 20, .move (tT 1), none⟩, false, true⟩, oO 21 (.move (tT 5)), oO 22 (.indexAddr 29 (tT 20) (tT 21)), oO 23 (.load 3 (tT 22)), oO 24 (.binOp .neq 3 (tT 19) (tT 23) 3)])
 (.cond (tT 24) (.seq (rg [oO 4 (.assign (.const (.bool false)))])
 (.ret))
 (.skip)))))
 (rg [oO 25 (.binOp .add 3 (tT 13) (kI 1) 3), oO 13 (.move (tT 25))])))))))
 (.seq (rg [oO 4 (.assign (.const (.bool true)))])
 .ret)))
theorem F36 : Fun1 Tryz.prog 36 26 c36 [.tmp 4] := mkT Tryz.func36 rfl (by decide +kernel) Tryz.ntmps36 rfl (by kernel_rfl) rfl
def c57 : AC :=
.seq (rg [oO 1 (.box 95 (tT 0)), oO 2 (.alloc 95)])
 (.seq (rg [oO 3 (.fieldAddr 95 (tT 1) 0), oO 4 (.load 93 (tT 3)), oO 5 (cF (.func 90) #[tT 4] #[93]), oO 6 (.fieldAddr 95 (tT 1) 0), oN (.store 93 (tT 6) (tT 5))])
 (.seq (rg [oO 7 (.load 95 (tT 1)), oN (.store 95 (tT 2) (tT 7))])
 .ret))
theorem F57 : Fun1 Tryz.prog 57 8 c57 [.cell 2 95] := mkT Tryz.func57 rfl (by decide +kernel) Tryz.ntmps57 rfl (by kernel_rfl) rfl
def c90 : AC :=
.seq (rg [oO 2 (.assign (.const (.slice none 0 0)))])
 (.seq (.seq (rg [oO 3 (.move (tT 0)), oO 4 (.binOp .eql 93 (tT 3) (.const (.slice none 0 0)) 93)])
 (.cond (tT 4) (.seq (rg [oO 2 (.assign (.const (.slice none 0 0)))])
 (.ret))
 (.skip)))
 (.seq (rg [oO 5 (.buildSlice 93 0 #[]), oO 6 (.move (tT 0)), oO 7 (cB .append #[tT 5, tT 6] #[93, 93]), oO 2 (.assign (tT 7))])
 .ret))
theorem F90 : Fun1 Tryz.prog 90 8 c90 [.tmp 2] := mkT Tryz.func90 rfl (by decide +kernel) Tryz.ntmps90 rfl (by kernel_rfl) rfl
open Go.Proofs
theorem DLe_nils {o : Own} {es : List (List D)} (h : es = []) : DLe (.slice o []) (.slice .no es) := h ▸ DLe.slice o []
def rws {α : Type} (enc : α → List D) (xs : List α) : List (List D) := xs.map enc
theorem za0 {α : Type} (enc : α → List D) (xs : List α) : (rws enc xs).length = xs.length := by simp [rws]
attribute [go_sem] za0
theorem rws_nil {α : Type} (enc : α → List D) (xs : List α) : (rws enc xs = []) = (xs = []) := by simp [rws]
theorem rws_mt {α : Type} (enc : α → List D) : rws enc [] = [] := rfl
theorem rws_at {α : Type} {enc : α → List D} {xs : List α} {i : Nat} (h : i < xs.length) : (rws enc xs)[i]?.getD [] = enc xs[i] := by simp [rws, h]
theorem rws_one {α : Type} {enc : α → List D} {xs : List α} {n : Nat} (h : ∀ x, (enc x).length = n) : (∀ r ∈ rws enc xs, r.length = n) = True := by simp [rws, h]
def eI (n : Int) : List D := [.int .i64 n]
abbrev Ty := Fin 256
def eT (t : Ty) : List D := [.int .u8 (t.val : Int)]
theorem eT_len (n : Ty) : (eT n).length = 1 := rfl
theorem eT_eq (a b : Ty) : ((a.val : Int) = (b.val : Int)) = (a = b) := by rw [Fin.ext_iff]; simp only [eq_iff_iff]; omega
theorem zc2 {a b : Bool} (h : a = b) : DLe (.bool a) (.bool b) := h ▸ DLe.refl _
theorem nilR_nil {o : Own} {es : List (List D)} {r : Bool} (h : nilR o es r) (hr : r = true) (h0 : o = .nil → es = []) : es = [] := by
  subst hr
  cases o <;> simp_all [nilR]
def nilOk (o : Own) (n : Nat) : Prop := o = .nil → n = 0
theorem take_eq_step {α : Type} {xs ys : List α} {i : Nat} (h : xs.take i = ys.take i) (hx : i < xs.length) (hy : i < ys.length) (he : xs[i] = ys[i]) : xs.take (i + 1) = ys.take (i + 1) := by
  rw [List.take_succ_eq_append_getElem hx, List.take_succ_eq_append_getElem hy, h, he]
theorem clone46 (xs : List Ty) (o : Own) (h0 : nilOk o xs.length) (hl : xs.length * 1 ≤ 140737488355328) : zf9 Tryz.prog 90 [.slice o (rws eT xs)] (.slice .no (rws eT xs)) := by
  refine F90.pcall' rfl fun T hT => ?_
  simp -implicitDefEqProofs only [go_sem, c90, hT]
  intro r hr
  refine br_split (fun h => ?_) fun h => ?_
  · exact DLe_nils (nilR_nil hr h fun h => by simpa [rws_nil] using h0 h)
  · simp -implicitDefEqProofs only [go_sem, hT, rws_one eT_len, rws_nil, hl]
    rintro rfl
    exact DLe_nils rfl
theorem equal16 (xs ys : List Int) (o o' : Own) (hl : xs.length ≤ 140737488355328) : zf9 Tryz.prog 36 [.slice o (rws eI xs), .slice o' (rws eI ys)] (.bool (decide (xs = ys))) := by
  refine F36.pcall' rfl fun T hT => ?_
  simp -implicitDefEqProofs only [go_sem, c36, hT]
  refine br_split (fun h => ?_) fun h => ?_
  · refine zc2 ?_
    simp at h
    simp
    rintro rfl
    exact h rfl
  have hxy : xs.length = ys.length := by simp at h; omega
  refine loopL F36 (fun i : Nat => [(0, .slice o (rws eI xs)), (1, .slice o' (rws eI ys)), (12, .int .i64 xs.length), (13, .int .i64 i)]) (fun _ => {}) (fun i => i ≤ xs.length ∧ xs.take i = ys.take i) (fun i => xs.length - i) 0
    ⟨Nat.zero_le _, rfl⟩ ?_ (St.le.refl _) ?_
  · simp -implicitDefEqProofs only [go_sem, hT, Int.ofNat_zero]
  rintro i ⟨hi, heq⟩ T hT
  simp -implicitDefEqProofs only [go_sem, hT]
  refine br_split (fun h => ?_) fun h => ?_
  · have h : i < xs.length := by simpa using h
    simp -implicitDefEqProofs only [go_sem, hT, Int.toNat_natCast, rws_at h, rws_at (show i < ys.length by omega), eI]
    refine ⟨⟨by omega, by omega⟩, ⟨by omega, by omega⟩, ?_⟩
    refine br_split (fun h' => ?_) fun h' => ?_
    · refine zc2 ?_
      simp at h'
      simp
      rintro rfl
      exact h' rfl
    · simp at h'
      refine ⟨i + 1, ⟨by omega, take_eq_step heq h (by omega) h'⟩, by omega, ?_, St.le.refl _⟩
      rw [zb7 (by omega) (by omega)]
      simp
  · have h : ¬ i < xs.length := by simpa using h
    refine zc2 ?_
    rw [List.take_of_length_le (by omega), List.take_of_length_le (by omega)] at heq
    simp [heq]
open Go.Proofs
structure Sg where
  ps : List Ty
  r : Ty
  deriving DecidableEq
def eSg (s : Sg) : List D := [.slice .no (rws eT s.ps), .int .u8 s.r.val]
theorem sig11 (s : Sg) (hl : s.ps.length ≤ 140737488355328) : zf9 Tryz.prog 57 [.agg (eSg s)] (.agg (eSg s)) := by
  refine F57.pcall' rfl fun T hT => ?_
  simp -implicitDefEqProofs only [go_sem, c57, hT, eSg]
  intro b b' hb hb'
  simp -implicitDefEqProofs only [go_sem, hb, hb', hT]
  refine za4 (clone46 s.ps .no (by simp [nilOk]) (by omega)) ?_
  simp -implicitDefEqProofs only [go_sem, hT, eSg, hb, hb']
open Go.Proofs
def c16 : AC :=
.seq (rg [oO 1 (.box 25 (tT 0)), oO 2 (.alloc 25)])
 (.seq (.seq (.reg true [1] [⟨⟨some 6, .fieldAddr 25 (tT 1) 0, none⟩, false, true⟩, ⟨⟨some 7, .load 22 (tT 6), none⟩, false, true⟩, ⟨⟨some 8, cF (.func 56) #[tT 7] #[22], none⟩, false, true⟩, ⟨⟨some 9, .fieldAddr 25 (tT 1) 2, none⟩, true, true⟩, ⟨⟨some 10, .load 3 (tT 9), none⟩, true, true⟩, ⟨⟨some 11, .build 25 #[(0, .tmp 8), (2, .tmp 10)], none⟩, false, true⟩, ⟨⟨some 3, .alloc 25, none⟩, true, false⟩])
 (rg [oN (.store 25 (tT 3) (tT 11))]))
 (.seq (.seq (rg [oO 12 (.fieldAddr 25 (tT 1) 1), oO 13 (.load 23 (tT 12)), oO 14 (cB .len #[tT 13] #[23]), oO 15 (.move (kI 0))])
 (.block 0 (.loop (.seq (rg [oO 16 (.binOp .lss 3 (tT 15) (tT 14) 3)])
 (.seq (.cond (tT 16) (.skip)
 (.exit 0))
 (.seq (.block 1 (.seq (rg [oO 17 (.indexAddr 23 (tT 13) (tT 15)), oO 18 (.load 95 (tT 17)), oO 5 (.alloc 95), oN (.store 95 (tT 5) (tT 18))])
 (.seq (.reg true [3] [⟨⟨some 19, .fieldAddr 25 (tT 3) 1, none⟩, true, true⟩, ⟨⟨some 20, .load 23 (tT 19), none⟩, true, true⟩, oO 21 (.load 95 (tT 5)), oO 22 (cF (.func 57) #[tT 21] #[95]), oO 23 (.buildSlice 23 1 #[(0, .tmp 22)])])
 (rg [oO 24 (cB .append #[tT 20, tT 23] #[23, 23]), oO 25 (.fieldAddr 25 (tT 3) 1), oN (.store 23 (tT 25) (tT 24))]))))
 (rg [oO 26 (.binOp .add 3 (tT 15) (kI 1) 3), oO 15 (.move (tT 26))])))))))
 (.seq (rg [oO 27 (.load 25 (tT 3)), oN (.store 25 (tT 2) (tT 27))])
 .ret)))
theorem F16 : Fun1 Tryz.prog 16 28 c16 [.cell 2 25] := mkT Tryz.func16 rfl (by decide +kernel) Tryz.ntmps16 rfl (by kernel_rfl) rfl
def c77 : AC :=
.seq (rg [oO 2 (.box 25 (tT 0)), oO 4 (.assign (kI 0))])
 (.seq (.seq (rg [oO 13 (.fieldAddr 25 (tT 2) 0), oO 14 (.load 22 (tT 13)), oO 15 (cF (.func 119) #[tT 14] #[22]), oO 12 (.move (tT 15)), oO 16 (.extract (tT 12) 0), oO 17 (.extract (tT 12) 1), oO 5 (.assign (tT 16)), oO 6 (.assign (tT 17))])
 (.seq (rg [oO 18 (.move (tT 6)), oO 19 (.binOp .neq 32 (tT 18) (kI 0) 32)])
 (.cond (tT 19) (.seq (rg [oO 20 (.move (tT 6)), oO 4 (.assign (tT 20))])
 (.ret))
 (.skip))))
 (.seq (.seq (rg [oO 21 (.fieldAddr 25 (tT 2) 1), oO 22 (.load 23 (tT 21)), oO 23 (cB .len #[tT 22] #[23]), oO 24 (.binOp .gtr 3 (tT 23) (kI 64) 3)])
 (.cond (tT 24) (.seq (rg [oO 4 (.assign (kI 4))])
 (.ret))
 (.skip)))
 (.seq (.seq (rg [oO 25 (.fieldAddr 25 (tT 2) 1), oO 26 (.load 23 (tT 25)), oO 27 (cB .len #[tT 26] #[23]), oO 28 (.move (kI 0))])
 (.block 0 (.loop (.seq (rg [oO 29 (.binOp .lss 3 (tT 28) (tT 27) 3)])
 (.seq (.cond (tT 29) (.skip)
 (.exit 0))
 (.seq (.block 1 (.seq (rg [oO 30 (.indexAddr 23 (tT 26) (tT 28)), oO 31 (.load 95 (tT 30)), oO 8 (.alloc 95), oN (.store 95 (tT 8) (tT 31))])
 (.seq (.seq (rg [oO 32 (.fieldAddr 95 (tT 8) 0), oO 33 (.load 93 (tT 32)), oO 34 (cB .len #[tT 33] #[93]), oO 35 (.binOp .gtr 3 (tT 34) (kI 8) 3)])
 (.cond (tT 35) (.seq (rg [oO 4 (.assign (kI 4))])
 (.ret))
 (.skip)))
 (.seq (rg [oO 36 (.makeFunc (.func 120) #[] #[tT 2]), oO 9 (.assign (tT 36))])
 (.seq (rg [oO 37 (.fieldAddr 95 (tT 8) 0), oO 38 (.load 93 (tT 37)), oO 39 (.move (tT 9)), oO 40 (cF (.func 122) #[tT 38, tT 39] #[93, 184]), oO 41 (.move (tT 40)), oG 42 (.fieldAddr 95 (tT 8) 1) 41 false, oG 43 (.load 81 (tT 42)) 41 false, oG 44 (.binOp .neq 81 (tT 43) (kB 0) 81) 41 false, oG 45 (.move (tT 44)) 41 false, oG 46 (.move (tT 9)) 45 true, oG 47 (.fieldAddr 95 (tT 8) 1) 45 true, oG 48 (.load 81 (tT 47)) 45 true, oG 49 (cF (tT 46) #[tT 48] #[81]) 45 true, oG 50 (.pick (tT 45) (tT 49) (.const (.bool false))) 41 false, oO 51 (.pick (tT 41) (.const (.bool true)) (tT 50))])
 (.cond (tT 51) (.seq (rg [oO 4 (.assign (kI 22))])
 (.ret))
 (.skip)))))))
 (rg [oO 52 (.binOp .add 3 (tT 28) (kI 1) 3), oO 28 (.move (tT 52))])))))))
 (.seq (.seq (rg [oO 53 (.fieldAddr 25 (tT 2) 2), oO 54 (.load 3 (tT 53)), oO 55 (.binOp .lss 3 (tT 54) (kI 0) 3), oO 56 (.move (tT 55)), oG 57 (.fieldAddr 25 (tT 2) 2) 56 false, oG 58 (.load 3 (tT 57)) 56 false, oG 59 (.fieldAddr 25 (tT 2) 1) 56 false, oG 60 (.load 23 (tT 59)) 56 false, oG 61 (cB .len #[tT 60] #[23]) 56 false, oG 62 (.binOp .geq 3 (tT 58) (tT 61) 3) 56 false, oO 63 (.pick (tT 56) (.const (.bool true)) (tT 62))])
 (.cond (tT 63) (.seq (rg [oO 4 (.assign (kI 71))])
 (.ret))
 (.skip)))
 (.seq (.reg true [] [⟨⟨some 65, .fieldAddr 25 (tT 2) 0, none⟩, false, true⟩, ⟨⟨some 66, .load 22 (tT 65), none⟩, false, true⟩, ⟨⟨some 67, .fieldAddr 25 (tT 2) 1, none⟩, false, true⟩, ⟨⟨some 68, .load 23 (tT 67), none⟩, false, true⟩, ⟨⟨some 69, .fieldAddr 25 (tT 2) 2, none⟩, false, true⟩, ⟨⟨some 70, .load 3 (tT 69), none⟩, false, true⟩, ⟨⟨some 71, .indexAddr 23 (tT 68) (tT 70), none⟩, false, true⟩, ⟨⟨some 72, .fieldAddr 95 (tT 71) 0, none⟩, false, true⟩, ⟨⟨some 73, .load 93 (tT 72), none⟩, false, true⟩, ⟨⟨some 74, .move (tT 1), none⟩, false, true⟩, ⟨⟨some 75, cF (.func 97) #[tT 66, tT 73, tT 74] #[22, 93, 3], none⟩, false, true⟩, ⟨⟨some 64, .move (tT 75), none⟩, false, true⟩, ⟨⟨some 76, .extract (tT 64) 0, none⟩, false, true⟩, ⟨⟨some 77, .extract (tT 64) 1, none⟩, true, true⟩, ⟨⟨some 10, .alloc 84, none⟩, true, false⟩, oN (.store 84 (tT 10) (tT 76)), oO 11 (.assign (tT 77))])
 (.seq (rg [oO 78 (.move (tT 11)), oO 4 (.assign (tT 78))])
 .ret))))))
theorem F77 : Fun1 Tryz.prog 77 79 c77 [.tmp 4] := mkT Tryz.func77 rfl (by decide +kernel) Tryz.ntmps77 rfl (by kernel_rfl) rfl
def c56 : AC :=
.seq (rg [oO 2 (.assign (.const (.slice none 0 0)))])
 (.seq (rg [oO 3 (.assign (.const (.slice none 0 0)))])
 (.seq (.seq (rg [oO 6 (.move (tT 0)), oO 7 (cB .len #[tT 6] #[22]), oO 8 (.move (kI 0))])
 (.block 0 (.loop (.seq (rg [oO 9 (.binOp .lss 3 (tT 8) (tT 7) 3)])
 (.seq (.cond (tT 9) (.skip)
 (.exit 0))
 (.seq (.block 1 (.seq (rg [oO 10 (.indexAddr 22 (tT 6) (tT 8)), oO 11 (.load 154 (tT 10)), oO 5 (.alloc 154), oN (.store 154 (tT 5) (tT 11))])
 (.seq (rg [oO 12 (.fieldAddr 154 (tT 5) 2), oO 13 (.load 152 (tT 12)), oO 14 (cF (.func 89) #[tT 13] #[152]), oO 15 (.fieldAddr 154 (tT 5) 2), oN (.store 152 (tT 15) (tT 14))])
 (rg [oO 16 (.move (tT 3)), oO 17 (.load 154 (tT 5)), oO 18 (.buildSlice 22 1 #[(0, .tmp 17)]), oO 19 (cB .append #[tT 16, tT 18] #[22, 22]), oO 3 (.assign (tT 19))]))))
 (rg [oO 20 (.binOp .add 3 (tT 8) (kI 1) 3), oO 8 (.move (tT 20))])))))))
 (.seq (rg [oO 21 (.move (tT 3)), oO 2 (.assign (tT 21))])
 .ret)))
theorem F56 : Fun1 Tryz.prog 56 22 c56 [.tmp 2] := mkT Tryz.func56 rfl (by decide +kernel) Tryz.ntmps56 rfl (by kernel_rfl) rfl
def c89 : AC :=
.seq (rg [oO 2 (.assign (.const (.slice none 0 0)))])
 (.seq (.seq (rg [oO 3 (.move (tT 0)), oO 4 (.binOp .eql 152 (tT 3) (.const (.slice none 0 0)) 152)])
 (.cond (tT 4) (.seq (rg [oO 2 (.assign (.const (.slice none 0 0)))])
 (.ret))
 (.skip)))
 (.seq (rg [oO 5 (.buildSlice 152 0 #[]), oO 6 (.move (tT 0)), oO 7 (cB .append #[tT 5, tT 6] #[152, 152]), oO 2 (.assign (tT 7))])
 .ret))
theorem F89 : Fun1 Tryz.prog 89 8 c89 [.tmp 2] := mkT Tryz.func89 rfl (by decide +kernel) Tryz.ntmps89 rfl (by kernel_rfl) rfl
def c119 : AC :=
.seq (rg [oO 2 (.assign (kI 0)), oO 3 (.assign (kI 0))])
 (.seq (.seq (rg [oO 7 (.move (tT 0)), oO 8 (cB .len #[tT 7] #[22]), oO 9 (.move (kI 0))])
 (.block 0 (.loop (.seq (rg [oO 10 (.binOp .lss 3 (tT 9) (tT 8) 3)])
 (.seq (.cond (tT 10) (.skip)
 (.exit 0))
 (.seq (.block 1 (.seq (rg [oO 11 (.move (tT 9)), oO 12 (.indexAddr 22 (tT 7) (tT 9)), oO 13 (.load 154 (tT 12)), oO 5 (.alloc 154), oO 4 (.assign (tT 11)), oN (.store 154 (tT 5) (tT 13))])
 (.seq (rg [oO 6 (.assign (kI 0))])
 (.seq (.block 2 (.seq (rg [oO 18 (.move (tT 4)), oO 19 (.binOp .geq 3 (tT 18) (kI 32) 3), oO 17 (.assign (tT 19))])
 (.cond (tT 17) (rg [oO 6 (.assign (kI 4))])
 (.seq (.reg true [5] [oO 21 (.fieldAddr 154 (tT 5) 0), oO 22 (.load 9 (tT 21)), oO 23 (cF (.func 152) #[tT 22] #[9]), oO 24 (.unOp .not 4 (tT 23)), oO 25 (.move (tT 24)), ⟨⟨some 26, cF (.func 154) #[] #[], some (25, false)⟩, false, true⟩, ⟨⟨some 27, .fieldAddr 154 (tT 5) 0, some (25, false)⟩, true, false⟩, ⟨⟨some 28, .load 9 (tT 27), some (25, false)⟩, true, false⟩, oG 29 (cF (.func 153) #[tT 26, tT 28] #[210, 9]) 25 false, oO 30 (.pick (tT 25) (.const (.bool true)) (tT 29)), oO 20 (.assign (tT 30))])
 (.cond (tT 20) (rg [oO 6 (.assign (kI 6))])
 (.seq (rg [oO 32 (.move (tT 0)), oO 33 (.move (tT 4)), oO 34 (.slice 22 (tT 32) none (some (tT 33)) none), oO 35 (.makeFunc (.func 156) #[] #[tT 5]), oO 36 (cF (.func 155) #[tT 34, tT 35] #[22, 213]), oO 31 (.assign (tT 36))])
 (.cond (tT 31) (rg [oO 6 (.assign (kI 20))])
 (.seq (rg [oO 38 (.fieldAddr 154 (tT 5) 1), oO 39 (.load 3 (tT 38)), oO 40 (.binOp .lss 3 (tT 39) (kI (-1)) 3), oO 41 (.move (tT 40)), oG 42 (.fieldAddr 154 (tT 5) 1) 41 false, oG 43 (.load 3 (tT 42)) 41 false, oG 44 (.move (tT 4)) 41 false, oG 45 (.binOp .geq 3 (tT 43) (tT 44) 3) 41 false, oO 46 (.pick (tT 41) (.const (.bool true)) (tT 45)), oO 37 (.assign (tT 46))])
 (.cond (tT 37) (rg [oO 6 (.assign (kI 21))])
 (rg [oO 14 (.move (tT 0)), oO 15 (.move (tT 4)), oO 16 (cF (.func 157) #[tT 14, tT 15] #[22, 3]), oO 6 (.assign (tT 16))]))))))))))
 (.seq (rg [oO 47 (.move (tT 6)), oO 48 (.binOp .neq 32 (tT 47) (kI 0) 32)])
 (.cond (tT 48) (.seq (rg [oO 49 (.move (tT 4)), oO 50 (.move (tT 6)), oO 2 (.assign (tT 49)), oO 3 (.assign (tT 50))])
 (.ret))
 (.skip)))))))
 (rg [oO 51 (.binOp .add 3 (tT 9) (kI 1) 3), oO 9 (.move (tT 51))])))))))
 (.seq (rg [oO 2 (.assign (kI 0)), oO 3 (.assign (kI 0))])
 .ret))
theorem F119 : Fun1 Tryz.prog 119 52 c119 [.tmp 2, .tmp 3] := mkT Tryz.func119 rfl (by decide +kernel) Tryz.ntmps119 rfl (by kernel_rfl) rfl
def c156 : AC :=
.seq (rg [oO 2 (.box 154 (tT 0)), oO 3 (.assign (.const (.bool false)))])
 (.seq (rg [oO 4 (.fieldAddr 154 (tT 2) 0), oO 5 (.load 9 (tT 4)), oO 6 (.fieldAddr 154 (tT 1) 0), oO 7 (.load 9 (tT 6)), oO 8 (.binOp .eql 9 (tT 5) (tT 7) 9), oO 3 (.assign (tT 8))])
 .ret)
theorem F156 : Fun1 Tryz.prog 156 9 c156 [.tmp 3] := mkT Tryz.func156 rfl (by decide +kernel) Tryz.ntmps156 rfl (by kernel_rfl) rfl
def c155 : AC :=
.seq (rg [oO 4 (.assign (.const (.bool false)))])
 (.seq (rg [oO 5 (.move (tT 0)), oO 6 (.move (tT 1)), oO 7 (cF (.func 188) #[tT 5, tT 6] #[22, 213]), oO 8 (.binOp .geq 3 (tT 7) (kI 0) 3), oO 4 (.assign (tT 8))])
 .ret)
theorem F155 : Fun1 Tryz.prog 155 9 c155 [.tmp 4] := mkT Tryz.func155 rfl (by decide +kernel) Tryz.ntmps155 rfl (by kernel_rfl) rfl
def c153 : AC :=
.seq (rg [oO 4 (.assign (.const (.bool false)))])
 (.seq (rg [oO 5 (.move (tT 0)), oO 6 (.move (tT 1)), oO 7 (cF (.func 187) #[tT 5, tT 6] #[210, 9]), oO 8 (.binOp .geq 3 (tT 7) (kI 0) 3), oO 4 (.assign (tT 8))])
 .ret)
theorem F153 : Fun1 Tryz.prog 153 9 c153 [.tmp 4] := mkT Tryz.func153 rfl (by decide +kernel) Tryz.ntmps153 rfl (by kernel_rfl) rfl
def c187 : AC :=
.seq (rg [oO 4 (.assign (kI 0))])
 (.seq (.seq (rg [oO 6 (.move (tT 0)), oO 7 (cB .len #[tT 6] #[210]), oO 8 (.move (kI 0))])
 (.block 0 (.loop (.seq (rg [oO 9 (.binOp .lss 3 (tT 8) (tT 7) 3)])
 (.seq (.cond (tT 9) (.skip)
 (.exit 0))
 (.seq (.block 1 (.seq (rg [oO 10 (.move (tT 8)), oO 5 (.assign (tT 10))])
 (.seq (rg [oO 11 (.move (tT 1)), oO 12 (.move (tT 0)), oO 13 (.move (tT 5)), oO 14 (.indexAddr 210 (tT 12) (tT 13)), oO 15 (.load 9 (tT 14)), oO 16 (.binOp .eql 9 (tT 11) (tT 15) 9)])
 (.cond (tT 16) (.seq (rg [oO 17 (.move (tT 5)), oO 4 (.assign (tT 17))])
 (.ret))
 (.skip)))))
 (rg [oO 18 (.binOp .add 3 (tT 8) (kI 1) 3), oO 8 (.move (tT 18))])))))))
 (.seq (rg [oO 4 (.assign (kI (-1)))])
 .ret))
theorem F187 : Fun1 Tryz.prog 187 19 c187 [.tmp 4] := mkT Tryz.func187 rfl (by decide +kernel) Tryz.ntmps187 rfl (by kernel_rfl) rfl
def c188 : AC :=
.seq (rg [oO 4 (.assign (kI 0))])
 (.seq (.seq (rg [oO 6 (.move (tT 0)), oO 7 (cB .len #[tT 6] #[22]), oO 8 (.move (kI 0))])
 (.block 0 (.loop (.seq (rg [oO 9 (.binOp .lss 3 (tT 8) (tT 7) 3)])
 (.seq (.cond (tT 9) (.skip)
 (.exit 0))
 (.seq (.block 1 (.seq (rg [oO 10 (.move (tT 8)), oO 5 (.assign (tT 10))])
 (.seq (rg [oO 11 (.move (tT 1)), oO 12 (.move (tT 0)), oO 13 (.move (tT 5)), oO 14 (.indexAddr 22 (tT 12) (tT 13)), oO 15 (.load 154 (tT 14)), oO 16 (cF (tT 11) #[tT 15] #[154])])
 (.cond (tT 16) (.seq (rg [oO 17 (.move (tT 5)), oO 4 (.assign (tT 17))])
 (.ret))
 (.skip)))))
 (rg [oO 18 (.binOp .add 3 (tT 8) (kI 1) 3), oO 8 (.move (tT 18))])))))))
 (.seq (rg [oO 4 (.assign (kI (-1)))])
 .ret))
theorem F188 : Fun1 Tryz.prog 188 19 c188 [.tmp 4] := mkT Tryz.func188 rfl (by decide +kernel) Tryz.ntmps188 rfl (by kernel_rfl) rfl
def c154 : AC :=
.seq (rg [oO 0 (.assign (.const (.slice none 0 0)))])
 (.seq (rg [oO 1 (.buildSlice 210 6 #[(0, .const (.string { data := #[116, 111, 112] })), (1, .const (.string { data := #[105, 110, 116] })), (2, .const (.string { data := #[98, 111, 111, 108] })), (3, .const (.string { data := #[110, 117, 108, 108] })), (4, .const (.string { data := #[105, 110, 116, 115] })), (5, .const (.string { data := #[97, 110, 121] }))]), oO 0 (.assign (tT 1))])
 .ret)
theorem F154 : Fun1 Tryz.prog 154 2 c154 [.tmp 0] := mkT Tryz.func154 rfl (by decide +kernel) Tryz.ntmps154 rfl (by kernel_rfl) rfl
def c152 : AC :=
.seq (rg [oO 2 (.assign (.const (.bool false)))])
 (.seq (.seq (rg [oO 5 (.move (tT 0)), oO 6 (cB .len #[tT 5] #[9]), oO 7 (.binOp .eql 3 (tT 6) (kI 0) 3), oO 8 (.move (tT 7)), oG 9 (.move (tT 0)) 8 false, oG 10 (cB .len #[tT 9] #[9]) 8 false, oG 11 (.binOp .gtr 3 (tT 10) (kI 24) 3) 8 false, oO 12 (.pick (tT 8) (.const (.bool true)) (tT 11))])
 (.cond (tT 12) (.seq (rg [oO 2 (.assign (.const (.bool false)))])
 (.ret))
 (.skip)))
 (.seq (.seq (rg [oO 13 (.move (tT 0)), oO 14 (cB .len #[tT 13] #[9]), oO 15 (.move (kI 0))])
 (.block 0 (.loop (.seq (rg [oO 16 (.binOp .lss 3 (tT 15) (tT 14) 3)])
 (.seq (.cond (tT 16) (.skip)
 (.exit 0))
 (.seq (.block 1 (.seq (rg [oO 17 (.move (tT 15)), oO 3 (.assign (tT 17))])
 (.seq (rg [oO 18 (.move (tT 0)), oO 19 (.move (tT 3)), oO 20 (.index 9 (tT 18) (tT 19)), oO 4 (.assign (tT 20))])
 (.block 2 (.seq (.seq (rg [oO 22 (.move (tT 4)), oO 23 (.binOp .geq 5 (tT 22) (kB 97) 5), oO 24 (.move (tT 23)), oG 25 (.move (tT 4)) 24 true, oG 26 (.binOp .leq 5 (tT 25) (kB 122) 5) 24 true, oO 27 (.pick (tT 24) (tT 26) (.const (.bool false))), oO 21 (.assign (tT 27))])
 (.cond (tT 21) (.skip)
 (rg [oO 28 (.move (tT 4)), oO 29 (.binOp .geq 5 (tT 28) (kB 65) 5), oO 30 (.move (tT 29)), oG 31 (.move (tT 4)) 30 true, oG 32 (.binOp .leq 5 (tT 31) (kB 90) 5) 30 true, oO 33 (.pick (tT 30) (tT 32) (.const (.bool false))), oO 21 (.assign (tT 33))])))
 (.cond (tT 21) (.skip)
 (.seq (rg [oO 35 (.move (tT 3)), oO 36 (.binOp .gtr 3 (tT 35) (kI 0) 3), oO 37 (.move (tT 36)), oG 38 (.move (tT 4)) 37 true, oG 39 (.binOp .geq 5 (tT 38) (kB 48) 5) 37 true, oG 40 (.move (tT 39)) 37 true, oG 41 (.move (tT 4)) 40 true, oG 42 (.binOp .leq 5 (tT 41) (kB 57) 5) 40 true, oG 43 (.pick (tT 40) (tT 42) (.const (.bool false))) 37 true, oG 44 (.move (tT 43)) 37 true, oG 45 (.move (tT 4)) 44 false, oG 46 (.binOp .eql 5 (tT 45) (kB 95) 5) 44 false, oG 47 (.pick (tT 44) (.const (.bool true)) (tT 46)) 37 true, oO 48 (.pick (tT 37) (tT 47) (.const (.bool false))), oO 34 (.assign (tT 48))])
 (.cond (tT 34) (.skip)
 (.seq (rg [oO 2 (.assign (.const (.bool false)))])
 (.ret))))))))))
 (rg [oO 49 (.binOp .add 3 (tT 15) (kI 1) 3), oO 15 (.move (tT 49))])))))))
 (.seq (rg [oO 2 (.assign (.const (.bool true)))])
 .ret)))
theorem F152 : Fun1 Tryz.prog 152 50 c152 [.tmp 2] := mkT Tryz.func152 rfl (by decide +kernel) Tryz.ntmps152 rfl (by kernel_rfl) rfl
def c157 : AC :=
.seq (rg [oO 2 (.box 22 (tT 0)), oO 4 (.assign (kI 0))])
 (.seq (rg [oO 5 (.alloc 210)])
 (.seq (.reg true [] [⟨⟨some 8, .load 22 (tT 2), none⟩, false, true⟩, ⟨⟨some 9, .load 22 (tT 2), none⟩, false, true⟩, ⟨⟨some 10, .move (tT 1), none⟩, false, true⟩, ⟨⟨some 11, .indexAddr 22 (tT 9) (tT 10), none⟩, false, true⟩, ⟨⟨some 12, .fieldAddr 154 (tT 11) 1, none⟩, false, true⟩, ⟨⟨some 13, .load 3 (tT 12), none⟩, false, true⟩, oO 14 (.makeFunc (.func 190) #[] #[tT 2, tT 5]), oO 15 (cF (.func 189) #[tT 8, tT 13, tT 14] #[22, 3, 188])])
 (.seq (.seq (rg [oO 16 (.load 22 (tT 2)), oO 17 (.move (tT 1)), oO 18 (.indexAddr 22 (tT 16) (tT 17)), oO 19 (.fieldAddr 154 (tT 18) 2), oO 20 (.load 152 (tT 19)), oO 21 (cB .len #[tT 20] #[152]), oO 22 (.move (kI 0))])
 (.block 0 (.loop (.seq (rg [oO 23 (.binOp .lss 3 (tT 22) (tT 21) 3)])
 (.seq (.cond (tT 23) (.skip)
 (.exit 0))
 (.seq (.block 1 (.seq (rg [oO 24 (.indexAddr 152 (tT 20) (tT 22)), oO 25 (.load 157 (tT 24)), oO 7 (.alloc 157), oN (.store 157 (tT 7) (tT 25))])
 (.seq (.block 2 (.seq (rg [oO 27 (.fieldAddr 157 (tT 7) 0), oO 28 (.load 9 (tT 27)), oO 29 (cF (.func 152) #[tT 28] #[9]), oO 30 (.unOp .not 4 (tT 29)), oO 26 (.assign (tT 30))])
 (.cond (tT 26) (.seq (rg [oO 4 (.assign (kI 6))])
 (.ret))
 (.seq (rg [oO 32 (.load 210 (tT 5)), oO 33 (.fieldAddr 157 (tT 7) 0), oO 34 (.load 9 (tT 33)), oO 35 (cF (.func 153) #[tT 32, tT 34] #[210, 9]), oO 31 (.assign (tT 35))])
 (.cond (tT 31) (.seq (rg [oO 4 (.assign (kI 20))])
 (.ret))
 (.seq (rg [oO 37 (.load 22 (tT 2)), oO 38 (.fieldAddr 157 (tT 7) 1), oO 39 (.load 81 (tT 38)), oO 40 (cF (.func 191) #[tT 37, tT 39] #[22, 81]), oO 41 (.unOp .not 4 (tT 40)), oO 36 (.assign (tT 41))])
 (.cond (tT 36) (.seq (rg [oO 4 (.assign (kI 22))])
 (.ret))
 (.skip))))))))
 (rg [oO 42 (.load 210 (tT 5)), oO 43 (.fieldAddr 157 (tT 7) 0), oO 44 (.load 9 (tT 43)), oO 45 (.buildSlice 210 1 #[(0, .tmp 44)]), oO 46 (cB .append #[tT 42, tT 45] #[210, 210]), oN (.store 210 (tT 5) (tT 46))]))))
 (rg [oO 47 (.binOp .add 3 (tT 22) (kI 1) 3), oO 22 (.move (tT 47))])))))))
 (.seq (.seq (rg [oO 48 (.load 210 (tT 5)), oO 49 (cB .len #[tT 48] #[210]), oO 50 (.binOp .gtr 3 (tT 49) (kI 32) 3)])
 (.cond (tT 50) (.seq (rg [oO 4 (.assign (kI 4))])
 (.ret))
 (.skip)))
 (.seq (rg [oO 4 (.assign (kI 0))])
 .ret)))))
theorem F157 : Fun1 Tryz.prog 157 51 c157 [.tmp 4] := mkT Tryz.func157 rfl (by decide +kernel) Tryz.ntmps157 rfl (by kernel_rfl) rfl
def c190 : AC :=
.seq (rg [oO 4 (.assign (.const (.bool false)))])
 (.seq (.seq (rg [oO 7 (.load 22 (tT 1)), oO 8 (.move (tT 0)), oO 9 (.indexAddr 22 (tT 7) (tT 8)), oO 10 (.fieldAddr 154 (tT 9) 2), oO 11 (.load 152 (tT 10)), oO 12 (cB .len #[tT 11] #[152]), oO 13 (.move (kI 0))])
 (.block 0 (.loop (.seq (rg [oO 14 (.binOp .lss 3 (tT 13) (tT 12) 3)])
 (.seq (.cond (tT 14) (.skip)
 (.exit 0))
 (.seq (.block 1 (.seq (rg [oO 15 (.indexAddr 152 (tT 11) (tT 13)), oO 16 (.load 157 (tT 15)), oO 6 (.alloc 157), oN (.store 157 (tT 6) (tT 16))])
 (rg [oO 17 (.load 210 (tT 2)), oO 18 (.fieldAddr 157 (tT 6) 0), oO 19 (.load 9 (tT 18)), oO 20 (.buildSlice 210 1 #[(0, .tmp 19)]), oO 21 (cB .append #[tT 17, tT 20] #[210, 210]), oN (.store 210 (tT 2) (tT 21))])))
 (rg [oO 22 (.binOp .add 3 (tT 13) (kI 1) 3), oO 13 (.move (tT 22))])))))))
 (.seq (rg [oO 4 (.assign (.const (.bool true)))])
 .ret))
theorem F190 : Fun1 Tryz.prog 190 23 c190 [.tmp 4] := mkT Tryz.func190 rfl (by decide +kernel) Tryz.ntmps190 rfl (by kernel_rfl) rfl
def c189 : AC :=
.block 0 (.loop (.seq (.seq (rg [oO 7 (.move (tT 1)), oO 8 (.binOp .geq 3 (tT 7) (kI 0) 3), oO 9 (.move (tT 8)), oG 10 (.move (tT 1)) 9 true, oG 11 (.move (tT 0)) 9 true, oG 12 (cB .len #[tT 11] #[22]) 9 true, oG 13 (.binOp .lss 3 (tT 10) (tT 12) 3) 9 true, oO 14 (.pick (tT 9) (tT 13) (.const (.bool false))), oO 15 (.move (tT 14)), oG 16 (.move (tT 2)) 15 true, oG 17 (.move (tT 1)) 15 true, oG 18 (cF (tT 16) #[tT 17] #[3]) 15 true, oO 19 (.pick (tT 15) (tT 18) (.const (.bool false)))])
 (.cond (tT 19) (.skip)
 (.exit 0)))
 (.block 1 (.seq (rg [oO 20 (.move (tT 0)), oO 21 (.move (tT 1)), oO 22 (.indexAddr 22 (tT 20) (tT 21)), oO 23 (.fieldAddr 154 (tT 22) 1), oO 24 (.load 3 (tT 23)), oO 6 (.assign (tT 24))])
 (.seq (.seq (rg [oO 25 (.move (tT 6)), oO 26 (.move (tT 1)), oO 27 (.binOp .geq 3 (tT 25) (tT 26) 3)])
 (.cond (tT 27) (.ret)
 (.skip)))
 (rg [oO 28 (.move (tT 6)), oO 1 (.assign (tT 28))]))))))
theorem F189 : Fun1 Tryz.prog 189 29 c189 [] := mkT Tryz.func189 rfl (by decide +kernel) Tryz.ntmps189 rfl (by kernel_rfl) rfl
def c191 : AC :=
.seq (rg [oO 4 (.assign (.const (.bool false)))])
 (.seq (rg [oO 5 (.move (tT 1)), oO 6 (.binOp .eql 81 (tT 5) (kB 1) 81), oO 7 (.move (tT 6)), oG 8 (.move (tT 1)) 7 false, oG 9 (.binOp .eql 81 (tT 8) (kB 2) 81) 7 false, oO 10 (.pick (tT 7) (.const (.bool true)) (tT 9)), oO 11 (.move (tT 10)), oG 12 (.move (tT 1)) 11 false, oG 13 (.binOp .eql 81 (tT 12) (kB 4) 81) 11 false, oO 14 (.pick (tT 11) (.const (.bool true)) (tT 13)), oO 15 (.move (tT 14)), oG 16 (.move (tT 1)) 15 false, oG 17 (.binOp .eql 81 (tT 16) (kB 5) 81) 15 false, oO 18 (.pick (tT 15) (.const (.bool true)) (tT 17)), oO 19 (.move (tT 18)), oG 20 (.move (tT 0)) 19 false, oG 21 (.move (tT 1)) 19 false, oG 22 (cF (.func 170) #[tT 20, tT 21] #[22, 81]) 19 false, oG 23 (.binOp .geq 3 (tT 22) (kI 0) 3) 19 false, oO 24 (.pick (tT 19) (.const (.bool true)) (tT 23)), oO 4 (.assign (tT 24))])
 .ret)
theorem F191 : Fun1 Tryz.prog 191 25 c191 [.tmp 4] := mkT Tryz.func191 rfl (by decide +kernel) Tryz.ntmps191 rfl (by kernel_rfl) rfl
def c170 : AC :=
.seq (rg [oO 4 (.assign (kI 0))])
 (.seq (.seq (rg [oO 5 (.move (tT 1)), oO 6 (.binOp .lss 81 (tT 5) (kB 16) 81), oO 7 (.move (tT 6)), oG 8 (.move (tT 1)) 7 false, oG 9 (.binOp .sub 81 (tT 8) (kB 16) 81) 7 false, oG 10 (.convert 81 3 (tT 9)) 7 false, oG 11 (.move (tT 0)) 7 false, oG 12 (cB .len #[tT 11] #[22]) 7 false, oG 13 (.binOp .geq 3 (tT 10) (tT 12) 3) 7 false, oO 14 (.pick (tT 7) (.const (.bool true)) (tT 13))])
 (.cond (tT 14) (.seq (rg [oO 4 (.assign (kI (-1)))])
 (.ret))
 (.skip)))
 (.seq (rg [oO 15 (.move (tT 1)), oO 16 (.binOp .sub 81 (tT 15) (kB 16) 81), oO 17 (.convert 81 3 (tT 16)), oO 4 (.assign (tT 17))])
 .ret))
theorem F170 : Fun1 Tryz.prog 170 18 c170 [.tmp 4] := mkT Tryz.func170 rfl (by decide +kernel) Tryz.ntmps170 rfl (by kernel_rfl) rfl
def c121 : AC :=
.seq (rg [oO 4 (.assign (.const (.bool false)))])
 (.seq (rg [oO 5 (.move (tT 0)), oO 6 (.move (tT 1)), oO 7 (cF (.func 139) #[tT 5, tT 6] #[22, 81]), oO 8 (.move (tT 7)), oG 9 (.move (tT 1)) 8 true, oG 10 (.binOp .neq 81 (tT 9) (kB 0) 81) 8 true, oO 11 (.pick (tT 8) (tT 10) (.const (.bool false))), oO 12 (.move (tT 11)), oG 13 (.move (tT 1)) 12 true, oG 14 (.binOp .neq 81 (tT 13) (kB 3) 81) 12 true, oO 15 (.pick (tT 12) (tT 14) (.const (.bool false))), oO 4 (.assign (tT 15))])
 .ret)
theorem F121 : Fun1 Tryz.prog 121 16 c121 [.tmp 4] := mkT Tryz.func121 rfl (by decide +kernel) Tryz.ntmps121 rfl (by kernel_rfl) rfl
def c120 : AC :=
.seq (rg [oO 3 (.assign (.const (.bool false)))])
 (.seq (rg [oO 4 (.fieldAddr 25 (tT 1) 0), oO 5 (.load 22 (tT 4)), oO 6 (.move (tT 0)), oO 7 (cF (.func 121) #[tT 5, tT 6] #[22, 81]), oO 8 (.unOp .not 4 (tT 7)), oO 3 (.assign (tT 8))])
 .ret)
theorem F120 : Fun1 Tryz.prog 120 9 c120 [.tmp 3] := mkT Tryz.func120 rfl (by decide +kernel) Tryz.ntmps120 rfl (by kernel_rfl) rfl
def c122 : AC :=
.seq (rg [oO 4 (.assign (.const (.bool false)))])
 (.seq (rg [oO 5 (.move (tT 0)), oO 6 (.move (tT 1)), oO 7 (cF (.func 158) #[tT 5, tT 6] #[93, 184]), oO 8 (.binOp .geq 3 (tT 7) (kI 0) 3), oO 4 (.assign (tT 8))])
 .ret)
theorem F122 : Fun1 Tryz.prog 122 9 c122 [.tmp 4] := mkT Tryz.func122 rfl (by decide +kernel) Tryz.ntmps122 rfl (by kernel_rfl) rfl
def c158 : AC :=
.seq (rg [oO 4 (.assign (kI 0))])
 (.seq (.seq (rg [oO 6 (.move (tT 0)), oO 7 (cB .len #[tT 6] #[93]), oO 8 (.move (kI 0))])
 (.block 0 (.loop (.seq (rg [oO 9 (.binOp .lss 3 (tT 8) (tT 7) 3)])
 (.seq (.cond (tT 9) (.skip)
 (.exit 0))
 (.seq (.block 1 (.seq (rg [oO 10 (.move (tT 8)), oO 5 (.assign (tT 10))])
 (.seq (rg [oO 11 (.move (tT 1)), oO 12 (.move (tT 0)), oO 13 (.move (tT 5)), oO 14 (.indexAddr 93 (tT 12) (tT 13)), oO 15 (.load 81 (tT 14)), oO 16 (cF (tT 11) #[tT 15] #[81])])
 (.cond (tT 16) (.seq (rg [oO 17 (.move (tT 5)), oO 4 (.assign (tT 17))])
 (.ret))
 (.skip)))))
 (rg [oO 18 (.binOp .add 3 (tT 8) (kI 1) 3), oO 8 (.move (tT 18))])))))))
 (.seq (rg [oO 4 (.assign (kI (-1)))])
 .ret))
theorem F158 : Fun1 Tryz.prog 158 19 c158 [.tmp 4] := mkT Tryz.func158 rfl (by decide +kernel) Tryz.ntmps158 rfl (by kernel_rfl) rfl
def c139 : AC :=
.seq (rg [oO 4 (.assign (.const (.bool false)))])
 (.seq (rg [oO 5 (.move (tT 1)), oO 6 (.binOp .leq 81 (tT 5) (kB 5) 81), oO 7 (.move (tT 6)), oG 8 (.move (tT 0)) 7 false, oG 9 (.move (tT 1)) 7 false, oG 10 (cF (.func 170) #[tT 8, tT 9] #[22, 81]) 7 false, oG 11 (.binOp .geq 3 (tT 10) (kI 0) 3) 7 false, oO 12 (.pick (tT 7) (.const (.bool true)) (tT 11)), oO 4 (.assign (tT 12))])
 .ret)
theorem F139 : Fun1 Tryz.prog 139 13 c139 [.tmp 4] := mkT Tryz.func139 rfl (by decide +kernel) Tryz.ntmps139 rfl (by kernel_rfl) rfl
def c97 : AC :=
.seq (rg [oO 6 (.alloc 84), oO 7 (.assign (kI 0))])
 (.seq (rg [oO 13 (.move (tT 2)), oO 14 (cF (.func 140) #[tT 13] #[3]), oO 12 (.move (tT 14)), oO 15 (.extract (tT 12) 0), oO 16 (.extract (tT 12) 1), oO 8 (.alloc 84), oN (.store 84 (tT 8) (tT 15)), oO 9 (.assign (tT 16))])
 (.seq (.seq (rg [oO 17 (.move (tT 9)), oO 18 (.binOp .neq 32 (tT 17) (kI 0) 32), oO 19 (.move (tT 18)), oG 20 (.move (tT 1)) 19 false, oG 21 (cB .len #[tT 20] #[93]) 19 false, oG 22 (.binOp .gtr 3 (tT 21) (kI 8) 3) 19 false, oO 23 (.pick (tT 19) (.const (.bool true)) (tT 22)), oO 24 (.move (tT 23)), oG 25 (.move (tT 1)) 24 false, oG 26 (cB .len #[tT 25] #[93]) 24 false, oG 27 (.move (tT 2)) 24 false, oG 28 (.binOp .gtr 3 (tT 26) (tT 27) 3) 24 false, oO 29 (.pick (tT 24) (.const (.bool true)) (tT 28))])
 (.cond (tT 29) (.seq (rg [oO 30 (.build 84 #[]), oN (.store 84 (tT 6) (tT 30)), oO 7 (.assign (kI 1))])
 (.ret))
 (.skip)))
 (.seq (.seq (rg [oO 31 (.move (tT 1)), oO 32 (cB .len #[tT 31] #[93]), oO 33 (.move (kI 0))])
 (.block 0 (.loop (.seq (rg [oO 34 (.binOp .lss 3 (tT 33) (tT 32) 3)])
 (.seq (.cond (tT 34) (.skip)
 (.exit 0))
 (.seq (.block 1 (.seq (rg [oO 35 (.move (tT 33)), oO 36 (.indexAddr 93 (tT 31) (tT 33)), oO 37 (.load 81 (tT 36)), oO 10 (.assign (tT 35)), oO 11 (.assign (tT 37))])
 (.seq (.seq (rg [oO 38 (.move (tT 0)), oO 39 (.move (tT 11)), oO 40 (cF (.func 139) #[tT 38, tT 39] #[22, 81]), oO 41 (.unOp .not 4 (tT 40)), oO 42 (.move (tT 41)), oG 43 (.move (tT 11)) 42 false, oG 44 (.binOp .eql 81 (tT 43) (kB 0) 81) 42 false, oO 45 (.pick (tT 42) (.const (.bool true)) (tT 44)), oO 46 (.move (tT 45)), oG 47 (.move (tT 11)) 46 false, oG 48 (.binOp .eql 81 (tT 47) (kB 3) 81) 46 false, oO 49 (.pick (tT 46) (.const (.bool true)) (tT 48))])
 (.cond (tT 49) (.seq (rg [oO 50 (.build 84 #[]), oN (.store 84 (tT 6) (tT 50)), oO 7 (.assign (kI 1))])
 (.ret))
 (.skip)))
 (rg [oO 51 (.move (tT 10)), oO 52 (.move (tT 11)), oO 53 (.fieldAddr 84 (tT 8) 2), oO 54 (.indexAddr 82 (tT 53) (tT 51)), oN (.store 81 (tT 54) (tT 52))]))))
 (rg [oO 55 (.binOp .add 3 (tT 33) (kI 1) 3), oO 33 (.move (tT 55))])))))))
 (.seq (rg [oO 56 (.load 84 (tT 8)), oN (.store 84 (tT 6) (tT 56)), oO 7 (.assign (kI 0))])
 .ret))))
theorem F97 : Fun1 Tryz.prog 97 57 c97 [.cell 6 84, .tmp 7] := mkT Tryz.func97 rfl (by decide +kernel) Tryz.ntmps97 rfl (by kernel_rfl) rfl
def c140 : AC :=
.seq (rg [oO 2 (.alloc 84), oO 3 (.assign (kI 0))])
 (.seq (.seq (rg [oO 4 (.move (tT 0)), oO 5 (.binOp .lss 3 (tT 4) (kI 0) 3), oO 6 (.move (tT 5)), oG 7 (.move (tT 0)) 6 false, oG 8 (.binOp .gtr 3 (tT 7) (kI 16) 3) 6 false, oO 9 (.pick (tT 6) (.const (.bool true)) (tT 8))])
 (.cond (tT 9) (.seq (rg [oO 10 (.build 84 #[]), oN (.store 84 (tT 2) (tT 10)), oO 3 (.assign (kI 1))])
 (.ret))
 (.skip)))
 (.seq (rg [oO 11 (.move (tT 0)), oO 12 (.build 84 #[(0, .tmp 11)]), oN (.store 84 (tT 2) (tT 12)), oO 3 (.assign (kI 0))])
 .ret))
theorem F140 : Fun1 Tryz.prog 140 13 c140 [.cell 2 84, .tmp 3] := mkT Tryz.func140 rfl (by decide +kernel) Tryz.ntmps140 rfl (by kernel_rfl) rfl
def c100 : AC :=
.seq (rg [oO 2 (.assign (kI 0)), oO 3 (.assign (kI 0))])
 (.seq (.seq (rg [oO 4 (.assign (kI 0))])
 (.block 0 (.loop (.seq (.seq (rg [oO 6 (.move (tT 4)), oO 7 (.move (tT 0)), oO 8 (cB .len #[tT 7] #[22]), oO 9 (.binOp .lss 3 (tT 6) (tT 8) 3)])
 (.cond (tT 9) (.skip)
 (.exit 0)))
 (.seq (.block 1 (.seq (rg [oO 12 (.move (tT 0)), oO 13 (.move (tT 4)), oO 14 (cF (.func 146) #[tT 12, tT 13] #[22, 3]), oO 5 (.assign (tT 14))])
 (.seq (rg [oO 15 (.move (tT 5)), oO 16 (.binOp .neq 32 (tT 15) (kI 0) 32)])
 (.cond (tT 16) (.seq (rg [oO 17 (.move (tT 4)), oO 18 (.move (tT 5)), oO 2 (.assign (tT 17)), oO 3 (.assign (tT 18))])
 (.ret))
 (.skip)))))
 (rg [oO 10 (.move (tT 4)), oO 11 (.binOp .add 3 (tT 10) (kI 1) 3), oO 4 (.assign (tT 11))]))))))
 (.seq (rg [oO 2 (.assign (kI 0)), oO 3 (.assign (kI 0))])
 .ret))
theorem F100 : Fun1 Tryz.prog 100 19 c100 [.tmp 2, .tmp 3] := mkT Tryz.func100 rfl (by decide +kernel) Tryz.ntmps100 rfl (by kernel_rfl) rfl
def c146 : AC :=
.seq (rg [oO 4 (.assign (kI 0))])
 (.seq (rg [oO 10 (.move (tT 0)), oO 11 (.move (tT 1)), oO 12 (.indexAddr 22 (tT 10) (tT 11)), oO 13 (.load 154 (tT 12)), oO 5 (.alloc 154), oN (.store 154 (tT 5) (tT 13))])
 (.seq (.seq (rg [oO 14 (.move (tT 1)), oO 15 (.binOp .geq 3 (tT 14) (kI 32) 3)])
 (.cond (tT 15) (.seq (rg [oO 4 (.assign (kI 4))])
 (.ret))
 (.skip)))
 (.seq (.seq (rg [oO 16 (.fieldAddr 154 (tT 5) 0), oO 17 (.load 9 (tT 16)), oO 18 (cF (.func 177) #[tT 17] #[9]), oO 19 (.unOp .not 4 (tT 18)), oO 20 (.move (tT 19)), oG 21 (.fieldAddr 154 (tT 5) 0) 20 false, oG 22 (.load 9 (tT 21)) 20 false, oG 23 (cF (.func 178) #[tT 22] #[9]) 20 false, oO 24 (.pick (tT 20) (.const (.bool true)) (tT 23))])
 (.cond (tT 24) (.seq (rg [oO 4 (.assign (kI 6))])
 (.ret))
 (.skip)))
 (.seq (.seq (rg [oO 6 (.assign (kI 0))])
 (.block 0 (.loop (.seq (.seq (rg [oO 25 (.move (tT 6)), oO 26 (.move (tT 1)), oO 27 (.binOp .lss 3 (tT 25) (tT 26) 3)])
 (.cond (tT 27) (.skip)
 (.exit 0)))
 (.seq (.block 1 (.seq (.reg true [] [⟨⟨some 30, .move (tT 0), none⟩, false, true⟩, ⟨⟨some 31, .move (tT 6), none⟩, false, true⟩, ⟨⟨some 32, .indexAddr 22 (tT 30) (tT 31), none⟩, false, true⟩, ⟨⟨some 33, .fieldAddr 154 (tT 32) 0, none⟩, false, true⟩, ⟨⟨some 34, .load 9 (tT 33), none⟩, false, true⟩, oO 35 (.fieldAddr 154 (tT 5) 0), oO 36 (.load 9 (tT 35)), oO 37 (.binOp .eql 9 (tT 34) (tT 36) 9)])
 (.cond (tT 37) (.seq (rg [oO 4 (.assign (kI 20))])
 (.ret))
 (.skip))))
 (rg [oO 28 (.move (tT 6)), oO 29 (.binOp .add 3 (tT 28) (kI 1) 3), oO 6 (.assign (tT 29))]))))))
 (.seq (.seq (rg [oO 38 (.fieldAddr 154 (tT 5) 1), oO 39 (.load 3 (tT 38)), oO 40 (.binOp .lss 3 (tT 39) (kI (-1)) 3), oO 41 (.move (tT 40)), oG 42 (.fieldAddr 154 (tT 5) 1) 41 false, oG 43 (.load 3 (tT 42)) 41 false, oG 44 (.move (tT 1)) 41 false, oG 45 (.binOp .geq 3 (tT 43) (tT 44) 3) 41 false, oO 46 (.pick (tT 41) (.const (.bool true)) (tT 45))])
 (.cond (tT 46) (.seq (rg [oO 4 (.assign (kI 21))])
 (.ret))
 (.skip)))
 (.seq (rg [oO 47 (.move (tT 0)), oO 48 (.fieldAddr 154 (tT 5) 1), oO 49 (.load 3 (tT 48)), oO 50 (cF (.func 179) #[tT 47, tT 49] #[22, 3]), oO 7 (.assign (tT 50))])
 (.seq (.seq (rg [oO 8 (.assign (kI 0))])
 (.block 2 (.loop (.seq (.seq (rg [oO 51 (.move (tT 8)), oO 52 (.fieldAddr 154 (tT 5) 2), oO 53 (.load 152 (tT 52)), oO 54 (cB .len #[tT 53] #[152]), oO 55 (.binOp .lss 3 (tT 51) (tT 54) 3)])
 (.cond (tT 55) (.skip)
 (.exit 2)))
 (.seq (.block 3 (.seq (rg [oO 58 (.fieldAddr 154 (tT 5) 2), oO 59 (.load 152 (tT 58)), oO 60 (.move (tT 8)), oO 61 (.indexAddr 152 (tT 59) (tT 60)), oO 62 (.load 157 (tT 61)), oO 9 (.alloc 157), oN (.store 157 (tT 9) (tT 62))])
 (.seq (.seq (rg [oO 63 (.fieldAddr 157 (tT 9) 0), oO 64 (.load 9 (tT 63)), oO 65 (cF (.func 177) #[tT 64] #[9]), oO 66 (.unOp .not 4 (tT 65))])
 (.cond (tT 66) (.seq (rg [oO 4 (.assign (kI 6))])
 (.ret))
 (.skip)))
 (.seq (.seq (.reg true [] [⟨⟨some 67, .move (tT 7), none⟩, false, true⟩, oO 68 (.fieldAddr 157 (tT 9) 0), oO 69 (.load 9 (tT 68)), oO 70 (cF (.func 180) #[tT 67, tT 69] #[152, 9]), oO 71 (.move (tT 70)), ⟨⟨some 72, .fieldAddr 154 (tT 5) 2, some (71, false)⟩, false, true⟩, ⟨⟨some 73, .load 152 (tT 72), some (71, false)⟩, false, true⟩, ⟨⟨some 74, .move (tT 8), some (71, false)⟩, false, true⟩, ⟨⟨some 75, .slice 152 (tT 73) none (some (tT 74)) none, some (71, false)⟩, false, true⟩, oG 76 (.fieldAddr 157 (tT 9) 0) 71 false, oG 77 (.load 9 (tT 76)) 71 false, oG 78 (cF (.func 180) #[tT 75, tT 77] #[152, 9]) 71 false, oO 79 (.pick (tT 71) (.const (.bool true)) (tT 78))])
 (.cond (tT 79) (.seq (rg [oO 4 (.assign (kI 20))])
 (.ret))
 (.skip)))
 (.seq (rg [oO 80 (.move (tT 0)), oO 81 (.fieldAddr 157 (tT 9) 1), oO 82 (.load 81 (tT 81)), oO 83 (cF (.func 150) #[tT 80, tT 82] #[22, 81]), oO 84 (.unOp .not 4 (tT 83))])
 (.cond (tT 84) (.seq (rg [oO 4 (.assign (kI 22))])
 (.ret))
 (.skip)))))))
 (rg [oO 56 (.move (tT 8)), oO 57 (.binOp .add 3 (tT 56) (kI 1) 3), oO 8 (.assign (tT 57))]))))))
 (.seq (.seq (rg [oO 85 (.fieldAddr 154 (tT 5) 2), oO 86 (.load 152 (tT 85)), oO 87 (cB .len #[tT 86] #[152]), oO 88 (.move (tT 7)), oO 89 (cB .len #[tT 88] #[152]), oO 90 (.binOp .sub 3 (kI 32) (tT 89) 3), oO 91 (.binOp .gtr 3 (tT 87) (tT 90) 3)])
 (.cond (tT 91) (.seq (rg [oO 4 (.assign (kI 4))])
 (.ret))
 (.skip)))
 (.seq (rg [oO 4 (.assign (kI 0))])
 .ret)))))))))
theorem F146 : Fun1 Tryz.prog 146 92 c146 [.tmp 4] := mkT Tryz.func146 rfl (by decide +kernel) Tryz.ntmps146 rfl (by kernel_rfl) rfl
def c177 : AC :=
.seq (rg [oO 2 (.assign (.const (.bool false)))])
 (.seq (.seq (rg [oO 6 (.move (tT 0)), oO 7 (cB .len #[tT 6] #[9]), oO 8 (.binOp .lss 3 (tT 7) (kI 1) 3), oO 9 (.move (tT 8)), oG 10 (.move (tT 0)) 9 false, oG 11 (cB .len #[tT 10] #[9]) 9 false, oG 12 (.binOp .gtr 3 (tT 11) (kI 24) 3) 9 false, oO 13 (.pick (tT 9) (.const (.bool true)) (tT 12))])
 (.cond (tT 13) (.seq (rg [oO 2 (.assign (.const (.bool false)))])
 (.ret))
 (.skip)))
 (.seq (.seq (rg [oO 3 (.assign (kI 0))])
 (.block 0 (.loop (.seq (.seq (rg [oO 14 (.move (tT 3)), oO 15 (.move (tT 0)), oO 16 (cB .len #[tT 15] #[9]), oO 17 (.binOp .lss 3 (tT 14) (tT 16) 3)])
 (.cond (tT 17) (.skip)
 (.exit 0)))
 (.seq (.block 1 (.seq (rg [oO 20 (.move (tT 0)), oO 21 (.move (tT 3)), oO 22 (.index 9 (tT 20) (tT 21)), oO 4 (.assign (tT 22))])
 (.seq (rg [oO 23 (.move (tT 4)), oO 24 (.binOp .geq 5 (tT 23) (kB 97) 5), oO 25 (.move (tT 24)), oG 26 (.move (tT 4)) 25 true, oG 27 (.binOp .leq 5 (tT 26) (kB 122) 5) 25 true, oO 28 (.pick (tT 25) (tT 27) (.const (.bool false))), oO 29 (.move (tT 28)), oG 30 (.move (tT 4)) 29 false, oG 31 (.binOp .geq 5 (tT 30) (kB 65) 5) 29 false, oG 32 (.move (tT 31)) 29 false, oG 33 (.move (tT 4)) 32 true, oG 34 (.binOp .leq 5 (tT 33) (kB 90) 5) 32 true, oG 35 (.pick (tT 32) (tT 34) (.const (.bool false))) 29 false, oO 36 (.pick (tT 29) (.const (.bool true)) (tT 35)), oO 5 (.assign (tT 36))])
 (.seq (rg [oO 37 (.move (tT 5)), oO 38 (.unOp .not 4 (tT 37)), oO 39 (.move (tT 38)), oG 40 (.move (tT 3)) 39 true, oG 41 (.binOp .eql 3 (tT 40) (kI 0) 3) 39 true, oG 42 (.move (tT 41)) 39 true, oG 43 (.move (tT 4)) 42 false, oG 44 (.binOp .neq 5 (tT 43) (kB 95) 5) 42 false, oG 45 (.move (tT 44)) 42 false, oG 46 (.move (tT 4)) 45 true, oG 47 (.binOp .lss 5 (tT 46) (kB 48) 5) 45 true, oG 48 (.move (tT 47)) 45 true, oG 49 (.move (tT 4)) 48 false, oG 50 (.binOp .gtr 5 (tT 49) (kB 57) 5) 48 false, oG 51 (.pick (tT 48) (.const (.bool true)) (tT 50)) 45 true, oG 52 (.pick (tT 45) (tT 51) (.const (.bool false))) 42 false, oG 53 (.pick (tT 42) (.const (.bool true)) (tT 52)) 39 true, oO 54 (.pick (tT 39) (tT 53) (.const (.bool false)))])
 (.cond (tT 54) (.seq (rg [oO 2 (.assign (.const (.bool false)))])
 (.ret))
 (.skip))))))
 (rg [oO 18 (.move (tT 3)), oO 19 (.binOp .add 3 (tT 18) (kI 1) 3), oO 3 (.assign (tT 19))]))))))
 (.seq (rg [oO 2 (.assign (.const (.bool true)))])
 .ret)))
theorem F177 : Fun1 Tryz.prog 177 55 c177 [.tmp 2] := mkT Tryz.func177 rfl (by decide +kernel) Tryz.ntmps177 rfl (by kernel_rfl) rfl
def c178 : AC :=
.seq (rg [oO 2 (.assign (.const (.bool false)))])
 (.seq (.seq (rg [oO 3 (.assign (kB 0))])
 (.block 0 (.loop (.seq (.seq (rg [oO 4 (.move (tT 3)), oO 5 (.binOp .leq 81 (tT 4) (kB 5) 81)])
 (.cond (tT 5) (.skip)
 (.exit 0)))
 (.seq (.block 1 (.seq (rg [oO 8 (.move (tT 3)), oO 9 (cF (.func 215) #[tT 8] #[81]), oO 10 (.move (tT 0)), oO 11 (.binOp .eql 9 (tT 9) (tT 10) 9)])
 (.cond (tT 11) (.seq (rg [oO 2 (.assign (.const (.bool true)))])
 (.ret))
 (.skip))))
 (rg [oO 6 (.move (tT 3)), oO 7 (.binOp .add 81 (tT 6) (kB 1) 81), oO 3 (.assign (tT 7))]))))))
 (.seq (rg [oO 2 (.assign (.const (.bool false)))])
 .ret))
theorem F178 : Fun1 Tryz.prog 178 12 c178 [.tmp 2] := mkT Tryz.func178 rfl (by decide +kernel) Tryz.ntmps178 rfl (by kernel_rfl) rfl
def c215 : AC :=
.seq (rg [oO 2 (.assign (.const (.string { data := #[] })))])
 (.seq (.seq (rg [oO 3 (.move (tT 0))])
 (.block 0 (.seq (rg [oO 5 (.binOp .eql 81 (tT 3) (kB 0) 81), oO 4 (.assign (tT 5))])
 (.cond (tT 4) (.seq (rg [oO 2 (.assign (.const (.string { data := #[116, 111, 112] })))])
 (.ret))
 (.seq (rg [oO 7 (.binOp .eql 81 (tT 3) (kB 1) 81), oO 6 (.assign (tT 7))])
 (.cond (tT 6) (.seq (rg [oO 2 (.assign (.const (.string { data := #[105, 110, 116] })))])
 (.ret))
 (.seq (rg [oO 9 (.binOp .eql 81 (tT 3) (kB 2) 81), oO 8 (.assign (tT 9))])
 (.cond (tT 8) (.seq (rg [oO 2 (.assign (.const (.string { data := #[98, 111, 111, 108] })))])
 (.ret))
 (.seq (rg [oO 11 (.binOp .eql 81 (tT 3) (kB 3) 81), oO 10 (.assign (tT 11))])
 (.cond (tT 10) (.seq (rg [oO 2 (.assign (.const (.string { data := #[110, 117, 108, 108] })))])
 (.ret))
 (.seq (rg [oO 13 (.binOp .eql 81 (tT 3) (kB 4) 81), oO 12 (.assign (tT 13))])
 (.cond (tT 12) (.seq (rg [oO 2 (.assign (.const (.string { data := #[105, 110, 116, 115] })))])
 (.ret))
 (.seq (rg [oO 15 (.binOp .eql 81 (tT 3) (kB 5) 81), oO 14 (.assign (tT 15))])
 (.cond (tT 14) (.seq (rg [oO 2 (.assign (.const (.string { data := #[97, 110, 121] })))])
 (.ret))
 (.skip)))))))))))))))
 (.seq (rg [oO 2 (.assign (.const (.string { data := #[] })))])
 .ret))
theorem F215 : Fun1 Tryz.prog 215 16 c215 [.tmp 2] := mkT Tryz.func215 rfl (by decide +kernel) Tryz.ntmps215 rfl (by kernel_rfl) rfl
def c180 : AC :=
.seq (rg [oO 4 (.assign (.const (.bool false)))])
 (.seq (.seq (rg [oO 5 (.assign (kI 0))])
 (.block 0 (.loop (.seq (.seq (rg [oO 6 (.move (tT 5)), oO 7 (.move (tT 0)), oO 8 (cB .len #[tT 7] #[152]), oO 9 (.binOp .lss 3 (tT 6) (tT 8) 3)])
 (.cond (tT 9) (.skip)
 (.exit 0)))
 (.seq (.block 1 (.seq (rg [oO 12 (.move (tT 0)), oO 13 (.move (tT 5)), oO 14 (.indexAddr 152 (tT 12) (tT 13)), oO 15 (.fieldAddr 157 (tT 14) 0), oO 16 (.load 9 (tT 15)), oO 17 (.move (tT 1)), oO 18 (.binOp .eql 9 (tT 16) (tT 17) 9)])
 (.cond (tT 18) (.seq (rg [oO 4 (.assign (.const (.bool true)))])
 (.ret))
 (.skip))))
 (rg [oO 10 (.move (tT 5)), oO 11 (.binOp .add 3 (tT 10) (kI 1) 3), oO 5 (.assign (tT 11))]))))))
 (.seq (rg [oO 4 (.assign (.const (.bool false)))])
 .ret))
theorem F180 : Fun1 Tryz.prog 180 19 c180 [.tmp 4] := mkT Tryz.func180 rfl (by decide +kernel) Tryz.ntmps180 rfl (by kernel_rfl) rfl
def c179 : AC :=
.seq (rg [oO 4 (.assign (.const (.slice none 0 0)))])
 (.seq (rg [oO 8 (.move (tT 0)), oO 9 (.move (tT 1)), oO 10 (cF (.func 133) #[tT 8, tT 9] #[22, 3]), oO 5 (.assign (tT 10))])
 (.seq (rg [oO 6 (.assign (.const (.slice none 0 0)))])
 (.seq (.seq (rg [oO 11 (.move (tT 5)), oO 12 (cB .len #[tT 11] #[29]), oO 13 (.binOp .sub 3 (tT 12) (kI 1) 3), oO 7 (.assign (tT 13))])
 (.block 0 (.loop (.seq (.seq (rg [oO 14 (.move (tT 7)), oO 15 (.binOp .geq 3 (tT 14) (kI 0) 3)])
 (.cond (tT 15) (.skip)
 (.exit 0)))
 (.seq (.block 1 (rg [oO 18 (.move (tT 6)), oO 19 (.move (tT 0)), oO 20 (.move (tT 5)), oO 21 (.move (tT 7)), oO 22 (.indexAddr 29 (tT 20) (tT 21)), oO 23 (.load 3 (tT 22)), oO 24 (.indexAddr 22 (tT 19) (tT 23)), oO 25 (.fieldAddr 154 (tT 24) 2), oO 26 (.load 152 (tT 25)), oO 27 (cB .append #[tT 18, tT 26] #[152, 152]), oO 6 (.assign (tT 27))]))
 (rg [oO 16 (.move (tT 7)), oO 17 (.binOp .sub 3 (tT 16) (kI 1) 3), oO 7 (.assign (tT 17))]))))))
 (.seq (rg [oO 28 (.move (tT 6)), oO 4 (.assign (tT 28))])
 .ret))))
theorem F179 : Fun1 Tryz.prog 179 29 c179 [.tmp 4] := mkT Tryz.func179 rfl (by decide +kernel) Tryz.ntmps179 rfl (by kernel_rfl) rfl
def c133 : AC :=
.seq (rg [oO 4 (.assign (.const (.slice none 0 0)))])
 (.seq (rg [oO 5 (.assign (.const (.slice none 0 0)))])
 (.seq (.block 0 (.loop (.seq (.seq (rg [oO 6 (.move (tT 1)), oO 7 (.binOp .geq 3 (tT 6) (kI 0) 3), oO 8 (.move (tT 7)), oG 9 (.move (tT 1)) 8 true, oG 10 (.move (tT 0)) 8 true, oG 11 (cB .len #[tT 10] #[22]) 8 true, oG 12 (.binOp .lss 3 (tT 9) (tT 11) 3) 8 true, oO 13 (.pick (tT 8) (tT 12) (.const (.bool false))), oO 14 (.move (tT 13)), oG 15 (.move (tT 5)) 14 true, oG 16 (cB .len #[tT 15] #[29]) 14 true, oG 17 (.move (tT 0)) 14 true, oG 18 (cB .len #[tT 17] #[22]) 14 true, oG 19 (.binOp .leq 3 (tT 16) (tT 18) 3) 14 true, oO 20 (.pick (tT 14) (tT 19) (.const (.bool false)))])
 (.cond (tT 20) (.skip)
 (.exit 0)))
 (.block 1 (.seq (rg [oO 21 (.move (tT 5)), oO 22 (.move (tT 1)), oO 23 (.buildSlice 29 1 #[(0, .tmp 22)]), oO 24 (cB .append #[tT 21, tT 23] #[29, 29]), oO 5 (.assign (tT 24))])
 (rg [oO 25 (.move (tT 0)), oO 26 (.move (tT 1)), oO 27 (.indexAddr 22 (tT 25) (tT 26)), oO 28 (.fieldAddr 154 (tT 27) 1), oO 29 (.load 3 (tT 28)), oO 1 (.assign (tT 29))]))))))
 (.seq (rg [oO 30 (.move (tT 5)), oO 4 (.assign (tT 30))])
 .ret)))
theorem F133 : Fun1 Tryz.prog 133 31 c133 [.tmp 4] := mkT Tryz.func133 rfl (by decide +kernel) Tryz.ntmps133 rfl (by kernel_rfl) rfl
def c150 : AC :=
.seq (rg [oO 4 (.assign (.const (.bool false)))])
 (.seq (rg [oO 5 (.move (tT 0)), oO 6 (.move (tT 1)), oO 7 (cF (.func 103) #[tT 5, tT 6] #[22, 81]), oO 8 (.move (tT 7)), oG 9 (.move (tT 1)) 8 true, oG 10 (.binOp .neq 81 (tT 9) (kB 0) 81) 8 true, oO 11 (.pick (tT 8) (tT 10) (.const (.bool false))), oO 12 (.move (tT 11)), oG 13 (.move (tT 1)) 12 true, oG 14 (.binOp .neq 81 (tT 13) (kB 3) 81) 12 true, oO 15 (.pick (tT 12) (tT 14) (.const (.bool false))), oO 4 (.assign (tT 15))])
 .ret)
theorem F150 : Fun1 Tryz.prog 150 16 c150 [.tmp 4] := mkT Tryz.func150 rfl (by decide +kernel) Tryz.ntmps150 rfl (by kernel_rfl) rfl
def c103 : AC :=
.seq (rg [oO 4 (.assign (.const (.bool false)))])
 (.seq (rg [oO 5 (.move (tT 1)), oO 6 (.binOp .leq 81 (tT 5) (kB 5) 81), oO 7 (.move (tT 6)), oG 8 (.move (tT 1)) 7 false, oG 9 (.binOp .geq 81 (tT 8) (kB 16) 81) 7 false, oG 10 (.move (tT 9)) 7 false, oG 11 (.move (tT 1)) 10 true, oG 12 (.binOp .sub 81 (tT 11) (kB 16) 81) 10 true, oG 13 (.convert 81 3 (tT 12)) 10 true, oG 14 (.move (tT 0)) 10 true, oG 15 (cB .len #[tT 14] #[22]) 10 true, oG 16 (.binOp .lss 3 (tT 13) (tT 15) 3) 10 true, oG 17 (.pick (tT 10) (tT 16) (.const (.bool false))) 7 false, oO 18 (.pick (tT 7) (.const (.bool true)) (tT 17)), oO 4 (.assign (tT 18))])
 .ret)
theorem F103 : Fun1 Tryz.prog 103 19 c103 [.tmp 4] := mkT Tryz.func103 rfl (by decide +kernel) Tryz.ntmps103 rfl (by kernel_rfl) rfl
def c60 : AC :=
.seq (rg [oO 6 (.alloc 84), oO 7 (.assign (kI 0))])
 (.seq (rg [oO 13 (.move (tT 2)), oO 14 (cF (.func 104) #[tT 13] #[3]), oO 12 (.move (tT 14)), oO 15 (.extract (tT 12) 0), oO 16 (.extract (tT 12) 1), oO 8 (.alloc 84), oN (.store 84 (tT 8) (tT 15)), oO 9 (.assign (tT 16))])
 (.seq (.seq (rg [oO 17 (.move (tT 9)), oO 18 (.binOp .neq 32 (tT 17) (kI 0) 32), oO 19 (.move (tT 18)), oG 20 (.move (tT 1)) 19 false, oG 21 (cB .len #[tT 20] #[93]) 19 false, oG 22 (.binOp .gtr 3 (tT 21) (kI 8) 3) 19 false, oO 23 (.pick (tT 19) (.const (.bool true)) (tT 22)), oO 24 (.move (tT 23)), oG 25 (.move (tT 1)) 24 false, oG 26 (cB .len #[tT 25] #[93]) 24 false, oG 27 (.move (tT 2)) 24 false, oG 28 (.binOp .gtr 3 (tT 26) (tT 27) 3) 24 false, oO 29 (.pick (tT 24) (.const (.bool true)) (tT 28))])
 (.cond (tT 29) (.seq (rg [oO 30 (.build 84 #[]), oN (.store 84 (tT 6) (tT 30)), oO 7 (.assign (kI 1))])
 (.ret))
 (.skip)))
 (.seq (.seq (rg [oO 31 (.move (tT 1)), oO 32 (cB .len #[tT 31] #[93]), oO 33 (.move (kI 0))])
 (.block 0 (.loop (.seq (rg [oO 34 (.binOp .lss 3 (tT 33) (tT 32) 3)])
 (.seq (.cond (tT 34) (.skip)
 (.exit 0))
 (.seq (.block 1 (.seq (rg [oO 35 (.move (tT 33)), oO 36 (.indexAddr 93 (tT 31) (tT 33)), oO 37 (.load 81 (tT 36)), oO 10 (.assign (tT 35)), oO 11 (.assign (tT 37))])
 (.seq (.seq (rg [oO 38 (.move (tT 0)), oO 39 (.move (tT 11)), oO 40 (cF (.func 105) #[tT 38, tT 39] #[22, 81]), oO 41 (.unOp .not 4 (tT 40))])
 (.cond (tT 41) (.seq (rg [oO 42 (.build 84 #[]), oN (.store 84 (tT 6) (tT 42)), oO 7 (.assign (kI 1))])
 (.ret))
 (.skip)))
 (rg [oO 43 (.move (tT 10)), oO 44 (.move (tT 11)), oO 45 (.fieldAddr 84 (tT 8) 2), oO 46 (.indexAddr 82 (tT 45) (tT 43)), oN (.store 81 (tT 46) (tT 44))]))))
 (rg [oO 47 (.binOp .add 3 (tT 33) (kI 1) 3), oO 33 (.move (tT 47))])))))))
 (.seq (rg [oO 48 (.load 84 (tT 8)), oN (.store 84 (tT 6) (tT 48)), oO 7 (.assign (kI 0))])
 .ret))))
theorem F60 : Fun1 Tryz.prog 60 49 c60 [.cell 6 84, .tmp 7] := mkT Tryz.func60 rfl (by decide +kernel) Tryz.ntmps60 rfl (by kernel_rfl) rfl
def c104 : AC :=
.seq (rg [oO 2 (.alloc 84), oO 3 (.assign (kI 0))])
 (.seq (.seq (rg [oO 4 (.move (tT 0)), oO 5 (.binOp .lss 3 (tT 4) (kI 0) 3), oO 6 (.move (tT 5)), oG 7 (.move (tT 0)) 6 false, oG 8 (.binOp .gtr 3 (tT 7) (kI 16) 3) 6 false, oO 9 (.pick (tT 6) (.const (.bool true)) (tT 8))])
 (.cond (tT 9) (.seq (rg [oO 10 (.build 84 #[]), oN (.store 84 (tT 2) (tT 10)), oO 3 (.assign (kI 1))])
 (.ret))
 (.skip)))
 (.seq (rg [oO 11 (.move (tT 0)), oO 12 (.build 84 #[(0, .tmp 11)]), oN (.store 84 (tT 2) (tT 12)), oO 3 (.assign (kI 0))])
 .ret))
theorem F104 : Fun1 Tryz.prog 104 13 c104 [.cell 2 84, .tmp 3] := mkT Tryz.func104 rfl (by decide +kernel) Tryz.ntmps104 rfl (by kernel_rfl) rfl
def c105 : AC :=
.seq (rg [oO 4 (.assign (.const (.bool false)))])
 (.seq (rg [oO 5 (.move (tT 0)), oO 6 (.move (tT 1)), oO 7 (cF (.func 103) #[tT 5, tT 6] #[22, 81]), oO 8 (.move (tT 7)), oG 9 (.move (tT 1)) 8 true, oG 10 (.binOp .neq 81 (tT 9) (kB 0) 81) 8 true, oO 11 (.pick (tT 8) (tT 10) (.const (.bool false))), oO 12 (.move (tT 11)), oG 13 (.move (tT 1)) 12 true, oG 14 (.binOp .neq 81 (tT 13) (kB 3) 81) 12 true, oO 15 (.pick (tT 12) (tT 14) (.const (.bool false))), oO 4 (.assign (tT 15))])
 .ret)
theorem F105 : Fun1 Tryz.prog 105 16 c105 [.tmp 4] := mkT Tryz.func105 rfl (by decide +kernel) Tryz.ntmps105 rfl (by kernel_rfl) rfl
open Go.Proofs
structure Fd where
  name : ByteArray
  ty : Ty
  deriving DecidableEq
structure Cl where
  name : ByteArray
  parent : Int
  fields : List Fd
  deriving DecidableEq
def eF (f : Fd) : List D := [.str f.name, .int .u8 f.ty.val]
def eC (c : Cl) : List D := [.str c.name, .int .i64 c.parent, .slice .no (rws eF c.fields)]
theorem eF_len (f : Fd) : (eF f).length = 2 := rfl
theorem eC_len (c : Cl) : (eC c).length = 3 := rfl
theorem wrap_ty_i64 (t : Ty) : IntKind.wrap .i64 (t.val : Int) = t.val := zb7 (by omega) (by omega)
def clsOf (n : Nat) (t : Ty) : Int := if 16 ≤ t.val ∧ t.val - 16 < n then (t.val : Int) - 16 else -1
def validN (n : Nat) (t : Ty) : Bool := decide (t.val ≤ 5 ∨ 16 ≤ t.val ∧ t.val - 16 < n)
theorem class147 (l : List Cl) (o : Own) (t : Ty) : zf9 Tryz.prog 170 [.slice o (rws eC l), .int .u8 t.val] (.int .i64 (clsOf l.length t)) := by
  refine F170.pcall' rfl fun T hT => ?_
  simp -implicitDefEqProofs only [go_sem, c170, hT]
  refine gbr_split (fun h => ?_) fun h => ?_
  · have h1 : 16 ≤ t.val := by simp at h; omega
    have h2 : ((t.val : Int) < 16) = False := by simp; omega
    have h3 : IntKind.wrap .u8 ((t.val : Int) - 16) = (t.val : Int) - 16 := wrap_u8 (by omega) (by omega)
    have h4 : IntKind.wrap .i64 ((t.val : Int) - 16) = (t.val : Int) - 16 := zb7 (by omega) (by omega)
    simp -implicitDefEqProofs only [go_sem, hT, h2, h3, h4]
    refine br_split (fun h => DLe.of_eq ?_) fun h => DLe.of_eq ?_
    · simp at h
      rw [clsOf, if_neg (by omega)]
    · simp at h
      rw [clsOf, if_pos (by omega)]
  · have h2 : ((t.val : Int) < 16) = True := by simp at h; simp; omega
    simp -implicitDefEqProofs only [go_sem, hT, h2]
    refine DLe.of_eq ?_
    simp at h2
    rw [clsOf, if_neg (by omega)]
theorem clsOf_ge (n : Nat) (t : Ty) : (0 ≤ clsOf n t) = (16 ≤ t.val ∧ t.val - 16 < n) := by
  unfold clsOf
  split <;> rename_i h
  · simp [h]; omega
  · simp [h]
theorem valid105 (l : List Cl) (o : Own) (t : Ty) : zf9 Tryz.prog 139 [.slice o (rws eC l), .int .u8 t.val] (.bool (validN l.length t)) := by
  refine F139.pcall' rfl fun T hT => ?_
  simp -implicitDefEqProofs only [go_sem, c139, hT]
  refine gbr_split (fun h => ?_) fun h => ?_
  · have h2 : ((t.val : Int) ≤ 5) = False := by simp at h; simp; omega
    simp -implicitDefEqProofs only [go_sem, hT, h2]
    refine za4 (class147 l o t) ?_
    simp -implicitDefEqProofs only [go_sem, hT, h2]
    refine zc2 ?_
    simp at h2
    simp [validN, clsOf_ge]
    omega
  · have h2 : ((t.val : Int) ≤ 5) = True := by simp at h; simp; omega
    simp -implicitDefEqProofs only [go_sem, hT, h2]
    refine zc2 ?_
    simp at h2
    simp [validN]
    omega
theorem refValid87 (l : List Cl) (o : Own) (t : Ty) : zf9 Tryz.prog 103 [.slice o (rws eC l), .int .u8 t.val] (.bool (validN l.length t)) := by
  refine F103.pcall' rfl fun T hT => ?_
  by_cases h1 : t.val ≤ 5
  · have h2 : ((t.val : Int) ≤ 5) = True := by simp; omega
    simp -implicitDefEqProofs only [go_sem, c103, hT, h2]
    refine zc2 ?_
    simp [validN, h1]
  · have h2 : ((t.val : Int) ≤ 5) = False := by simp; omega
    by_cases h3 : 16 ≤ t.val
    · have h4 : ((16 : Int) ≤ t.val) = True := by simp; omega
      have h5 : IntKind.wrap .u8 ((t.val : Int) - 16) = (t.val : Int) - 16 := wrap_u8 (by omega) (by omega)
      have h6 : IntKind.wrap .i64 ((t.val : Int) - 16) = (t.val : Int) - 16 := zb7 (by omega) (by omega)
      simp -implicitDefEqProofs only [go_sem, c103, hT, h2, h4, h5, h6]
      refine zc2 ?_
      simp [validN, h1, h3]
      omega
    · have h4 : ((16 : Int) ≤ t.val) = False := by simp; omega
      simp -implicitDefEqProofs only [go_sem, c103, hT, h2, h4]
      refine zc2 ?_
      simp [validN, h1, h3]
open Go.Proofs
def storedN (n : Nat) (t : Ty) : Bool := validN n t && decide (t.val ≠ 0 ∧ t.val ≠ 3)
theorem stored146 (l : List Cl) (o : Own) (t : Ty) : zf9 Tryz.prog 191 [.slice o (rws eC l), .int .u8 t.val] (.bool (storedN l.length t)) := by
  refine F191.pcall' rfl fun T hT => ?_
  by_cases h1 : (t.val : Int) = 1
  · simp -implicitDefEqProofs only [go_sem, c191, hT, h1]
    exact zc2 (by simp [storedN, validN]; omega)
  by_cases h2 : (t.val : Int) = 2
  · simp -implicitDefEqProofs only [go_sem, c191, hT, h1, h2]
    exact zc2 (by simp [storedN, validN]; omega)
  by_cases h3 : (t.val : Int) = 4
  · simp -implicitDefEqProofs only [go_sem, c191, hT, h1, h2, h3]
    exact zc2 (by simp [storedN, validN]; omega)
  by_cases h4 : (t.val : Int) = 5
  · simp -implicitDefEqProofs only [go_sem, c191, hT, h1, h2, h3, h4]
    exact zc2 (by simp [storedN, validN]; omega)
  simp -implicitDefEqProofs only [go_sem, c191, hT, h1, h2, h3, h4]
  refine za4 (class147 l o t) ?_
  simp -implicitDefEqProofs only [go_sem, hT, h1, h2, h3, h4]
  exact zc2 (by rw [Bool.eq_iff_iff]; simp [storedN, validN, clsOf_ge]; omega)
theorem stored66 (l : List Cl) (o : Own) (t : Ty) : zf9 Tryz.prog 121 [.slice o (rws eC l), .int .u8 t.val] (.bool (storedN l.length t)) := by
  refine F121.pcall' rfl fun T hT => ?_
  simp -implicitDefEqProofs only [go_sem, c121, hT]
  refine za4 (valid105 l o t) ?_
  cases hv : validN l.length t
  · simp -implicitDefEqProofs only [go_sem, hT]
    exact zc2 (by simp [storedN, hv])
  · by_cases h1 : (t.val : Int) = 0
    · simp -implicitDefEqProofs only [go_sem, hT, h1]
      exact zc2 (by rw [Bool.eq_iff_iff]; simp [storedN, hv]; omega)
    · simp -implicitDefEqProofs only [go_sem, hT, h1]
      exact zc2 (by rw [Bool.eq_iff_iff]; simp [storedN, hv]; omega)
theorem refStored109 (l : List Cl) (o : Own) (t : Ty) : zf9 Tryz.prog 150 [.slice o (rws eC l), .int .u8 t.val] (.bool (storedN l.length t)) := by
  refine F150.pcall' rfl fun T hT => ?_
  simp -implicitDefEqProofs only [go_sem, c150, hT]
  refine za4 (refValid87 l o t) ?_
  cases hv : validN l.length t
  · simp -implicitDefEqProofs only [go_sem, hT]
    exact zc2 (by simp [storedN, hv])
  · by_cases h1 : (t.val : Int) = 0
    · simp -implicitDefEqProofs only [go_sem, hT, h1]
      exact zc2 (by rw [Bool.eq_iff_iff]; simp [storedN, hv]; omega)
    · simp -implicitDefEqProofs only [go_sem, hT, h1]
      exact zc2 (by rw [Bool.eq_iff_iff]; simp [storedN, hv]; omega)
theorem refStored111 (l : List Cl) (o : Own) (t : Ty) : zf9 Tryz.prog 105 [.slice o (rws eC l), .int .u8 t.val] (.bool (storedN l.length t)) := by
  refine F105.pcall' rfl fun T hT => ?_
  simp -implicitDefEqProofs only [go_sem, c105, hT]
  refine za4 (refValid87 l o t) ?_
  cases hv : validN l.length t
  · simp -implicitDefEqProofs only [go_sem, hT]
    exact zc2 (by simp [storedN, hv])
  · by_cases h1 : (t.val : Int) = 0
    · simp -implicitDefEqProofs only [go_sem, hT, h1]
      exact zc2 (by rw [Bool.eq_iff_iff]; simp [storedN, hv]; omega)
    · simp -implicitDefEqProofs only [go_sem, hT, h1]
      exact zc2 (by rw [Bool.eq_iff_iff]; simp [storedN, hv]; omega)
def idxFrom {α : Type} (p : α → Bool) : List α → Nat → Int
  | [], _ => -1
  | x :: xs, i => if p x then (i : Int) else idxFrom p xs (i + 1)
def idxOf {α : Type} (p : α → Bool) (xs : List α) : Int := idxFrom p xs 0
theorem idxFrom_drop {α : Type} {p : α → Bool} {xs : List α} {i : Nat} (h : i < xs.length) : idxFrom p (xs.drop i) i = if p xs[i] then (i : Int) else idxFrom p (xs.drop (i + 1)) (i + 1) := by
  rw [List.drop_eq_getElem_cons h]; rfl
theorem idxFrom_ge {α : Type} {p : α → Bool} : ∀ {xs : List α} {i : Nat}, (0 ≤ idxFrom p xs i) = (xs.any p = true)
  | [], i => by simp [idxFrom]
  | x :: xs, i => by
    unfold idxFrom
    cases h : p x
    · simp [h, idxFrom_ge (xs := xs)]
    · simp [h]
def Tests {α : Type} (g : FuncId) (fi ca : List D) (one : α → D) (p : α → Bool) (xs : List α) (σ : St) : Prop :=
  ∀ x ∈ xs, RCall Tryz.prog g (fi ++ [one x] ++ ca) σ fun d s' => d = .bool (p x) ∧ s' = σ
theorem idxFunc106 (xs : List Ty) (o : Own) (g : FuncId) (fi ca : List D) (p : Ty → Bool) (σ : St) (hl : xs.length ≤ 140737488355328) (hp : Tests g fi ca (fun t : Ty => D.int .u8 t.val) p xs σ) :
    RCall Tryz.prog 158 [.slice o (rws eT xs), .func (.func g) fi ca] σ fun d s' => d = .int .i64 (idxOf p xs) ∧ s' = σ := by
  refine F158.rcall rfl fun T hT => ?_
  simp -implicitDefEqProofs only [go_sem, c158, hT]
  refine loopL F158 (fun i : Nat => [(0, .slice o (rws eT xs)), (1, .func (.func g) fi ca), (7, .int .i64 xs.length), (8, .int .i64 i)]) (fun _ => σ) (fun i => i ≤ xs.length ∧ idxFrom p xs 0 = idxFrom p (xs.drop i) i) (fun i => xs.length - i) 0
    ⟨Nat.zero_le _, rfl⟩ ?_ (St.le.refl _) ?_
  · simp -implicitDefEqProofs only [go_sem, hT, Int.ofNat_zero]
  rintro i ⟨hi, heq⟩ T hT
  simp -implicitDefEqProofs only [go_sem, hT]
  refine br_split (fun h => ?_) fun h => ?_
  · have h : i < xs.length := by simpa using h
    simp -implicitDefEqProofs only [go_sem, hT, rws_at h, eT_len, eT]
    refine ⟨⟨by omega, by omega⟩, ?_⟩
    refine callB_all (hp xs[i] (by simp)) ?_
    rintro d s' ⟨rfl, rfl⟩
    rw [idxFrom_drop h] at heq
    simp -implicitDefEqProofs only [go_sem, hT]
    refine br_split (fun h' => ?_) fun h' => ?_
    · exact ⟨_, _, DLe.refl _, St.le.refl _, by simp [idxOf, heq, h'], rfl⟩
    · refine ⟨i + 1, ⟨by omega, by simpa [h'] using heq⟩, by omega, ?_, St.le.refl _⟩
      rw [zb7 (by omega) (by omega)]
      simp
  · have h : ¬ i < xs.length := by simpa using h
    refine ⟨_, _, DLe.refl _, St.le.refl _, ?_, rfl⟩
    rw [idxOf, heq, List.drop_of_length_le (by omega)]
    rfl
theorem contFunc67 (xs : List Ty) (o : Own) (g : FuncId) (fi ca : List D) (p : Ty → Bool) (σ : St) (hl : xs.length ≤ 140737488355328) (hp : Tests g fi ca (fun t : Ty => D.int .u8 t.val) p xs σ) :
    RCall Tryz.prog 122 [.slice o (rws eT xs), .func (.func g) fi ca] σ fun d s' => d = .bool (xs.any p) ∧ s' = σ := by
  refine F122.rcall rfl fun T hT => ?_
  simp -implicitDefEqProofs only [go_sem, c122, hT]
  refine callB_all (idxFunc106 xs o g fi ca p σ hl hp) ?_
  rintro d s' ⟨rfl, rfl⟩
  simp -implicitDefEqProofs only [go_sem, hT, idxOf, idxFrom_ge]
  exact ⟨_, _, DLe.refl _, St.le.refl _, by rw [D.bool.injEq, Bool.eq_iff_iff]; simp, rfl⟩
open Go.Proofs
def upL (l : List Cl) (c : Nat) : List Nat :=
  match l[c]? with
  | some x => c :: (if h : 0 ≤ x.parent ∧ x.parent < c then upL l x.parent.toNat else [])
  | none => []
termination_by c
decreasing_by omega
def upI (l : List Cl) (c : Int) : List Nat := if 0 ≤ c then upL l c.toNat else []
theorem upI_step {l : List Cl} {c : Nat} (h : c < l.length) : upI l c = c :: (if l[c].parent < c then upI l l[c].parent else []) := by
  rw [upI, if_pos (by omega), upL]
  simp only [Int.toNat_natCast, List.getElem?_eq_getElem h]
  unfold upI
  by_cases h1 : 0 ≤ l[c].parent <;> by_cases h2 : l[c].parent < (c : Int) <;> simp [h1, h2]
theorem upI_neg {l : List Cl} {c : Int} (h : c < 0) : upI l c = [] := by rw [upI, if_neg (by omega)]
theorem upI_out {l : List Cl} {c : Int} (h : (l.length : Int) ≤ c) : upI l c = [] := by
  rw [upI, if_pos (by omega), upL, List.getElem?_eq_none (by omega)]
def Runs {α : Type} (Step : α → Nat → Bool → α → Prop) : List Nat → α → α → Prop
  | [], a, a' => a' = a
  | c :: cs, a, a'' => ∃ b a', Step a c b a' ∧ if b = true then Runs Step cs a' a'' else a'' = a'
open Go.Proofs
def byteI (s : ByteArray) (i : Nat) : Int := ((s.data.toList[i]?.getD 0).toNat : Int)
theorem byteI_eq (s : ByteArray) (i : Nat) : (((s.data.toList[i]?.getD 0).toNat : Nat) : Int) = byteI s i := rfl
def letterI (c : Int) : Bool := decide (97 ≤ c ∧ c ≤ 122 ∨ 65 ≤ c ∧ c ≤ 90)
def nameByte (s : ByteArray) (i : Nat) : Bool := letterI (byteI s i) || decide (0 < i ∧ (48 ≤ byteI s i ∧ byteI s i ≤ 57 ∨ byteI s i = 95))
def isNameB (s : ByteArray) : Bool := decide (0 < s.size ∧ s.size ≤ 24 ∧ ∀ i < s.size, nameByte s i = true)
theorem isName99 (s : ByteArray) : zf9 Tryz.prog 152 [.str s] (.bool (isNameB s)) := by
  refine F152.pcall' rfl fun T hT => ?_
  by_cases h0 : (s.size : Int) = 0
  · simp -implicitDefEqProofs only [go_sem, c152, hT, h0]
    exact zc2 (by rw [Bool.eq_iff_iff]; simp [isNameB]; omega)
  by_cases h1 : (24 : Int) < s.size
  · simp -implicitDefEqProofs only [go_sem, c152, hT, h0, h1]
    exact zc2 (by rw [Bool.eq_iff_iff]; simp [isNameB]; omega)
  simp -implicitDefEqProofs only [go_sem, c152, hT, h0, h1]
  refine loopL F152 (fun i : Nat => [(0, .str s), (14, .int .i64 s.size), (15, .int .i64 i)]) (fun _ => {}) (fun i => i ≤ s.size ∧ ∀ j < i, nameByte s j = true) (fun i => s.size - i) 0
    ⟨Nat.zero_le _, by simp⟩ ?_ (St.le.refl _) ?_
  · simp -implicitDefEqProofs only [go_sem, hT, Int.ofNat_zero]
  rintro i ⟨hi, hok⟩ T hT
  by_cases h : i < s.size
  · have h2 : ((i : Int) < s.size) = True := by simp; omega
    have good : nameByte s i = true → ∃ y : Nat, (y ≤ s.size ∧ ∀ j < y, nameByte s j = true) ∧ s.size - y < s.size - i ∧ D.int .i64 (IntKind.wrap .i64 ((i : Int) + 1)) = D.int .i64 (y : Int) ∧ ({} : St).le {} := fun g =>
      ⟨i + 1, ⟨by omega, fun j hj => by
        rcases Nat.lt_or_eq_of_le (Nat.le_of_lt_succ hj) with hj | rfl
        · exact hok j hj
        · exact g⟩, by omega, by rw [zb7 (by omega) (by omega)]; simp, St.le.refl _⟩
    have bad : nameByte s i = false → DLe (.bool false) (.bool (isNameB s)) := fun g => zc2 (by
      cases hh : isNameB s with
      | false => rfl
      | true => rw [(of_decide_eq_true hh).2.2 i h] at g; cases g)
    simp -implicitDefEqProofs only [go_sem, mmB, hT, h2, byteI_eq]
    refine ⟨by omega, br_split (fun h => good ?_) fun h => bad ?_⟩
    · simp at h; simp [nameByte, letterI]; omega
    · rw [← Bool.not_eq_true] at h ⊢; simp at h; simp [nameByte, letterI]; omega
  · have h2 : ((i : Int) < s.size) = False := by simp; omega
    simp -implicitDefEqProofs only [go_sem, hT, h2]
    refine zc2 ?_
    symm
    exact decide_eq_true ⟨by omega, by omega, fun j hj => hok j (by omega)⟩
open Go.Proofs
theorem isName148 (s : ByteArray) : zf9 Tryz.prog 177 [.str s] (.bool (isNameB s)) := by
  refine F177.pcall' rfl fun T hT => ?_
  by_cases h0 : ((s.size : Int) < 1)
  · simp -implicitDefEqProofs only [go_sem, mmB, c177, hT, h0]
    exact zc2 (by rw [Bool.eq_iff_iff]; simp [isNameB]; omega)
  by_cases h1 : (24 : Int) < s.size
  · simp -implicitDefEqProofs only [go_sem, mmB, c177, hT, h0, h1]
    exact zc2 (by rw [Bool.eq_iff_iff]; simp [isNameB]; omega)
  simp -implicitDefEqProofs only [go_sem, mmB, c177, hT, h0, h1]
  refine loopL F177 (fun i : Nat => [(0, .str s), (3, .int .i64 i)]) (fun _ => {}) (fun i => i ≤ s.size ∧ ∀ j < i, nameByte s j = true) (fun i => s.size - i) 0
    ⟨Nat.zero_le _, by simp⟩ ?_ (St.le.refl _) ?_
  · simp -implicitDefEqProofs only [go_sem, hT, Int.ofNat_zero]
  rintro i ⟨hi, hok⟩ T hT
  by_cases h : i < s.size
  · have h2 : ((i : Int) < s.size) = True := by simp; omega
    have good : nameByte s i = true → ∃ y : Nat, (y ≤ s.size ∧ ∀ j < y, nameByte s j = true) ∧ s.size - y < s.size - i ∧ D.int .i64 (IntKind.wrap .i64 ((i : Int) + 1)) = D.int .i64 (y : Int) ∧ ({} : St).le {} := fun g =>
      ⟨i + 1, ⟨by omega, fun j hj => by
        rcases Nat.lt_or_eq_of_le (Nat.le_of_lt_succ hj) with hj | rfl
        · exact hok j hj
        · exact g⟩, by omega, by rw [zb7 (by omega) (by omega)]; simp, St.le.refl _⟩
    have bad : nameByte s i = false → DLe (.bool false) (.bool (isNameB s)) := fun g => zc2 (by
      cases hh : isNameB s with
      | false => rfl
      | true => rw [(of_decide_eq_true hh).2.2 i h] at g; cases g)
    simp -implicitDefEqProofs only [go_sem, mmB, hT, h2, byteI_eq]
    refine ⟨by omega, br_split (fun h => bad ?_) fun h => good ?_⟩
    · rw [← Bool.not_eq_true]; simp at h; simp [nameByte, letterI]; omega
    · rw [← Bool.not_eq_true] at h; simp at h; simp [nameByte, letterI]; omega
  · have h2 : ((i : Int) < s.size) = False := by simp; omega
    simp -implicitDefEqProofs only [go_sem, mmB, hT, h2]
    refine zc2 ?_
    symm
    exact decide_eq_true ⟨by omega, by omega, fun j hj => hok j (by omega)⟩
def wordsL : List ByteArray := [⟨#[116, 111, 112]⟩, ⟨#[105, 110, 116]⟩, ⟨#[98, 111, 111, 108]⟩, ⟨#[110, 117, 108, 108]⟩, ⟨#[105, 110, 116, 115]⟩, ⟨#[97, 110, 121]⟩]
def wordOf (t : Nat) : ByteArray := (wordsL[t]?).getD ⟨#[]⟩
def hasN (l : List ByteArray) (x : ByteArray) : Bool := l.any fun y => decide (y = x)
theorem hasN_mem {l : List ByteArray} {x : ByteArray} : (hasN l x = true) = (x ∈ l) := by simp [hasN]
theorem hasN_congr {a b : List ByteArray} (h : ∀ x, x ∈ a ↔ x ∈ b) (x : ByteArray) : hasN a x = hasN b x := by
  rw [Bool.eq_iff_iff, hasN_mem, hasN_mem]; exact h x
def isWordB (s : ByteArray) : Bool := hasN wordsL s
def eY (s : ByteArray) : List D := [.str s]
theorem word183 (t : Ty) : zf9 Tryz.prog 215 [.int .u8 t.val] (.str (wordOf t.val)) := by
  refine F215.pcall' rfl fun T hT => ?_
  have six : t.val = 0 ∨ t.val = 1 ∨ t.val = 2 ∨ t.val = 3 ∨ t.val = 4 ∨ t.val = 5 ∨ 6 ≤ t.val := by omega
  rcases six with h | h | h | h | h | h | h
  case inr.inr.inr.inr.inr.inr =>
    have h0 : ((t.val : Int) = 0) = False := by simp; omega
    have h1 : ((t.val : Int) = 1) = False := by simp; omega
    have h2 : ((t.val : Int) = 2) = False := by simp; omega
    have h3 : ((t.val : Int) = 3) = False := by simp; omega
    have h4 : ((t.val : Int) = 4) = False := by simp; omega
    have h5 : ((t.val : Int) = 5) = False := by simp; omega
    simp -implicitDefEqProofs only [go_sem, c215, hT, h0, h1, h2, h3, h4, h5]
    exact DLe.of_eq (by rw [wordOf, List.getElem?_eq_none (by simp [wordsL]; omega)]; rfl)
  all_goals
    rw [h]
    have h' := congrArg (Nat.cast (R := Int)) h
    simp only [Int.ofNat_zero, Int.ofNat_one, Int.cast_ofNat_Int] at h'
    simp -implicitDefEqProofs only [go_sem, c215, hT, h']
    exact DLe.of_eq rfl
theorem isWord149 (s : ByteArray) : zf9 Tryz.prog 178 [.str s] (.bool (isWordB s)) := by
  refine F178.pcall' rfl fun T hT => ?_
  simp -implicitDefEqProofs only [go_sem, c178, hT]
  refine loopL F178 (fun i : Nat => [(0, .str s), (3, .int .u8 i)]) (fun _ => {}) (fun i => i ≤ 6 ∧ ∀ j < i, wordOf j ≠ s) (fun i => 6 - i) 0
    ⟨Nat.zero_le _, by simp⟩ ?_ (St.le.refl _) ?_
  · simp -implicitDefEqProofs only [go_sem, hT, Int.ofNat_zero]
  rintro i ⟨hi, hok⟩ T hT
  have iff : (isWordB s = true) ↔ ∃ j < 6, wordOf j = s := by
    simp only [isWordB, hasN_mem]
    constructor
    · intro h
      obtain ⟨j, hj, he⟩ := List.getElem_of_mem h
      exact ⟨j, hj, by rw [wordOf, List.getElem?_eq_getElem hj]; exact he⟩
    · rintro ⟨j, hj, rfl⟩
      rw [wordOf, List.getElem?_eq_getElem (show j < wordsL.length from hj)]
      exact List.getElem_mem _
  by_cases h : i < 6
  · have h2 : ((i : Int) ≤ 5) = True := by simp; omega
    simp -implicitDefEqProofs only [go_sem, hT, h2]
    refine za4 (word183 ⟨i, by omega⟩) ?_
    simp -implicitDefEqProofs only [go_sem, hT, h2]
    refine br_split (fun h' => zc2 ?_) fun h' => ?_
    · symm; rw [iff]; exact ⟨i, h, of_decide_eq_true h'⟩
    · refine ⟨i + 1, ⟨by omega, fun j hj => ?_⟩, by omega, ?_, St.le.refl _⟩
      · rcases Nat.lt_or_eq_of_le (Nat.le_of_lt_succ hj) with hj | rfl
        · exact hok j hj
        · simpa using h'
      · rw [wrap_u8 (by omega) (by omega)]; simp
  · have h2 : ((i : Int) ≤ 5) = False := by simp; omega
    simp -implicitDefEqProofs only [go_sem, hT, h2]
    refine zc2 ?_
    symm; rw [← Bool.not_eq_true, iff]
    rintro ⟨j, hj, he⟩
    exact hok j (by omega) he
theorem words101 : zf9 Tryz.prog 154 [] (.slice .no (rws eY wordsL)) := by
  refine F154.pcall' rfl fun T hT => ?_
  simp -implicitDefEqProofs only [go_sem, c154, hT, frz]
  exact DLe.slice _ _
theorem index142 (xs : List ByteArray) (o : Own) (s : ByteArray) (hl : xs.length ≤ 140737488355328) : zf9 Tryz.prog 187 [.slice o (rws eY xs), .str s] (.int .i64 (idxOf (fun y => decide (y = s)) xs)) := by
  refine F187.pcall' rfl fun T hT => ?_
  simp -implicitDefEqProofs only [go_sem, c187, hT]
  refine loopL F187 (fun i : Nat => [(0, .slice o (rws eY xs)), (1, .str s), (7, .int .i64 xs.length), (8, .int .i64 i)]) (fun _ => {}) (fun i => i ≤ xs.length ∧ idxFrom (fun y => decide (y = s)) xs 0 = idxFrom (fun y => decide (y = s)) (xs.drop i) i) (fun i => xs.length - i) 0
    ⟨Nat.zero_le _, rfl⟩ ?_ (St.le.refl _) ?_
  · simp -implicitDefEqProofs only [go_sem, hT, Int.ofNat_zero]
  rintro i ⟨hi, heq⟩ T hT
  simp -implicitDefEqProofs only [go_sem, hT]
  refine br_split (fun h => ?_) fun h => ?_
  · have h : i < xs.length := by simpa using h
    simp -implicitDefEqProofs only [go_sem, hT, rws_at h, eY]
    refine ⟨⟨by omega, by omega⟩, ?_⟩
    rw [idxFrom_drop h] at heq
    refine br_split (fun h' => ?_) fun h' => ?_
    · have h' : xs[i] = s := (of_decide_eq_true h').symm
      exact DLe.of_eq (by simp [idxOf, heq, h'])
    · have h' : ¬ xs[i] = s := fun e => by simp [e] at h'
      refine ⟨i + 1, ⟨by omega, by simpa [h'] using heq⟩, by omega, ?_, St.le.refl _⟩
      rw [zb7 (by omega) (by omega)]
      simp
  · have h : ¬ i < xs.length := by simpa using h
    refine DLe.of_eq ?_
    rw [idxOf, heq, List.drop_of_length_le (by omega)]
    rfl
theorem contains100 (xs : List ByteArray) (o : Own) (s : ByteArray) (hl : xs.length ≤ 140737488355328) : zf9 Tryz.prog 153 [.slice o (rws eY xs), .str s] (.bool (hasN xs s)) := by
  refine F153.pcall' rfl fun T hT => ?_
  simp -implicitDefEqProofs only [go_sem, c153, hT]
  refine za4 (index142 xs o s hl) ?_
  simp -implicitDefEqProofs only [go_sem, hT]
  exact zc2 (by rw [Bool.eq_iff_iff, decide_eq_true_iff, idxOf, idxFrom_ge]; rfl)
theorem has150 (l : List Fd) (o : Own) (s : ByteArray) (hl : l.length ≤ 140737488355328) : zf9 Tryz.prog 180 [.slice o (rws eF l), .str s] (.bool (hasN (l.map Fd.name) s)) := by
  refine F180.pcall' rfl fun T hT => ?_
  simp -implicitDefEqProofs only [go_sem, c180, hT]
  refine loopL F180 (fun i : Nat => [(0, .slice o (rws eF l)), (1, .str s), (5, .int .i64 i)]) (fun _ => {}) (fun i => i ≤ l.length ∧ hasN (l.map Fd.name) s = hasN ((l.drop i).map Fd.name) s) (fun i => l.length - i) 0
    ⟨Nat.zero_le _, rfl⟩ ?_ (St.le.refl _) ?_
  · simp -implicitDefEqProofs only [go_sem, hT, Int.ofNat_zero]
  rintro i ⟨hi, heq⟩ T hT
  simp -implicitDefEqProofs only [go_sem, hT]
  refine br_split (fun h => ?_) fun h => ?_
  · have h : i < l.length := by simpa using h
    simp -implicitDefEqProofs only [go_sem, hT, rws_at h, eF_len, eF]
    refine ⟨⟨by omega, by omega⟩, ?_⟩
    rw [List.drop_eq_getElem_cons h] at heq
    refine br_split (fun h' => ?_) fun h' => ?_
    · have h' : l[i].name = s := of_decide_eq_true h'
      exact zc2 (by rw [heq]; simp only [hasN, List.map_cons, List.any_cons, h', decide_true, Bool.true_or])
    · have h' : ¬ l[i].name = s := by simpa using h'
      refine ⟨i + 1, ⟨by omega, by rw [heq]; simp only [hasN, List.map_cons, List.any_cons, h', decide_false, Bool.false_or]⟩, by omega, ?_, St.le.refl _⟩
      rw [zb7 (by omega) (by omega)]
      simp
  · have h : ¬ i < l.length := by simpa using h
    refine zc2 ?_
    rw [heq, List.drop_of_length_le (by omega)]
    rfl
open Go.Proofs
def lineF (l : List Cl) : Nat → Int → List Nat
  | 0, _ => []
  | k + 1, c => if h : 0 ≤ c ∧ c.toNat < l.length then c.toNat :: lineF l k l[c.toNat].parent else []
def lineR (l : List Cl) (c : Int) : List Nat := lineF l (l.length + 1) c
def Falls (l : List Cl) (m : Nat) : Prop := ∀ i (h : i < l.length), i < m → l[i].parent < i
theorem lineF_up {l : List Cl} {m : Nat} (hf : Falls l m) : ∀ (k : Nat) (c : Int), c < m → c < k → lineF l k c = upI l c
  | 0, c, _, h => by rw [upI_neg (by omega)]; rfl
  | k + 1, c, hm, h => by
    unfold lineF
    split
    · rename_i hc
      obtain ⟨n, rfl⟩ : ∃ n : Nat, c = n := ⟨c.toNat, by omega⟩
      simp only [Int.toNat_natCast] at hc ⊢
      have := hf n hc.2 (by omega)
      rw [upI_step hc.2, if_pos this, lineF_up hf k _ (by omega) (by omega)]
    · rename_i hc
      by_cases h0 : c < 0
      · rw [upI_neg h0]
      · rw [upI_out (by omega)]
theorem lineR_up {l : List Cl} {m : Nat} (hf : Falls l m) (hm : m ≤ l.length + 1) {c : Int} (h : c < m) : lineR l c = upI l c :=
  lineF_up hf _ c h (by omega)
def fieldsAt (l : List Cl) (i : Nat) : List Fd := (l[i]?.map Cl.fields).getD []
def ze5 (l : List Cl) (L : List Nat) : List Fd := L.flatMap (fieldsAt l)
theorem fieldsOn_mem {l : List Cl} {L : List Nat} {f : Fd} : f ∈ ze5 l L.reverse ↔ f ∈ ze5 l L := by
  simp [ze5]
theorem fieldsOn_len {l : List Cl} {L : List Nat} : (ze5 l L.reverse).length = (ze5 l L).length := by
  simp only [ze5, List.length_flatMap, List.map_reverse, List.sum_reverse]
def fieldsErr (n : Nat) (ahead : List ByteArray) : List ByteArray → List Fd → Nat
  | own, [] => if 32 < ahead.length + own.length then 4 else 0
  | own, f :: r => if isNameB f.name = false then 6 else if hasN ahead f.name || hasN own f.name then 20 else if storedN n f.ty = false then 22 else fieldsErr n ahead (own ++ [f.name]) r
theorem fieldsErr_congr {n : Nat} {a b : List ByteArray} (hm : ∀ x, x ∈ a ↔ x ∈ b) (hl : a.length = b.length) : ∀ (own : List ByteArray) (r : List Fd), fieldsErr n a own r = fieldsErr n b own r
  | own, [] => by simp only [fieldsErr, hl]
  | own, f :: r => by
    simp only [fieldsErr, hasN_congr hm, fieldsErr_congr hm hl]
theorem fieldsErr_len {n : Nat} {a : List ByteArray} : ∀ (own : List ByteArray) (r : List Fd), fieldsErr n a own r = 0 → a.length + own.length + r.length ≤ 32
  | own, [], h => by
    simp only [fieldsErr] at h
    split at h
    · cases h
    · simp; omega
  | own, f :: r, h => by
    simp only [fieldsErr] at h
    repeat' split at h
    all_goals first
      | cases h
      | (have := fieldsErr_len _ _ h; simp at this ⊢; omega)
def namesUp (l : List Cl) (p : Int) : List ByteArray := (ze5 l (upI l p)).map Fd.name
def namesRef (l : List Cl) (p : Int) : List ByteArray := (ze5 l (lineR l p).reverse).map Fd.name
def classErr (isWord : ByteArray → Bool) (l : List Cl) (i : Nat) (x : Cl) : Nat :=
  if 32 ≤ i then 4 else if isNameB x.name = false ∨ isWord x.name = true then 6 else if (l.take i).any (fun y => decide (y.name = x.name)) then 20
  else if x.parent < -1 ∨ (i : Int) ≤ x.parent then 21 else fieldsErr l.length (namesUp l x.parent) [] x.fields
def Right (w : ByteArray → Bool) (l : List Cl) (m : Nat) : Prop := ∀ i (h : i < l.length), i < m → classErr w l i l[i] = 0
theorem Right.at {w : ByteArray → Bool} {l : List Cl} {m i : Nat} (hr : Right w l m) (h : i < l.length) (him : i < m) : i < 32 ∧ -1 ≤ l[i].parent ∧ l[i].parent < i ∧ (namesUp l l[i].parent).length + l[i].fields.length ≤ 32 := by
  have := hr i h him
  unfold classErr at this
  repeat' split at this
  all_goals first
    | cases this
    | skip
  have h2 := fieldsErr_len _ _ this
  simp at h2
  omega
theorem Right.falls {w : ByteArray → Bool} {l : List Cl} {m : Nat} (hr : Right w l m) : Falls l m := fun i h him => (hr.at h him).2.2.1
theorem namesUp_len {w : ByteArray → Bool} {l : List Cl} {m : Nat} (hr : Right w l m) (c : Int) (h : c < m) : (namesUp l c).length ≤ 32 := by
  by_cases h0 : c < 0
  · simp [namesUp, upI_neg h0, ze5]
  · obtain ⟨n, rfl⟩ : ∃ n : Nat, c = n := ⟨c.toNat, by omega⟩
    by_cases hn : n < l.length
    · have ⟨h1, h2, h3, h4⟩ := hr.at hn (by omega)
      rw [namesUp, upI_step hn, if_pos h3]
      simp only [namesUp, ze5, List.length_map, List.flatMap_cons, List.length_append] at h4 ⊢
      simp only [fieldsAt, List.getElem?_eq_getElem hn, Option.map_some, Option.getD_some] at h4 ⊢
      omega
    · simp [namesUp, upI_out (show (l.length : Int) ≤ n by omega), ze5]
theorem namesRef_eq {w : ByteArray → Bool} {l : List Cl} {m : Nat} (hr : Right w l m) (hm : m ≤ l.length + 1) {p : Int} (h : p < m) (own : List ByteArray) (r : List Fd) :
    fieldsErr l.length (namesRef l p) own r = fieldsErr l.length (namesUp l p) own r := by
  refine fieldsErr_congr ?_ ?_ own r
  · intro x
    simp only [namesRef, namesUp, List.mem_map, fieldsOn_mem, lineR_up hr.falls hm h]
  · simp only [namesRef, namesUp, List.length_map, fieldsOn_len, lineR_up hr.falls hm h]
def checkFrom (w : ByteArray → Bool) (l : List Cl) : Nat → Nat → Nat × Nat
  | 0, _ => (0, 0)
  | k + 1, i => if h : i < l.length then (if classErr w l i l[i] = 0 then checkFrom w l k (i + 1) else (i, classErr w l i l[i])) else (0, 0)
def checkL (w : ByteArray → Bool) (l : List Cl) : Nat × Nat := checkFrom w l l.length 0
open Go.Proofs
def toI (L : List Nat) : List Int := L.map fun n : Nat => (n : Int)
theorem lineF_len {l : List Cl} : ∀ {k : Nat} {c : Int}, (lineF l k c).length ≤ k
  | 0, c => by simp [lineF]
  | k + 1, c => by
    unfold lineF
    split
    · simp; exact lineF_len
    · simp
theorem line121 (l : List Cl) (o : Own) (c₀ : Int) (hl : l.length * 48 ≤ 140737488355328) : zf9 Tryz.prog 133 [.slice o (rws eC l), .int .i64 c₀] (.slice .no (rws eI (toI (lineR l c₀)))) := by
  refine F133.pcall' rfl fun T hT => ?_
  simp -implicitDefEqProofs only [go_sem, mmB, c133, hT]
  refine loopL F133 (fun x : List Nat × Int × Option Nat => [(0, .slice o (rws eC l)), (1, .int .i64 x.2.1), (5, grD 1 x.2.2 (rws eI (toI x.1)))]) (fun x => grS 1 x.1.length x.2.2 {})
    (fun x => (x.2.2 = none → x.1.length = 0) ∧ x.1.length ≤ l.length + 1 ∧ lineR l c₀ = x.1 ++ lineF l (l.length + 1 - x.1.length) x.2.1) (fun x => l.length + 1 - x.1.length) ([], c₀, none)
    ⟨fun _ => rfl, by simp, by simp [lineR]⟩ ?_ (St.le.refl _) ?_
  · simp -implicitDefEqProofs only [go_sem, mmB, hT]
    rfl
  rintro ⟨out, c, ob⟩ ⟨hn, ho, heq⟩ T hT
  simp only at hn ho heq hT ⊢
  have hlen : (toI out).length = out.length := by simp [toI]
  by_cases h : 0 ≤ c ∧ c < l.length ∧ out.length ≤ l.length
  · obtain ⟨n, rfl⟩ : ∃ n : Nat, c = n := ⟨c.toNat, by omega⟩
    have h1 : ((0 : Int) ≤ n) = True := by simp
    have h2 : ((n : Int) < l.length) = True := by simp; omega
    have h3 : ((out.length : Int) ≤ l.length) = True := by simp; omega
    have hin : n < l.length := by omega
    simp -implicitDefEqProofs only [go_sem, mmB, hT, h1, h2, hlen, h3, frz]
    refine app_gr' Tryz.sli29 Tryz.sz3 Tryz.by3 Tryz.zero3 rfl (n := out.length) (m := 1) (by rw [za0, hlen]) rfl (St.le.refl _) grN_nil hn (by simp) (by omega) fun o' σ' hbox hle _ hno => ?_
    simp -implicitDefEqProofs only [go_sem, mmB, hT, rws_at hin, eC, eC_len]
    refine ⟨⟨by omega, by omega⟩, (out ++ [n], l[n].parent, o'), ⟨by simpa using hno, by simp; omega, ?_⟩, by simp; omega, ⟨rfl, ?_⟩, by simpa using hle⟩
    · rw [heq, show l.length + 1 - out.length = (l.length + 1 - (out ++ [n]).length) + 1 by simp; omega, lineF, dif_pos ⟨by omega, by simpa using hin⟩]
      simp
    · simp [toI, rws, eI]
  · have stop : lineF l (l.length + 1 - out.length) c = [] := by
      cases hk : l.length + 1 - out.length with
      | zero => rfl
      | succ k => rw [lineF, dif_neg (by omega)]
    rw [stop, List.append_nil] at heq
    have fin : DLe (grD 1 ob (rws eI (toI out))) (.slice .no (rws eI (toI (lineR l c₀)))) := by rw [heq]; exact grD_le
    have hf : (decide (0 ≤ c) && decide (c < (l.length : Int)) && decide ((out.length : Int) ≤ l.length)) = false := by
      rw [Bool.eq_false_iff]; simp; omega
    simp -implicitDefEqProofs only [go_sem, mmB, hT, hlen, hf]
    exact fin
open Go.Proofs
theorem lineF_lt {l : List Cl} : ∀ {k : Nat} {c : Int} {n : Nat}, n ∈ lineF l k c → n < l.length
  | 0, c, n, h => by simp [lineF] at h
  | k + 1, c, n, h => by
    unfold lineF at h
    split at h
    · rename_i hc
      rcases List.mem_cons.1 h with rfl | h
      · exact hc.2
      · exact lineF_lt h
    · cases h
theorem fieldsOn_snoc {l : List Cl} {L : List Nat} {n : Nat} (h : n < l.length) : ze5 l (L ++ [n]) = ze5 l L ++ l[n].fields := by
  simp [ze5, fieldsAt, h]
theorem fieldsOn_drop_le {l : List Cl} {L : List Nat} (k : Nat) : (ze5 l (L.drop k).reverse).length ≤ (ze5 l L.reverse).length := by
  rw [fieldsOn_len, fieldsOn_len]
  conv => rhs; rw [← List.take_append_drop k L]
  simp only [ze5, List.flatMap_append, List.length_append]; omega
theorem toI_at {L : List Nat} {i : Nat} (h : i < L.length) : (rws eI (toI L))[i]? = some [.int .i64 (L[i] : Int)] := by
  simp [toI, rws, eI, h]
theorem refFields114 (l : List Cl) (o : Own) (c : Int) (hl : l.length * 48 ≤ 140737488355328) (hf : (ze5 l (lineR l c).reverse).length * 24 ≤ 140737488355328) :
    zf9 Tryz.prog 179 [.slice o (rws eC l), .int .i64 c] (.slice .no (rws eF (ze5 l (lineR l c).reverse))) := by
  refine F179.pcall' rfl fun T hT => ?_
  simp -implicitDefEqProofs only [go_sem, mmB, c179, hT]
  refine za4 (line121 l o c hl) ?_
  obtain ⟨L, hL⟩ : ∃ L, lineR l c = L := ⟨_, rfl⟩
  have hlt : ∀ n ∈ L, n < l.length := fun n hn => lineF_lt (by rw [← hL] at hn; exact hn)
  have hLl : L.length ≤ l.length + 1 := by rw [← hL]; exact lineF_len
  rw [hL] at hf ⊢
  have hlen : (toI L).length = L.length := by simp [toI]
  simp -implicitDefEqProofs only [go_sem, mmB, hT, hlen]
  refine loopL F179 (fun x : Nat × Option Nat => [(0, .slice o (rws eC l)), (5, .slice .no (rws eI (toI L))), (7, .int .i64 ((x.1 : Int) - 1)), (6, grD 2 x.2 (rws eF (ze5 l (L.drop x.1).reverse)))]) (fun x => grS 2 (ze5 l (L.drop x.1).reverse).length x.2 {})
    (fun x => x.1 ≤ L.length ∧ (x.2 = none → (ze5 l (L.drop x.1).reverse).length = 0)) (fun x => x.1) (L.length, none)
    ⟨Nat.le_refl _, fun _ => by simp [ze5]⟩ ?_ (St.le.refl _) ?_
  · simp -implicitDefEqProofs only [go_sem, mmB, hT, hlen]
    refine ⟨?_, ?_⟩
    · rw [zb7 (by omega) (by omega)]
    · simp [ze5, rws, grD]
  rintro ⟨k, ob⟩ ⟨hk, hn⟩ T hT
  simp only at hk hn hT ⊢
  by_cases h : k = 0
  · subst h
    have h1 : ((0 : Int) ≤ (0 : Nat) - 1) = False := by simp
    simp -implicitDefEqProofs only [go_sem, mmB, hT, h1]
    exact grD_le
  · obtain ⟨i, rfl⟩ : ∃ i, k = i + 1 := ⟨k - 1, by omega⟩
    have h1 : ((i + 1 : Nat) : Int) - 1 = i := by omega
    have h2 : ((0 : Int) ≤ i) = True := by simp
    have hi : i < L.length := by omega
    have hn' : L[i] < l.length := hlt _ (by simp)
    rw [h1] at hT
    simp -implicitDefEqProofs only [go_sem, mmB, hT, h2, toI_at hi, hlen, rws_at hn', eC, eC_len]
    refine ⟨by omega, by omega, ?_⟩
    have hsnoc : ze5 l (L.drop i).reverse = ze5 l (L.drop (i + 1)).reverse ++ l[L[i]].fields := by
      rw [List.drop_eq_getElem_cons hi, List.reverse_cons, fieldsOn_snoc hn']
    have hle := fieldsOn_drop_le (l := l) (L := L) i
    have hsl := congrArg List.length hsnoc
    rw [List.length_append] at hsl
    refine app_gr' Tryz.sli152 Tryz.sz157 Tryz.by157 Tryz.zero157 rfl (n := (ze5 l (L.drop (i + 1)).reverse).length) (m := l[L[i]].fields.length) (by rw [za0]) (by rw [za0]) (St.le.refl _) grN_nil hn (by simp [rws, eF_len]) (by omega) fun o' σ' hbox hle' _ hno => ?_
    simp -implicitDefEqProofs only [go_sem, mmB, hT]
    refine ⟨(i, o'), ⟨by omega, by rw [hsl]; exact hno⟩, by simp, ⟨?_, ?_⟩, by rw [hsl]; exact hle'⟩
    · rw [zb7 (by omega) (by omega)]
    · rw [hsnoc]; simp [rws]
open Go.Proofs
def Wide (l : List Cl) : Prop := l.length * 48 ≤ 140737488351232 ∧ ∀ x ∈ l, x.fields.length * 24 ≤ 140737488351232
theorem any_take {l : List Cl} {s : ByteArray} {i : Nat} (h : i < l.length) : ((l.take (i + 1)).any fun y => decide (y.name = s)) = (((l.take i).any fun y => decide (y.name = s)) || decide (l[i].name = s)) := by
  rw [List.take_succ_eq_append_getElem h, List.any_append]; simp
theorem rws_take {α : Type} {enc : α → List D} {l : List α} {j : Nat} : (rws enc l).take j = rws enc (l.take j) := by simp [rws]
theorem refFault108 (l : List Cl) (o : Own) (c : Nat) (hc : c < l.length) (hw : Wide l) (hr : Right isWordB l c) :
    zf9 Tryz.prog 146 [.slice o (rws eC l), .int .i64 c] (.int .i64 (classErr isWordB l c l[c])) := by
  refine F146.pcall' rfl fun T hT => ?_
  have hwc := hw.2 l[c] (by simp)
  have hw1 := hw.1
  generalize hx : l[c] = x at hwc
  have hR : (rws eC l)[c]?.getD [] = eC x := by rw [rws_at hc, hx]
  simp -implicitDefEqProofs only [go_sem, c146, hT, hR, eC, eC_len]
  refine ⟨by omega, fun b => ?_⟩
  simp -implicitDefEqProofs only [go_sem, hT, hR, eC, za2]
  refine br_split (fun h => ?_) fun h => ?_
  · have h : 32 ≤ c := by simp at h; omega
    exact DLe.of_eq (by simp [classErr, h])
  have h32 : ¬ 32 ≤ c := by simp at h; omega
  refine za4 (isName148 x.name) ?_
  cases hN : isNameB x.name
  · simp -implicitDefEqProofs only [go_sem, hT, hR, eC, za2]
    exact DLe.of_eq (by simp [classErr, h32, hN])
  simp -implicitDefEqProofs only [go_sem, hT, hR, eC, za2]
  refine za4 (isWord149 x.name) ?_
  cases hW : isWordB x.name
  case true =>
    simp -implicitDefEqProofs only [go_sem, hT, hR, eC, za2]
    exact DLe.of_eq (by simp [classErr, h32, hW])
  simp -implicitDefEqProofs only [go_sem, hT, hR, eC, za2]
  refine loopL F146 (fun i : Nat => [(0, .slice o (rws eC l)), (1, .int .i64 c), (5, .ptr b 0), (6, .int .i64 i)]) (fun _ => ({} : St).set b (eC x)) (fun i => i ≤ c ∧ ((l.take i).any fun y => decide (y.name = x.name)) = false) (fun i => c - i) 0
    ⟨Nat.zero_le _, rfl⟩ ?_ (St.le.refl _) ?_
  · simp -implicitDefEqProofs only [go_sem, hT, Int.ofNat_zero]
  rintro i ⟨hi, hok⟩ T hT
  by_cases h : i < c
  · have h1 : ((i : Int) < c) = True := by simp; omega
    have hil : i < l.length := by omega
    simp -implicitDefEqProofs only [go_sem, hT, h1, rws_at hil, eC, eC_len]
    refine ⟨by omega, ?_⟩
    refine br_split (fun h' => ?_) fun h' => ?_
    · have h' : l[i].name = x.name := of_decide_eq_true h'
      have hany : ((l.take c).any fun y => decide (y.name = x.name)) = true := by
        rw [List.any_eq_true]; exact ⟨l[i], List.mem_take_iff_getElem.2 ⟨i, by omega, rfl⟩, by simpa using h'⟩
      exact DLe.of_eq (by simp [classErr, h32, hN, hW, hany])
    · refine ⟨i + 1, ⟨by omega, by rw [any_take hil, hok, h']; rfl⟩, by omega, ?_, St.le.refl _⟩
      rw [zb7 (by omega) (by omega)]; simp
  have h1 : ((i : Int) < c) = False := by simp; omega
  obtain rfl : i = c := by omega
  have pre : ∀ e : Nat, (if x.parent < -1 ∨ (i : Int) ≤ x.parent then 21 else fieldsErr l.length (namesUp l x.parent) [] x.fields) = e → classErr isWordB l i x = e := fun e he => by
    rw [classErr, if_neg h32, if_neg (by simp [hN, hW]), if_neg (by simp [hok]), he]
  by_cases hp : x.parent < -1 ∨ (i : Int) ≤ x.parent
  · have hp' : (decide (x.parent < -1) || decide ((i : Int) ≤ x.parent)) = true := by simpa using hp
    simp -implicitDefEqProofs only [go_sem, mmB, hT, h1, eC, hp']
    refine DLe.of_eq ?_
    rw [pre 21 (if_pos hp)]; rfl
  have hp' : (decide (x.parent < -1) || decide ((i : Int) ≤ x.parent)) = false := by simpa using hp
  replace pre := fun e he => pre e ((if_neg hp).trans he)
  simp -implicitDefEqProofs only [go_sem, mmB, hT, h1, eC, hp']
  have hpi : x.parent < (i : Int) := by omega
  obtain ⟨all, hall⟩ : ∃ all, ze5 l (lineR l x.parent).reverse = all := ⟨_, rfl⟩
  have hA : namesRef l x.parent = all.map Fd.name := by rw [namesRef, hall]
  have hlen32 : all.length ≤ 32 := by
    have := namesUp_len hr x.parent hpi
    rw [← hall, fieldsOn_len, lineR_up hr.falls (by omega) hpi]
    simpa [namesUp] using this
  replace pre : ∀ e : Nat, fieldsErr l.length (all.map Fd.name) [] x.fields = e → classErr isWordB l i x = e := fun e he => pre e (by rw [← namesRef_eq hr (by omega) hpi, hA]; exact he)
  refine za4 (refFields114 l o x.parent (by omega) (by rw [hall]; omega)) ?_
  rw [hall]
  simp -implicitDefEqProofs only [go_sem, mmB, hT, h1, eC, hp']
  refine loopL F146 (fun j : Nat => [(0, .slice o (rws eC l)), (1, .int .i64 i), (5, .ptr b 0), (7, .slice .no (rws eF all)), (8, .int .i64 j)]) (fun _ => ({} : St).set b (eC x))
    (fun j => j ≤ x.fields.length ∧ fieldsErr l.length (all.map Fd.name) [] x.fields = fieldsErr l.length (all.map Fd.name) ((x.fields.take j).map Fd.name) (x.fields.drop j)) (fun j => x.fields.length - j) 0
    ⟨Nat.zero_le _, rfl⟩ ?_ (St.le.refl _) ?_
  · simp -implicitDefEqProofs only [go_sem, hT, Int.ofNat_zero]
  clear hT T
  rintro j ⟨hj, heq⟩ T hT
  by_cases h2 : j < x.fields.length
  · have h3 : ((j : Int) < x.fields.length) = True := by simp; omega
    generalize hf : x.fields[j] = f
    have hRf : (rws eF x.fields)[j]?.getD [] = eF f := by rw [rws_at h2, hf]
    have hstep : ∀ e, (if isNameB f.name = false then 6 else if hasN (all.map Fd.name) f.name || hasN ((x.fields.take j).map Fd.name) f.name then 20 else if storedN l.length f.ty = false then 22 else fieldsErr l.length (all.map Fd.name) ((x.fields.take j).map Fd.name ++ [f.name]) (x.fields.drop (j + 1))) = e →
        fieldsErr l.length (all.map Fd.name) [] x.fields = e := fun e he => by
      rw [heq, List.drop_eq_getElem_cons h2, hf, fieldsErr, he]
    simp -implicitDefEqProofs only [go_sem, hT, h3, eC, eC_len, hRf, eF, eF_len]
    refine ⟨by omega, fun b2 hb2 hb3 => ?_⟩
    simp -implicitDefEqProofs only [go_sem, hT, hb2, hb3, eC, eF, za2]
    refine za4 (isName148 f.name) ?_
    cases hN2 : isNameB f.name
    · simp -implicitDefEqProofs only [go_sem, hT, hb2, hb3, eC, eF, za2]
      refine DLe.of_eq ?_
      rw [pre 6 (hstep 6 (by rw [hN2]; rfl))]; rfl
    rw [hN2] at hstep
    simp -implicitDefEqProofs only [go_sem, hT, hb2, hb3, eC, eF, za2]
    refine za4 (has150 all .no f.name (by omega)) ?_
    cases hH : hasN (all.map Fd.name) f.name
    case true =>
      simp -implicitDefEqProofs only [go_sem, hT, hb2, hb3, eC, eF, za2]
      refine DLe.of_eq ?_
      rw [pre 20 (hstep 20 (by rw [hH]; rfl))]; rfl
    rw [hH] at hstep
    simp -implicitDefEqProofs only [go_sem, hT, hb2, hb3, eC, eF, za2, rws_take]
    refine ⟨⟨⟨by omega, by omega⟩, by simp [rws, eF_len]⟩, ?_⟩
    refine za4 (has150 (x.fields.take j) .no f.name (by simp; omega)) ?_
    cases hH2 : hasN ((x.fields.take j).map Fd.name) f.name
    case true =>
      simp -implicitDefEqProofs only [go_sem, hT, hb2, hb3, eC, eF, za2]
      refine DLe.of_eq ?_
      rw [pre 20 (hstep 20 (by rw [hH2]; rfl))]; rfl
    rw [hH2] at hstep
    simp -implicitDefEqProofs only [go_sem, hT, hb2, hb3, eC, eF, za2]
    refine za4 (refStored109 l o f.ty) ?_
    cases hS : storedN l.length f.ty
    · simp -implicitDefEqProofs only [go_sem, hT, hb2, hb3, eC, eF, za2]
      refine DLe.of_eq ?_
      rw [pre 22 (hstep 22 (by rw [hS]; rfl))]; rfl
    rw [hS] at hstep
    simp -implicitDefEqProofs only [go_sem, hT, hb2, hb3, eC, eF, za2]
    refine ⟨j + 1, ⟨by omega, ?_⟩, by omega, ?_, ?_⟩
    · rw [hstep _ rfl, List.take_succ_eq_append_getElem h2, hf]
      simp
    · rw [zb7 (by omega) (by omega)]; simp
    · exact le_add (by simp [has_set, has_nil]; omega)
  · have h3 : ((j : Int) < x.fields.length) = False := by simp; omega
    have hj' : j = x.fields.length := by omega
    subst hj'
    rw [List.drop_length, List.take_length] at heq
    simp -implicitDefEqProofs only [go_sem, hT, h3, eC, eC_len]
    refine br_split (fun h => ?_) fun h => ?_
    · rw [zb7 (by omega) (by omega)] at h
      refine DLe.of_eq ?_
      rw [pre 4 (by rw [heq, fieldsErr, if_pos]; simp at h ⊢; omega)]; rfl
    · rw [zb7 (by omega) (by omega)] at h
      refine DLe.of_eq ?_
      rw [pre 0 (by rw [heq, fieldsErr, if_neg]; simp at h ⊢; omega)]; rfl
open Go.Proofs
theorem refCheck69 (l : List Cl) (o : Own) (hw : Wide l) : zf9 Tryz.prog 100 [.slice o (rws eC l)] (.tup [.int .i64 (checkL isWordB l).1, .int .i64 (checkL isWordB l).2]) := by
  have hw1 := hw.1
  refine F100.pcall' rfl fun T hT => ?_
  simp -implicitDefEqProofs only [go_sem, c100, hT]
  refine loopL F100 (fun i : Nat => [(0, .slice o (rws eC l)), (4, .int .i64 i)]) (fun _ => {}) (fun i => i ≤ l.length ∧ Right isWordB l i ∧ checkL isWordB l = checkFrom isWordB l (l.length - i) i) (fun i => l.length - i) 0
    ⟨Nat.zero_le _, fun i h h' => by omega, rfl⟩ ?_ (St.le.refl _) ?_
  · simp -implicitDefEqProofs only [go_sem, hT, Int.ofNat_zero]
  rintro i ⟨hi, hr, heq⟩ T hT
  by_cases h : i < l.length
  · have h1 : ((i : Int) < l.length) = True := by simp; omega
    simp -implicitDefEqProofs only [go_sem, hT, h1]
    refine za4 (refFault108 l o i h hw hr) ?_
    rw [show l.length - i = (l.length - (i + 1)) + 1 by omega, checkFrom, dif_pos h] at heq
    by_cases he : classErr isWordB l i l[i] = 0
    · rw [if_pos he] at heq
      simp -implicitDefEqProofs only [go_sem, hT, h1, he]
      refine ⟨i + 1, ⟨by omega, fun j hj hj' => ?_, heq⟩, by omega, ?_, St.le.refl _⟩
      · rcases Nat.lt_or_eq_of_le (Nat.le_of_lt_succ hj') with hj' | rfl
        · exact hr j hj hj'
        · exact he
      · rw [zb7 (by omega) (by omega)]; simp
    · rw [if_neg he] at heq
      have h2 : (((classErr isWordB l i l[i] : Nat) : Int) = 0) = False := by simp; omega
      simp -implicitDefEqProofs only [go_sem, hT, h1, h2]
      rw [heq]
      exact DLe.refl _
  · have h1 : ((i : Int) < l.length) = False := by simp; omega
    rw [show l.length - i = 0 by omega, checkFrom] at heq
    simp -implicitDefEqProofs only [go_sem, hT, h1]
    rw [heq]
    exact DLe.refl _
theorem idxFunc143 (xs : List Cl) (o : Own) (g : FuncId) (fi ca : List D) (p : Cl → Bool) (σ : St) (hl : xs.length ≤ 140737488355328) (hp : Tests g fi ca (fun t : Cl => D.agg (eC t)) p xs σ) :
    RCall Tryz.prog 188 [.slice o (rws eC xs), .func (.func g) fi ca] σ fun d s' => d = .int .i64 (idxOf p xs) ∧ s' = σ := by
  refine F188.rcall rfl fun T hT => ?_
  simp -implicitDefEqProofs only [go_sem, c188, hT]
  refine loopL F188 (fun i : Nat => [(0, .slice o (rws eC xs)), (1, .func (.func g) fi ca), (7, .int .i64 xs.length), (8, .int .i64 i)]) (fun _ => σ) (fun i => i ≤ xs.length ∧ idxFrom p xs 0 = idxFrom p (xs.drop i) i) (fun i => xs.length - i) 0
    ⟨Nat.zero_le _, rfl⟩ ?_ (St.le.refl _) ?_
  · simp -implicitDefEqProofs only [go_sem, hT, Int.ofNat_zero]
  rintro i ⟨hi, heq⟩ T hT
  simp -implicitDefEqProofs only [go_sem, hT]
  refine br_split (fun h => ?_) fun h => ?_
  · have h : i < xs.length := by simpa using h
    simp -implicitDefEqProofs only [go_sem, hT, rws_at h, eC_len]
    refine ⟨⟨by omega, by omega⟩, ?_⟩
    have ht : (eC xs[i]).take 3 = eC xs[i] := rfl
    rw [ht]
    refine callB_all (hp xs[i] (by simp)) ?_
    rintro d s' ⟨rfl, rfl⟩
    rw [idxFrom_drop h] at heq
    simp -implicitDefEqProofs only [go_sem, hT]
    refine br_split (fun h' => ?_) fun h' => ?_
    · exact ⟨_, _, DLe.refl _, St.le.refl _, by simp [idxOf, heq, h'], rfl⟩
    · refine ⟨i + 1, ⟨by omega, by simpa [h'] using heq⟩, by omega, ?_, St.le.refl _⟩
      rw [zb7 (by omega) (by omega)]
      simp
  · have h : ¬ i < xs.length := by simpa using h
    refine ⟨_, _, DLe.refl _, St.le.refl _, ?_, rfl⟩
    rw [idxOf, heq, List.drop_of_length_le (by omega)]
    rfl
theorem contFunc102 (xs : List Cl) (o : Own) (g : FuncId) (fi ca : List D) (p : Cl → Bool) (σ : St) (hl : xs.length ≤ 140737488355328) (hp : Tests g fi ca (fun t : Cl => D.agg (eC t)) p xs σ) :
    RCall Tryz.prog 155 [.slice o (rws eC xs), .func (.func g) fi ca] σ fun d s' => d = .bool (xs.any p) ∧ s' = σ := by
  refine F155.rcall rfl fun T hT => ?_
  simp -implicitDefEqProofs only [go_sem, c155, hT]
  refine callB_all (idxFunc143 xs o g fi ca p σ hl hp) ?_
  rintro d s' ⟨rfl, rfl⟩
  simp -implicitDefEqProofs only [go_sem, hT, idxOf, idxFrom_ge]
  exact ⟨_, _, DLe.refl _, St.le.refl _, by rw [D.bool.injEq, Bool.eq_iff_iff]; simp, rfl⟩
theorem same103 (x c : Cl) (b : Nat) (σ : St) (hb : σ.box b = some (eC c)) :
    RCall Tryz.prog 156 [.agg (eC x), .ptr b 0] σ fun d s' => d = .bool (decide (x.name = c.name)) ∧ s' = σ := by
  refine F156.rcall rfl fun T hT => ?_
  simp -implicitDefEqProofs only [go_sem, c156, hT, eC]
  intro b' hb'
  have hne : ¬ b = b' := fun he => by subst he; exact hb' (.inl (by rw [hb]; simp))
  simp -implicitDefEqProofs only [go_sem, hT, hb, hne, eC]
  exact ⟨_, σ, DLe.refl _, le_add hb', rfl, rfl⟩
theorem climb144' (l : List Cl) (o : Own) (g : FuncId) (fi ca : List D) {α : Type} (I : α → St) (Step : α → Nat → Bool → α → Prop) (ok : α → List Nat → Prop)
    (hl : l.length ≤ 140737488355328)
    (hdo : ∀ a (c : Nat) rest, c < l.length → ok a (c :: rest) → RCall Tryz.prog g (fi ++ [.int .i64 c] ++ ca) (I a) fun d s' => ∃ b a', d = .bool b ∧ s' = I a' ∧ Step a c b a' ∧ ok a' rest) (a₀ : α) (c₀ : Int) (h₀ : ok a₀ (upI l c₀)) :
    RCall Tryz.prog 189 [.slice o (rws eC l), .int .i64 c₀, .func (.func g) fi ca] (I a₀) fun d s' => d = .tup [] ∧ ∃ a' r, s' = I a' ∧ Runs Step (upI l c₀) a₀ a' ∧ ok a' r := by
  refine F189.rcall rfl fun T hT => ?_
  simp -implicitDefEqProofs only [go_sem, c189, hT]
  refine loopL F189 (fun x : α × Int => [(0, .slice o (rws eC l)), (1, .int .i64 x.2), (2, .func (.func g) fi ca)]) (fun x => I x.1) (fun x => ok x.1 (upI l x.2) ∧ ∀ a'', Runs Step (upI l x.2) x.1 a'' → Runs Step (upI l c₀) a₀ a'') (fun x => (x.2 + 1).toNat) (a₀, c₀)
    ⟨h₀, fun _ h => h⟩ ?_ (St.le.refl _) ?_
  · simp -implicitDefEqProofs only [go_sem, hT]
  rintro ⟨a, c⟩ ⟨ho, hok⟩ T hT
  simp only at ho hok hT ⊢
  by_cases h0 : 0 ≤ c
  · by_cases h1 : c < (l.length : Int)
    · obtain ⟨n, rfl⟩ : ∃ n : Nat, c = n := ⟨c.toNat, by omega⟩
      have hn : n < l.length := by omega
      simp -implicitDefEqProofs only [go_sem, hT, h0, h1]
      rw [upI_step hn] at hok ho
      refine callB_all (hdo a n _ hn ho) ?_
      rintro d s' ⟨b, a', rfl, rfl, hs, ho'⟩
      cases b
      · simp -implicitDefEqProofs only [go_sem, hT]
        exact ⟨_, _, DLe.refl _, St.le.refl _, rfl, a', _, rfl, hok a' ⟨false, a', hs, rfl⟩, ho'⟩
      · simp -implicitDefEqProofs only [go_sem, hT, rws_at hn, eC_len, eC]
        refine ⟨⟨by omega, by omega⟩, ?_⟩
        refine br_split (fun h => ?_) fun h => ?_
        · have : ¬ l[n].parent < (n : Int) := by simpa using h
          rw [if_neg this] at hok ho'
          exact ⟨_, _, DLe.refl _, St.le.refl _, rfl, a', _, rfl, hok a' ⟨true, a', hs, by simp [Runs]⟩, ho'⟩
        · have : l[n].parent < (n : Int) := by simpa using h
          rw [if_pos this] at hok ho'
          refine ⟨(a', l[n].parent), ⟨ho', fun a'' hr => hok a'' ⟨true, a', hs, by simpa using hr⟩⟩, by simp only; omega, rfl, St.le.refl _⟩
    · simp -implicitDefEqProofs only [go_sem, hT, h0, h1]
      refine ⟨_, _, DLe.refl _, St.le.refl _, rfl, a, _, rfl, hok a ?_, ho⟩
      rw [upI_out (by omega)]; rfl
  · simp -implicitDefEqProofs only [go_sem, hT, h0]
    refine ⟨_, _, DLe.refl _, St.le.refl _, rfl, a, _, rfl, hok a ?_, ho⟩
    rw [upI_neg (by omega)]; rfl
open Go.Proofs
def metB (b2 b5 : Nat) (o : Own) (l : List Cl) (a : List ByteArray × Option Nat) : St := (({} : St).set b2 [.slice o (rws eC l)]).set b5 [grD 1 a.2 (rws eY a.1)]
def metS (b2 b5 : Nat) (o : Own) (l : List Cl) (a : List ByteArray × Option Nat) : St := grS 1 a.1.length a.2 (metB b2 b5 o l a)
def metOk (b2 b5 : Nat) (a : List ByteArray × Option Nat) : Prop := (a.2 = none → a.1.length = 0) ∧ ∀ b, a.2 = some b → b ≠ b2 ∧ b ≠ b5
section
variable {b2 b5 : Nat} {o : Own} {l : List Cl} {a : List ByteArray × Option Nat}
theorem metS_5 : (metS b2 b5 o l a).box b5 = some [grD 1 a.2 (rws eY a.1)] := by simp [metS, metB, grS_boxa, St.set_box]
theorem metS_2 (h : b2 ≠ b5) : (metS b2 b5 o l a).box b2 = some [.slice o (rws eC l)] := by simp [metS, metB, grS_boxa, St.set_box, h]
theorem metS_fresh (h : b2 ≠ b5) {x : Nat} (hx : ¬ (metS b2 b5 o l a).has x) : ¬ b2 = x ∧ ¬ b5 = x :=
  ⟨fun e => by subst e; exact hx (.inl (by rw [metS_2 h]; simp)), fun e => by subst e; exact hx (.inl (by rw [metS_5]; simp))⟩
theorem metB_n (h : metOk b2 b5 a) : grN a.2 (metB b2 b5 o l a) := fun b hb hin => by
  obtain ⟨h1, h2⟩ := h.2 b hb
  simp only [metB, has_set, has_nil, or_false] at hin
  omega
theorem metB_of {ob : Option Nat} (h : grN ob (metB b2 b5 o l a)) {names : List ByteArray} (h' : ob = none → names.length = 0) : metOk b2 b5 (names, ob) :=
  ⟨h', fun b hb => ⟨fun e => h b hb (by simp [metB, has_set, e]), fun e => h b hb (by simp [metB, has_set, e])⟩⟩
theorem metS_more {σ σ' : St} {ob : Option Nat} {x : ByteArray} (hle : St.le (grS 1 (a.1.length + 1) ob (metB b2 b5 o l a)) σ') : St.le (metS b2 b5 o l (a.1 ++ [x], ob)) (σ'.set b5 [grD 1 ob (rws eY a.1 ++ [[.str x]])]) := by
  have h := le_set (b := b5) (cs := [grD 1 ob (rws eY (a.1 ++ [x]))]) hle
  rw [grS_set, metB, za2] at h
  simp only [metS, metB, List.length_append, List.length_cons, List.length_nil, Nat.zero_add]
  rw [show rws eY a.1 ++ [[D.str x]] = rws eY (a.1 ++ [x]) by simp [rws, eY]]
  exact h
end
theorem names145 (l : List Cl) (o : Own) (b2 b5 : Nat) (hne : b2 ≠ b5) (c : Nat) (hc : c < l.length) (hw : Wide l) (a : List ByteArray × Option Nat) (ha : metOk b2 b5 a) (hl : a.1.length + l[c].fields.length ≤ 32) :
    RCall Tryz.prog 190 [.int .i64 c, .ptr b2 0, .ptr b5 0] (metS b2 b5 o l a) fun d s' => d = .bool true ∧ ∃ ob, s' = metS b2 b5 o l (a.1 ++ l[c].fields.map Fd.name, ob) ∧ metOk b2 b5 (a.1 ++ l[c].fields.map Fd.name, ob) := by
  have hne' : ¬ b5 = b2 := fun e => hne e.symm
  have hw1 := hw.1
  refine F190.rcall rfl fun T hT => ?_
  simp -implicitDefEqProofs only [go_sem, c190, hT, metS_5, metS_2 hne, rws_at hc, eC, eC_len]
  refine ⟨by omega, ?_⟩
  generalize hF : l[c].fields = F at hl
  refine loopL F190 (fun x : Nat × Option Nat => [(1, .ptr b2 0), (2, .ptr b5 0), (11, .slice .no (rws eF F)), (12, .int .i64 F.length), (13, .int .i64 x.1)]) (fun x => metS b2 b5 o l (a.1 ++ (F.take x.1).map Fd.name, x.2))
    (fun x => x.1 ≤ F.length ∧ metOk b2 b5 (a.1 ++ (F.take x.1).map Fd.name, x.2)) (fun x => F.length - x.1) (0, a.2)
    ⟨Nat.zero_le _, by simpa using ha⟩ ?_ ?_ ?_
  · simp -implicitDefEqProofs only [go_sem, hT, Int.ofNat_zero]
  · simp only [List.take_zero, List.map_nil, List.append_nil]; exact St.le.refl _
  rintro ⟨i, ob⟩ ⟨hi, hok⟩ T hT
  simp only at hi hok hT ⊢
  by_cases h : i < F.length
  · have h1 : ((i : Int) < F.length) = True := by simp; omega
    have hlen : (a.1 ++ (F.take i).map Fd.name).length ≤ 32 := by simp; omega
    generalize hN : a.1 ++ (F.take i).map Fd.name = names at *
    simp -implicitDefEqProofs only [go_sem, hT, h1, rws_at h, eF, eF_len]
    refine ⟨by omega, fun b6 hb6 => ?_⟩
    obtain ⟨f1, f2⟩ := metS_fresh hne hb6
    simp -implicitDefEqProofs only [go_sem, hT, f1, f2, metS_5, metS_2 hne, frz]
    refine app_gr' Tryz.sli210 Tryz.sz9 Tryz.by9 Tryz.zero9 rfl (n := names.length) (m := 1) (base := metB b2 b5 o l (names, ob)) (by rw [za0]) rfl ?_ (metB_n hok) hok.1 (by simp) (by omega) fun o' σ' hbox hle hn hno => ?_
    · rw [za2]; exact le_add hb6
    simp -implicitDefEqProofs only [go_sem, hT, hbox, f1, f2, metS_5, metS_2 hne]
    refine ⟨(i + 1, o'), ⟨by omega, ?_⟩, by omega, ?_, ?_⟩
    · rw [List.take_succ_eq_append_getElem h, List.map_append, ← List.append_assoc, hN]
      exact metB_of hn (by simpa using hno)
    · rw [zb7 (by omega) (by omega)]; simp
    · rw [List.take_succ_eq_append_getElem h, List.map_append, ← List.append_assoc, hN]
      exact metS_more (a := (names, ob)) (σ := σ') hle
  · have h1 : ((i : Int) < F.length) = False := by simp; omega
    simp -implicitDefEqProofs only [go_sem, hT, h1]
    refine ⟨_, _, DLe.refl _, St.le.refl _, rfl, ob, ?_, ?_⟩
    · rw [List.take_of_length_le (by omega)]
    · rw [List.take_of_length_le (by omega)] at hok; exact hok
open Go.Proofs
def metStep (l : List Cl) (a : List ByteArray × Option Nat) (c : Nat) (b : Bool) (a' : List ByteArray × Option Nat) : Prop := b = true ∧ a'.1 = a.1 ++ (fieldsAt l c).map Fd.name
theorem met_runs {l : List Cl} : ∀ {L : List Nat} {a a' : List ByteArray × Option Nat}, Runs (metStep l) L a a' → a'.1 = a.1 ++ (ze5 l L).map Fd.name
  | [], a, a', h => by simp only [Runs] at h; subst h; simp [ze5]
  | c :: L, a, a'', ⟨b, a', ⟨hb, hs⟩, h⟩ => by
    rw [if_pos hb] at h
    rw [met_runs h, hs]
    simp [ze5]
theorem hasN_app {a b : List ByteArray} {x : ByteArray} : hasN (a ++ b) x = (hasN a x || hasN b x) := by simp [hasN]
theorem fields104 (l : List Cl) (o : Own) (c : Nat) (hc : c < l.length) (hw : Wide l) (hr : Right isWordB l c) (hp : l[c].parent < c) :
    zf9 Tryz.prog 157 [.slice o (rws eC l), .int .i64 c] (.int .i64 (fieldsErr l.length (namesUp l l[c].parent) [] l[c].fields)) := by
  have hw1 := hw.1
  have hwc := hw.2 l[c] (by simp)
  refine F157.pcall' rfl fun T hT => ?_
  simp -implicitDefEqProofs only [go_sem, c157, hT]
  intro b2 b5 h1 h2
  have hne : b2 ≠ b5 := fun e => by simp [e] at h1 h2
  have hne' : ¬ b5 = b2 := fun e => hne e.symm
  have hne'' : ¬ b2 = b5 := hne
  simp -implicitDefEqProofs only [go_sem, hT, h1, h2, hne', hne'', rws_at hc, eC, eC_len]
  refine ⟨by omega, ?_⟩
  have h0 : namesUp l l[c].parent = (ze5 l (upI l l[c].parent)).map Fd.name := rfl
  have h32 := namesUp_len hr l[c].parent hp
  refine callB_all (σ := metS b2 b5 o l ([], none)) (climb144' l o 190 [] [.ptr b2 0, .ptr b5 0] (metS b2 b5 o l) (metStep l) (fun a L => metOk b2 b5 a ∧ a.1.length + (ze5 l L).length ≤ 32) (by omega) ?_ ([], none) l[c].parent ?_) ?_
  · rintro a n rest hn ⟨ha, hlen⟩
    have hfa : ze5 l (n :: rest) = l[n].fields ++ ze5 l rest := by simp [ze5, fieldsAt, hn]
    rw [hfa, List.length_append] at hlen
    refine (names145 l o b2 b5 hne n hn hw a ha (by omega)).mono ?_
    rintro d s' ⟨rfl, ob, rfl, hok⟩
    exact ⟨true, _, rfl, rfl, ⟨rfl, by simp [fieldsAt, hn]⟩, hok, by simp; omega⟩
  · refine ⟨⟨fun _ => rfl, fun b hb => by cases hb⟩, ?_⟩
    rw [h0, List.length_map] at h32
    simpa using h32
  rintro d s' ⟨rfl, ⟨names, ob⟩, r, rfl, hruns, hok, _⟩
  have hnames : names = namesUp l l[c].parent := by simpa [h0] using met_runs hruns
  rw [← hnames] at h32 ⊢
  clear hruns h0 hnames
  simp -implicitDefEqProofs only [go_sem, hT, metS_5, metS_2 hne, rws_at hc, eC, eC_len]
  refine ⟨by omega, ?_⟩
  generalize hF : l[c].fields = F at hwc
  refine loopL F157 (fun x : Nat × Option Nat => [(2, .ptr b2 0), (5, .ptr b5 0), (20, .slice .no (rws eF F)), (21, .int .i64 F.length), (22, .int .i64 x.1)]) (fun x => metS b2 b5 o l (names ++ (F.take x.1).map Fd.name, x.2))
    (fun x => x.1 ≤ F.length ∧ metOk b2 b5 (names ++ (F.take x.1).map Fd.name, x.2) ∧ fieldsErr l.length names [] F = fieldsErr l.length names ((F.take x.1).map Fd.name) (F.drop x.1)) (fun x => F.length - x.1) (0, ob)
    ⟨Nat.zero_le _, by simpa using hok, rfl⟩ ?_ ?_ ?_
  · simp -implicitDefEqProofs only [go_sem, hT, Int.ofNat_zero]
  · simp only [List.take_zero, List.map_nil, List.append_nil]; exact St.le.refl _
  clear hT T hok
  rintro ⟨i, ob⟩ ⟨hi, hok, heq⟩ T hT
  simp only at hi hok heq hT ⊢
  by_cases h : i < F.length
  · have h1 : ((i : Int) < F.length) = True := by simp; omega
    generalize hf : F[i] = f
    have hRf : (rws eF F)[i]?.getD [] = eF f := by rw [rws_at h, hf]
    rw [List.drop_eq_getElem_cons h, hf, fieldsErr] at heq
    have hlen : (names ++ (F.take i).map Fd.name).length ≤ 32 + F.length := by simp; omega
    have htake : names ++ (F.take (i + 1)).map Fd.name = (names ++ (F.take i).map Fd.name) ++ [f.name] := by
      rw [List.take_succ_eq_append_getElem h, hf]; simp
    have hown : (F.take (i + 1)).map Fd.name = (F.take i).map Fd.name ++ [f.name] := by
      rw [List.take_succ_eq_append_getElem h, hf]; simp
    have happ : hasN (names ++ (F.take i).map Fd.name) f.name = (hasN names f.name || hasN ((F.take i).map Fd.name) f.name) := hasN_app
    generalize hN : names ++ (F.take i).map Fd.name = met at *
    simp -implicitDefEqProofs only [go_sem, hT, h1, hRf, eF, eF_len]
    refine ⟨by omega, fun b6 hb6 => ?_⟩
    obtain ⟨f1, f2⟩ := metS_fresh hne hb6
    refine za4 (isName99 f.name) ?_
    cases hN2 : isNameB f.name
    · simp -implicitDefEqProofs only [go_sem, hT, f1, f2, metS_5, metS_2 hne]
      exact DLe.of_eq (by rw [heq, hN2]; rfl)
    rw [hN2] at heq
    simp -implicitDefEqProofs only [go_sem, hT, f1, f2, metS_5, metS_2 hne]
    refine za4 ((contains100 met .no f.name (by omega)).args (.cons grD_le (.cons (.refl _) .nil))) ?_
    cases hH : hasN met f.name
    case true =>
      simp -implicitDefEqProofs only [go_sem, hT, f1, f2, metS_5, metS_2 hne]
      rw [hH] at happ
      exact DLe.of_eq (by rw [heq, ← happ]; rfl)
    rw [hH] at happ
    rw [← happ] at heq
    simp -implicitDefEqProofs only [go_sem, hT, f1, f2, metS_5, metS_2 hne]
    refine za4 (stored146 l o f.ty) ?_
    cases hS : storedN l.length f.ty
    · simp -implicitDefEqProofs only [go_sem, hT, f1, f2, metS_5, metS_2 hne]
      exact DLe.of_eq (by rw [heq, hS]; rfl)
    rw [hS] at heq
    simp -implicitDefEqProofs only [go_sem, hT, f1, f2, metS_5, metS_2 hne, frz]
    refine app_gr' Tryz.sli210 Tryz.sz9 Tryz.by9 Tryz.zero9 rfl (n := met.length) (m := 1) (base := metB b2 b5 o l (met, ob)) (by rw [za0]) rfl ?_ (metB_n hok) hok.1 (by simp) (by omega) fun o' σ' hbox hle hn hno => ?_
    · rw [za2]; exact le_add hb6
    simp -implicitDefEqProofs only [go_sem, hT, hbox, f1, f2, metS_5, metS_2 hne]
    refine ⟨(i + 1, o'), ⟨by omega, ?_, ?_⟩, by omega, ?_, ?_⟩
    · rw [htake]
      exact metB_of hn (by simpa using hno)
    · rw [heq, hown]; rfl
    · rw [zb7 (by omega) (by omega)]; simp
    · rw [htake]
      exact metS_more (a := (met, ob)) (σ := σ') hle
  · have h1 : ((i : Int) < F.length) = False := by simp; omega
    have hi' : i = F.length := by omega
    subst hi'
    rw [List.drop_length, List.take_length, fieldsErr] at heq
    rw [List.take_length] at hok ⊢
    simp -implicitDefEqProofs only [go_sem, hT, h1, metS_5, metS_2 hne]
    have hl : (names ++ F.map Fd.name).length = names.length + (F.map Fd.name).length := by simp
    refine br_split (fun h => ?_) fun h => ?_
    · exact DLe.of_eq (by rw [heq, if_pos (by simp at h ⊢; omega)]; rfl)
    · exact DLe.of_eq (by rw [heq, if_neg (by simp at h ⊢; omega)]; rfl)
end Go.AL
