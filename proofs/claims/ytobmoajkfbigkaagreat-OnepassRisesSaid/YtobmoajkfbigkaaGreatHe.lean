import Derived.Test.YtobmoajkfbigkaaGreatHc
import Derived.Test.YtobmoajkfbigkaaGreatProg
import Derived.KernelRfl
import Derived.Test.YtobmoajkfbigkaaGreatHd
set_option linter.defProp false
set_option linter.unusedSimpArgs false
set_option linter.unusedVariables false
set_option maxRecDepth 100000
attribute [go_sem_proc] Nat.reduceEqDiff Nat.reduceLT Nat.reduceLeDiff Nat.reduceAdd Nat.reduceSub Nat.reduceMul Nat.reduceBEq reduceCtorEq Int.reduceEq Int.reduceLT Int.reduceLE Int.reduceNeg Int.reduceAdd Int.reduceSub Int.reduceToNat
attribute [go_sem_proc ↓] reduceIte
namespace Go.AL
theorem gdD (l : List D) (i j : Nat) : (l.drop i)[j]? = l[i + j]? := List.getElem?_drop
theorem anD (l : List D) : l ++ [] = l := List.append_nil l
theorem ldD (l : List D) (i : Nat) : (l.drop i).length = l.length - i := List.length_drop
set_option linter.defProp false
theorem aI {a b : Prop} (x : a) (y : b) : a ∧ b := ⟨x, y⟩
def mmB := aI @vc_condQ (aI @w_guardO (aI @ite_and (aI @ite_or (aI @ite_aor (aI @gm_move (aI @gm_pick (aI @gm_bin_t (aI @gm_bin_i (aI @gm_un (aI @gm_faddr (aI @gm_iaddr (aI @gm_len @gm_load))))))))))))
end Go.AL
namespace Go.AL
open Go.Proofs
@[go_sem] theorem Tryz.sz3 : szP Tryz.prog 3 = some 1 := by kernel_rfl
@[go_sem] theorem Tryz.by3 : bytesP Tryz.prog 3 = some 8 := by kernel_rfl
@[go_sem] theorem Tryz.zero3 : zeroP Tryz.prog 3 = some [.int .i64 0] := by kernel_rfl
@[go_sem] theorem Tryz.agg3 : aggP Tryz.prog 3 = some false := by kernel_rfl
@[go_sem] theorem Tryz.known3 : knownP Tryz.prog 3 = true := by kernel_rfl
@[go_sem] theorem Tryz.int3 : intP Tryz.prog 3 = some .i64 := by kernel_rfl
@[go_sem] theorem Tryz.sz4 : szP Tryz.prog 4 = some 1 := by kernel_rfl
@[go_sem] theorem Tryz.zero4 : zeroP Tryz.prog 4 = some [.bool false] := by kernel_rfl
@[go_sem] theorem Tryz.agg4 : aggP Tryz.prog 4 = some false := by kernel_rfl
@[go_sem] theorem Tryz.sz5 : szP Tryz.prog 5 = some 1 := by kernel_rfl
@[go_sem] theorem Tryz.by5 : bytesP Tryz.prog 5 = some 1 := by kernel_rfl
@[go_sem] theorem Tryz.zero5 : zeroP Tryz.prog 5 = some [.int .u8 0] := by kernel_rfl
@[go_sem] theorem Tryz.agg5 : aggP Tryz.prog 5 = some false := by kernel_rfl
@[go_sem] theorem Tryz.known5 : knownP Tryz.prog 5 = true := by kernel_rfl
@[go_sem] theorem Tryz.sz9 : szP Tryz.prog 9 = some 1 := by kernel_rfl
@[go_sem] theorem Tryz.by9 : bytesP Tryz.prog 9 = some 16 := by kernel_rfl
@[go_sem] theorem Tryz.zero9 : zeroP Tryz.prog 9 = some [.str ByteArray.empty] := by kernel_rfl
@[go_sem] theorem Tryz.agg9 : aggP Tryz.prog 9 = some false := by kernel_rfl
@[go_sem] theorem Tryz.str9 : strP Tryz.prog 9 = true := by kernel_rfl
@[go_sem] theorem Tryz.known21 : knownP Tryz.prog 21 = true := by kernel_rfl
@[go_sem] theorem Tryz.int21 : intP Tryz.prog 21 = some .i32 := by kernel_rfl
@[go_sem] theorem Tryz.sz22 : szP Tryz.prog 22 = some 1 := by kernel_rfl
@[go_sem] theorem Tryz.agg22 : aggP Tryz.prog 22 = some false := by kernel_rfl
@[go_sem] theorem Tryz.sli22 : sliP Tryz.prog 22 = some 154 := by kernel_rfl
@[go_sem] theorem Tryz.sz23 : szP Tryz.prog 23 = some 1 := by kernel_rfl
@[go_sem] theorem Tryz.agg23 : aggP Tryz.prog 23 = some false := by kernel_rfl
@[go_sem] theorem Tryz.sli23 : sliP Tryz.prog 23 = some 95 := by kernel_rfl
@[go_sem] theorem Tryz.sz25 : szP Tryz.prog 25 = some 3 := by kernel_rfl
@[go_sem] theorem Tryz.zero25 : zeroP Tryz.prog 25 = some [.slice .nil [], .slice .nil [], .int .i64 0] := by kernel_rfl
@[go_sem] theorem Tryz.agg25 : aggP Tryz.prog 25 = some true := by kernel_rfl
@[go_sem] theorem Tryz.bld25 : buildP Tryz.prog 25 = some none := by kernel_rfl
@[go_sem] theorem Tryz.fld25_0 : fldP Tryz.prog 25 0 = some (0, 22) := by kernel_rfl
@[go_sem] theorem Tryz.fld25_1 : fldP Tryz.prog 25 1 = some (1, 23) := by kernel_rfl
@[go_sem] theorem Tryz.fld25_2 : fldP Tryz.prog 25 2 = some (2, 3) := by kernel_rfl
@[go_sem] theorem Tryz.sz26 : szP Tryz.prog 26 = some 1 := by kernel_rfl
@[go_sem] theorem Tryz.zero26 : zeroP Tryz.prog 26 = some [.slice .nil []] := by kernel_rfl
@[go_sem] theorem Tryz.agg26 : aggP Tryz.prog 26 = some false := by kernel_rfl
@[go_sem] theorem Tryz.sli26 : sliP Tryz.prog 26 = some 5 := by kernel_rfl
@[go_sem] theorem Tryz.sz28 : szP Tryz.prog 28 = some 3 := by kernel_rfl
@[go_sem] theorem Tryz.agg28 : aggP Tryz.prog 28 = some true := by kernel_rfl
@[go_sem] theorem Tryz.fld28_0 : fldP Tryz.prog 28 0 = some (0, 3) := by kernel_rfl
@[go_sem] theorem Tryz.fld28_1 : fldP Tryz.prog 28 1 = some (1, 26) := by kernel_rfl
@[go_sem] theorem Tryz.fld28_2 : fldP Tryz.prog 28 2 = some (2, 26) := by kernel_rfl
@[go_sem] theorem Tryz.sz29 : szP Tryz.prog 29 = some 1 := by kernel_rfl
@[go_sem] theorem Tryz.zero29 : zeroP Tryz.prog 29 = some [.slice .nil []] := by kernel_rfl
@[go_sem] theorem Tryz.agg29 : aggP Tryz.prog 29 = some false := by kernel_rfl
@[go_sem] theorem Tryz.sli29 : sliP Tryz.prog 29 = some 3 := by kernel_rfl
@[go_sem] theorem Tryz.sz31 : szP Tryz.prog 31 = some 2 := by kernel_rfl
@[go_sem] theorem Tryz.zero31 : zeroP Tryz.prog 31 = some [.slice .nil [], .int .i64 0] := by kernel_rfl
@[go_sem] theorem Tryz.agg31 : aggP Tryz.prog 31 = some true := by kernel_rfl
@[go_sem] theorem Tryz.bld31 : buildP Tryz.prog 31 = some none := by kernel_rfl
@[go_sem] theorem Tryz.fld31_0 : fldP Tryz.prog 31 0 = some (0, 29) := by kernel_rfl
@[go_sem] theorem Tryz.fld31_1 : fldP Tryz.prog 31 1 = some (1, 3) := by kernel_rfl
@[go_sem] theorem Tryz.sz32 : szP Tryz.prog 32 = some 1 := by kernel_rfl
@[go_sem] theorem Tryz.zero32 : zeroP Tryz.prog 32 = some [.int .i64 0] := by kernel_rfl
@[go_sem] theorem Tryz.agg32 : aggP Tryz.prog 32 = some false := by kernel_rfl
@[go_sem] theorem Tryz.sz38 : szP Tryz.prog 38 = some 4 := by kernel_rfl
@[go_sem] theorem Tryz.zero38 : zeroP Tryz.prog 38 = some [.int .i64 0, .int .u8 0, .int .i64 0, .int .i64 0] := by kernel_rfl
@[go_sem] theorem Tryz.agg38 : aggP Tryz.prog 38 = some true := by kernel_rfl
@[go_sem] theorem Tryz.bld38 : buildP Tryz.prog 38 = some none := by kernel_rfl
@[go_sem] theorem Tryz.fld38_0 : fldP Tryz.prog 38 0 = some (0, 3) := by kernel_rfl
@[go_sem] theorem Tryz.fld38_1 : fldP Tryz.prog 38 1 = some (1, 5) := by kernel_rfl
@[go_sem] theorem Tryz.fld38_2 : fldP Tryz.prog 38 2 = some (2, 3) := by kernel_rfl
@[go_sem] theorem Tryz.fld38_3 : fldP Tryz.prog 38 3 = some (3, 3) := by kernel_rfl
@[go_sem] theorem Tryz.sz50 : szP Tryz.prog 50 = some 1 := by kernel_rfl
@[go_sem] theorem Tryz.agg50 : aggP Tryz.prog 50 = some false := by kernel_rfl
@[go_sem] theorem Tryz.sli50 : sliP Tryz.prog 50 = some 86 := by kernel_rfl
@[go_sem] theorem Tryz.sz52 : szP Tryz.prog 52 = some 2 := by kernel_rfl
@[go_sem] theorem Tryz.zero52 : zeroP Tryz.prog 52 = some [.int .i64 0, .slice .nil []] := by kernel_rfl
@[go_sem] theorem Tryz.agg52 : aggP Tryz.prog 52 = some true := by kernel_rfl
@[go_sem] theorem Tryz.bld52 : buildP Tryz.prog 52 = some none := by kernel_rfl
@[go_sem] theorem Tryz.fld52_0 : fldP Tryz.prog 52 0 = some (0, 3) := by kernel_rfl
@[go_sem] theorem Tryz.fld52_1 : fldP Tryz.prog 52 1 = some (1, 50) := by kernel_rfl
@[go_sem] theorem Tryz.sz68 : szP Tryz.prog 68 = some 1 := by kernel_rfl
@[go_sem] theorem Tryz.agg68 : aggP Tryz.prog 68 = some false := by kernel_rfl
@[go_sem] theorem Tryz.sz81 : szP Tryz.prog 81 = some 1 := by kernel_rfl
@[go_sem] theorem Tryz.by81 : bytesP Tryz.prog 81 = some 1 := by kernel_rfl
@[go_sem] theorem Tryz.zero81 : zeroP Tryz.prog 81 = some [.int .u8 0] := by kernel_rfl
@[go_sem] theorem Tryz.agg81 : aggP Tryz.prog 81 = some false := by kernel_rfl
@[go_sem] theorem Tryz.known81 : knownP Tryz.prog 81 = true := by kernel_rfl
@[go_sem] theorem Tryz.int81 : intP Tryz.prog 81 = some .u8 := by kernel_rfl
@[go_sem] theorem Tryz.sz82 : szP Tryz.prog 82 = some 24 := by kernel_rfl
@[go_sem] theorem Tryz.agg82 : aggP Tryz.prog 82 = some true := by kernel_rfl
@[go_sem] theorem Tryz.arr82 : arrP Tryz.prog 82 = some (24, 81) := by kernel_rfl
@[go_sem] theorem Tryz.sz84 : szP Tryz.prog 84 = some 26 := by kernel_rfl
@[go_sem] theorem Tryz.zero84 : zeroP Tryz.prog 84 = some [.int .i64 0, .int .i64 0, .int .u8 0, .int .u8 0, .int .u8 0, .int .u8 0, .int .u8 0, .int .u8 0, .int .u8 0, .int .u8 0, .int .u8 0, .int .u8 0, .int .u8 0, .int .u8 0, .int .u8 0, .int .u8 0, .int .u8 0, .int .u8 0, .int .u8 0, .int .u8 0, .int .u8 0, .int .u8 0, .int .u8 0, .int .u8 0, .int .u8 0, .int .u8 0] := by kernel_rfl
@[go_sem] theorem Tryz.agg84 : aggP Tryz.prog 84 = some true := by kernel_rfl
@[go_sem] theorem Tryz.bld84 : buildP Tryz.prog 84 = some none := by kernel_rfl
@[go_sem] theorem Tryz.fld84_0 : fldP Tryz.prog 84 0 = some (0, 3) := by kernel_rfl
@[go_sem] theorem Tryz.fld84_1 : fldP Tryz.prog 84 1 = some (1, 3) := by kernel_rfl
@[go_sem] theorem Tryz.fld84_2 : fldP Tryz.prog 84 2 = some (2, 82) := by kernel_rfl
@[go_sem] theorem Tryz.eqg84 : eqGP Tryz.prog 84 = true := by kernel_rfl
@[go_sem] theorem Tryz.sz86 : szP Tryz.prog 86 = some 28 := by kernel_rfl
@[go_sem] theorem Tryz.by86 : bytesP Tryz.prog 86 = some 56 := by kernel_rfl
@[go_sem] theorem Tryz.zero86 : zeroP Tryz.prog 86 = some [.int .i64 0, .bool false, .int .i64 0, .int .i64 0, .int .u8 0, .int .u8 0, .int .u8 0, .int .u8 0, .int .u8 0, .int .u8 0, .int .u8 0, .int .u8 0, .int .u8 0, .int .u8 0, .int .u8 0, .int .u8 0, .int .u8 0, .int .u8 0, .int .u8 0, .int .u8 0, .int .u8 0, .int .u8 0, .int .u8 0, .int .u8 0, .int .u8 0, .int .u8 0, .int .u8 0, .int .u8 0] := by kernel_rfl
@[go_sem] theorem Tryz.agg86 : aggP Tryz.prog 86 = some true := by kernel_rfl
@[go_sem] theorem Tryz.bld86 : buildP Tryz.prog 86 = some none := by kernel_rfl
@[go_sem] theorem Tryz.fld86_0 : fldP Tryz.prog 86 0 = some (0, 3) := by kernel_rfl
@[go_sem] theorem Tryz.fld86_1 : fldP Tryz.prog 86 1 = some (1, 4) := by kernel_rfl
@[go_sem] theorem Tryz.fld86_2 : fldP Tryz.prog 86 2 = some (2, 84) := by kernel_rfl
@[go_sem] theorem Tryz.sz93 : szP Tryz.prog 93 = some 1 := by kernel_rfl
@[go_sem] theorem Tryz.agg93 : aggP Tryz.prog 93 = some false := by kernel_rfl
@[go_sem] theorem Tryz.sli93 : sliP Tryz.prog 93 = some 81 := by kernel_rfl
@[go_sem] theorem Tryz.sz95 : szP Tryz.prog 95 = some 2 := by kernel_rfl
@[go_sem] theorem Tryz.by95 : bytesP Tryz.prog 95 = some 32 := by kernel_rfl
@[go_sem] theorem Tryz.zero95 : zeroP Tryz.prog 95 = some [.slice .nil [], .int .u8 0] := by kernel_rfl
@[go_sem] theorem Tryz.agg95 : aggP Tryz.prog 95 = some true := by kernel_rfl
@[go_sem] theorem Tryz.fld95_0 : fldP Tryz.prog 95 0 = some (0, 93) := by kernel_rfl
@[go_sem] theorem Tryz.fld95_1 : fldP Tryz.prog 95 1 = some (1, 81) := by kernel_rfl
@[go_sem] theorem Tryz.sz104 : szP Tryz.prog 104 = some 36 := by kernel_rfl
@[go_sem] theorem Tryz.zero104 : zeroP Tryz.prog 104 = some [.slice .nil [], .slice .nil [], .int .i64 0, .int .i64 0, .slice .nil [], .int .i64 0, .nilfunc, .slice .nil [], .int .i64 0, .int .i64 0, .int .i64 0, .int .u8 0, .int .u8 0, .int .u8 0, .int .u8 0, .int .u8 0, .int .u8 0, .int .u8 0, .int .u8 0, .int .u8 0, .int .u8 0, .int .u8 0, .int .u8 0, .int .u8 0, .int .u8 0, .int .u8 0, .int .u8 0, .int .u8 0, .int .u8 0, .int .u8 0, .int .u8 0, .int .u8 0, .int .u8 0, .int .u8 0, .int .u8 0, .bool false] := by kernel_rfl
@[go_sem] theorem Tryz.agg104 : aggP Tryz.prog 104 = some true := by kernel_rfl
@[go_sem] theorem Tryz.bld104 : buildP Tryz.prog 104 = some none := by kernel_rfl
@[go_sem] theorem Tryz.fld104_0 : fldP Tryz.prog 104 0 = some (0, 25) := by kernel_rfl
@[go_sem] theorem Tryz.fld104_1 : fldP Tryz.prog 104 1 = some (3, 3) := by kernel_rfl
@[go_sem] theorem Tryz.fld104_2 : fldP Tryz.prog 104 2 = some (4, 50) := by kernel_rfl
@[go_sem] theorem Tryz.fld104_3 : fldP Tryz.prog 104 3 = some (5, 3) := by kernel_rfl
@[go_sem] theorem Tryz.fld104_4 : fldP Tryz.prog 104 4 = some (6, 68) := by kernel_rfl
@[go_sem] theorem Tryz.fld104_5 : fldP Tryz.prog 104 5 = some (7, 31) := by kernel_rfl
@[go_sem] theorem Tryz.fld104_6 : fldP Tryz.prog 104 6 = some (9, 84) := by kernel_rfl
@[go_sem] theorem Tryz.fld104_7 : fldP Tryz.prog 104 7 = some (35, 4) := by kernel_rfl
@[go_sem] theorem Tryz.sz113 : szP Tryz.prog 113 = some 35 := by kernel_rfl
@[go_sem] theorem Tryz.zero113 : zeroP Tryz.prog 113 = some [.slice .nil [], .slice .nil [], .int .i64 0, .slice .nil [], .slice .nil [], .int .i64 0, .int .i64 0, .int .i64 0, .int .u8 0, .int .u8 0, .int .u8 0, .int .u8 0, .int .u8 0, .int .u8 0, .int .u8 0, .int .u8 0, .int .u8 0, .int .u8 0, .int .u8 0, .int .u8 0, .int .u8 0, .int .u8 0, .int .u8 0, .int .u8 0, .int .u8 0, .int .u8 0, .int .u8 0, .int .u8 0, .int .u8 0, .int .u8 0, .int .u8 0, .int .u8 0, .bool false, .slice .nil [], .int .i64 0] := by kernel_rfl
@[go_sem] theorem Tryz.agg113 : aggP Tryz.prog 113 = some true := by kernel_rfl
@[go_sem] theorem Tryz.bld113 : buildP Tryz.prog 113 = some none := by kernel_rfl
@[go_sem] theorem Tryz.fld113_0 : fldP Tryz.prog 113 0 = some (0, 25) := by kernel_rfl
@[go_sem] theorem Tryz.fld113_1 : fldP Tryz.prog 113 1 = some (3, 26) := by kernel_rfl
@[go_sem] theorem Tryz.fld113_2 : fldP Tryz.prog 113 2 = some (4, 50) := by kernel_rfl
@[go_sem] theorem Tryz.fld113_3 : fldP Tryz.prog 113 3 = some (5, 3) := by kernel_rfl
@[go_sem] theorem Tryz.fld113_4 : fldP Tryz.prog 113 4 = some (6, 84) := by kernel_rfl
@[go_sem] theorem Tryz.fld113_5 : fldP Tryz.prog 113 5 = some (32, 4) := by kernel_rfl
@[go_sem] theorem Tryz.fld113_6 : fldP Tryz.prog 113 6 = some (33, 31) := by kernel_rfl
@[go_sem] theorem Tryz.sz152 : szP Tryz.prog 152 = some 1 := by kernel_rfl
@[go_sem] theorem Tryz.agg152 : aggP Tryz.prog 152 = some false := by kernel_rfl
@[go_sem] theorem Tryz.sli152 : sliP Tryz.prog 152 = some 157 := by kernel_rfl
@[go_sem] theorem Tryz.sz154 : szP Tryz.prog 154 = some 3 := by kernel_rfl
@[go_sem] theorem Tryz.by154 : bytesP Tryz.prog 154 = some 48 := by kernel_rfl
@[go_sem] theorem Tryz.zero154 : zeroP Tryz.prog 154 = some [.str ByteArray.empty, .int .i64 0, .slice .nil []] := by kernel_rfl
@[go_sem] theorem Tryz.agg154 : aggP Tryz.prog 154 = some true := by kernel_rfl
@[go_sem] theorem Tryz.fld154_0 : fldP Tryz.prog 154 0 = some (0, 9) := by kernel_rfl
@[go_sem] theorem Tryz.fld154_1 : fldP Tryz.prog 154 1 = some (1, 3) := by kernel_rfl
@[go_sem] theorem Tryz.fld154_2 : fldP Tryz.prog 154 2 = some (2, 152) := by kernel_rfl
@[go_sem] theorem Tryz.sz157 : szP Tryz.prog 157 = some 2 := by kernel_rfl
@[go_sem] theorem Tryz.by157 : bytesP Tryz.prog 157 = some 24 := by kernel_rfl
@[go_sem] theorem Tryz.zero157 : zeroP Tryz.prog 157 = some [.str ByteArray.empty, .int .u8 0] := by kernel_rfl
@[go_sem] theorem Tryz.agg157 : aggP Tryz.prog 157 = some true := by kernel_rfl
@[go_sem] theorem Tryz.fld157_0 : fldP Tryz.prog 157 0 = some (0, 9) := by kernel_rfl
@[go_sem] theorem Tryz.fld157_1 : fldP Tryz.prog 157 1 = some (1, 81) := by kernel_rfl
@[go_sem] theorem Tryz.sz158 : szP Tryz.prog 158 = some 1 := by kernel_rfl
@[go_sem] theorem Tryz.zero158 : zeroP Tryz.prog 158 = some [.nilfunc] := by kernel_rfl
@[go_sem] theorem Tryz.agg158 : aggP Tryz.prog 158 = some false := by kernel_rfl
@[go_sem] theorem Tryz.sz161 : szP Tryz.prog 161 = some 2 := by kernel_rfl
@[go_sem] theorem Tryz.zero161 : zeroP Tryz.prog 161 = some [.int .i64 0, .int .i64 0] := by kernel_rfl
@[go_sem] theorem Tryz.agg161 : aggP Tryz.prog 161 = some true := by kernel_rfl
@[go_sem] theorem Tryz.conc161 : concP Tryz.prog 161 = true := by kernel_rfl
@[go_sem] theorem Tryz.bld161 : buildP Tryz.prog 161 = some none := by kernel_rfl
@[go_sem] theorem Tryz.fld161_0 : fldP Tryz.prog 161 0 = some (0, 3) := by kernel_rfl
@[go_sem] theorem Tryz.fld161_1 : fldP Tryz.prog 161 1 = some (1, 32) := by kernel_rfl
@[go_sem] theorem Tryz.sz192 : szP Tryz.prog 192 = some 1 := by kernel_rfl
@[go_sem] theorem Tryz.agg192 : aggP Tryz.prog 192 = some false := by kernel_rfl
@[go_sem] theorem Tryz.ptr192 : ptrP Tryz.prog 192 = true := by kernel_rfl
@[go_sem] theorem Tryz.sz199 : szP Tryz.prog 199 = some 8 := by kernel_rfl
@[go_sem] theorem Tryz.zero199 : zeroP Tryz.prog 199 = some [.slice .nil [], .int .i64 0, .int .i64 0, .int .i64 0, .int .i64 0, .int .i64 0, .int .i64 0, .bool false] := by kernel_rfl
@[go_sem] theorem Tryz.agg199 : aggP Tryz.prog 199 = some true := by kernel_rfl
@[go_sem] theorem Tryz.bld199 : buildP Tryz.prog 199 = some none := by kernel_rfl
@[go_sem] theorem Tryz.fld199_0 : fldP Tryz.prog 199 0 = some (0, 26) := by kernel_rfl
@[go_sem] theorem Tryz.fld199_1 : fldP Tryz.prog 199 1 = some (1, 3) := by kernel_rfl
@[go_sem] theorem Tryz.fld199_2 : fldP Tryz.prog 199 2 = some (2, 3) := by kernel_rfl
@[go_sem] theorem Tryz.fld199_3 : fldP Tryz.prog 199 3 = some (3, 3) := by kernel_rfl
@[go_sem] theorem Tryz.fld199_4 : fldP Tryz.prog 199 4 = some (4, 3) := by kernel_rfl
@[go_sem] theorem Tryz.fld199_5 : fldP Tryz.prog 199 5 = some (5, 3) := by kernel_rfl
@[go_sem] theorem Tryz.fld199_6 : fldP Tryz.prog 199 6 = some (6, 32) := by kernel_rfl
@[go_sem] theorem Tryz.fld199_7 : fldP Tryz.prog 199 7 = some (7, 4) := by kernel_rfl
@[go_sem] theorem Tryz.sz210 : szP Tryz.prog 210 = some 1 := by kernel_rfl
@[go_sem] theorem Tryz.zero210 : zeroP Tryz.prog 210 = some [.slice .nil []] := by kernel_rfl
@[go_sem] theorem Tryz.agg210 : aggP Tryz.prog 210 = some false := by kernel_rfl
@[go_sem] theorem Tryz.sli210 : sliP Tryz.prog 210 = some 9 := by kernel_rfl
@[go_sem] theorem Tryz.sz227 : szP Tryz.prog 227 = some 1 := by kernel_rfl
@[go_sem] theorem Tryz.agg227 : aggP Tryz.prog 227 = some false := by kernel_rfl
@[go_sem] theorem Tryz.sli227 : sliP Tryz.prog 227 = some 266 := by kernel_rfl
@[go_sem] theorem Tryz.sz229 : szP Tryz.prog 229 = some 2 := by kernel_rfl
@[go_sem] theorem Tryz.zero229 : zeroP Tryz.prog 229 = some [.slice .nil [], .nilfunc] := by kernel_rfl
@[go_sem] theorem Tryz.agg229 : aggP Tryz.prog 229 = some true := by kernel_rfl
@[go_sem] theorem Tryz.bld229 : buildP Tryz.prog 229 = some none := by kernel_rfl
@[go_sem] theorem Tryz.fld229_0 : fldP Tryz.prog 229 0 = some (0, 227) := by kernel_rfl
@[go_sem] theorem Tryz.fld229_1 : fldP Tryz.prog 229 1 = some (1, 158) := by kernel_rfl
@[go_sem] theorem Tryz.sz261 : szP Tryz.prog 261 = some 1 := by kernel_rfl
@[go_sem] theorem Tryz.agg261 : aggP Tryz.prog 261 = some false := by kernel_rfl
@[go_sem] theorem Tryz.sz262 : szP Tryz.prog 262 = some 34 := by kernel_rfl
@[go_sem] theorem Tryz.zero262 : zeroP Tryz.prog 262 = some [.nilfunc, .nilfunc, .nilfunc, .nilfunc, .nilfunc, .nilfunc, .nilfunc, .nilfunc, .nilfunc, .nilfunc, .nilfunc, .nilfunc, .nilfunc, .nilfunc, .nilfunc, .nilfunc, .nilfunc, .nilfunc, .nilfunc, .nilfunc, .nilfunc, .nilfunc, .nilfunc, .nilfunc, .nilfunc, .nilfunc, .nilfunc, .nilfunc, .nilfunc, .nilfunc, .nilfunc, .nilfunc, .nilfunc, .nilfunc] := by kernel_rfl
@[go_sem] theorem Tryz.agg262 : aggP Tryz.prog 262 = some true := by kernel_rfl
@[go_sem] theorem Tryz.arr262 : arrP Tryz.prog 262 = some (34, 261) := by kernel_rfl
@[go_sem] theorem Tryz.sz266 : szP Tryz.prog 266 = some 2 := by kernel_rfl
@[go_sem] theorem Tryz.by266 : bytesP Tryz.prog 266 = some 16 := by kernel_rfl
@[go_sem] theorem Tryz.zero266 : zeroP Tryz.prog 266 = some [.int .i64 0, .int .u8 0] := by kernel_rfl
@[go_sem] theorem Tryz.agg266 : aggP Tryz.prog 266 = some true := by kernel_rfl
@[go_sem] theorem Tryz.bld266 : buildP Tryz.prog 266 = some none := by kernel_rfl
@[go_sem] theorem Tryz.fld266_0 : fldP Tryz.prog 266 0 = some (0, 3) := by kernel_rfl
@[go_sem] theorem Tryz.fld266_1 : fldP Tryz.prog 266 1 = some (1, 81) := by kernel_rfl
theorem Tryz.follows_mixed : Tryz.prog.follows .mixedOrders = true := by kernel_rfl
def c57 : AC :=
.seq (.reg false [] [oO 1 (.box 95 (tT 0)), oO 2 (.alloc 95)])
 (.seq (.reg false [] [oO 3 (.fieldAddr 95 (tT 1) 0), oO 4 (.load 93 (tT 3)), oO 5 (cF (.func 90) #[tT 4] #[93]), oO 6 (.fieldAddr 95 (tT 1) 0), oN (.store 93 (tT 6) (tT 5))])
 (.seq (.reg false [] [oO 7 (.load 95 (tT 1)), oN (.store 95 (tT 2) (tT 7))])
 .ret))
theorem F57 : Fun1 Tryz.prog 57 8 c57 [.cell 2 95] := Fun1.mk' AL.Tryz.follows_mixed Tryz.func57 rfl (by decide +kernel) Tryz.ntmps57 rfl (by kernel_rfl) rfl
def c90 : AC :=
.seq (.reg false [] [oO 2 (.assign (.const (.slice none 0 0)))])
 (.seq (.seq (.reg false [] [oO 3 (.move (tT 0)), oO 4 (.binOp .eql 93 (tT 3) (.const (.slice none 0 0)) 93)])
 (.cond (tT 4) (.seq (.reg false [] [oO 2 (.assign (.const (.slice none 0 0)))])
 (.ret))
 (.skip)))
 (.seq (.reg false [] [oO 5 (.buildSlice 93 0 #[]), oO 6 (.move (tT 0)), oO 7 (cB .append #[tT 5, tT 6] #[93, 93]), oO 2 (.assign (tT 7))])
 .ret))
theorem F90 : Fun1 Tryz.prog 90 8 c90 [.tmp 2] := Fun1.mk' AL.Tryz.follows_mixed Tryz.func90 rfl (by decide +kernel) Tryz.ntmps90 rfl (by kernel_rfl) rfl
theorem DLe_nils {o : Own} {es : List (List D)} (h : es = []) : DLe (.slice o []) (.slice .no es) := h ▸ DLe.slice o []
def rws {α : Type} (enc : α → List D) (xs : List α) : List (List D) := xs.map enc
theorem rws_len {α : Type} (enc : α → List D) (xs : List α) : (rws enc xs).length = xs.length := by simp [rws]
attribute [go_sem] rws_len
theorem rws_nil {α : Type} (enc : α → List D) (xs : List α) : (rws enc xs = []) = (xs = []) := by simp [rws]
theorem rws_mt {α : Type} (enc : α → List D) : rws enc [] = [] := rfl
theorem rws_at {α : Type} {enc : α → List D} {xs : List α} {i : Nat} (h : i < xs.length) : (rws enc xs)[i]?.getD [] = enc xs[i] := by simp [rws, h]
theorem rws_one {α : Type} {enc : α → List D} {xs : List α} {n : Nat} (h : ∀ x, (enc x).length = n) : (∀ r ∈ rws enc xs, r.length = n) = True := by simp [rws, h]
def eI (n : Int) : List D := [.int .i64 n]
abbrev Ty := Fin 256
def eT (t : Ty) : List D := [.int .u8 (t.val : Int)]
theorem eT_len (n : Ty) : (eT n).length = 1 := rfl
theorem eT_eq (a b : Ty) : ((a.val : Int) = (b.val : Int)) = (a = b) := by rw [Fin.ext_iff]; simp only [eq_iff_iff]; omega
theorem DLe_bool {a b : Bool} (h : a = b) : DLe (.bool a) (.bool b) := h ▸ DLe.refl _
theorem nilR_nil {o : Own} {es : List (List D)} {r : Bool} (h : nilR o es r) (hr : r = true) (h0 : o = .nil → es = []) : es = [] := by
  subst hr
  cases o <;> simp_all [nilR]
def nilOk (o : Own) (n : Nat) : Prop := o = .nil → n = 0
theorem clone46 (xs : List Ty) (o : Own) (h0 : nilOk o xs.length) (hl : xs.length * 1 ≤ 140737488355328) : PCall Tryz.prog 90 [.slice o (rws eT xs)] (.slice .no (rws eT xs)) := by
  refine F90.pcall' rfl fun T hT => ?_
  simp -implicitDefEqProofs only [go_sem, c90, hT]
  intro r hr
  refine br_split (fun h => ?_) fun h => ?_
  · exact DLe_nils (nilR_nil hr h fun h => by simpa [rws_nil] using h0 h)
  · simp -implicitDefEqProofs only [go_sem, hT, rws_one eT_len, rws_nil, hl]
    rintro rfl
    exact DLe_nils rfl
structure Sg where
  ps : List Ty
  r : Ty
  deriving DecidableEq
def eSg (s : Sg) : List D := [.slice .no (rws eT s.ps), .int .u8 s.r.val]
theorem sig11 (s : Sg) (hl : s.ps.length ≤ 140737488355328) : PCall Tryz.prog 57 [.agg (eSg s)] (.agg (eSg s)) := by
  refine F57.pcall' rfl fun T hT => ?_
  simp -implicitDefEqProofs only [go_sem, c57, hT, eSg]
  intro b b' hb hb'
  simp -implicitDefEqProofs only [go_sem, hb, hb', hT]
  refine callB_pure (clone46 s.ps .no (by simp [nilOk]) (by omega)) ?_
  simp -implicitDefEqProofs only [go_sem, hT, eSg, hb, hb']
end Go.AL
