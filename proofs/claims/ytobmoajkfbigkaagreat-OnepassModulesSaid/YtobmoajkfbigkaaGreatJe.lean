import Derived.Test.YtobmoajkfbigkaaGreatJc
import Derived.Test.YtobmoajkfbigkaaGreatProg
import Derived.KernelRfl
import Derived.Test.YtobmoajkfbigkaaGreatJd
set_option linter.defProp false
set_option linter.unusedSimpArgs false
set_option linter.unusedVariables false
set_option maxRecDepth 100000
attribute [go_sem_proc] Nat.reduceEqDiff Nat.reduceLT Nat.reduceLeDiff Nat.reduceAdd Nat.reduceSub Nat.reduceMul Nat.reduceBEq reduceCtorEq Int.reduceEq Int.reduceLT Int.reduceLE Int.reduceNeg Int.reduceAdd Int.reduceSub Int.reduceToNat
attribute [go_sem_proc ↓] reduceIte
namespace Go.AL
abbrev rg (l : List DO) : AC := .reg false [] l
theorem gdD (l : List D) (i j : Nat) : (l.drop i)[j]? = l[i + j]? := List.getElem?_drop
theorem anD (l : List D) : l ++ [] = l := List.append_nil l
theorem ldD (l : List D) (i : Nat) : (l.drop i).length = l.length - i := List.length_drop
set_option linter.defProp false
theorem aI {a b : Prop} (x : a) (y : b) : a ∧ b := ⟨x, y⟩
def mmB := aI @vc_condQ (aI @w_guardO (aI @ite_and (aI @ite_or (aI @ite_aor (aI @gm_move (aI @gm_pick (aI @gm_bin_t (aI @gm_bin_i (aI @gm_un (aI @gm_faddr (aI @gm_iaddr (aI @gm_len @gm_load))))))))))))
end Go.AL
namespace Go.AL
open Go.Proofs
@[go_sem] theorem Tryz.sz3 : szP Tryz.prog 3 = some 1 := by kernel_rfl
@[go_sem] theorem Tryz.by3 : bytesP Tryz.prog 3 = some 8 := by kernel_rfl
@[go_sem] theorem Tryz.zero3 : zeroP Tryz.prog 3 = some [.int .i64 0] := by kernel_rfl
@[go_sem] theorem Tryz.agg3 : aggP Tryz.prog 3 = some false := by kernel_rfl
@[go_sem] theorem Tryz.known3 : knownP Tryz.prog 3 = true := by kernel_rfl
@[go_sem] theorem Tryz.int3 : intP Tryz.prog 3 = some .i64 := by kernel_rfl
@[go_sem] theorem Tryz.sz4 : szP Tryz.prog 4 = some 1 := by kernel_rfl
@[go_sem] theorem Tryz.zero4 : zeroP Tryz.prog 4 = some [.bool false] := by kernel_rfl
@[go_sem] theorem Tryz.agg4 : aggP Tryz.prog 4 = some false := by kernel_rfl
@[go_sem] theorem Tryz.sz5 : szP Tryz.prog 5 = some 1 := by kernel_rfl
@[go_sem] theorem Tryz.by5 : bytesP Tryz.prog 5 = some 1 := by kernel_rfl
@[go_sem] theorem Tryz.zero5 : zeroP Tryz.prog 5 = some [.int .u8 0] := by kernel_rfl
@[go_sem] theorem Tryz.agg5 : aggP Tryz.prog 5 = some false := by kernel_rfl
@[go_sem] theorem Tryz.known5 : knownP Tryz.prog 5 = true := by kernel_rfl
@[go_sem] theorem Tryz.sz9 : szP Tryz.prog 9 = some 1 := by kernel_rfl
@[go_sem] theorem Tryz.by9 : bytesP Tryz.prog 9 = some 16 := by kernel_rfl
@[go_sem] theorem Tryz.zero9 : zeroP Tryz.prog 9 = some [.str ByteArray.empty] := by kernel_rfl
@[go_sem] theorem Tryz.agg9 : aggP Tryz.prog 9 = some false := by kernel_rfl
@[go_sem] theorem Tryz.str9 : strP Tryz.prog 9 = true := by kernel_rfl
@[go_sem] theorem Tryz.known21 : knownP Tryz.prog 21 = true := by kernel_rfl
@[go_sem] theorem Tryz.int21 : intP Tryz.prog 21 = some .i32 := by kernel_rfl
@[go_sem] theorem Tryz.sz22 : szP Tryz.prog 22 = some 1 := by kernel_rfl
@[go_sem] theorem Tryz.agg22 : aggP Tryz.prog 22 = some false := by kernel_rfl
@[go_sem] theorem Tryz.sli22 : sliP Tryz.prog 22 = some 154 := by kernel_rfl
@[go_sem] theorem Tryz.sz23 : szP Tryz.prog 23 = some 1 := by kernel_rfl
@[go_sem] theorem Tryz.agg23 : aggP Tryz.prog 23 = some false := by kernel_rfl
@[go_sem] theorem Tryz.sli23 : sliP Tryz.prog 23 = some 95 := by kernel_rfl
@[go_sem] theorem Tryz.sz25 : szP Tryz.prog 25 = some 3 := by kernel_rfl
@[go_sem] theorem Tryz.zero25 : zeroP Tryz.prog 25 = some [.slice .nil [], .slice .nil [], .int .i64 0] := by kernel_rfl
@[go_sem] theorem Tryz.agg25 : aggP Tryz.prog 25 = some true := by kernel_rfl
@[go_sem] theorem Tryz.bld25 : buildP Tryz.prog 25 = some none := by kernel_rfl
@[go_sem] theorem Tryz.fld25_0 : fldP Tryz.prog 25 0 = some (0, 22) := by kernel_rfl
@[go_sem] theorem Tryz.fld25_1 : fldP Tryz.prog 25 1 = some (1, 23) := by kernel_rfl
@[go_sem] theorem Tryz.fld25_2 : fldP Tryz.prog 25 2 = some (2, 3) := by kernel_rfl
@[go_sem] theorem Tryz.sz26 : szP Tryz.prog 26 = some 1 := by kernel_rfl
@[go_sem] theorem Tryz.by26 : bytesP Tryz.prog 26 = some 24 := by kernel_rfl
@[go_sem] theorem Tryz.zero26 : zeroP Tryz.prog 26 = some [.slice .nil []] := by kernel_rfl
@[go_sem] theorem Tryz.agg26 : aggP Tryz.prog 26 = some false := by kernel_rfl
@[go_sem] theorem Tryz.sli26 : sliP Tryz.prog 26 = some 5 := by kernel_rfl
@[go_sem] theorem Tryz.sz29 : szP Tryz.prog 29 = some 1 := by kernel_rfl
@[go_sem] theorem Tryz.zero29 : zeroP Tryz.prog 29 = some [.slice .nil []] := by kernel_rfl
@[go_sem] theorem Tryz.agg29 : aggP Tryz.prog 29 = some false := by kernel_rfl
@[go_sem] theorem Tryz.sli29 : sliP Tryz.prog 29 = some 3 := by kernel_rfl
@[go_sem] theorem Tryz.sz31 : szP Tryz.prog 31 = some 2 := by kernel_rfl
@[go_sem] theorem Tryz.zero31 : zeroP Tryz.prog 31 = some [.slice .nil [], .int .i64 0] := by kernel_rfl
@[go_sem] theorem Tryz.agg31 : aggP Tryz.prog 31 = some true := by kernel_rfl
@[go_sem] theorem Tryz.bld31 : buildP Tryz.prog 31 = some none := by kernel_rfl
@[go_sem] theorem Tryz.fld31_0 : fldP Tryz.prog 31 0 = some (0, 29) := by kernel_rfl
@[go_sem] theorem Tryz.fld31_1 : fldP Tryz.prog 31 1 = some (1, 3) := by kernel_rfl
@[go_sem] theorem Tryz.sz32 : szP Tryz.prog 32 = some 1 := by kernel_rfl
@[go_sem] theorem Tryz.zero32 : zeroP Tryz.prog 32 = some [.int .i64 0] := by kernel_rfl
@[go_sem] theorem Tryz.agg32 : aggP Tryz.prog 32 = some false := by kernel_rfl
@[go_sem] theorem Tryz.sz38 : szP Tryz.prog 38 = some 4 := by kernel_rfl
@[go_sem] theorem Tryz.zero38 : zeroP Tryz.prog 38 = some [.int .i64 0, .int .u8 0, .int .i64 0, .int .i64 0] := by kernel_rfl
@[go_sem] theorem Tryz.agg38 : aggP Tryz.prog 38 = some true := by kernel_rfl
@[go_sem] theorem Tryz.bld38 : buildP Tryz.prog 38 = some none := by kernel_rfl
@[go_sem] theorem Tryz.fld38_0 : fldP Tryz.prog 38 0 = some (0, 3) := by kernel_rfl
@[go_sem] theorem Tryz.fld38_1 : fldP Tryz.prog 38 1 = some (1, 5) := by kernel_rfl
@[go_sem] theorem Tryz.fld38_2 : fldP Tryz.prog 38 2 = some (2, 3) := by kernel_rfl
@[go_sem] theorem Tryz.fld38_3 : fldP Tryz.prog 38 3 = some (3, 3) := by kernel_rfl
@[go_sem] theorem Tryz.sz50 : szP Tryz.prog 50 = some 1 := by kernel_rfl
@[go_sem] theorem Tryz.agg50 : aggP Tryz.prog 50 = some false := by kernel_rfl
@[go_sem] theorem Tryz.sli50 : sliP Tryz.prog 50 = some 86 := by kernel_rfl
@[go_sem] theorem Tryz.sz52 : szP Tryz.prog 52 = some 2 := by kernel_rfl
@[go_sem] theorem Tryz.zero52 : zeroP Tryz.prog 52 = some [.int .i64 0, .slice .nil []] := by kernel_rfl
@[go_sem] theorem Tryz.agg52 : aggP Tryz.prog 52 = some true := by kernel_rfl
@[go_sem] theorem Tryz.bld52 : buildP Tryz.prog 52 = some none := by kernel_rfl
@[go_sem] theorem Tryz.fld52_0 : fldP Tryz.prog 52 0 = some (0, 3) := by kernel_rfl
@[go_sem] theorem Tryz.fld52_1 : fldP Tryz.prog 52 1 = some (1, 50) := by kernel_rfl
@[go_sem] theorem Tryz.sz68 : szP Tryz.prog 68 = some 1 := by kernel_rfl
@[go_sem] theorem Tryz.agg68 : aggP Tryz.prog 68 = some false := by kernel_rfl
@[go_sem] theorem Tryz.sz71 : szP Tryz.prog 71 = some 1 := by kernel_rfl
@[go_sem] theorem Tryz.agg71 : aggP Tryz.prog 71 = some false := by kernel_rfl
@[go_sem] theorem Tryz.sli71 : sliP Tryz.prog 71 = some 97 := by kernel_rfl
@[go_sem] theorem Tryz.sz72 : szP Tryz.prog 72 = some 1 := by kernel_rfl
@[go_sem] theorem Tryz.agg72 : aggP Tryz.prog 72 = some false := by kernel_rfl
@[go_sem] theorem Tryz.sli72 : sliP Tryz.prog 72 = some 26 := by kernel_rfl
@[go_sem] theorem Tryz.sz74 : szP Tryz.prog 74 = some 4 := by kernel_rfl
@[go_sem] theorem Tryz.zero74 : zeroP Tryz.prog 74 = some [.str ByteArray.empty, .slice .nil [], .slice .nil [], .slice .nil []] := by kernel_rfl
@[go_sem] theorem Tryz.agg74 : aggP Tryz.prog 74 = some true := by kernel_rfl
@[go_sem] theorem Tryz.bld74 : buildP Tryz.prog 74 = some none := by kernel_rfl
@[go_sem] theorem Tryz.fld74_0 : fldP Tryz.prog 74 0 = some (0, 9) := by kernel_rfl
@[go_sem] theorem Tryz.fld74_1 : fldP Tryz.prog 74 1 = some (1, 22) := by kernel_rfl
@[go_sem] theorem Tryz.fld74_2 : fldP Tryz.prog 74 2 = some (2, 71) := by kernel_rfl
@[go_sem] theorem Tryz.fld74_3 : fldP Tryz.prog 74 3 = some (3, 72) := by kernel_rfl
@[go_sem] theorem Tryz.sz81 : szP Tryz.prog 81 = some 1 := by kernel_rfl
@[go_sem] theorem Tryz.by81 : bytesP Tryz.prog 81 = some 1 := by kernel_rfl
@[go_sem] theorem Tryz.zero81 : zeroP Tryz.prog 81 = some [.int .u8 0] := by kernel_rfl
@[go_sem] theorem Tryz.agg81 : aggP Tryz.prog 81 = some false := by kernel_rfl
@[go_sem] theorem Tryz.known81 : knownP Tryz.prog 81 = true := by kernel_rfl
@[go_sem] theorem Tryz.int81 : intP Tryz.prog 81 = some .u8 := by kernel_rfl
@[go_sem] theorem Tryz.sz82 : szP Tryz.prog 82 = some 24 := by kernel_rfl
@[go_sem] theorem Tryz.agg82 : aggP Tryz.prog 82 = some true := by kernel_rfl
@[go_sem] theorem Tryz.arr82 : arrP Tryz.prog 82 = some (24, 81) := by kernel_rfl
@[go_sem] theorem Tryz.sz84 : szP Tryz.prog 84 = some 26 := by kernel_rfl
@[go_sem] theorem Tryz.zero84 : zeroP Tryz.prog 84 = some [.int .i64 0, .int .i64 0, .int .u8 0, .int .u8 0, .int .u8 0, .int .u8 0, .int .u8 0, .int .u8 0, .int .u8 0, .int .u8 0, .int .u8 0, .int .u8 0, .int .u8 0, .int .u8 0, .int .u8 0, .int .u8 0, .int .u8 0, .int .u8 0, .int .u8 0, .int .u8 0, .int .u8 0, .int .u8 0, .int .u8 0, .int .u8 0, .int .u8 0, .int .u8 0] := by kernel_rfl
@[go_sem] theorem Tryz.agg84 : aggP Tryz.prog 84 = some true := by kernel_rfl
@[go_sem] theorem Tryz.bld84 : buildP Tryz.prog 84 = some none := by kernel_rfl
@[go_sem] theorem Tryz.fld84_0 : fldP Tryz.prog 84 0 = some (0, 3) := by kernel_rfl
@[go_sem] theorem Tryz.fld84_1 : fldP Tryz.prog 84 1 = some (1, 3) := by kernel_rfl
@[go_sem] theorem Tryz.fld84_2 : fldP Tryz.prog 84 2 = some (2, 82) := by kernel_rfl
@[go_sem] theorem Tryz.eqg84 : eqGP Tryz.prog 84 = true := by kernel_rfl
@[go_sem] theorem Tryz.sz86 : szP Tryz.prog 86 = some 28 := by kernel_rfl
@[go_sem] theorem Tryz.by86 : bytesP Tryz.prog 86 = some 56 := by kernel_rfl
@[go_sem] theorem Tryz.zero86 : zeroP Tryz.prog 86 = some [.int .i64 0, .bool false, .int .i64 0, .int .i64 0, .int .u8 0, .int .u8 0, .int .u8 0, .int .u8 0, .int .u8 0, .int .u8 0, .int .u8 0, .int .u8 0, .int .u8 0, .int .u8 0, .int .u8 0, .int .u8 0, .int .u8 0, .int .u8 0, .int .u8 0, .int .u8 0, .int .u8 0, .int .u8 0, .int .u8 0, .int .u8 0, .int .u8 0, .int .u8 0, .int .u8 0, .int .u8 0] := by kernel_rfl
@[go_sem] theorem Tryz.agg86 : aggP Tryz.prog 86 = some true := by kernel_rfl
@[go_sem] theorem Tryz.bld86 : buildP Tryz.prog 86 = some none := by kernel_rfl
@[go_sem] theorem Tryz.fld86_0 : fldP Tryz.prog 86 0 = some (0, 3) := by kernel_rfl
@[go_sem] theorem Tryz.fld86_1 : fldP Tryz.prog 86 1 = some (1, 4) := by kernel_rfl
@[go_sem] theorem Tryz.fld86_2 : fldP Tryz.prog 86 2 = some (2, 84) := by kernel_rfl
@[go_sem] theorem Tryz.sz93 : szP Tryz.prog 93 = some 1 := by kernel_rfl
@[go_sem] theorem Tryz.agg93 : aggP Tryz.prog 93 = some false := by kernel_rfl
@[go_sem] theorem Tryz.sli93 : sliP Tryz.prog 93 = some 81 := by kernel_rfl
@[go_sem] theorem Tryz.sz95 : szP Tryz.prog 95 = some 2 := by kernel_rfl
@[go_sem] theorem Tryz.by95 : bytesP Tryz.prog 95 = some 32 := by kernel_rfl
@[go_sem] theorem Tryz.zero95 : zeroP Tryz.prog 95 = some [.slice .nil [], .int .u8 0] := by kernel_rfl
@[go_sem] theorem Tryz.agg95 : aggP Tryz.prog 95 = some true := by kernel_rfl
@[go_sem] theorem Tryz.fld95_0 : fldP Tryz.prog 95 0 = some (0, 93) := by kernel_rfl
@[go_sem] theorem Tryz.fld95_1 : fldP Tryz.prog 95 1 = some (1, 81) := by kernel_rfl
@[go_sem] theorem Tryz.sz97 : szP Tryz.prog 97 = some 5 := by kernel_rfl
@[go_sem] theorem Tryz.by97 : bytesP Tryz.prog 97 = some 80 := by kernel_rfl
@[go_sem] theorem Tryz.zero97 : zeroP Tryz.prog 97 = some [.str ByteArray.empty, .slice .nil [], .int .u8 0, .int .i64 0, .slice .nil []] := by kernel_rfl
@[go_sem] theorem Tryz.agg97 : aggP Tryz.prog 97 = some true := by kernel_rfl
@[go_sem] theorem Tryz.fld97_0 : fldP Tryz.prog 97 0 = some (0, 9) := by kernel_rfl
@[go_sem] theorem Tryz.fld97_1 : fldP Tryz.prog 97 1 = some (1, 95) := by kernel_rfl
@[go_sem] theorem Tryz.fld97_2 : fldP Tryz.prog 97 2 = some (3, 3) := by kernel_rfl
@[go_sem] theorem Tryz.fld97_3 : fldP Tryz.prog 97 3 = some (4, 26) := by kernel_rfl
@[go_sem] theorem Tryz.sz104 : szP Tryz.prog 104 = some 36 := by kernel_rfl
@[go_sem] theorem Tryz.zero104 : zeroP Tryz.prog 104 = some [.slice .nil [], .slice .nil [], .int .i64 0, .int .i64 0, .slice .nil [], .int .i64 0, .nilfunc, .slice .nil [], .int .i64 0, .int .i64 0, .int .i64 0, .int .u8 0, .int .u8 0, .int .u8 0, .int .u8 0, .int .u8 0, .int .u8 0, .int .u8 0, .int .u8 0, .int .u8 0, .int .u8 0, .int .u8 0, .int .u8 0, .int .u8 0, .int .u8 0, .int .u8 0, .int .u8 0, .int .u8 0, .int .u8 0, .int .u8 0, .int .u8 0, .int .u8 0, .int .u8 0, .int .u8 0, .int .u8 0, .bool false] := by kernel_rfl
@[go_sem] theorem Tryz.agg104 : aggP Tryz.prog 104 = some true := by kernel_rfl
@[go_sem] theorem Tryz.bld104 : buildP Tryz.prog 104 = some none := by kernel_rfl
@[go_sem] theorem Tryz.fld104_0 : fldP Tryz.prog 104 0 = some (0, 25) := by kernel_rfl
@[go_sem] theorem Tryz.fld104_1 : fldP Tryz.prog 104 1 = some (3, 3) := by kernel_rfl
@[go_sem] theorem Tryz.fld104_2 : fldP Tryz.prog 104 2 = some (4, 50) := by kernel_rfl
@[go_sem] theorem Tryz.fld104_3 : fldP Tryz.prog 104 3 = some (5, 3) := by kernel_rfl
@[go_sem] theorem Tryz.fld104_4 : fldP Tryz.prog 104 4 = some (6, 68) := by kernel_rfl
@[go_sem] theorem Tryz.fld104_5 : fldP Tryz.prog 104 5 = some (7, 31) := by kernel_rfl
@[go_sem] theorem Tryz.fld104_6 : fldP Tryz.prog 104 6 = some (9, 84) := by kernel_rfl
@[go_sem] theorem Tryz.fld104_7 : fldP Tryz.prog 104 7 = some (35, 4) := by kernel_rfl
@[go_sem] theorem Tryz.sz113 : szP Tryz.prog 113 = some 35 := by kernel_rfl
@[go_sem] theorem Tryz.zero113 : zeroP Tryz.prog 113 = some [.slice .nil [], .slice .nil [], .int .i64 0, .slice .nil [], .slice .nil [], .int .i64 0, .int .i64 0, .int .i64 0, .int .u8 0, .int .u8 0, .int .u8 0, .int .u8 0, .int .u8 0, .int .u8 0, .int .u8 0, .int .u8 0, .int .u8 0, .int .u8 0, .int .u8 0, .int .u8 0, .int .u8 0, .int .u8 0, .int .u8 0, .int .u8 0, .int .u8 0, .int .u8 0, .int .u8 0, .int .u8 0, .int .u8 0, .int .u8 0, .int .u8 0, .int .u8 0, .bool false, .slice .nil [], .int .i64 0] := by kernel_rfl
@[go_sem] theorem Tryz.agg113 : aggP Tryz.prog 113 = some true := by kernel_rfl
@[go_sem] theorem Tryz.bld113 : buildP Tryz.prog 113 = some none := by kernel_rfl
@[go_sem] theorem Tryz.fld113_0 : fldP Tryz.prog 113 0 = some (0, 25) := by kernel_rfl
@[go_sem] theorem Tryz.fld113_1 : fldP Tryz.prog 113 1 = some (3, 26) := by kernel_rfl
@[go_sem] theorem Tryz.fld113_2 : fldP Tryz.prog 113 2 = some (4, 50) := by kernel_rfl
@[go_sem] theorem Tryz.fld113_3 : fldP Tryz.prog 113 3 = some (5, 3) := by kernel_rfl
@[go_sem] theorem Tryz.fld113_4 : fldP Tryz.prog 113 4 = some (6, 84) := by kernel_rfl
@[go_sem] theorem Tryz.fld113_5 : fldP Tryz.prog 113 5 = some (32, 4) := by kernel_rfl
@[go_sem] theorem Tryz.fld113_6 : fldP Tryz.prog 113 6 = some (33, 31) := by kernel_rfl
@[go_sem] theorem Tryz.sz152 : szP Tryz.prog 152 = some 1 := by kernel_rfl
@[go_sem] theorem Tryz.agg152 : aggP Tryz.prog 152 = some false := by kernel_rfl
@[go_sem] theorem Tryz.sli152 : sliP Tryz.prog 152 = some 157 := by kernel_rfl
@[go_sem] theorem Tryz.sz154 : szP Tryz.prog 154 = some 3 := by kernel_rfl
@[go_sem] theorem Tryz.by154 : bytesP Tryz.prog 154 = some 48 := by kernel_rfl
@[go_sem] theorem Tryz.zero154 : zeroP Tryz.prog 154 = some [.str ByteArray.empty, .int .i64 0, .slice .nil []] := by kernel_rfl
@[go_sem] theorem Tryz.agg154 : aggP Tryz.prog 154 = some true := by kernel_rfl
@[go_sem] theorem Tryz.fld154_0 : fldP Tryz.prog 154 0 = some (0, 9) := by kernel_rfl
@[go_sem] theorem Tryz.fld154_1 : fldP Tryz.prog 154 1 = some (1, 3) := by kernel_rfl
@[go_sem] theorem Tryz.fld154_2 : fldP Tryz.prog 154 2 = some (2, 152) := by kernel_rfl
@[go_sem] theorem Tryz.sz157 : szP Tryz.prog 157 = some 2 := by kernel_rfl
@[go_sem] theorem Tryz.by157 : bytesP Tryz.prog 157 = some 24 := by kernel_rfl
@[go_sem] theorem Tryz.zero157 : zeroP Tryz.prog 157 = some [.str ByteArray.empty, .int .u8 0] := by kernel_rfl
@[go_sem] theorem Tryz.agg157 : aggP Tryz.prog 157 = some true := by kernel_rfl
@[go_sem] theorem Tryz.fld157_0 : fldP Tryz.prog 157 0 = some (0, 9) := by kernel_rfl
@[go_sem] theorem Tryz.fld157_1 : fldP Tryz.prog 157 1 = some (1, 81) := by kernel_rfl
@[go_sem] theorem Tryz.eqg157 : eqGP Tryz.prog 157 = true := by kernel_rfl
@[go_sem] theorem Tryz.sz158 : szP Tryz.prog 158 = some 1 := by kernel_rfl
@[go_sem] theorem Tryz.zero158 : zeroP Tryz.prog 158 = some [.nilfunc] := by kernel_rfl
@[go_sem] theorem Tryz.agg158 : aggP Tryz.prog 158 = some false := by kernel_rfl
@[go_sem] theorem Tryz.sz161 : szP Tryz.prog 161 = some 2 := by kernel_rfl
@[go_sem] theorem Tryz.zero161 : zeroP Tryz.prog 161 = some [.int .i64 0, .int .i64 0] := by kernel_rfl
@[go_sem] theorem Tryz.agg161 : aggP Tryz.prog 161 = some true := by kernel_rfl
@[go_sem] theorem Tryz.conc161 : concP Tryz.prog 161 = true := by kernel_rfl
@[go_sem] theorem Tryz.bld161 : buildP Tryz.prog 161 = some none := by kernel_rfl
@[go_sem] theorem Tryz.fld161_0 : fldP Tryz.prog 161 0 = some (0, 3) := by kernel_rfl
@[go_sem] theorem Tryz.fld161_1 : fldP Tryz.prog 161 1 = some (1, 32) := by kernel_rfl
@[go_sem] theorem Tryz.sz192 : szP Tryz.prog 192 = some 1 := by kernel_rfl
@[go_sem] theorem Tryz.agg192 : aggP Tryz.prog 192 = some false := by kernel_rfl
@[go_sem] theorem Tryz.ptr192 : ptrP Tryz.prog 192 = true := by kernel_rfl
@[go_sem] theorem Tryz.sz199 : szP Tryz.prog 199 = some 8 := by kernel_rfl
@[go_sem] theorem Tryz.zero199 : zeroP Tryz.prog 199 = some [.slice .nil [], .int .i64 0, .int .i64 0, .int .i64 0, .int .i64 0, .int .i64 0, .int .i64 0, .bool false] := by kernel_rfl
@[go_sem] theorem Tryz.agg199 : aggP Tryz.prog 199 = some true := by kernel_rfl
@[go_sem] theorem Tryz.bld199 : buildP Tryz.prog 199 = some none := by kernel_rfl
@[go_sem] theorem Tryz.fld199_0 : fldP Tryz.prog 199 0 = some (0, 26) := by kernel_rfl
@[go_sem] theorem Tryz.fld199_1 : fldP Tryz.prog 199 1 = some (1, 3) := by kernel_rfl
@[go_sem] theorem Tryz.fld199_2 : fldP Tryz.prog 199 2 = some (2, 3) := by kernel_rfl
@[go_sem] theorem Tryz.fld199_3 : fldP Tryz.prog 199 3 = some (3, 3) := by kernel_rfl
@[go_sem] theorem Tryz.fld199_4 : fldP Tryz.prog 199 4 = some (4, 3) := by kernel_rfl
@[go_sem] theorem Tryz.fld199_5 : fldP Tryz.prog 199 5 = some (5, 3) := by kernel_rfl
@[go_sem] theorem Tryz.fld199_6 : fldP Tryz.prog 199 6 = some (6, 32) := by kernel_rfl
@[go_sem] theorem Tryz.fld199_7 : fldP Tryz.prog 199 7 = some (7, 4) := by kernel_rfl
@[go_sem] theorem Tryz.sz210 : szP Tryz.prog 210 = some 1 := by kernel_rfl
@[go_sem] theorem Tryz.zero210 : zeroP Tryz.prog 210 = some [.slice .nil []] := by kernel_rfl
@[go_sem] theorem Tryz.agg210 : aggP Tryz.prog 210 = some false := by kernel_rfl
@[go_sem] theorem Tryz.sli210 : sliP Tryz.prog 210 = some 9 := by kernel_rfl
@[go_sem] theorem Tryz.sz227 : szP Tryz.prog 227 = some 1 := by kernel_rfl
@[go_sem] theorem Tryz.agg227 : aggP Tryz.prog 227 = some false := by kernel_rfl
@[go_sem] theorem Tryz.sli227 : sliP Tryz.prog 227 = some 266 := by kernel_rfl
@[go_sem] theorem Tryz.sz229 : szP Tryz.prog 229 = some 2 := by kernel_rfl
@[go_sem] theorem Tryz.zero229 : zeroP Tryz.prog 229 = some [.slice .nil [], .nilfunc] := by kernel_rfl
@[go_sem] theorem Tryz.agg229 : aggP Tryz.prog 229 = some true := by kernel_rfl
@[go_sem] theorem Tryz.bld229 : buildP Tryz.prog 229 = some none := by kernel_rfl
@[go_sem] theorem Tryz.fld229_0 : fldP Tryz.prog 229 0 = some (0, 227) := by kernel_rfl
@[go_sem] theorem Tryz.fld229_1 : fldP Tryz.prog 229 1 = some (1, 158) := by kernel_rfl
@[go_sem] theorem Tryz.sz261 : szP Tryz.prog 261 = some 1 := by kernel_rfl
@[go_sem] theorem Tryz.agg261 : aggP Tryz.prog 261 = some false := by kernel_rfl
@[go_sem] theorem Tryz.sz262 : szP Tryz.prog 262 = some 34 := by kernel_rfl
@[go_sem] theorem Tryz.zero262 : zeroP Tryz.prog 262 = some [.nilfunc, .nilfunc, .nilfunc, .nilfunc, .nilfunc, .nilfunc, .nilfunc, .nilfunc, .nilfunc, .nilfunc, .nilfunc, .nilfunc, .nilfunc, .nilfunc, .nilfunc, .nilfunc, .nilfunc, .nilfunc, .nilfunc, .nilfunc, .nilfunc, .nilfunc, .nilfunc, .nilfunc, .nilfunc, .nilfunc, .nilfunc, .nilfunc, .nilfunc, .nilfunc, .nilfunc, .nilfunc, .nilfunc, .nilfunc] := by kernel_rfl
@[go_sem] theorem Tryz.agg262 : aggP Tryz.prog 262 = some true := by kernel_rfl
@[go_sem] theorem Tryz.arr262 : arrP Tryz.prog 262 = some (34, 261) := by kernel_rfl
@[go_sem] theorem Tryz.sz266 : szP Tryz.prog 266 = some 2 := by kernel_rfl
@[go_sem] theorem Tryz.by266 : bytesP Tryz.prog 266 = some 16 := by kernel_rfl
@[go_sem] theorem Tryz.zero266 : zeroP Tryz.prog 266 = some [.int .i64 0, .int .u8 0] := by kernel_rfl
@[go_sem] theorem Tryz.agg266 : aggP Tryz.prog 266 = some true := by kernel_rfl
@[go_sem] theorem Tryz.bld266 : buildP Tryz.prog 266 = some none := by kernel_rfl
@[go_sem] theorem Tryz.fld266_0 : fldP Tryz.prog 266 0 = some (0, 3) := by kernel_rfl
@[go_sem] theorem Tryz.fld266_1 : fldP Tryz.prog 266 1 = some (1, 81) := by kernel_rfl
theorem Tryz.follows_mixed : Tryz.prog.follows .mixedOrders = true := by kernel_rfl
theorem mkT {N : Nat} {f : FuncId} {c : AC} {rs : List ResultVar} {fn : Func} {code : Code} (hf : Tryz.prog.funcs[f]? = some fn) (hb : fn.body = some code) (hn : (fn.name == "runtime.NumGoroutine") = false) (hN : fn.ntmps = N) (hr : fn.results.toList = rs) (hs : strip code = c) (hl : decide (N ≤ 1000000) = true) : Fun1 Tryz.prog f N c rs := Fun1.mk' Tryz.follows_mixed hf hb hn hN hr hs hl
def c71 : AC :=
.seq (rg [oO 2 (.box 95 (tT 0)), oO 3 (.box 95 (tT 1)), oO 4 (.assign (.const (.bool false)))])
 (.seq (rg [oO 5 (.fieldAddr 95 (tT 2) 1), oO 6 (.load 81 (tT 5)), oO 7 (.fieldAddr 95 (tT 3) 1), oO 8 (.load 81 (tT 7)), oO 9 (.binOp .eql 81 (tT 6) (tT 8) 81), oO 10 (.move (tT 9)), oG 11 (.fieldAddr 95 (tT 2) 0) 10 true, oG 12 (.load 93 (tT 11)) 10 true, oG 13 (.fieldAddr 95 (tT 3) 0) 10 true, oG 14 (.load 93 (tT 13)) 10 true, oG 15 (cF (.func 115) #[tT 12, tT 14] #[93, 93]) 10 true, oO 16 (.pick (tT 10) (tT 15) (.const (.bool false))), oO 4 (.assign (tT 16))])
 .ret)
theorem F71 : Fun1 Tryz.prog 71 17 c71 [.tmp 4] := mkT Tryz.func71 rfl (by decide +kernel) Tryz.ntmps71 rfl (by kernel_rfl) rfl
def c57 : AC :=
.seq (rg [oO 1 (.box 95 (tT 0)), oO 2 (.alloc 95)])
 (.seq (rg [oO 3 (.fieldAddr 95 (tT 1) 0), oO 4 (.load 93 (tT 3)), oO 5 (cF (.func 90) #[tT 4] #[93]), oO 6 (.fieldAddr 95 (tT 1) 0), oN (.store 93 (tT 6) (tT 5))])
 (.seq (rg [oO 7 (.load 95 (tT 1)), oN (.store 95 (tT 2) (tT 7))])
 .ret))
theorem F57 : Fun1 Tryz.prog 57 8 c57 [.cell 2 95] := mkT Tryz.func57 rfl (by decide +kernel) Tryz.ntmps57 rfl (by kernel_rfl) rfl
def c90 : AC :=
.seq (rg [oO 2 (.assign (.const (.slice none 0 0)))])
 (.seq (.seq (rg [oO 3 (.move (tT 0)), oO 4 (.binOp .eql 93 (tT 3) (.const (.slice none 0 0)) 93)])
 (.cond (tT 4) (.seq (rg [oO 2 (.assign (.const (.slice none 0 0)))])
 (.ret))
 (.skip)))
 (.seq (rg [oO 5 (.buildSlice 93 0 #[]), oO 6 (.move (tT 0)), oO 7 (cB .append #[tT 5, tT 6] #[93, 93]), oO 2 (.assign (tT 7))])
 .ret))
theorem F90 : Fun1 Tryz.prog 90 8 c90 [.tmp 2] := mkT Tryz.func90 rfl (by decide +kernel) Tryz.ntmps90 rfl (by kernel_rfl) rfl
def c115 : AC :=
.seq (rg [oO 4 (.assign (.const (.bool false)))])
 (.seq (.seq (rg [oO 6 (.move (tT 0)), oO 7 (cB .len #[tT 6] #[93]), oO 8 (.move (tT 1)), oO 9 (cB .len #[tT 8] #[93]), oO 10 (.binOp .neq 3 (tT 7) (tT 9) 3)])
 (.cond (tT 10) (.seq (rg [oO 4 (.assign (.const (.bool false)))])
 (.ret))
 (.skip)))
 (.seq (.seq (rg [oO 11 (.move (tT 0)), oO 12 (cB .len #[tT 11] #[93]), oO 13 (.move (kI 0))])
 (.block 0 (.loop (.seq (rg [oO 14 (.binOp .lss 3 (tT 13) (tT 12) 3)])
 (.seq (.cond (tT 14) (.skip)
 (.exit 0))
 (.seq (.block 1 (.seq (rg [oO 15 (.move (tT 13)), oO 5 (.assign (tT 15))])
 (.seq (.reg true [] [⟨⟨some 16, .move (tT 0), none⟩, false, true⟩, ⟨⟨some 17, .move (tT 5), none⟩, false, true⟩, ⟨⟨some 18, .indexAddr 93 (tT 16) (tT 17), none⟩, false, true⟩, ⟨⟨some 19, .load 81 (tT 18), none⟩, false, true⟩, ⟨⟨some 20, .move (tT 1), none⟩, false, true⟩, oO 21 (.move (tT 5)), oO 22 (.indexAddr 93 (tT 20) (tT 21)), oO 23 (.load 81 (tT 22)), oO 24 (.binOp .neq 81 (tT 19) (tT 23) 81)])
 (.cond (tT 24) (.seq (rg [oO 4 (.assign (.const (.bool false)))])
 (.ret))
 (.skip)))))
 (rg [oO 25 (.binOp .add 3 (tT 13) (kI 1) 3), oO 13 (.move (tT 25))])))))))
 (.seq (rg [oO 4 (.assign (.const (.bool true)))])
 .ret)))
theorem F115 : Fun1 Tryz.prog 115 26 c115 [.tmp 4] := mkT Tryz.func115 rfl (by decide +kernel) Tryz.ntmps115 rfl (by kernel_rfl) rfl
theorem DLe_nils {o : Own} {es : List (List D)} (h : es = []) : DLe (.slice o []) (.slice .no es) := h ▸ DLe.slice o []
def rws {α : Type} (enc : α → List D) (xs : List α) : List (List D) := xs.map enc
theorem rws_len {α : Type} (enc : α → List D) (xs : List α) : (rws enc xs).length = xs.length := by simp [rws]
attribute [go_sem] rws_len
theorem rws_nil {α : Type} (enc : α → List D) (xs : List α) : (rws enc xs = []) = (xs = []) := by simp [rws]
theorem rws_mt {α : Type} (enc : α → List D) : rws enc [] = [] := rfl
theorem rws_at {α : Type} {enc : α → List D} {xs : List α} {i : Nat} (h : i < xs.length) : (rws enc xs)[i]?.getD [] = enc xs[i] := by simp [rws, h]
theorem rws_one {α : Type} {enc : α → List D} {xs : List α} {n : Nat} (h : ∀ x, (enc x).length = n) : (∀ r ∈ rws enc xs, r.length = n) = True := by simp [rws, h]
def eI (n : Int) : List D := [.int .i64 n]
abbrev Ty := Fin 256
def eT (t : Ty) : List D := [.int .u8 (t.val : Int)]
theorem eT_len (n : Ty) : (eT n).length = 1 := rfl
theorem eT_eq (a b : Ty) : ((a.val : Int) = (b.val : Int)) = (a = b) := by rw [Fin.ext_iff]; simp only [eq_iff_iff]; omega
theorem DLe_bool {a b : Bool} (h : a = b) : DLe (.bool a) (.bool b) := h ▸ DLe.refl _
theorem nilR_nil {o : Own} {es : List (List D)} {r : Bool} (h : nilR o es r) (hr : r = true) (h0 : o = .nil → es = []) : es = [] := by
  subst hr
  cases o <;> simp_all [nilR]
def nilOk (o : Own) (n : Nat) : Prop := o = .nil → n = 0
theorem take_eq_step {α : Type} {xs ys : List α} {i : Nat} (h : xs.take i = ys.take i) (hx : i < xs.length) (hy : i < ys.length) (he : xs[i] = ys[i]) : xs.take (i + 1) = ys.take (i + 1) := by
  rw [List.take_succ_eq_append_getElem hx, List.take_succ_eq_append_getElem hy, h, he]
theorem clone46 (xs : List Ty) (o : Own) (h0 : nilOk o xs.length) (hl : xs.length * 1 ≤ 140737488355328) : PCall Tryz.prog 90 [.slice o (rws eT xs)] (.slice .no (rws eT xs)) := by
  refine F90.pcall' rfl fun T hT => ?_
  simp -implicitDefEqProofs only [go_sem, c90, hT]
  intro r hr
  refine br_split (fun h => ?_) fun h => ?_
  · exact DLe_nils (nilR_nil hr h fun h => by simpa [rws_nil] using h0 h)
  · simp -implicitDefEqProofs only [go_sem, hT, rws_one eT_len, rws_nil, hl]
    rintro rfl
    exact DLe_nils rfl
theorem equal47 (xs ys : List Ty) (o o' : Own) (hl : xs.length ≤ 140737488355328) : PCall Tryz.prog 115 [.slice o (rws eT xs), .slice o' (rws eT ys)] (.bool (decide (xs = ys))) := by
  refine F115.pcall' rfl fun T hT => ?_
  simp -implicitDefEqProofs only [go_sem, c115, hT]
  refine br_split (fun h => ?_) fun h => ?_
  · refine DLe_bool ?_
    simp at h
    simp
    rintro rfl
    exact h rfl
  have hxy : xs.length = ys.length := by simp at h; omega
  refine loopL F115 (fun i : Nat => [(0, .slice o (rws eT xs)), (1, .slice o' (rws eT ys)), (12, .int .i64 xs.length), (13, .int .i64 i)]) (fun _ => {}) (fun i => i ≤ xs.length ∧ xs.take i = ys.take i) (fun i => xs.length - i) 0
    ⟨Nat.zero_le _, rfl⟩ ?_ (St.le.refl _) ?_
  · simp -implicitDefEqProofs only [go_sem, hT, Int.ofNat_zero]
  rintro i ⟨hi, heq⟩ T hT
  simp -implicitDefEqProofs only [go_sem, hT]
  refine br_split (fun h => ?_) fun h => ?_
  · have h : i < xs.length := by simpa using h
    simp -implicitDefEqProofs only [go_sem, hT, Int.toNat_natCast, rws_at h, rws_at (show i < ys.length by omega), eT_len, eT, eT_eq]
    refine ⟨⟨by omega, by omega⟩, ⟨by omega, by omega⟩, ?_⟩
    refine br_split (fun h' => ?_) fun h' => ?_
    · refine DLe_bool ?_
      simp at h'
      simp
      rintro rfl
      exact h' rfl
    · simp at h'
      refine ⟨i + 1, ⟨by omega, take_eq_step heq h (by omega) h'⟩, by omega, ?_, St.le.refl _⟩
      rw [wrap_i64 (by omega) (by omega)]
      simp
  · have h : ¬ i < xs.length := by simpa using h
    refine DLe_bool ?_
    rw [List.take_of_length_le (by omega), List.take_of_length_le (by omega)] at heq
    simp [heq]
structure Sg where
  ps : List Ty
  r : Ty
  deriving DecidableEq
def eSg (s : Sg) : List D := [.slice .no (rws eT s.ps), .int .u8 s.r.val]
theorem sig11 (s : Sg) (hl : s.ps.length ≤ 140737488355328) : PCall Tryz.prog 57 [.agg (eSg s)] (.agg (eSg s)) := by
  refine F57.pcall' rfl fun T hT => ?_
  simp -implicitDefEqProofs only [go_sem, c57, hT, eSg]
  intro b b' hb hb'
  simp -implicitDefEqProofs only [go_sem, hb, hb', hT]
  refine callB_pure (clone46 s.ps .no (by simp [nilOk]) (by omega)) ?_
  simp -implicitDefEqProofs only [go_sem, hT, eSg, hb, hb']
theorem sameSig15 (s u : Sg) (hl : s.ps.length ≤ 140737488355328) : PCall Tryz.prog 71 [.agg (eSg s), .agg (eSg u)] (.bool (decide (s = u))) := by
  refine F71.pcall' rfl fun T hT => ?_
  simp -implicitDefEqProofs only [go_sem, c71, hT, eSg]
  intro b b' hb hb'
  simp -implicitDefEqProofs only [go_sem, hb, hb', hT, eT_eq]
  refine gbr_split (fun h => ?_) fun h => ?_
  · simp -implicitDefEqProofs only [go_sem, hb, hb', hT, h]
    refine callB_pure (equal47 s.ps u.ps .no .no hl) ?_
    simp -implicitDefEqProofs only [go_sem, hT, h]
    refine DLe_bool ?_
    obtain ⟨a, b⟩ := s
    obtain ⟨c, d⟩ := u
    simp at h
    simp [h]
  · simp -implicitDefEqProofs only [go_sem, hT, h]
    refine DLe_bool ?_
    obtain ⟨a, b⟩ := s
    obtain ⟨c, d⟩ := u
    simp at h
    simp [h]
end Go.AL
