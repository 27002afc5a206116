import Derived.Test.YtobmoajkfbigkaaGreatHe
import Derived.Test.YtobmoajkfbigkaaGreatHd
set_option linter.defProp false
set_option linter.unusedSimpArgs false
set_option linter.unusedVariables false
set_option maxRecDepth 100000
namespace Go.AL
open Go.Proofs
def c16 : AC :=
.seq (.reg false [] [oO 1 (.box 25 (tT 0)), oO 2 (.alloc 25)])
 (.seq (.seq (.reg true [1] [⟨⟨some 6, .fieldAddr 25 (tT 1) 0, none⟩, false, true⟩, ⟨⟨some 7, .load 22 (tT 6), none⟩, false, true⟩, ⟨⟨some 8, cF (.func 56) #[tT 7] #[22], none⟩, false, true⟩, ⟨⟨some 9, .fieldAddr 25 (tT 1) 2, none⟩, true, true⟩, ⟨⟨some 10, .load 3 (tT 9), none⟩, true, true⟩, ⟨⟨some 11, .build 25 #[(0, .tmp 8), (2, .tmp 10)], none⟩, false, true⟩, ⟨⟨some 3, .alloc 25, none⟩, true, false⟩])
 (.reg false [] [oN (.store 25 (tT 3) (tT 11))]))
 (.seq (.seq (.reg false [] [oO 12 (.fieldAddr 25 (tT 1) 1), oO 13 (.load 23 (tT 12)), oO 14 (cB .len #[tT 13] #[23]), oO 15 (.move (kI 0))])
 (.block 0 (.loop (.seq (.reg false [] [oO 16 (.binOp .lss 3 (tT 15) (tT 14) 3)])
 (.seq (.cond (tT 16) (.skip)
 (.exit 0))
 (.seq (.block 1 (.seq (.reg false [] [oO 17 (.indexAddr 23 (tT 13) (tT 15)), oO 18 (.load 95 (tT 17)), oO 5 (.alloc 95), oN (.store 95 (tT 5) (tT 18))])
 (.seq (.reg true [3] [⟨⟨some 19, .fieldAddr 25 (tT 3) 1, none⟩, true, true⟩, ⟨⟨some 20, .load 23 (tT 19), none⟩, true, true⟩, oO 21 (.load 95 (tT 5)), oO 22 (cF (.func 57) #[tT 21] #[95]), oO 23 (.buildSlice 23 1 #[(0, .tmp 22)])])
 (.reg false [] [oO 24 (cB .append #[tT 20, tT 23] #[23, 23]), oO 25 (.fieldAddr 25 (tT 3) 1), oN (.store 23 (tT 25) (tT 24))]))))
 (.reg false [] [oO 26 (.binOp .add 3 (tT 15) (kI 1) 3), oO 15 (.move (tT 26))])))))))
 (.seq (.reg false [] [oO 27 (.load 25 (tT 3)), oN (.store 25 (tT 2) (tT 27))])
 .ret)))
theorem F16 : Fun1 Tryz.prog 16 28 c16 [.cell 2 25] := Fun1.mk' AL.Tryz.follows_mixed Tryz.func16 rfl (by decide +kernel) Tryz.ntmps16 rfl (by kernel_rfl) rfl
def c77 : AC :=
.seq (.reg false [] [oO 2 (.box 25 (tT 0)), oO 4 (.assign (kI 0))])
 (.seq (.seq (.reg false [] [oO 13 (.fieldAddr 25 (tT 2) 0), oO 14 (.load 22 (tT 13)), oO 15 (cF (.func 119) #[tT 14] #[22]), oO 12 (.move (tT 15)), oO 16 (.extract (tT 12) 0), oO 17 (.extract (tT 12) 1), oO 5 (.assign (tT 16)), oO 6 (.assign (tT 17))])
 (.seq (.reg false [] [oO 18 (.move (tT 6)), oO 19 (.binOp .neq 32 (tT 18) (kI 0) 32)])
 (.cond (tT 19) (.seq (.reg false [] [oO 20 (.move (tT 6)), oO 4 (.assign (tT 20))])
 (.ret))
 (.skip))))
 (.seq (.seq (.reg false [] [oO 21 (.fieldAddr 25 (tT 2) 1), oO 22 (.load 23 (tT 21)), oO 23 (cB .len #[tT 22] #[23]), oO 24 (.binOp .gtr 3 (tT 23) (kI 64) 3)])
 (.cond (tT 24) (.seq (.reg false [] [oO 4 (.assign (kI 4))])
 (.ret))
 (.skip)))
 (.seq (.seq (.reg false [] [oO 25 (.fieldAddr 25 (tT 2) 1), oO 26 (.load 23 (tT 25)), oO 27 (cB .len #[tT 26] #[23]), oO 28 (.move (kI 0))])
 (.block 0 (.loop (.seq (.reg false [] [oO 29 (.binOp .lss 3 (tT 28) (tT 27) 3)])
 (.seq (.cond (tT 29) (.skip)
 (.exit 0))
 (.seq (.block 1 (.seq (.reg false [] [oO 30 (.indexAddr 23 (tT 26) (tT 28)), oO 31 (.load 95 (tT 30)), oO 8 (.alloc 95), oN (.store 95 (tT 8) (tT 31))])
 (.seq (.seq (.reg false [] [oO 32 (.fieldAddr 95 (tT 8) 0), oO 33 (.load 93 (tT 32)), oO 34 (cB .len #[tT 33] #[93]), oO 35 (.binOp .gtr 3 (tT 34) (kI 8) 3)])
 (.cond (tT 35) (.seq (.reg false [] [oO 4 (.assign (kI 4))])
 (.ret))
 (.skip)))
 (.seq (.reg false [] [oO 36 (.makeFunc (.func 120) #[] #[tT 2]), oO 9 (.assign (tT 36))])
 (.seq (.reg false [] [oO 37 (.fieldAddr 95 (tT 8) 0), oO 38 (.load 93 (tT 37)), oO 39 (.move (tT 9)), oO 40 (cF (.func 122) #[tT 38, tT 39] #[93, 184]), oO 41 (.move (tT 40)), oG 42 (.fieldAddr 95 (tT 8) 1) 41 false, oG 43 (.load 81 (tT 42)) 41 false, oG 44 (.binOp .neq 81 (tT 43) (kB 0) 81) 41 false, oG 45 (.move (tT 44)) 41 false, oG 46 (.move (tT 9)) 45 true, oG 47 (.fieldAddr 95 (tT 8) 1) 45 true, oG 48 (.load 81 (tT 47)) 45 true, oG 49 (cF (tT 46) #[tT 48] #[81]) 45 true, oG 50 (.pick (tT 45) (tT 49) (.const (.bool false))) 41 false, oO 51 (.pick (tT 41) (.const (.bool true)) (tT 50))])
 (.cond (tT 51) (.seq (.reg false [] [oO 4 (.assign (kI 22))])
 (.ret))
 (.skip)))))))
 (.reg false [] [oO 52 (.binOp .add 3 (tT 28) (kI 1) 3), oO 28 (.move (tT 52))])))))))
 (.seq (.seq (.reg false [] [oO 53 (.fieldAddr 25 (tT 2) 2), oO 54 (.load 3 (tT 53)), oO 55 (.binOp .lss 3 (tT 54) (kI 0) 3), oO 56 (.move (tT 55)), oG 57 (.fieldAddr 25 (tT 2) 2) 56 false, oG 58 (.load 3 (tT 57)) 56 false, oG 59 (.fieldAddr 25 (tT 2) 1) 56 false, oG 60 (.load 23 (tT 59)) 56 false, oG 61 (cB .len #[tT 60] #[23]) 56 false, oG 62 (.binOp .geq 3 (tT 58) (tT 61) 3) 56 false, oO 63 (.pick (tT 56) (.const (.bool true)) (tT 62))])
 (.cond (tT 63) (.seq (.reg false [] [oO 4 (.assign (kI 71))])
 (.ret))
 (.skip)))
 (.seq (.reg true [] [⟨⟨some 65, .fieldAddr 25 (tT 2) 0, none⟩, false, true⟩, ⟨⟨some 66, .load 22 (tT 65), none⟩, false, true⟩, ⟨⟨some 67, .fieldAddr 25 (tT 2) 1, none⟩, false, true⟩, ⟨⟨some 68, .load 23 (tT 67), none⟩, false, true⟩, ⟨⟨some 69, .fieldAddr 25 (tT 2) 2, none⟩, false, true⟩, ⟨⟨some 70, .load 3 (tT 69), none⟩, false, true⟩, ⟨⟨some 71, .indexAddr 23 (tT 68) (tT 70), none⟩, false, true⟩, ⟨⟨some 72, .fieldAddr 95 (tT 71) 0, none⟩, false, true⟩, ⟨⟨some 73, .load 93 (tT 72), none⟩, false, true⟩, ⟨⟨some 74, .move (tT 1), none⟩, false, true⟩, ⟨⟨some 75, cF (.func 97) #[tT 66, tT 73, tT 74] #[22, 93, 3], none⟩, false, true⟩, ⟨⟨some 64, .move (tT 75), none⟩, false, true⟩, ⟨⟨some 76, .extract (tT 64) 0, none⟩, false, true⟩, ⟨⟨some 77, .extract (tT 64) 1, none⟩, true, true⟩, ⟨⟨some 10, .alloc 84, none⟩, true, false⟩, oN (.store 84 (tT 10) (tT 76)), oO 11 (.assign (tT 77))])
 (.seq (.reg false [] [oO 78 (.move (tT 11)), oO 4 (.assign (tT 78))])
 .ret))))))
theorem F77 : Fun1 Tryz.prog 77 79 c77 [.tmp 4] := Fun1.mk' AL.Tryz.follows_mixed Tryz.func77 rfl (by decide +kernel) Tryz.ntmps77 rfl (by kernel_rfl) rfl
def c56 : AC :=
.seq (.reg false [] [oO 2 (.assign (.const (.slice none 0 0)))])
 (.seq (.reg false [] [oO 3 (.assign (.const (.slice none 0 0)))])
 (.seq (.seq (.reg false [] [oO 6 (.move (tT 0)), oO 7 (cB .len #[tT 6] #[22]), oO 8 (.move (kI 0))])
 (.block 0 (.loop (.seq (.reg false [] [oO 9 (.binOp .lss 3 (tT 8) (tT 7) 3)])
 (.seq (.cond (tT 9) (.skip)
 (.exit 0))
 (.seq (.block 1 (.seq (.reg false [] [oO 10 (.indexAddr 22 (tT 6) (tT 8)), oO 11 (.load 154 (tT 10)), oO 5 (.alloc 154), oN (.store 154 (tT 5) (tT 11))])
 (.seq (.reg false [] [oO 12 (.fieldAddr 154 (tT 5) 2), oO 13 (.load 152 (tT 12)), oO 14 (cF (.func 89) #[tT 13] #[152]), oO 15 (.fieldAddr 154 (tT 5) 2), oN (.store 152 (tT 15) (tT 14))])
 (.reg false [] [oO 16 (.move (tT 3)), oO 17 (.load 154 (tT 5)), oO 18 (.buildSlice 22 1 #[(0, .tmp 17)]), oO 19 (cB .append #[tT 16, tT 18] #[22, 22]), oO 3 (.assign (tT 19))]))))
 (.reg false [] [oO 20 (.binOp .add 3 (tT 8) (kI 1) 3), oO 8 (.move (tT 20))])))))))
 (.seq (.reg false [] [oO 21 (.move (tT 3)), oO 2 (.assign (tT 21))])
 .ret)))
theorem F56 : Fun1 Tryz.prog 56 22 c56 [.tmp 2] := Fun1.mk' AL.Tryz.follows_mixed Tryz.func56 rfl (by decide +kernel) Tryz.ntmps56 rfl (by kernel_rfl) rfl
def c89 : AC :=
.seq (.reg false [] [oO 2 (.assign (.const (.slice none 0 0)))])
 (.seq (.seq (.reg false [] [oO 3 (.move (tT 0)), oO 4 (.binOp .eql 152 (tT 3) (.const (.slice none 0 0)) 152)])
 (.cond (tT 4) (.seq (.reg false [] [oO 2 (.assign (.const (.slice none 0 0)))])
 (.ret))
 (.skip)))
 (.seq (.reg false [] [oO 5 (.buildSlice 152 0 #[]), oO 6 (.move (tT 0)), oO 7 (cB .append #[tT 5, tT 6] #[152, 152]), oO 2 (.assign (tT 7))])
 .ret))
theorem F89 : Fun1 Tryz.prog 89 8 c89 [.tmp 2] := Fun1.mk' AL.Tryz.follows_mixed Tryz.func89 rfl (by decide +kernel) Tryz.ntmps89 rfl (by kernel_rfl) rfl
def c119 : AC :=
.seq (.reg false [] [oO 2 (.assign (kI 0)), oO 3 (.assign (kI 0))])
 (.seq (.seq (.reg false [] [oO 7 (.move (tT 0)), oO 8 (cB .len #[tT 7] #[22]), oO 9 (.move (kI 0))])
 (.block 0 (.loop (.seq (.reg false [] [oO 10 (.binOp .lss 3 (tT 9) (tT 8) 3)])
 (.seq (.cond (tT 10) (.skip)
 (.exit 0))
 (.seq (.block 1 (.seq (.reg false [] [oO 11 (.move (tT 9)), oO 12 (.indexAddr 22 (tT 7) (tT 9)), oO 13 (.load 154 (tT 12)), oO 5 (.alloc 154), oO 4 (.assign (tT 11)), oN (.store 154 (tT 5) (tT 13))])
 (.seq (.reg false [] [oO 6 (.assign (kI 0))])
 (.seq (.block 2 (.seq (.reg false [] [oO 18 (.move (tT 4)), oO 19 (.binOp .geq 3 (tT 18) (kI 32) 3), oO 17 (.assign (tT 19))])
 (.cond (tT 17) (.reg false [] [oO 6 (.assign (kI 4))])
 (.seq (.reg true [5] [oO 21 (.fieldAddr 154 (tT 5) 0), oO 22 (.load 9 (tT 21)), oO 23 (cF (.func 152) #[tT 22] #[9]), oO 24 (.unOp .not 4 (tT 23)), oO 25 (.move (tT 24)), ⟨⟨some 26, cF (.func 154) #[] #[], some (25, false)⟩, false, true⟩, ⟨⟨some 27, .fieldAddr 154 (tT 5) 0, some (25, false)⟩, true, false⟩, ⟨⟨some 28, .load 9 (tT 27), some (25, false)⟩, true, false⟩, oG 29 (cF (.func 153) #[tT 26, tT 28] #[210, 9]) 25 false, oO 30 (.pick (tT 25) (.const (.bool true)) (tT 29)), oO 20 (.assign (tT 30))])
 (.cond (tT 20) (.reg false [] [oO 6 (.assign (kI 6))])
 (.seq (.reg false [] [oO 32 (.move (tT 0)), oO 33 (.move (tT 4)), oO 34 (.slice 22 (tT 32) none (some (tT 33)) none), oO 35 (.makeFunc (.func 156) #[] #[tT 5]), oO 36 (cF (.func 155) #[tT 34, tT 35] #[22, 213]), oO 31 (.assign (tT 36))])
 (.cond (tT 31) (.reg false [] [oO 6 (.assign (kI 20))])
 (.seq (.reg false [] [oO 38 (.fieldAddr 154 (tT 5) 1), oO 39 (.load 3 (tT 38)), oO 40 (.binOp .lss 3 (tT 39) (kI (-1)) 3), oO 41 (.move (tT 40)), oG 42 (.fieldAddr 154 (tT 5) 1) 41 false, oG 43 (.load 3 (tT 42)) 41 false, oG 44 (.move (tT 4)) 41 false, oG 45 (.binOp .geq 3 (tT 43) (tT 44) 3) 41 false, oO 46 (.pick (tT 41) (.const (.bool true)) (tT 45)), oO 37 (.assign (tT 46))])
 (.cond (tT 37) (.reg false [] [oO 6 (.assign (kI 21))])
 (.reg false [] [oO 14 (.move (tT 0)), oO 15 (.move (tT 4)), oO 16 (cF (.func 157) #[tT 14, tT 15] #[22, 3]), oO 6 (.assign (tT 16))]))))))))))
 (.seq (.reg false [] [oO 47 (.move (tT 6)), oO 48 (.binOp .neq 32 (tT 47) (kI 0) 32)])
 (.cond (tT 48) (.seq (.reg false [] [oO 49 (.move (tT 4)), oO 50 (.move (tT 6)), oO 2 (.assign (tT 49)), oO 3 (.assign (tT 50))])
 (.ret))
 (.skip)))))))
 (.reg false [] [oO 51 (.binOp .add 3 (tT 9) (kI 1) 3), oO 9 (.move (tT 51))])))))))
 (.seq (.reg false [] [oO 2 (.assign (kI 0)), oO 3 (.assign (kI 0))])
 .ret))
theorem F119 : Fun1 Tryz.prog 119 52 c119 [.tmp 2, .tmp 3] := Fun1.mk' AL.Tryz.follows_mixed Tryz.func119 rfl (by decide +kernel) Tryz.ntmps119 rfl (by kernel_rfl) rfl
def c156 : AC :=
.seq (.reg false [] [oO 2 (.box 154 (tT 0)), oO 3 (.assign (.const (.bool false)))])
 (.seq (.reg false [] [oO 4 (.fieldAddr 154 (tT 2) 0), oO 5 (.load 9 (tT 4)), oO 6 (.fieldAddr 154 (tT 1) 0), oO 7 (.load 9 (tT 6)), oO 8 (.binOp .eql 9 (tT 5) (tT 7) 9), oO 3 (.assign (tT 8))])
 .ret)
theorem F156 : Fun1 Tryz.prog 156 9 c156 [.tmp 3] := Fun1.mk' AL.Tryz.follows_mixed Tryz.func156 rfl (by decide +kernel) Tryz.ntmps156 rfl (by kernel_rfl) rfl
def c155 : AC :=
.seq (.reg false [] [oO 4 (.assign (.const (.bool false)))])
 (.seq (.reg false [] [oO 5 (.move (tT 0)), oO 6 (.move (tT 1)), oO 7 (cF (.func 188) #[tT 5, tT 6] #[22, 213]), oO 8 (.binOp .geq 3 (tT 7) (kI 0) 3), oO 4 (.assign (tT 8))])
 .ret)
theorem F155 : Fun1 Tryz.prog 155 9 c155 [.tmp 4] := Fun1.mk' AL.Tryz.follows_mixed Tryz.func155 rfl (by decide +kernel) Tryz.ntmps155 rfl (by kernel_rfl) rfl
def c153 : AC :=
.seq (.reg false [] [oO 4 (.assign (.const (.bool false)))])
 (.seq (.reg false [] [oO 5 (.move (tT 0)), oO 6 (.move (tT 1)), oO 7 (cF (.func 187) #[tT 5, tT 6] #[210, 9]), oO 8 (.binOp .geq 3 (tT 7) (kI 0) 3), oO 4 (.assign (tT 8))])
 .ret)
theorem F153 : Fun1 Tryz.prog 153 9 c153 [.tmp 4] := Fun1.mk' AL.Tryz.follows_mixed Tryz.func153 rfl (by decide +kernel) Tryz.ntmps153 rfl (by kernel_rfl) rfl
def c187 : AC :=
.seq (.reg false [] [oO 4 (.assign (kI 0))])
 (.seq (.seq (.reg false [] [oO 6 (.move (tT 0)), oO 7 (cB .len #[tT 6] #[210]), oO 8 (.move (kI 0))])
 (.block 0 (.loop (.seq (.reg false [] [oO 9 (.binOp .lss 3 (tT 8) (tT 7) 3)])
 (.seq (.cond (tT 9) (.skip)
 (.exit 0))
 (.seq (.block 1 (.seq (.reg false [] [oO 10 (.move (tT 8)), oO 5 (.assign (tT 10))])
 (.seq (.reg false [] [oO 11 (.move (tT 1)), oO 12 (.move (tT 0)), oO 13 (.move (tT 5)), oO 14 (.indexAddr 210 (tT 12) (tT 13)), oO 15 (.load 9 (tT 14)), oO 16 (.binOp .eql 9 (tT 11) (tT 15) 9)])
 (.cond (tT 16) (.seq (.reg false [] [oO 17 (.move (tT 5)), oO 4 (.assign (tT 17))])
 (.ret))
 (.skip)))))
 (.reg false [] [oO 18 (.binOp .add 3 (tT 8) (kI 1) 3), oO 8 (.move (tT 18))])))))))
 (.seq (.reg false [] [oO 4 (.assign (kI (-1)))])
 .ret))
theorem F187 : Fun1 Tryz.prog 187 19 c187 [.tmp 4] := Fun1.mk' AL.Tryz.follows_mixed Tryz.func187 rfl (by decide +kernel) Tryz.ntmps187 rfl (by kernel_rfl) rfl
def c188 : AC :=
.seq (.reg false [] [oO 4 (.assign (kI 0))])
 (.seq (.seq (.reg false [] [oO 6 (.move (tT 0)), oO 7 (cB .len #[tT 6] #[22]), oO 8 (.move (kI 0))])
 (.block 0 (.loop (.seq (.reg false [] [oO 9 (.binOp .lss 3 (tT 8) (tT 7) 3)])
 (.seq (.cond (tT 9) (.skip)
 (.exit 0))
 (.seq (.block 1 (.seq (.reg false [] [oO 10 (.move (tT 8)), oO 5 (.assign (tT 10))])
 (.seq (.reg false [] [oO 11 (.move (tT 1)), oO 12 (.move (tT 0)), oO 13 (.move (tT 5)), oO 14 (.indexAddr 22 (tT 12) (tT 13)), oO 15 (.load 154 (tT 14)), oO 16 (cF (tT 11) #[tT 15] #[154])])
 (.cond (tT 16) (.seq (.reg false [] [oO 17 (.move (tT 5)), oO 4 (.assign (tT 17))])
 (.ret))
 (.skip)))))
 (.reg false [] [oO 18 (.binOp .add 3 (tT 8) (kI 1) 3), oO 8 (.move (tT 18))])))))))
 (.seq (.reg false [] [oO 4 (.assign (kI (-1)))])
 .ret))
theorem F188 : Fun1 Tryz.prog 188 19 c188 [.tmp 4] := Fun1.mk' AL.Tryz.follows_mixed Tryz.func188 rfl (by decide +kernel) Tryz.ntmps188 rfl (by kernel_rfl) rfl
def c154 : AC :=
.seq (.reg false [] [oO 0 (.assign (.const (.slice none 0 0)))])
 (.seq (.reg false [] [oO 1 (.buildSlice 210 6 #[(0, .const (.string { data := #[116, 111, 112] })), (1, .const (.string { data := #[105, 110, 116] })), (2, .const (.string { data := #[98, 111, 111, 108] })), (3, .const (.string { data := #[110, 117, 108, 108] })), (4, .const (.string { data := #[105, 110, 116, 115] })), (5, .const (.string { data := #[97, 110, 121] }))]), oO 0 (.assign (tT 1))])
 .ret)
theorem F154 : Fun1 Tryz.prog 154 2 c154 [.tmp 0] := Fun1.mk' AL.Tryz.follows_mixed Tryz.func154 rfl (by decide +kernel) Tryz.ntmps154 rfl (by kernel_rfl) rfl
def c152 : AC :=
.seq (.reg false [] [oO 2 (.assign (.const (.bool false)))])
 (.seq (.seq (.reg false [] [oO 5 (.move (tT 0)), oO 6 (cB .len #[tT 5] #[9]), oO 7 (.binOp .eql 3 (tT 6) (kI 0) 3), oO 8 (.move (tT 7)), oG 9 (.move (tT 0)) 8 false, oG 10 (cB .len #[tT 9] #[9]) 8 false, oG 11 (.binOp .gtr 3 (tT 10) (kI 24) 3) 8 false, oO 12 (.pick (tT 8) (.const (.bool true)) (tT 11))])
 (.cond (tT 12) (.seq (.reg false [] [oO 2 (.assign (.const (.bool false)))])
 (.ret))
 (.skip)))
 (.seq (.seq (.reg false [] [oO 13 (.move (tT 0)), oO 14 (cB .len #[tT 13] #[9]), oO 15 (.move (kI 0))])
 (.block 0 (.loop (.seq (.reg false [] [oO 16 (.binOp .lss 3 (tT 15) (tT 14) 3)])
 (.seq (.cond (tT 16) (.skip)
 (.exit 0))
 (.seq (.block 1 (.seq (.reg false [] [oO 17 (.move (tT 15)), oO 3 (.assign (tT 17))])
 (.seq (.reg false [] [oO 18 (.move (tT 0)), oO 19 (.move (tT 3)), oO 20 (.index 9 (tT 18) (tT 19)), oO 4 (.assign (tT 20))])
 (.block 2 (.seq (.seq (.reg false [] [oO 22 (.move (tT 4)), oO 23 (.binOp .geq 5 (tT 22) (kB 97) 5), oO 24 (.move (tT 23)), oG 25 (.move (tT 4)) 24 true, oG 26 (.binOp .leq 5 (tT 25) (kB 122) 5) 24 true, oO 27 (.pick (tT 24) (tT 26) (.const (.bool false))), oO 21 (.assign (tT 27))])
 (.cond (tT 21) (.skip)
 (.reg false [] [oO 28 (.move (tT 4)), oO 29 (.binOp .geq 5 (tT 28) (kB 65) 5), oO 30 (.move (tT 29)), oG 31 (.move (tT 4)) 30 true, oG 32 (.binOp .leq 5 (tT 31) (kB 90) 5) 30 true, oO 33 (.pick (tT 30) (tT 32) (.const (.bool false))), oO 21 (.assign (tT 33))])))
 (.cond (tT 21) (.skip)
 (.seq (.reg false [] [oO 35 (.move (tT 3)), oO 36 (.binOp .gtr 3 (tT 35) (kI 0) 3), oO 37 (.move (tT 36)), oG 38 (.move (tT 4)) 37 true, oG 39 (.binOp .geq 5 (tT 38) (kB 48) 5) 37 true, oG 40 (.move (tT 39)) 37 true, oG 41 (.move (tT 4)) 40 true, oG 42 (.binOp .leq 5 (tT 41) (kB 57) 5) 40 true, oG 43 (.pick (tT 40) (tT 42) (.const (.bool false))) 37 true, oG 44 (.move (tT 43)) 37 true, oG 45 (.move (tT 4)) 44 false, oG 46 (.binOp .eql 5 (tT 45) (kB 95) 5) 44 false, oG 47 (.pick (tT 44) (.const (.bool true)) (tT 46)) 37 true, oO 48 (.pick (tT 37) (tT 47) (.const (.bool false))), oO 34 (.assign (tT 48))])
 (.cond (tT 34) (.skip)
 (.seq (.reg false [] [oO 2 (.assign (.const (.bool false)))])
 (.ret))))))))))
 (.reg false [] [oO 49 (.binOp .add 3 (tT 15) (kI 1) 3), oO 15 (.move (tT 49))])))))))
 (.seq (.reg false [] [oO 2 (.assign (.const (.bool true)))])
 .ret)))
theorem F152 : Fun1 Tryz.prog 152 50 c152 [.tmp 2] := Fun1.mk' AL.Tryz.follows_mixed Tryz.func152 rfl (by decide +kernel) Tryz.ntmps152 rfl (by kernel_rfl) rfl
def c157 : AC :=
.seq (.reg false [] [oO 2 (.box 22 (tT 0)), oO 4 (.assign (kI 0))])
 (.seq (.reg false [] [oO 5 (.alloc 210)])
 (.seq (.reg true [] [⟨⟨some 8, .load 22 (tT 2), none⟩, false, true⟩, ⟨⟨some 9, .load 22 (tT 2), none⟩, false, true⟩, ⟨⟨some 10, .move (tT 1), none⟩, false, true⟩, ⟨⟨some 11, .indexAddr 22 (tT 9) (tT 10), none⟩, false, true⟩, ⟨⟨some 12, .fieldAddr 154 (tT 11) 1, none⟩, false, true⟩, ⟨⟨some 13, .load 3 (tT 12), none⟩, false, true⟩, oO 14 (.makeFunc (.func 190) #[] #[tT 2, tT 5]), oO 15 (cF (.func 189) #[tT 8, tT 13, tT 14] #[22, 3, 188])])
 (.seq (.seq (.reg false [] [oO 16 (.load 22 (tT 2)), oO 17 (.move (tT 1)), oO 18 (.indexAddr 22 (tT 16) (tT 17)), oO 19 (.fieldAddr 154 (tT 18) 2), oO 20 (.load 152 (tT 19)), oO 21 (cB .len #[tT 20] #[152]), oO 22 (.move (kI 0))])
 (.block 0 (.loop (.seq (.reg false [] [oO 23 (.binOp .lss 3 (tT 22) (tT 21) 3)])
 (.seq (.cond (tT 23) (.skip)
 (.exit 0))
 (.seq (.block 1 (.seq (.reg false [] [oO 24 (.indexAddr 152 (tT 20) (tT 22)), oO 25 (.load 157 (tT 24)), oO 7 (.alloc 157), oN (.store 157 (tT 7) (tT 25))])
 (.seq (.block 2 (.seq (.reg false [] [oO 27 (.fieldAddr 157 (tT 7) 0), oO 28 (.load 9 (tT 27)), oO 29 (cF (.func 152) #[tT 28] #[9]), oO 30 (.unOp .not 4 (tT 29)), oO 26 (.assign (tT 30))])
 (.cond (tT 26) (.seq (.reg false [] [oO 4 (.assign (kI 6))])
 (.ret))
 (.seq (.reg false [] [oO 32 (.load 210 (tT 5)), oO 33 (.fieldAddr 157 (tT 7) 0), oO 34 (.load 9 (tT 33)), oO 35 (cF (.func 153) #[tT 32, tT 34] #[210, 9]), oO 31 (.assign (tT 35))])
 (.cond (tT 31) (.seq (.reg false [] [oO 4 (.assign (kI 20))])
 (.ret))
 (.seq (.reg false [] [oO 37 (.load 22 (tT 2)), oO 38 (.fieldAddr 157 (tT 7) 1), oO 39 (.load 81 (tT 38)), oO 40 (cF (.func 191) #[tT 37, tT 39] #[22, 81]), oO 41 (.unOp .not 4 (tT 40)), oO 36 (.assign (tT 41))])
 (.cond (tT 36) (.seq (.reg false [] [oO 4 (.assign (kI 22))])
 (.ret))
 (.skip))))))))
 (.reg false [] [oO 42 (.load 210 (tT 5)), oO 43 (.fieldAddr 157 (tT 7) 0), oO 44 (.load 9 (tT 43)), oO 45 (.buildSlice 210 1 #[(0, .tmp 44)]), oO 46 (cB .append #[tT 42, tT 45] #[210, 210]), oN (.store 210 (tT 5) (tT 46))]))))
 (.reg false [] [oO 47 (.binOp .add 3 (tT 22) (kI 1) 3), oO 22 (.move (tT 47))])))))))
 (.seq (.seq (.reg false [] [oO 48 (.load 210 (tT 5)), oO 49 (cB .len #[tT 48] #[210]), oO 50 (.binOp .gtr 3 (tT 49) (kI 32) 3)])
 (.cond (tT 50) (.seq (.reg false [] [oO 4 (.assign (kI 4))])
 (.ret))
 (.skip)))
 (.seq (.reg false [] [oO 4 (.assign (kI 0))])
 .ret)))))
theorem F157 : Fun1 Tryz.prog 157 51 c157 [.tmp 4] := Fun1.mk' AL.Tryz.follows_mixed Tryz.func157 rfl (by decide +kernel) Tryz.ntmps157 rfl (by kernel_rfl) rfl
def c190 : AC :=
.seq (.reg false [] [oO 4 (.assign (.const (.bool false)))])
 (.seq (.seq (.reg false [] [oO 7 (.load 22 (tT 1)), oO 8 (.move (tT 0)), oO 9 (.indexAddr 22 (tT 7) (tT 8)), oO 10 (.fieldAddr 154 (tT 9) 2), oO 11 (.load 152 (tT 10)), oO 12 (cB .len #[tT 11] #[152]), oO 13 (.move (kI 0))])
 (.block 0 (.loop (.seq (.reg false [] [oO 14 (.binOp .lss 3 (tT 13) (tT 12) 3)])
 (.seq (.cond (tT 14) (.skip)
 (.exit 0))
 (.seq (.block 1 (.seq (.reg false [] [oO 15 (.indexAddr 152 (tT 11) (tT 13)), oO 16 (.load 157 (tT 15)), oO 6 (.alloc 157), oN (.store 157 (tT 6) (tT 16))])
 (.reg false [] [oO 17 (.load 210 (tT 2)), oO 18 (.fieldAddr 157 (tT 6) 0), oO 19 (.load 9 (tT 18)), oO 20 (.buildSlice 210 1 #[(0, .tmp 19)]), oO 21 (cB .append #[tT 17, tT 20] #[210, 210]), oN (.store 210 (tT 2) (tT 21))])))
 (.reg false [] [oO 22 (.binOp .add 3 (tT 13) (kI 1) 3), oO 13 (.move (tT 22))])))))))
 (.seq (.reg false [] [oO 4 (.assign (.const (.bool true)))])
 .ret))
theorem F190 : Fun1 Tryz.prog 190 23 c190 [.tmp 4] := Fun1.mk' AL.Tryz.follows_mixed Tryz.func190 rfl (by decide +kernel) Tryz.ntmps190 rfl (by kernel_rfl) rfl
def c189 : AC :=
.block 0 (.loop (.seq (.seq (.reg false [] [oO 7 (.move (tT 1)), oO 8 (.binOp .geq 3 (tT 7) (kI 0) 3), oO 9 (.move (tT 8)), oG 10 (.move (tT 1)) 9 true, oG 11 (.move (tT 0)) 9 true, oG 12 (cB .len #[tT 11] #[22]) 9 true, oG 13 (.binOp .lss 3 (tT 10) (tT 12) 3) 9 true, oO 14 (.pick (tT 9) (tT 13) (.const (.bool false))), oO 15 (.move (tT 14)), oG 16 (.move (tT 2)) 15 true, oG 17 (.move (tT 1)) 15 true, oG 18 (cF (tT 16) #[tT 17] #[3]) 15 true, oO 19 (.pick (tT 15) (tT 18) (.const (.bool false)))])
 (.cond (tT 19) (.skip)
 (.exit 0)))
 (.block 1 (.seq (.reg false [] [oO 20 (.move (tT 0)), oO 21 (.move (tT 1)), oO 22 (.indexAddr 22 (tT 20) (tT 21)), oO 23 (.fieldAddr 154 (tT 22) 1), oO 24 (.load 3 (tT 23)), oO 6 (.assign (tT 24))])
 (.seq (.seq (.reg false [] [oO 25 (.move (tT 6)), oO 26 (.move (tT 1)), oO 27 (.binOp .geq 3 (tT 25) (tT 26) 3)])
 (.cond (tT 27) (.ret)
 (.skip)))
 (.reg false [] [oO 28 (.move (tT 6)), oO 1 (.assign (tT 28))]))))))
theorem F189 : Fun1 Tryz.prog 189 29 c189 [] := Fun1.mk' AL.Tryz.follows_mixed Tryz.func189 rfl (by decide +kernel) Tryz.ntmps189 rfl (by kernel_rfl) rfl
def c191 : AC :=
.seq (.reg false [] [oO 4 (.assign (.const (.bool false)))])
 (.seq (.reg false [] [oO 5 (.move (tT 1)), oO 6 (.binOp .eql 81 (tT 5) (kB 1) 81), oO 7 (.move (tT 6)), oG 8 (.move (tT 1)) 7 false, oG 9 (.binOp .eql 81 (tT 8) (kB 2) 81) 7 false, oO 10 (.pick (tT 7) (.const (.bool true)) (tT 9)), oO 11 (.move (tT 10)), oG 12 (.move (tT 1)) 11 false, oG 13 (.binOp .eql 81 (tT 12) (kB 4) 81) 11 false, oO 14 (.pick (tT 11) (.const (.bool true)) (tT 13)), oO 15 (.move (tT 14)), oG 16 (.move (tT 1)) 15 false, oG 17 (.binOp .eql 81 (tT 16) (kB 5) 81) 15 false, oO 18 (.pick (tT 15) (.const (.bool true)) (tT 17)), oO 19 (.move (tT 18)), oG 20 (.move (tT 0)) 19 false, oG 21 (.move (tT 1)) 19 false, oG 22 (cF (.func 170) #[tT 20, tT 21] #[22, 81]) 19 false, oG 23 (.binOp .geq 3 (tT 22) (kI 0) 3) 19 false, oO 24 (.pick (tT 19) (.const (.bool true)) (tT 23)), oO 4 (.assign (tT 24))])
 .ret)
theorem F191 : Fun1 Tryz.prog 191 25 c191 [.tmp 4] := Fun1.mk' AL.Tryz.follows_mixed Tryz.func191 rfl (by decide +kernel) Tryz.ntmps191 rfl (by kernel_rfl) rfl
def c170 : AC :=
.seq (.reg false [] [oO 4 (.assign (kI 0))])
 (.seq (.seq (.reg false [] [oO 5 (.move (tT 1)), oO 6 (.binOp .lss 81 (tT 5) (kB 16) 81), oO 7 (.move (tT 6)), oG 8 (.move (tT 1)) 7 false, oG 9 (.binOp .sub 81 (tT 8) (kB 16) 81) 7 false, oG 10 (.convert 81 3 (tT 9)) 7 false, oG 11 (.move (tT 0)) 7 false, oG 12 (cB .len #[tT 11] #[22]) 7 false, oG 13 (.binOp .geq 3 (tT 10) (tT 12) 3) 7 false, oO 14 (.pick (tT 7) (.const (.bool true)) (tT 13))])
 (.cond (tT 14) (.seq (.reg false [] [oO 4 (.assign (kI (-1)))])
 (.ret))
 (.skip)))
 (.seq (.reg false [] [oO 15 (.move (tT 1)), oO 16 (.binOp .sub 81 (tT 15) (kB 16) 81), oO 17 (.convert 81 3 (tT 16)), oO 4 (.assign (tT 17))])
 .ret))
theorem F170 : Fun1 Tryz.prog 170 18 c170 [.tmp 4] := Fun1.mk' AL.Tryz.follows_mixed Tryz.func170 rfl (by decide +kernel) Tryz.ntmps170 rfl (by kernel_rfl) rfl
def c121 : AC :=
.seq (.reg false [] [oO 4 (.assign (.const (.bool false)))])
 (.seq (.reg false [] [oO 5 (.move (tT 0)), oO 6 (.move (tT 1)), oO 7 (cF (.func 139) #[tT 5, tT 6] #[22, 81]), oO 8 (.move (tT 7)), oG 9 (.move (tT 1)) 8 true, oG 10 (.binOp .neq 81 (tT 9) (kB 0) 81) 8 true, oO 11 (.pick (tT 8) (tT 10) (.const (.bool false))), oO 12 (.move (tT 11)), oG 13 (.move (tT 1)) 12 true, oG 14 (.binOp .neq 81 (tT 13) (kB 3) 81) 12 true, oO 15 (.pick (tT 12) (tT 14) (.const (.bool false))), oO 4 (.assign (tT 15))])
 .ret)
theorem F121 : Fun1 Tryz.prog 121 16 c121 [.tmp 4] := Fun1.mk' AL.Tryz.follows_mixed Tryz.func121 rfl (by decide +kernel) Tryz.ntmps121 rfl (by kernel_rfl) rfl
def c120 : AC :=
.seq (.reg false [] [oO 3 (.assign (.const (.bool false)))])
 (.seq (.reg false [] [oO 4 (.fieldAddr 25 (tT 1) 0), oO 5 (.load 22 (tT 4)), oO 6 (.move (tT 0)), oO 7 (cF (.func 121) #[tT 5, tT 6] #[22, 81]), oO 8 (.unOp .not 4 (tT 7)), oO 3 (.assign (tT 8))])
 .ret)
theorem F120 : Fun1 Tryz.prog 120 9 c120 [.tmp 3] := Fun1.mk' AL.Tryz.follows_mixed Tryz.func120 rfl (by decide +kernel) Tryz.ntmps120 rfl (by kernel_rfl) rfl
def c122 : AC :=
.seq (.reg false [] [oO 4 (.assign (.const (.bool false)))])
 (.seq (.reg false [] [oO 5 (.move (tT 0)), oO 6 (.move (tT 1)), oO 7 (cF (.func 158) #[tT 5, tT 6] #[93, 184]), oO 8 (.binOp .geq 3 (tT 7) (kI 0) 3), oO 4 (.assign (tT 8))])
 .ret)
theorem F122 : Fun1 Tryz.prog 122 9 c122 [.tmp 4] := Fun1.mk' AL.Tryz.follows_mixed Tryz.func122 rfl (by decide +kernel) Tryz.ntmps122 rfl (by kernel_rfl) rfl
def c158 : AC :=
.seq (.reg false [] [oO 4 (.assign (kI 0))])
 (.seq (.seq (.reg false [] [oO 6 (.move (tT 0)), oO 7 (cB .len #[tT 6] #[93]), oO 8 (.move (kI 0))])
 (.block 0 (.loop (.seq (.reg false [] [oO 9 (.binOp .lss 3 (tT 8) (tT 7) 3)])
 (.seq (.cond (tT 9) (.skip)
 (.exit 0))
 (.seq (.block 1 (.seq (.reg false [] [oO 10 (.move (tT 8)), oO 5 (.assign (tT 10))])
 (.seq (.reg false [] [oO 11 (.move (tT 1)), oO 12 (.move (tT 0)), oO 13 (.move (tT 5)), oO 14 (.indexAddr 93 (tT 12) (tT 13)), oO 15 (.load 81 (tT 14)), oO 16 (cF (tT 11) #[tT 15] #[81])])
 (.cond (tT 16) (.seq (.reg false [] [oO 17 (.move (tT 5)), oO 4 (.assign (tT 17))])
 (.ret))
 (.skip)))))
 (.reg false [] [oO 18 (.binOp .add 3 (tT 8) (kI 1) 3), oO 8 (.move (tT 18))])))))))
 (.seq (.reg false [] [oO 4 (.assign (kI (-1)))])
 .ret))
theorem F158 : Fun1 Tryz.prog 158 19 c158 [.tmp 4] := Fun1.mk' AL.Tryz.follows_mixed Tryz.func158 rfl (by decide +kernel) Tryz.ntmps158 rfl (by kernel_rfl) rfl
def c139 : AC :=
.seq (.reg false [] [oO 4 (.assign (.const (.bool false)))])
 (.seq (.reg false [] [oO 5 (.move (tT 1)), oO 6 (.binOp .leq 81 (tT 5) (kB 5) 81), oO 7 (.move (tT 6)), oG 8 (.move (tT 0)) 7 false, oG 9 (.move (tT 1)) 7 false, oG 10 (cF (.func 170) #[tT 8, tT 9] #[22, 81]) 7 false, oG 11 (.binOp .geq 3 (tT 10) (kI 0) 3) 7 false, oO 12 (.pick (tT 7) (.const (.bool true)) (tT 11)), oO 4 (.assign (tT 12))])
 .ret)
theorem F139 : Fun1 Tryz.prog 139 13 c139 [.tmp 4] := Fun1.mk' AL.Tryz.follows_mixed Tryz.func139 rfl (by decide +kernel) Tryz.ntmps139 rfl (by kernel_rfl) rfl
def c97 : AC :=
.seq (.reg false [] [oO 6 (.alloc 84), oO 7 (.assign (kI 0))])
 (.seq (.reg false [] [oO 13 (.move (tT 2)), oO 14 (cF (.func 140) #[tT 13] #[3]), oO 12 (.move (tT 14)), oO 15 (.extract (tT 12) 0), oO 16 (.extract (tT 12) 1), oO 8 (.alloc 84), oN (.store 84 (tT 8) (tT 15)), oO 9 (.assign (tT 16))])
 (.seq (.seq (.reg false [] [oO 17 (.move (tT 9)), oO 18 (.binOp .neq 32 (tT 17) (kI 0) 32), oO 19 (.move (tT 18)), oG 20 (.move (tT 1)) 19 false, oG 21 (cB .len #[tT 20] #[93]) 19 false, oG 22 (.binOp .gtr 3 (tT 21) (kI 8) 3) 19 false, oO 23 (.pick (tT 19) (.const (.bool true)) (tT 22)), oO 24 (.move (tT 23)), oG 25 (.move (tT 1)) 24 false, oG 26 (cB .len #[tT 25] #[93]) 24 false, oG 27 (.move (tT 2)) 24 false, oG 28 (.binOp .gtr 3 (tT 26) (tT 27) 3) 24 false, oO 29 (.pick (tT 24) (.const (.bool true)) (tT 28))])
 (.cond (tT 29) (.seq (.reg false [] [oO 30 (.build 84 #[]), oN (.store 84 (tT 6) (tT 30)), oO 7 (.assign (kI 1))])
 (.ret))
 (.skip)))
 (.seq (.seq (.reg false [] [oO 31 (.move (tT 1)), oO 32 (cB .len #[tT 31] #[93]), oO 33 (.move (kI 0))])
 (.block 0 (.loop (.seq (.reg false [] [oO 34 (.binOp .lss 3 (tT 33) (tT 32) 3)])
 (.seq (.cond (tT 34) (.skip)
 (.exit 0))
 (.seq (.block 1 (.seq (.reg false [] [oO 35 (.move (tT 33)), oO 36 (.indexAddr 93 (tT 31) (tT 33)), oO 37 (.load 81 (tT 36)), oO 10 (.assign (tT 35)), oO 11 (.assign (tT 37))])
 (.seq (.seq (.reg false [] [oO 38 (.move (tT 0)), oO 39 (.move (tT 11)), oO 40 (cF (.func 139) #[tT 38, tT 39] #[22, 81]), oO 41 (.unOp .not 4 (tT 40)), oO 42 (.move (tT 41)), oG 43 (.move (tT 11)) 42 false, oG 44 (.binOp .eql 81 (tT 43) (kB 0) 81) 42 false, oO 45 (.pick (tT 42) (.const (.bool true)) (tT 44)), oO 46 (.move (tT 45)), oG 47 (.move (tT 11)) 46 false, oG 48 (.binOp .eql 81 (tT 47) (kB 3) 81) 46 false, oO 49 (.pick (tT 46) (.const (.bool true)) (tT 48))])
 (.cond (tT 49) (.seq (.reg false [] [oO 50 (.build 84 #[]), oN (.store 84 (tT 6) (tT 50)), oO 7 (.assign (kI 1))])
 (.ret))
 (.skip)))
 (.reg false [] [oO 51 (.move (tT 10)), oO 52 (.move (tT 11)), oO 53 (.fieldAddr 84 (tT 8) 2), oO 54 (.indexAddr 82 (tT 53) (tT 51)), oN (.store 81 (tT 54) (tT 52))]))))
 (.reg false [] [oO 55 (.binOp .add 3 (tT 33) (kI 1) 3), oO 33 (.move (tT 55))])))))))
 (.seq (.reg false [] [oO 56 (.load 84 (tT 8)), oN (.store 84 (tT 6) (tT 56)), oO 7 (.assign (kI 0))])
 .ret))))
theorem F97 : Fun1 Tryz.prog 97 57 c97 [.cell 6 84, .tmp 7] := Fun1.mk' AL.Tryz.follows_mixed Tryz.func97 rfl (by decide +kernel) Tryz.ntmps97 rfl (by kernel_rfl) rfl
def c140 : AC :=
.seq (.reg false [] [oO 2 (.alloc 84), oO 3 (.assign (kI 0))])
 (.seq (.seq (.reg false [] [oO 4 (.move (tT 0)), oO 5 (.binOp .lss 3 (tT 4) (kI 0) 3), oO 6 (.move (tT 5)), oG 7 (.move (tT 0)) 6 false, oG 8 (.binOp .gtr 3 (tT 7) (kI 16) 3) 6 false, oO 9 (.pick (tT 6) (.const (.bool true)) (tT 8))])
 (.cond (tT 9) (.seq (.reg false [] [oO 10 (.build 84 #[]), oN (.store 84 (tT 2) (tT 10)), oO 3 (.assign (kI 1))])
 (.ret))
 (.skip)))
 (.seq (.reg false [] [oO 11 (.move (tT 0)), oO 12 (.build 84 #[(0, .tmp 11)]), oN (.store 84 (tT 2) (tT 12)), oO 3 (.assign (kI 0))])
 .ret))
theorem F140 : Fun1 Tryz.prog 140 13 c140 [.cell 2 84, .tmp 3] := Fun1.mk' AL.Tryz.follows_mixed Tryz.func140 rfl (by decide +kernel) Tryz.ntmps140 rfl (by kernel_rfl) rfl
def c100 : AC :=
.seq (.reg false [] [oO 2 (.assign (kI 0)), oO 3 (.assign (kI 0))])
 (.seq (.seq (.reg false [] [oO 4 (.assign (kI 0))])
 (.block 0 (.loop (.seq (.seq (.reg false [] [oO 6 (.move (tT 4)), oO 7 (.move (tT 0)), oO 8 (cB .len #[tT 7] #[22]), oO 9 (.binOp .lss 3 (tT 6) (tT 8) 3)])
 (.cond (tT 9) (.skip)
 (.exit 0)))
 (.seq (.block 1 (.seq (.reg false [] [oO 12 (.move (tT 0)), oO 13 (.move (tT 4)), oO 14 (cF (.func 146) #[tT 12, tT 13] #[22, 3]), oO 5 (.assign (tT 14))])
 (.seq (.reg false [] [oO 15 (.move (tT 5)), oO 16 (.binOp .neq 32 (tT 15) (kI 0) 32)])
 (.cond (tT 16) (.seq (.reg false [] [oO 17 (.move (tT 4)), oO 18 (.move (tT 5)), oO 2 (.assign (tT 17)), oO 3 (.assign (tT 18))])
 (.ret))
 (.skip)))))
 (.reg false [] [oO 10 (.move (tT 4)), oO 11 (.binOp .add 3 (tT 10) (kI 1) 3), oO 4 (.assign (tT 11))]))))))
 (.seq (.reg false [] [oO 2 (.assign (kI 0)), oO 3 (.assign (kI 0))])
 .ret))
theorem F100 : Fun1 Tryz.prog 100 19 c100 [.tmp 2, .tmp 3] := Fun1.mk' AL.Tryz.follows_mixed Tryz.func100 rfl (by decide +kernel) Tryz.ntmps100 rfl (by kernel_rfl) rfl
def c146 : AC :=
.seq (.reg false [] [oO 4 (.assign (kI 0))])
 (.seq (.reg false [] [oO 10 (.move (tT 0)), oO 11 (.move (tT 1)), oO 12 (.indexAddr 22 (tT 10) (tT 11)), oO 13 (.load 154 (tT 12)), oO 5 (.alloc 154), oN (.store 154 (tT 5) (tT 13))])
 (.seq (.seq (.reg false [] [oO 14 (.move (tT 1)), oO 15 (.binOp .geq 3 (tT 14) (kI 32) 3)])
 (.cond (tT 15) (.seq (.reg false [] [oO 4 (.assign (kI 4))])
 (.ret))
 (.skip)))
 (.seq (.seq (.reg false [] [oO 16 (.fieldAddr 154 (tT 5) 0), oO 17 (.load 9 (tT 16)), oO 18 (cF (.func 177) #[tT 17] #[9]), oO 19 (.unOp .not 4 (tT 18)), oO 20 (.move (tT 19)), oG 21 (.fieldAddr 154 (tT 5) 0) 20 false, oG 22 (.load 9 (tT 21)) 20 false, oG 23 (cF (.func 178) #[tT 22] #[9]) 20 false, oO 24 (.pick (tT 20) (.const (.bool true)) (tT 23))])
 (.cond (tT 24) (.seq (.reg false [] [oO 4 (.assign (kI 6))])
 (.ret))
 (.skip)))
 (.seq (.seq (.reg false [] [oO 6 (.assign (kI 0))])
 (.block 0 (.loop (.seq (.seq (.reg false [] [oO 25 (.move (tT 6)), oO 26 (.move (tT 1)), oO 27 (.binOp .lss 3 (tT 25) (tT 26) 3)])
 (.cond (tT 27) (.skip)
 (.exit 0)))
 (.seq (.block 1 (.seq (.reg true [] [⟨⟨some 30, .move (tT 0), none⟩, false, true⟩, ⟨⟨some 31, .move (tT 6), none⟩, false, true⟩, ⟨⟨some 32, .indexAddr 22 (tT 30) (tT 31), none⟩, false, true⟩, ⟨⟨some 33, .fieldAddr 154 (tT 32) 0, none⟩, false, true⟩, ⟨⟨some 34, .load 9 (tT 33), none⟩, false, true⟩, oO 35 (.fieldAddr 154 (tT 5) 0), oO 36 (.load 9 (tT 35)), oO 37 (.binOp .eql 9 (tT 34) (tT 36) 9)])
 (.cond (tT 37) (.seq (.reg false [] [oO 4 (.assign (kI 20))])
 (.ret))
 (.skip))))
 (.reg false [] [oO 28 (.move (tT 6)), oO 29 (.binOp .add 3 (tT 28) (kI 1) 3), oO 6 (.assign (tT 29))]))))))
 (.seq (.seq (.reg false [] [oO 38 (.fieldAddr 154 (tT 5) 1), oO 39 (.load 3 (tT 38)), oO 40 (.binOp .lss 3 (tT 39) (kI (-1)) 3), oO 41 (.move (tT 40)), oG 42 (.fieldAddr 154 (tT 5) 1) 41 false, oG 43 (.load 3 (tT 42)) 41 false, oG 44 (.move (tT 1)) 41 false, oG 45 (.binOp .geq 3 (tT 43) (tT 44) 3) 41 false, oO 46 (.pick (tT 41) (.const (.bool true)) (tT 45))])
 (.cond (tT 46) (.seq (.reg false [] [oO 4 (.assign (kI 21))])
 (.ret))
 (.skip)))
 (.seq (.reg false [] [oO 47 (.move (tT 0)), oO 48 (.fieldAddr 154 (tT 5) 1), oO 49 (.load 3 (tT 48)), oO 50 (cF (.func 179) #[tT 47, tT 49] #[22, 3]), oO 7 (.assign (tT 50))])
 (.seq (.seq (.reg false [] [oO 8 (.assign (kI 0))])
 (.block 2 (.loop (.seq (.seq (.reg false [] [oO 51 (.move (tT 8)), oO 52 (.fieldAddr 154 (tT 5) 2), oO 53 (.load 152 (tT 52)), oO 54 (cB .len #[tT 53] #[152]), oO 55 (.binOp .lss 3 (tT 51) (tT 54) 3)])
 (.cond (tT 55) (.skip)
 (.exit 2)))
 (.seq (.block 3 (.seq (.reg false [] [oO 58 (.fieldAddr 154 (tT 5) 2), oO 59 (.load 152 (tT 58)), oO 60 (.move (tT 8)), oO 61 (.indexAddr 152 (tT 59) (tT 60)), oO 62 (.load 157 (tT 61)), oO 9 (.alloc 157), oN (.store 157 (tT 9) (tT 62))])
 (.seq (.seq (.reg false [] [oO 63 (.fieldAddr 157 (tT 9) 0), oO 64 (.load 9 (tT 63)), oO 65 (cF (.func 177) #[tT 64] #[9]), oO 66 (.unOp .not 4 (tT 65))])
 (.cond (tT 66) (.seq (.reg false [] [oO 4 (.assign (kI 6))])
 (.ret))
 (.skip)))
 (.seq (.seq (.reg true [] [⟨⟨some 67, .move (tT 7), none⟩, false, true⟩, oO 68 (.fieldAddr 157 (tT 9) 0), oO 69 (.load 9 (tT 68)), oO 70 (cF (.func 180) #[tT 67, tT 69] #[152, 9]), oO 71 (.move (tT 70)), ⟨⟨some 72, .fieldAddr 154 (tT 5) 2, some (71, false)⟩, false, true⟩, ⟨⟨some 73, .load 152 (tT 72), some (71, false)⟩, false, true⟩, ⟨⟨some 74, .move (tT 8), some (71, false)⟩, false, true⟩, ⟨⟨some 75, .slice 152 (tT 73) none (some (tT 74)) none, some (71, false)⟩, false, true⟩, oG 76 (.fieldAddr 157 (tT 9) 0) 71 false, oG 77 (.load 9 (tT 76)) 71 false, oG 78 (cF (.func 180) #[tT 75, tT 77] #[152, 9]) 71 false, oO 79 (.pick (tT 71) (.const (.bool true)) (tT 78))])
 (.cond (tT 79) (.seq (.reg false [] [oO 4 (.assign (kI 20))])
 (.ret))
 (.skip)))
 (.seq (.reg false [] [oO 80 (.move (tT 0)), oO 81 (.fieldAddr 157 (tT 9) 1), oO 82 (.load 81 (tT 81)), oO 83 (cF (.func 150) #[tT 80, tT 82] #[22, 81]), oO 84 (.unOp .not 4 (tT 83))])
 (.cond (tT 84) (.seq (.reg false [] [oO 4 (.assign (kI 22))])
 (.ret))
 (.skip)))))))
 (.reg false [] [oO 56 (.move (tT 8)), oO 57 (.binOp .add 3 (tT 56) (kI 1) 3), oO 8 (.assign (tT 57))]))))))
 (.seq (.seq (.reg false [] [oO 85 (.fieldAddr 154 (tT 5) 2), oO 86 (.load 152 (tT 85)), oO 87 (cB .len #[tT 86] #[152]), oO 88 (.move (tT 7)), oO 89 (cB .len #[tT 88] #[152]), oO 90 (.binOp .sub 3 (kI 32) (tT 89) 3), oO 91 (.binOp .gtr 3 (tT 87) (tT 90) 3)])
 (.cond (tT 91) (.seq (.reg false [] [oO 4 (.assign (kI 4))])
 (.ret))
 (.skip)))
 (.seq (.reg false [] [oO 4 (.assign (kI 0))])
 .ret)))))))))
theorem F146 : Fun1 Tryz.prog 146 92 c146 [.tmp 4] := Fun1.mk' AL.Tryz.follows_mixed Tryz.func146 rfl (by decide +kernel) Tryz.ntmps146 rfl (by kernel_rfl) rfl
def c177 : AC :=
.seq (.reg false [] [oO 2 (.assign (.const (.bool false)))])
 (.seq (.seq (.reg false [] [oO 6 (.move (tT 0)), oO 7 (cB .len #[tT 6] #[9]), oO 8 (.binOp .lss 3 (tT 7) (kI 1) 3), oO 9 (.move (tT 8)), oG 10 (.move (tT 0)) 9 false, oG 11 (cB .len #[tT 10] #[9]) 9 false, oG 12 (.binOp .gtr 3 (tT 11) (kI 24) 3) 9 false, oO 13 (.pick (tT 9) (.const (.bool true)) (tT 12))])
 (.cond (tT 13) (.seq (.reg false [] [oO 2 (.assign (.const (.bool false)))])
 (.ret))
 (.skip)))
 (.seq (.seq (.reg false [] [oO 3 (.assign (kI 0))])
 (.block 0 (.loop (.seq (.seq (.reg false [] [oO 14 (.move (tT 3)), oO 15 (.move (tT 0)), oO 16 (cB .len #[tT 15] #[9]), oO 17 (.binOp .lss 3 (tT 14) (tT 16) 3)])
 (.cond (tT 17) (.skip)
 (.exit 0)))
 (.seq (.block 1 (.seq (.reg false [] [oO 20 (.move (tT 0)), oO 21 (.move (tT 3)), oO 22 (.index 9 (tT 20) (tT 21)), oO 4 (.assign (tT 22))])
 (.seq (.reg false [] [oO 23 (.move (tT 4)), oO 24 (.binOp .geq 5 (tT 23) (kB 97) 5), oO 25 (.move (tT 24)), oG 26 (.move (tT 4)) 25 true, oG 27 (.binOp .leq 5 (tT 26) (kB 122) 5) 25 true, oO 28 (.pick (tT 25) (tT 27) (.const (.bool false))), oO 29 (.move (tT 28)), oG 30 (.move (tT 4)) 29 false, oG 31 (.binOp .geq 5 (tT 30) (kB 65) 5) 29 false, oG 32 (.move (tT 31)) 29 false, oG 33 (.move (tT 4)) 32 true, oG 34 (.binOp .leq 5 (tT 33) (kB 90) 5) 32 true, oG 35 (.pick (tT 32) (tT 34) (.const (.bool false))) 29 false, oO 36 (.pick (tT 29) (.const (.bool true)) (tT 35)), oO 5 (.assign (tT 36))])
 (.seq (.reg false [] [oO 37 (.move (tT 5)), oO 38 (.unOp .not 4 (tT 37)), oO 39 (.move (tT 38)), oG 40 (.move (tT 3)) 39 true, oG 41 (.binOp .eql 3 (tT 40) (kI 0) 3) 39 true, oG 42 (.move (tT 41)) 39 true, oG 43 (.move (tT 4)) 42 false, oG 44 (.binOp .neq 5 (tT 43) (kB 95) 5) 42 false, oG 45 (.move (tT 44)) 42 false, oG 46 (.move (tT 4)) 45 true, oG 47 (.binOp .lss 5 (tT 46) (kB 48) 5) 45 true, oG 48 (.move (tT 47)) 45 true, oG 49 (.move (tT 4)) 48 false, oG 50 (.binOp .gtr 5 (tT 49) (kB 57) 5) 48 false, oG 51 (.pick (tT 48) (.const (.bool true)) (tT 50)) 45 true, oG 52 (.pick (tT 45) (tT 51) (.const (.bool false))) 42 false, oG 53 (.pick (tT 42) (.const (.bool true)) (tT 52)) 39 true, oO 54 (.pick (tT 39) (tT 53) (.const (.bool false)))])
 (.cond (tT 54) (.seq (.reg false [] [oO 2 (.assign (.const (.bool false)))])
 (.ret))
 (.skip))))))
 (.reg false [] [oO 18 (.move (tT 3)), oO 19 (.binOp .add 3 (tT 18) (kI 1) 3), oO 3 (.assign (tT 19))]))))))
 (.seq (.reg false [] [oO 2 (.assign (.const (.bool true)))])
 .ret)))
theorem F177 : Fun1 Tryz.prog 177 55 c177 [.tmp 2] := Fun1.mk' AL.Tryz.follows_mixed Tryz.func177 rfl (by decide +kernel) Tryz.ntmps177 rfl (by kernel_rfl) rfl
def c178 : AC :=
.seq (.reg false [] [oO 2 (.assign (.const (.bool false)))])
 (.seq (.seq (.reg false [] [oO 3 (.assign (kB 0))])
 (.block 0 (.loop (.seq (.seq (.reg false [] [oO 4 (.move (tT 3)), oO 5 (.binOp .leq 81 (tT 4) (kB 5) 81)])
 (.cond (tT 5) (.skip)
 (.exit 0)))
 (.seq (.block 1 (.seq (.reg false [] [oO 8 (.move (tT 3)), oO 9 (cF (.func 215) #[tT 8] #[81]), oO 10 (.move (tT 0)), oO 11 (.binOp .eql 9 (tT 9) (tT 10) 9)])
 (.cond (tT 11) (.seq (.reg false [] [oO 2 (.assign (.const (.bool true)))])
 (.ret))
 (.skip))))
 (.reg false [] [oO 6 (.move (tT 3)), oO 7 (.binOp .add 81 (tT 6) (kB 1) 81), oO 3 (.assign (tT 7))]))))))
 (.seq (.reg false [] [oO 2 (.assign (.const (.bool false)))])
 .ret))
theorem F178 : Fun1 Tryz.prog 178 12 c178 [.tmp 2] := Fun1.mk' AL.Tryz.follows_mixed Tryz.func178 rfl (by decide +kernel) Tryz.ntmps178 rfl (by kernel_rfl) rfl
def c215 : AC :=
.seq (.reg false [] [oO 2 (.assign (.const (.string { data := #[] })))])
 (.seq (.seq (.reg false [] [oO 3 (.move (tT 0))])
 (.block 0 (.seq (.reg false [] [oO 5 (.binOp .eql 81 (tT 3) (kB 0) 81), oO 4 (.assign (tT 5))])
 (.cond (tT 4) (.seq (.reg false [] [oO 2 (.assign (.const (.string { data := #[116, 111, 112] })))])
 (.ret))
 (.seq (.reg false [] [oO 7 (.binOp .eql 81 (tT 3) (kB 1) 81), oO 6 (.assign (tT 7))])
 (.cond (tT 6) (.seq (.reg false [] [oO 2 (.assign (.const (.string { data := #[105, 110, 116] })))])
 (.ret))
 (.seq (.reg false [] [oO 9 (.binOp .eql 81 (tT 3) (kB 2) 81), oO 8 (.assign (tT 9))])
 (.cond (tT 8) (.seq (.reg false [] [oO 2 (.assign (.const (.string { data := #[98, 111, 111, 108] })))])
 (.ret))
 (.seq (.reg false [] [oO 11 (.binOp .eql 81 (tT 3) (kB 3) 81), oO 10 (.assign (tT 11))])
 (.cond (tT 10) (.seq (.reg false [] [oO 2 (.assign (.const (.string { data := #[110, 117, 108, 108] })))])
 (.ret))
 (.seq (.reg false [] [oO 13 (.binOp .eql 81 (tT 3) (kB 4) 81), oO 12 (.assign (tT 13))])
 (.cond (tT 12) (.seq (.reg false [] [oO 2 (.assign (.const (.string { data := #[105, 110, 116, 115] })))])
 (.ret))
 (.seq (.reg false [] [oO 15 (.binOp .eql 81 (tT 3) (kB 5) 81), oO 14 (.assign (tT 15))])
 (.cond (tT 14) (.seq (.reg false [] [oO 2 (.assign (.const (.string { data := #[97, 110, 121] })))])
 (.ret))
 (.skip)))))))))))))))
 (.seq (.reg false [] [oO 2 (.assign (.const (.string { data := #[] })))])
 .ret))
theorem F215 : Fun1 Tryz.prog 215 16 c215 [.tmp 2] := Fun1.mk' AL.Tryz.follows_mixed Tryz.func215 rfl (by decide +kernel) Tryz.ntmps215 rfl (by kernel_rfl) rfl
def c180 : AC :=
.seq (.reg false [] [oO 4 (.assign (.const (.bool false)))])
 (.seq (.seq (.reg false [] [oO 5 (.assign (kI 0))])
 (.block 0 (.loop (.seq (.seq (.reg false [] [oO 6 (.move (tT 5)), oO 7 (.move (tT 0)), oO 8 (cB .len #[tT 7] #[152]), oO 9 (.binOp .lss 3 (tT 6) (tT 8) 3)])
 (.cond (tT 9) (.skip)
 (.exit 0)))
 (.seq (.block 1 (.seq (.reg false [] [oO 12 (.move (tT 0)), oO 13 (.move (tT 5)), oO 14 (.indexAddr 152 (tT 12) (tT 13)), oO 15 (.fieldAddr 157 (tT 14) 0), oO 16 (.load 9 (tT 15)), oO 17 (.move (tT 1)), oO 18 (.binOp .eql 9 (tT 16) (tT 17) 9)])
 (.cond (tT 18) (.seq (.reg false [] [oO 4 (.assign (.const (.bool true)))])
 (.ret))
 (.skip))))
 (.reg false [] [oO 10 (.move (tT 5)), oO 11 (.binOp .add 3 (tT 10) (kI 1) 3), oO 5 (.assign (tT 11))]))))))
 (.seq (.reg false [] [oO 4 (.assign (.const (.bool false)))])
 .ret))
theorem F180 : Fun1 Tryz.prog 180 19 c180 [.tmp 4] := Fun1.mk' AL.Tryz.follows_mixed Tryz.func180 rfl (by decide +kernel) Tryz.ntmps180 rfl (by kernel_rfl) rfl
def c179 : AC :=
.seq (.reg false [] [oO 4 (.assign (.const (.slice none 0 0)))])
 (.seq (.reg false [] [oO 8 (.move (tT 0)), oO 9 (.move (tT 1)), oO 10 (cF (.func 133) #[tT 8, tT 9] #[22, 3]), oO 5 (.assign (tT 10))])
 (.seq (.reg false [] [oO 6 (.assign (.const (.slice none 0 0)))])
 (.seq (.seq (.reg false [] [oO 11 (.move (tT 5)), oO 12 (cB .len #[tT 11] #[29]), oO 13 (.binOp .sub 3 (tT 12) (kI 1) 3), oO 7 (.assign (tT 13))])
 (.block 0 (.loop (.seq (.seq (.reg false [] [oO 14 (.move (tT 7)), oO 15 (.binOp .geq 3 (tT 14) (kI 0) 3)])
 (.cond (tT 15) (.skip)
 (.exit 0)))
 (.seq (.block 1 (.reg false [] [oO 18 (.move (tT 6)), oO 19 (.move (tT 0)), oO 20 (.move (tT 5)), oO 21 (.move (tT 7)), oO 22 (.indexAddr 29 (tT 20) (tT 21)), oO 23 (.load 3 (tT 22)), oO 24 (.indexAddr 22 (tT 19) (tT 23)), oO 25 (.fieldAddr 154 (tT 24) 2), oO 26 (.load 152 (tT 25)), oO 27 (cB .append #[tT 18, tT 26] #[152, 152]), oO 6 (.assign (tT 27))]))
 (.reg false [] [oO 16 (.move (tT 7)), oO 17 (.binOp .sub 3 (tT 16) (kI 1) 3), oO 7 (.assign (tT 17))]))))))
 (.seq (.reg false [] [oO 28 (.move (tT 6)), oO 4 (.assign (tT 28))])
 .ret))))
theorem F179 : Fun1 Tryz.prog 179 29 c179 [.tmp 4] := Fun1.mk' AL.Tryz.follows_mixed Tryz.func179 rfl (by decide +kernel) Tryz.ntmps179 rfl (by kernel_rfl) rfl
def c133 : AC :=
.seq (.reg false [] [oO 4 (.assign (.const (.slice none 0 0)))])
 (.seq (.reg false [] [oO 5 (.assign (.const (.slice none 0 0)))])
 (.seq (.block 0 (.loop (.seq (.seq (.reg false [] [oO 6 (.move (tT 1)), oO 7 (.binOp .geq 3 (tT 6) (kI 0) 3), oO 8 (.move (tT 7)), oG 9 (.move (tT 1)) 8 true, oG 10 (.move (tT 0)) 8 true, oG 11 (cB .len #[tT 10] #[22]) 8 true, oG 12 (.binOp .lss 3 (tT 9) (tT 11) 3) 8 true, oO 13 (.pick (tT 8) (tT 12) (.const (.bool false))), oO 14 (.move (tT 13)), oG 15 (.move (tT 5)) 14 true, oG 16 (cB .len #[tT 15] #[29]) 14 true, oG 17 (.move (tT 0)) 14 true, oG 18 (cB .len #[tT 17] #[22]) 14 true, oG 19 (.binOp .leq 3 (tT 16) (tT 18) 3) 14 true, oO 20 (.pick (tT 14) (tT 19) (.const (.bool false)))])
 (.cond (tT 20) (.skip)
 (.exit 0)))
 (.block 1 (.seq (.reg false [] [oO 21 (.move (tT 5)), oO 22 (.move (tT 1)), oO 23 (.buildSlice 29 1 #[(0, .tmp 22)]), oO 24 (cB .append #[tT 21, tT 23] #[29, 29]), oO 5 (.assign (tT 24))])
 (.reg false [] [oO 25 (.move (tT 0)), oO 26 (.move (tT 1)), oO 27 (.indexAddr 22 (tT 25) (tT 26)), oO 28 (.fieldAddr 154 (tT 27) 1), oO 29 (.load 3 (tT 28)), oO 1 (.assign (tT 29))]))))))
 (.seq (.reg false [] [oO 30 (.move (tT 5)), oO 4 (.assign (tT 30))])
 .ret)))
theorem F133 : Fun1 Tryz.prog 133 31 c133 [.tmp 4] := Fun1.mk' AL.Tryz.follows_mixed Tryz.func133 rfl (by decide +kernel) Tryz.ntmps133 rfl (by kernel_rfl) rfl
def c150 : AC :=
.seq (.reg false [] [oO 4 (.assign (.const (.bool false)))])
 (.seq (.reg false [] [oO 5 (.move (tT 0)), oO 6 (.move (tT 1)), oO 7 (cF (.func 103) #[tT 5, tT 6] #[22, 81]), oO 8 (.move (tT 7)), oG 9 (.move (tT 1)) 8 true, oG 10 (.binOp .neq 81 (tT 9) (kB 0) 81) 8 true, oO 11 (.pick (tT 8) (tT 10) (.const (.bool false))), oO 12 (.move (tT 11)), oG 13 (.move (tT 1)) 12 true, oG 14 (.binOp .neq 81 (tT 13) (kB 3) 81) 12 true, oO 15 (.pick (tT 12) (tT 14) (.const (.bool false))), oO 4 (.assign (tT 15))])
 .ret)
theorem F150 : Fun1 Tryz.prog 150 16 c150 [.tmp 4] := Fun1.mk' AL.Tryz.follows_mixed Tryz.func150 rfl (by decide +kernel) Tryz.ntmps150 rfl (by kernel_rfl) rfl
def c103 : AC :=
.seq (.reg false [] [oO 4 (.assign (.const (.bool false)))])
 (.seq (.reg false [] [oO 5 (.move (tT 1)), oO 6 (.binOp .leq 81 (tT 5) (kB 5) 81), oO 7 (.move (tT 6)), oG 8 (.move (tT 1)) 7 false, oG 9 (.binOp .geq 81 (tT 8) (kB 16) 81) 7 false, oG 10 (.move (tT 9)) 7 false, oG 11 (.move (tT 1)) 10 true, oG 12 (.binOp .sub 81 (tT 11) (kB 16) 81) 10 true, oG 13 (.convert 81 3 (tT 12)) 10 true, oG 14 (.move (tT 0)) 10 true, oG 15 (cB .len #[tT 14] #[22]) 10 true, oG 16 (.binOp .lss 3 (tT 13) (tT 15) 3) 10 true, oG 17 (.pick (tT 10) (tT 16) (.const (.bool false))) 7 false, oO 18 (.pick (tT 7) (.const (.bool true)) (tT 17)), oO 4 (.assign (tT 18))])
 .ret)
theorem F103 : Fun1 Tryz.prog 103 19 c103 [.tmp 4] := Fun1.mk' AL.Tryz.follows_mixed Tryz.func103 rfl (by decide +kernel) Tryz.ntmps103 rfl (by kernel_rfl) rfl
def c60 : AC :=
.seq (.reg false [] [oO 6 (.alloc 84), oO 7 (.assign (kI 0))])
 (.seq (.reg false [] [oO 13 (.move (tT 2)), oO 14 (cF (.func 104) #[tT 13] #[3]), oO 12 (.move (tT 14)), oO 15 (.extract (tT 12) 0), oO 16 (.extract (tT 12) 1), oO 8 (.alloc 84), oN (.store 84 (tT 8) (tT 15)), oO 9 (.assign (tT 16))])
 (.seq (.seq (.reg false [] [oO 17 (.move (tT 9)), oO 18 (.binOp .neq 32 (tT 17) (kI 0) 32), oO 19 (.move (tT 18)), oG 20 (.move (tT 1)) 19 false, oG 21 (cB .len #[tT 20] #[93]) 19 false, oG 22 (.binOp .gtr 3 (tT 21) (kI 8) 3) 19 false, oO 23 (.pick (tT 19) (.const (.bool true)) (tT 22)), oO 24 (.move (tT 23)), oG 25 (.move (tT 1)) 24 false, oG 26 (cB .len #[tT 25] #[93]) 24 false, oG 27 (.move (tT 2)) 24 false, oG 28 (.binOp .gtr 3 (tT 26) (tT 27) 3) 24 false, oO 29 (.pick (tT 24) (.const (.bool true)) (tT 28))])
 (.cond (tT 29) (.seq (.reg false [] [oO 30 (.build 84 #[]), oN (.store 84 (tT 6) (tT 30)), oO 7 (.assign (kI 1))])
 (.ret))
 (.skip)))
 (.seq (.seq (.reg false [] [oO 31 (.move (tT 1)), oO 32 (cB .len #[tT 31] #[93]), oO 33 (.move (kI 0))])
 (.block 0 (.loop (.seq (.reg false [] [oO 34 (.binOp .lss 3 (tT 33) (tT 32) 3)])
 (.seq (.cond (tT 34) (.skip)
 (.exit 0))
 (.seq (.block 1 (.seq (.reg false [] [oO 35 (.move (tT 33)), oO 36 (.indexAddr 93 (tT 31) (tT 33)), oO 37 (.load 81 (tT 36)), oO 10 (.assign (tT 35)), oO 11 (.assign (tT 37))])
 (.seq (.seq (.reg false [] [oO 38 (.move (tT 0)), oO 39 (.move (tT 11)), oO 40 (cF (.func 105) #[tT 38, tT 39] #[22, 81]), oO 41 (.unOp .not 4 (tT 40))])
 (.cond (tT 41) (.seq (.reg false [] [oO 42 (.build 84 #[]), oN (.store 84 (tT 6) (tT 42)), oO 7 (.assign (kI 1))])
 (.ret))
 (.skip)))
 (.reg false [] [oO 43 (.move (tT 10)), oO 44 (.move (tT 11)), oO 45 (.fieldAddr 84 (tT 8) 2), oO 46 (.indexAddr 82 (tT 45) (tT 43)), oN (.store 81 (tT 46) (tT 44))]))))
 (.reg false [] [oO 47 (.binOp .add 3 (tT 33) (kI 1) 3), oO 33 (.move (tT 47))])))))))
 (.seq (.reg false [] [oO 48 (.load 84 (tT 8)), oN (.store 84 (tT 6) (tT 48)), oO 7 (.assign (kI 0))])
 .ret))))
theorem F60 : Fun1 Tryz.prog 60 49 c60 [.cell 6 84, .tmp 7] := Fun1.mk' AL.Tryz.follows_mixed Tryz.func60 rfl (by decide +kernel) Tryz.ntmps60 rfl (by kernel_rfl) rfl
def c104 : AC :=
.seq (.reg false [] [oO 2 (.alloc 84), oO 3 (.assign (kI 0))])
 (.seq (.seq (.reg false [] [oO 4 (.move (tT 0)), oO 5 (.binOp .lss 3 (tT 4) (kI 0) 3), oO 6 (.move (tT 5)), oG 7 (.move (tT 0)) 6 false, oG 8 (.binOp .gtr 3 (tT 7) (kI 16) 3) 6 false, oO 9 (.pick (tT 6) (.const (.bool true)) (tT 8))])
 (.cond (tT 9) (.seq (.reg false [] [oO 10 (.build 84 #[]), oN (.store 84 (tT 2) (tT 10)), oO 3 (.assign (kI 1))])
 (.ret))
 (.skip)))
 (.seq (.reg false [] [oO 11 (.move (tT 0)), oO 12 (.build 84 #[(0, .tmp 11)]), oN (.store 84 (tT 2) (tT 12)), oO 3 (.assign (kI 0))])
 .ret))
theorem F104 : Fun1 Tryz.prog 104 13 c104 [.cell 2 84, .tmp 3] := Fun1.mk' AL.Tryz.follows_mixed Tryz.func104 rfl (by decide +kernel) Tryz.ntmps104 rfl (by kernel_rfl) rfl
def c105 : AC :=
.seq (.reg false [] [oO 4 (.assign (.const (.bool false)))])
 (.seq (.reg false [] [oO 5 (.move (tT 0)), oO 6 (.move (tT 1)), oO 7 (cF (.func 103) #[tT 5, tT 6] #[22, 81]), oO 8 (.move (tT 7)), oG 9 (.move (tT 1)) 8 true, oG 10 (.binOp .neq 81 (tT 9) (kB 0) 81) 8 true, oO 11 (.pick (tT 8) (tT 10) (.const (.bool false))), oO 12 (.move (tT 11)), oG 13 (.move (tT 1)) 12 true, oG 14 (.binOp .neq 81 (tT 13) (kB 3) 81) 12 true, oO 15 (.pick (tT 12) (tT 14) (.const (.bool false))), oO 4 (.assign (tT 15))])
 .ret)
theorem F105 : Fun1 Tryz.prog 105 16 c105 [.tmp 4] := Fun1.mk' AL.Tryz.follows_mixed Tryz.func105 rfl (by decide +kernel) Tryz.ntmps105 rfl (by kernel_rfl) rfl
structure Fd where
  name : ByteArray
  ty : Ty
  deriving DecidableEq
structure Cl where
  name : ByteArray
  parent : Int
  fields : List Fd
  deriving DecidableEq
def eF (f : Fd) : List D := [.str f.name, .int .u8 f.ty.val]
def eC (c : Cl) : List D := [.str c.name, .int .i64 c.parent, .slice .no (rws eF c.fields)]
theorem eF_len (f : Fd) : (eF f).length = 2 := rfl
theorem eC_len (c : Cl) : (eC c).length = 3 := rfl
theorem wrap_ty_i64 (t : Ty) : IntKind.wrap .i64 (t.val : Int) = t.val := wrap_i64 (by omega) (by omega)
def clsOf (n : Nat) (t : Ty) : Int := if 16 ≤ t.val ∧ t.val - 16 < n then (t.val : Int) - 16 else -1
def validN (n : Nat) (t : Ty) : Bool := decide (t.val ≤ 5 ∨ 16 ≤ t.val ∧ t.val - 16 < n)
theorem class147 (l : List Cl) (o : Own) (t : Ty) : PCall Tryz.prog 170 [.slice o (rws eC l), .int .u8 t.val] (.int .i64 (clsOf l.length t)) := by
  refine F170.pcall' rfl fun T hT => ?_
  simp -implicitDefEqProofs only [go_sem, c170, hT]
  refine gbr_split (fun h => ?_) fun h => ?_
  · have h1 : 16 ≤ t.val := by simp at h; omega
    have h2 : ((t.val : Int) < 16) = False := by simp; omega
    have h3 : IntKind.wrap .u8 ((t.val : Int) - 16) = (t.val : Int) - 16 := wrap_u8 (by omega) (by omega)
    have h4 : IntKind.wrap .i64 ((t.val : Int) - 16) = (t.val : Int) - 16 := wrap_i64 (by omega) (by omega)
    simp -implicitDefEqProofs only [go_sem, hT, h2, h3, h4]
    refine br_split (fun h => DLe.of_eq ?_) fun h => DLe.of_eq ?_
    · simp at h
      rw [clsOf, if_neg (by omega)]
    · simp at h
      rw [clsOf, if_pos (by omega)]
  · have h2 : ((t.val : Int) < 16) = True := by simp at h; simp; omega
    simp -implicitDefEqProofs only [go_sem, hT, h2]
    refine DLe.of_eq ?_
    simp at h2
    rw [clsOf, if_neg (by omega)]
theorem clsOf_ge (n : Nat) (t : Ty) : (0 ≤ clsOf n t) = (16 ≤ t.val ∧ t.val - 16 < n) := by
  unfold clsOf
  split <;> rename_i h
  · simp [h]; omega
  · simp [h]
theorem valid105 (l : List Cl) (o : Own) (t : Ty) : PCall Tryz.prog 139 [.slice o (rws eC l), .int .u8 t.val] (.bool (validN l.length t)) := by
  refine F139.pcall' rfl fun T hT => ?_
  simp -implicitDefEqProofs only [go_sem, c139, hT]
  refine gbr_split (fun h => ?_) fun h => ?_
  · have h2 : ((t.val : Int) ≤ 5) = False := by simp at h; simp; omega
    simp -implicitDefEqProofs only [go_sem, hT, h2]
    refine callB_pure (class147 l o t) ?_
    simp -implicitDefEqProofs only [go_sem, hT, h2]
    refine DLe_bool ?_
    simp at h2
    simp [validN, clsOf_ge]
    omega
  · have h2 : ((t.val : Int) ≤ 5) = True := by simp at h; simp; omega
    simp -implicitDefEqProofs only [go_sem, hT, h2]
    refine DLe_bool ?_
    simp at h2
    simp [validN]
    omega
theorem refValid87 (l : List Cl) (o : Own) (t : Ty) : PCall Tryz.prog 103 [.slice o (rws eC l), .int .u8 t.val] (.bool (validN l.length t)) := by
  refine F103.pcall' rfl fun T hT => ?_
  by_cases h1 : t.val ≤ 5
  · have h2 : ((t.val : Int) ≤ 5) = True := by simp; omega
    simp -implicitDefEqProofs only [go_sem, c103, hT, h2]
    refine DLe_bool ?_
    simp [validN, h1]
  · have h2 : ((t.val : Int) ≤ 5) = False := by simp; omega
    by_cases h3 : 16 ≤ t.val
    · have h4 : ((16 : Int) ≤ t.val) = True := by simp; omega
      have h5 : IntKind.wrap .u8 ((t.val : Int) - 16) = (t.val : Int) - 16 := wrap_u8 (by omega) (by omega)
      have h6 : IntKind.wrap .i64 ((t.val : Int) - 16) = (t.val : Int) - 16 := wrap_i64 (by omega) (by omega)
      simp -implicitDefEqProofs only [go_sem, c103, hT, h2, h4, h5, h6]
      refine DLe_bool ?_
      simp [validN, h1, h3]
      omega
    · have h4 : ((16 : Int) ≤ t.val) = False := by simp; omega
      simp -implicitDefEqProofs only [go_sem, c103, hT, h2, h4]
      refine DLe_bool ?_
      simp [validN, h1, h3]
end Go.AL
