import Derived.Test.YtobmoajkfbigkaaGreatJe
import Derived.Test.YtobmoajkfbigkaaGreatJd
set_option linter.defProp false
set_option linter.unusedSimpArgs false
set_option linter.unusedVariables false
set_option maxRecDepth 100000
namespace Go.AL
open Go.Proofs
def c77 : AC :=
.seq (rg [oO 2 (.box 25 (tT 0)), oO 4 (.assign (kI 0))])
 (.seq (.seq (rg [oO 13 (.fieldAddr 25 (tT 2) 0), oO 14 (.load 22 (tT 13)), oO 15 (cF (.func 119) #[tT 14] #[22]), oO 12 (.move (tT 15)), oO 16 (.extract (tT 12) 0), oO 17 (.extract (tT 12) 1), oO 5 (.assign (tT 16)), oO 6 (.assign (tT 17))])
 (.seq (rg [oO 18 (.move (tT 6)), oO 19 (.binOp .neq 32 (tT 18) (kI 0) 32)])
 (.cond (tT 19) (.seq (rg [oO 20 (.move (tT 6)), oO 4 (.assign (tT 20))])
 (.ret))
 (.skip))))
 (.seq (.seq (rg [oO 21 (.fieldAddr 25 (tT 2) 1), oO 22 (.load 23 (tT 21)), oO 23 (cB .len #[tT 22] #[23]), oO 24 (.binOp .gtr 3 (tT 23) (kI 64) 3)])
 (.cond (tT 24) (.seq (rg [oO 4 (.assign (kI 4))])
 (.ret))
 (.skip)))
 (.seq (.seq (rg [oO 25 (.fieldAddr 25 (tT 2) 1), oO 26 (.load 23 (tT 25)), oO 27 (cB .len #[tT 26] #[23]), oO 28 (.move (kI 0))])
 (.block 0 (.loop (.seq (rg [oO 29 (.binOp .lss 3 (tT 28) (tT 27) 3)])
 (.seq (.cond (tT 29) (.skip)
 (.exit 0))
 (.seq (.block 1 (.seq (rg [oO 30 (.indexAddr 23 (tT 26) (tT 28)), oO 31 (.load 95 (tT 30)), oO 8 (.alloc 95), oN (.store 95 (tT 8) (tT 31))])
 (.seq (.seq (rg [oO 32 (.fieldAddr 95 (tT 8) 0), oO 33 (.load 93 (tT 32)), oO 34 (cB .len #[tT 33] #[93]), oO 35 (.binOp .gtr 3 (tT 34) (kI 8) 3)])
 (.cond (tT 35) (.seq (rg [oO 4 (.assign (kI 4))])
 (.ret))
 (.skip)))
 (.seq (rg [oO 36 (.makeFunc (.func 120) #[] #[tT 2]), oO 9 (.assign (tT 36))])
 (.seq (rg [oO 37 (.fieldAddr 95 (tT 8) 0), oO 38 (.load 93 (tT 37)), oO 39 (.move (tT 9)), oO 40 (cF (.func 122) #[tT 38, tT 39] #[93, 184]), oO 41 (.move (tT 40)), oG 42 (.fieldAddr 95 (tT 8) 1) 41 false, oG 43 (.load 81 (tT 42)) 41 false, oG 44 (.binOp .neq 81 (tT 43) (kB 0) 81) 41 false, oG 45 (.move (tT 44)) 41 false, oG 46 (.move (tT 9)) 45 true, oG 47 (.fieldAddr 95 (tT 8) 1) 45 true, oG 48 (.load 81 (tT 47)) 45 true, oG 49 (cF (tT 46) #[tT 48] #[81]) 45 true, oG 50 (.pick (tT 45) (tT 49) (.const (.bool false))) 41 false, oO 51 (.pick (tT 41) (.const (.bool true)) (tT 50))])
 (.cond (tT 51) (.seq (rg [oO 4 (.assign (kI 22))])
 (.ret))
 (.skip)))))))
 (rg [oO 52 (.binOp .add 3 (tT 28) (kI 1) 3), oO 28 (.move (tT 52))])))))))
 (.seq (.seq (rg [oO 53 (.fieldAddr 25 (tT 2) 2), oO 54 (.load 3 (tT 53)), oO 55 (.binOp .lss 3 (tT 54) (kI 0) 3), oO 56 (.move (tT 55)), oG 57 (.fieldAddr 25 (tT 2) 2) 56 false, oG 58 (.load 3 (tT 57)) 56 false, oG 59 (.fieldAddr 25 (tT 2) 1) 56 false, oG 60 (.load 23 (tT 59)) 56 false, oG 61 (cB .len #[tT 60] #[23]) 56 false, oG 62 (.binOp .geq 3 (tT 58) (tT 61) 3) 56 false, oO 63 (.pick (tT 56) (.const (.bool true)) (tT 62))])
 (.cond (tT 63) (.seq (rg [oO 4 (.assign (kI 71))])
 (.ret))
 (.skip)))
 (.seq (.reg true [] [⟨⟨some 65, .fieldAddr 25 (tT 2) 0, none⟩, false, true⟩, ⟨⟨some 66, .load 22 (tT 65), none⟩, false, true⟩, ⟨⟨some 67, .fieldAddr 25 (tT 2) 1, none⟩, false, true⟩, ⟨⟨some 68, .load 23 (tT 67), none⟩, false, true⟩, ⟨⟨some 69, .fieldAddr 25 (tT 2) 2, none⟩, false, true⟩, ⟨⟨some 70, .load 3 (tT 69), none⟩, false, true⟩, ⟨⟨some 71, .indexAddr 23 (tT 68) (tT 70), none⟩, false, true⟩, ⟨⟨some 72, .fieldAddr 95 (tT 71) 0, none⟩, false, true⟩, ⟨⟨some 73, .load 93 (tT 72), none⟩, false, true⟩, ⟨⟨some 74, .move (tT 1), none⟩, false, true⟩, ⟨⟨some 75, cF (.func 97) #[tT 66, tT 73, tT 74] #[22, 93, 3], none⟩, false, true⟩, ⟨⟨some 64, .move (tT 75), none⟩, false, true⟩, ⟨⟨some 76, .extract (tT 64) 0, none⟩, false, true⟩, ⟨⟨some 77, .extract (tT 64) 1, none⟩, true, true⟩, ⟨⟨some 10, .alloc 84, none⟩, true, false⟩, oN (.store 84 (tT 10) (tT 76)), oO 11 (.assign (tT 77))])
 (.seq (rg [oO 78 (.move (tT 11)), oO 4 (.assign (tT 78))])
 .ret))))))
theorem F77 : Fun1 Tryz.prog 77 79 c77 [.tmp 4] := mkT Tryz.func77 rfl (by decide +kernel) Tryz.ntmps77 rfl (by kernel_rfl) rfl
def c56 : AC :=
.seq (rg [oO 2 (.assign (.const (.slice none 0 0)))])
 (.seq (rg [oO 3 (.assign (.const (.slice none 0 0)))])
 (.seq (.seq (rg [oO 6 (.move (tT 0)), oO 7 (cB .len #[tT 6] #[22]), oO 8 (.move (kI 0))])
 (.block 0 (.loop (.seq (rg [oO 9 (.binOp .lss 3 (tT 8) (tT 7) 3)])
 (.seq (.cond (tT 9) (.skip)
 (.exit 0))
 (.seq (.block 1 (.seq (rg [oO 10 (.indexAddr 22 (tT 6) (tT 8)), oO 11 (.load 154 (tT 10)), oO 5 (.alloc 154), oN (.store 154 (tT 5) (tT 11))])
 (.seq (rg [oO 12 (.fieldAddr 154 (tT 5) 2), oO 13 (.load 152 (tT 12)), oO 14 (cF (.func 89) #[tT 13] #[152]), oO 15 (.fieldAddr 154 (tT 5) 2), oN (.store 152 (tT 15) (tT 14))])
 (rg [oO 16 (.move (tT 3)), oO 17 (.load 154 (tT 5)), oO 18 (.buildSlice 22 1 #[(0, .tmp 17)]), oO 19 (cB .append #[tT 16, tT 18] #[22, 22]), oO 3 (.assign (tT 19))]))))
 (rg [oO 20 (.binOp .add 3 (tT 8) (kI 1) 3), oO 8 (.move (tT 20))])))))))
 (.seq (rg [oO 21 (.move (tT 3)), oO 2 (.assign (tT 21))])
 .ret)))
theorem F56 : Fun1 Tryz.prog 56 22 c56 [.tmp 2] := mkT Tryz.func56 rfl (by decide +kernel) Tryz.ntmps56 rfl (by kernel_rfl) rfl
def c70 : AC :=
.seq (rg [oO 4 (.assign (.const (.bool false)))])
 (.seq (.seq (rg [oO 6 (.move (tT 0)), oO 7 (cB .len #[tT 6] #[22]), oO 8 (.move (tT 1)), oO 9 (cB .len #[tT 8] #[22]), oO 10 (.binOp .neq 3 (tT 7) (tT 9) 3)])
 (.cond (tT 10) (.seq (rg [oO 4 (.assign (.const (.bool false)))])
 (.ret))
 (.skip)))
 (.seq (.seq (rg [oO 11 (.move (tT 0)), oO 12 (cB .len #[tT 11] #[22]), oO 13 (.move (kI 0))])
 (.block 0 (.loop (.seq (rg [oO 14 (.binOp .lss 3 (tT 13) (tT 12) 3)])
 (.seq (.cond (tT 14) (.skip)
 (.exit 0))
 (.seq (.block 1 (.seq (rg [oO 15 (.move (tT 13)), oO 5 (.assign (tT 15))])
 (.seq (.reg true [] [⟨⟨some 16, .move (tT 0), none⟩, false, true⟩, ⟨⟨some 17, .move (tT 5), none⟩, false, true⟩, ⟨⟨some 18, .indexAddr 22 (tT 16) (tT 17), none⟩, false, true⟩, ⟨⟨some 19, .fieldAddr 154 (tT 18) 0, none⟩, false, true⟩, ⟨⟨some 20, .load 9 (tT 19), none⟩, false, true⟩, ⟨⟨some 21, .move (tT 1), none⟩, false, true⟩, oO 22 (.move (tT 5)), oO 23 (.indexAddr 22 (tT 21) (tT 22)), oO 24 (.fieldAddr 154 (tT 23) 0), oO 25 (.load 9 (tT 24)), oO 26 (.binOp .neq 9 (tT 20) (tT 25) 9), oO 27 (.move (tT 26)), ⟨⟨some 28, .move (tT 0), some (27, false)⟩, false, true⟩, ⟨⟨some 29, .move (tT 5), some (27, false)⟩, false, true⟩, ⟨⟨some 30, .indexAddr 22 (tT 28) (tT 29), some (27, false)⟩, false, true⟩, ⟨⟨some 31, .fieldAddr 154 (tT 30) 1, some (27, false)⟩, false, true⟩, ⟨⟨some 32, .load 3 (tT 31), some (27, false)⟩, false, true⟩, ⟨⟨some 33, .move (tT 1), some (27, false)⟩, false, true⟩, oG 34 (.move (tT 5)) 27 false, oG 35 (.indexAddr 22 (tT 33) (tT 34)) 27 false, oG 36 (.fieldAddr 154 (tT 35) 1) 27 false, oG 37 (.load 3 (tT 36)) 27 false, oG 38 (.binOp .neq 3 (tT 32) (tT 37) 3) 27 false, oO 39 (.pick (tT 27) (.const (.bool true)) (tT 38)), oO 40 (.move (tT 39)), ⟨⟨some 41, .move (tT 0), some (40, false)⟩, false, true⟩, ⟨⟨some 42, .move (tT 5), some (40, false)⟩, false, true⟩, ⟨⟨some 43, .indexAddr 22 (tT 41) (tT 42), some (40, false)⟩, false, true⟩, ⟨⟨some 44, .fieldAddr 154 (tT 43) 2, some (40, false)⟩, false, true⟩, ⟨⟨some 45, .load 152 (tT 44), some (40, false)⟩, false, true⟩, ⟨⟨some 46, .move (tT 1), some (40, false)⟩, false, true⟩, oG 47 (.move (tT 5)) 40 false, oG 48 (.indexAddr 22 (tT 46) (tT 47)) 40 false, oG 49 (.fieldAddr 154 (tT 48) 2) 40 false, oG 50 (.load 152 (tT 49)) 40 false, oG 51 (cF (.func 114) #[tT 45, tT 50] #[152, 152]) 40 false, oG 52 (.unOp .not 4 (tT 51)) 40 false, oO 53 (.pick (tT 40) (.const (.bool true)) (tT 52))])
 (.cond (tT 53) (.seq (rg [oO 4 (.assign (.const (.bool false)))])
 (.ret))
 (.skip)))))
 (rg [oO 54 (.binOp .add 3 (tT 13) (kI 1) 3), oO 13 (.move (tT 54))])))))))
 (.seq (rg [oO 4 (.assign (.const (.bool true)))])
 .ret)))
theorem F70 : Fun1 Tryz.prog 70 55 c70 [.tmp 4] := mkT Tryz.func70 rfl (by decide +kernel) Tryz.ntmps70 rfl (by kernel_rfl) rfl
def c114 : AC :=
.seq (rg [oO 4 (.assign (.const (.bool false)))])
 (.seq (.seq (rg [oO 6 (.move (tT 0)), oO 7 (cB .len #[tT 6] #[152]), oO 8 (.move (tT 1)), oO 9 (cB .len #[tT 8] #[152]), oO 10 (.binOp .neq 3 (tT 7) (tT 9) 3)])
 (.cond (tT 10) (.seq (rg [oO 4 (.assign (.const (.bool false)))])
 (.ret))
 (.skip)))
 (.seq (.seq (rg [oO 11 (.move (tT 0)), oO 12 (cB .len #[tT 11] #[152]), oO 13 (.move (kI 0))])
 (.block 0 (.loop (.seq (rg [oO 14 (.binOp .lss 3 (tT 13) (tT 12) 3)])
 (.seq (.cond (tT 14) (.skip)
 (.exit 0))
 (.seq (.block 1 (.seq (rg [oO 15 (.move (tT 13)), oO 5 (.assign (tT 15))])
 (.seq (.reg true [] [⟨⟨some 16, .move (tT 0), none⟩, false, true⟩, ⟨⟨some 17, .move (tT 5), none⟩, false, true⟩, ⟨⟨some 18, .indexAddr 152 (tT 16) (tT 17), none⟩, false, true⟩, ⟨⟨some 19, .load 157 (tT 18), none⟩, false, true⟩, ⟨⟨some 20, .move (tT 1), none⟩, false, true⟩, oO 21 (.move (tT 5)), oO 22 (.indexAddr 152 (tT 20) (tT 21)), oO 23 (.load 157 (tT 22)), oO 24 (.binOp .neq 157 (tT 19) (tT 23) 157)])
 (.cond (tT 24) (.seq (rg [oO 4 (.assign (.const (.bool false)))])
 (.ret))
 (.skip)))))
 (rg [oO 25 (.binOp .add 3 (tT 13) (kI 1) 3), oO 13 (.move (tT 25))])))))))
 (.seq (rg [oO 4 (.assign (.const (.bool true)))])
 .ret)))
theorem F114 : Fun1 Tryz.prog 114 26 c114 [.tmp 4] := mkT Tryz.func114 rfl (by decide +kernel) Tryz.ntmps114 rfl (by kernel_rfl) rfl
def c89 : AC :=
.seq (rg [oO 2 (.assign (.const (.slice none 0 0)))])
 (.seq (.seq (rg [oO 3 (.move (tT 0)), oO 4 (.binOp .eql 152 (tT 3) (.const (.slice none 0 0)) 152)])
 (.cond (tT 4) (.seq (rg [oO 2 (.assign (.const (.slice none 0 0)))])
 (.ret))
 (.skip)))
 (.seq (rg [oO 5 (.buildSlice 152 0 #[]), oO 6 (.move (tT 0)), oO 7 (cB .append #[tT 5, tT 6] #[152, 152]), oO 2 (.assign (tT 7))])
 .ret))
theorem F89 : Fun1 Tryz.prog 89 8 c89 [.tmp 2] := mkT Tryz.func89 rfl (by decide +kernel) Tryz.ntmps89 rfl (by kernel_rfl) rfl
def c119 : AC :=
.seq (rg [oO 2 (.assign (kI 0)), oO 3 (.assign (kI 0))])
 (.seq (.seq (rg [oO 7 (.move (tT 0)), oO 8 (cB .len #[tT 7] #[22]), oO 9 (.move (kI 0))])
 (.block 0 (.loop (.seq (rg [oO 10 (.binOp .lss 3 (tT 9) (tT 8) 3)])
 (.seq (.cond (tT 10) (.skip)
 (.exit 0))
 (.seq (.block 1 (.seq (rg [oO 11 (.move (tT 9)), oO 12 (.indexAddr 22 (tT 7) (tT 9)), oO 13 (.load 154 (tT 12)), oO 5 (.alloc 154), oO 4 (.assign (tT 11)), oN (.store 154 (tT 5) (tT 13))])
 (.seq (rg [oO 6 (.assign (kI 0))])
 (.seq (.block 2 (.seq (rg [oO 18 (.move (tT 4)), oO 19 (.binOp .geq 3 (tT 18) (kI 32) 3), oO 17 (.assign (tT 19))])
 (.cond (tT 17) (rg [oO 6 (.assign (kI 4))])
 (.seq (.reg true [5] [oO 21 (.fieldAddr 154 (tT 5) 0), oO 22 (.load 9 (tT 21)), oO 23 (cF (.func 152) #[tT 22] #[9]), oO 24 (.unOp .not 4 (tT 23)), oO 25 (.move (tT 24)), ⟨⟨some 26, cF (.func 154) #[] #[], some (25, false)⟩, false, true⟩, ⟨⟨some 27, .fieldAddr 154 (tT 5) 0, some (25, false)⟩, true, false⟩, ⟨⟨some 28, .load 9 (tT 27), some (25, false)⟩, true, false⟩, oG 29 (cF (.func 153) #[tT 26, tT 28] #[210, 9]) 25 false, oO 30 (.pick (tT 25) (.const (.bool true)) (tT 29)), oO 20 (.assign (tT 30))])
 (.cond (tT 20) (rg [oO 6 (.assign (kI 6))])
 (.seq (rg [oO 32 (.move (tT 0)), oO 33 (.move (tT 4)), oO 34 (.slice 22 (tT 32) none (some (tT 33)) none), oO 35 (.makeFunc (.func 156) #[] #[tT 5]), oO 36 (cF (.func 155) #[tT 34, tT 35] #[22, 213]), oO 31 (.assign (tT 36))])
 (.cond (tT 31) (rg [oO 6 (.assign (kI 20))])
 (.seq (rg [oO 38 (.fieldAddr 154 (tT 5) 1), oO 39 (.load 3 (tT 38)), oO 40 (.binOp .lss 3 (tT 39) (kI (-1)) 3), oO 41 (.move (tT 40)), oG 42 (.fieldAddr 154 (tT 5) 1) 41 false, oG 43 (.load 3 (tT 42)) 41 false, oG 44 (.move (tT 4)) 41 false, oG 45 (.binOp .geq 3 (tT 43) (tT 44) 3) 41 false, oO 46 (.pick (tT 41) (.const (.bool true)) (tT 45)), oO 37 (.assign (tT 46))])
 (.cond (tT 37) (rg [oO 6 (.assign (kI 21))])
 (rg [oO 14 (.move (tT 0)), oO 15 (.move (tT 4)), oO 16 (cF (.func 157) #[tT 14, tT 15] #[22, 3]), oO 6 (.assign (tT 16))]))))))))))
 (.seq (rg [oO 47 (.move (tT 6)), oO 48 (.binOp .neq 32 (tT 47) (kI 0) 32)])
 (.cond (tT 48) (.seq (rg [oO 49 (.move (tT 4)), oO 50 (.move (tT 6)), oO 2 (.assign (tT 49)), oO 3 (.assign (tT 50))])
 (.ret))
 (.skip)))))))
 (rg [oO 51 (.binOp .add 3 (tT 9) (kI 1) 3), oO 9 (.move (tT 51))])))))))
 (.seq (rg [oO 2 (.assign (kI 0)), oO 3 (.assign (kI 0))])
 .ret))
theorem F119 : Fun1 Tryz.prog 119 52 c119 [.tmp 2, .tmp 3] := mkT Tryz.func119 rfl (by decide +kernel) Tryz.ntmps119 rfl (by kernel_rfl) rfl
def c156 : AC :=
.seq (rg [oO 2 (.box 154 (tT 0)), oO 3 (.assign (.const (.bool false)))])
 (.seq (rg [oO 4 (.fieldAddr 154 (tT 2) 0), oO 5 (.load 9 (tT 4)), oO 6 (.fieldAddr 154 (tT 1) 0), oO 7 (.load 9 (tT 6)), oO 8 (.binOp .eql 9 (tT 5) (tT 7) 9), oO 3 (.assign (tT 8))])
 .ret)
theorem F156 : Fun1 Tryz.prog 156 9 c156 [.tmp 3] := mkT Tryz.func156 rfl (by decide +kernel) Tryz.ntmps156 rfl (by kernel_rfl) rfl
def c155 : AC :=
.seq (rg [oO 4 (.assign (.const (.bool false)))])
 (.seq (rg [oO 5 (.move (tT 0)), oO 6 (.move (tT 1)), oO 7 (cF (.func 188) #[tT 5, tT 6] #[22, 213]), oO 8 (.binOp .geq 3 (tT 7) (kI 0) 3), oO 4 (.assign (tT 8))])
 .ret)
theorem F155 : Fun1 Tryz.prog 155 9 c155 [.tmp 4] := mkT Tryz.func155 rfl (by decide +kernel) Tryz.ntmps155 rfl (by kernel_rfl) rfl
def c153 : AC :=
.seq (rg [oO 4 (.assign (.const (.bool false)))])
 (.seq (rg [oO 5 (.move (tT 0)), oO 6 (.move (tT 1)), oO 7 (cF (.func 187) #[tT 5, tT 6] #[210, 9]), oO 8 (.binOp .geq 3 (tT 7) (kI 0) 3), oO 4 (.assign (tT 8))])
 .ret)
theorem F153 : Fun1 Tryz.prog 153 9 c153 [.tmp 4] := mkT Tryz.func153 rfl (by decide +kernel) Tryz.ntmps153 rfl (by kernel_rfl) rfl
def c187 : AC :=
.seq (rg [oO 4 (.assign (kI 0))])
 (.seq (.seq (rg [oO 6 (.move (tT 0)), oO 7 (cB .len #[tT 6] #[210]), oO 8 (.move (kI 0))])
 (.block 0 (.loop (.seq (rg [oO 9 (.binOp .lss 3 (tT 8) (tT 7) 3)])
 (.seq (.cond (tT 9) (.skip)
 (.exit 0))
 (.seq (.block 1 (.seq (rg [oO 10 (.move (tT 8)), oO 5 (.assign (tT 10))])
 (.seq (rg [oO 11 (.move (tT 1)), oO 12 (.move (tT 0)), oO 13 (.move (tT 5)), oO 14 (.indexAddr 210 (tT 12) (tT 13)), oO 15 (.load 9 (tT 14)), oO 16 (.binOp .eql 9 (tT 11) (tT 15) 9)])
 (.cond (tT 16) (.seq (rg [oO 17 (.move (tT 5)), oO 4 (.assign (tT 17))])
 (.ret))
 (.skip)))))
 (rg [oO 18 (.binOp .add 3 (tT 8) (kI 1) 3), oO 8 (.move (tT 18))])))))))
 (.seq (rg [oO 4 (.assign (kI (-1)))])
 .ret))
theorem F187 : Fun1 Tryz.prog 187 19 c187 [.tmp 4] := mkT Tryz.func187 rfl (by decide +kernel) Tryz.ntmps187 rfl (by kernel_rfl) rfl
def c188 : AC :=
.seq (rg [oO 4 (.assign (kI 0))])
 (.seq (.seq (rg [oO 6 (.move (tT 0)), oO 7 (cB .len #[tT 6] #[22]), oO 8 (.move (kI 0))])
 (.block 0 (.loop (.seq (rg [oO 9 (.binOp .lss 3 (tT 8) (tT 7) 3)])
 (.seq (.cond (tT 9) (.skip)
 (.exit 0))
 (.seq (.block 1 (.seq (rg [oO 10 (.move (tT 8)), oO 5 (.assign (tT 10))])
 (.seq (rg [oO 11 (.move (tT 1)), oO 12 (.move (tT 0)), oO 13 (.move (tT 5)), oO 14 (.indexAddr 22 (tT 12) (tT 13)), oO 15 (.load 154 (tT 14)), oO 16 (cF (tT 11) #[tT 15] #[154])])
 (.cond (tT 16) (.seq (rg [oO 17 (.move (tT 5)), oO 4 (.assign (tT 17))])
 (.ret))
 (.skip)))))
 (rg [oO 18 (.binOp .add 3 (tT 8) (kI 1) 3), oO 8 (.move (tT 18))])))))))
 (.seq (rg [oO 4 (.assign (kI (-1)))])
 .ret))
theorem F188 : Fun1 Tryz.prog 188 19 c188 [.tmp 4] := mkT Tryz.func188 rfl (by decide +kernel) Tryz.ntmps188 rfl (by kernel_rfl) rfl
def c154 : AC :=
.seq (rg [oO 0 (.assign (.const (.slice none 0 0)))])
 (.seq (rg [oO 1 (.buildSlice 210 6 #[(0, .const (.string { data := #[116, 111, 112] })), (1, .const (.string { data := #[105, 110, 116] })), (2, .const (.string { data := #[98, 111, 111, 108] })), (3, .const (.string { data := #[110, 117, 108, 108] })), (4, .const (.string { data := #[105, 110, 116, 115] })), (5, .const (.string { data := #[97, 110, 121] }))]), oO 0 (.assign (tT 1))])
 .ret)
theorem F154 : Fun1 Tryz.prog 154 2 c154 [.tmp 0] := mkT Tryz.func154 rfl (by decide +kernel) Tryz.ntmps154 rfl (by kernel_rfl) rfl
def c152 : AC :=
.seq (rg [oO 2 (.assign (.const (.bool false)))])
 (.seq (.seq (rg [oO 5 (.move (tT 0)), oO 6 (cB .len #[tT 5] #[9]), oO 7 (.binOp .eql 3 (tT 6) (kI 0) 3), oO 8 (.move (tT 7)), oG 9 (.move (tT 0)) 8 false, oG 10 (cB .len #[tT 9] #[9]) 8 false, oG 11 (.binOp .gtr 3 (tT 10) (kI 24) 3) 8 false, oO 12 (.pick (tT 8) (.const (.bool true)) (tT 11))])
 (.cond (tT 12) (.seq (rg [oO 2 (.assign (.const (.bool false)))])
 (.ret))
 (.skip)))
 (.seq (.seq (rg [oO 13 (.move (tT 0)), oO 14 (cB .len #[tT 13] #[9]), oO 15 (.move (kI 0))])
 (.block 0 (.loop (.seq (rg [oO 16 (.binOp .lss 3 (tT 15) (tT 14) 3)])
 (.seq (.cond (tT 16) (.skip)
 (.exit 0))
 (.seq (.block 1 (.seq (rg [oO 17 (.move (tT 15)), oO 3 (.assign (tT 17))])
 (.seq (rg [oO 18 (.move (tT 0)), oO 19 (.move (tT 3)), oO 20 (.index 9 (tT 18) (tT 19)), oO 4 (.assign (tT 20))])
 (.block 2 (.seq (.seq (rg [oO 22 (.move (tT 4)), oO 23 (.binOp .geq 5 (tT 22) (kB 97) 5), oO 24 (.move (tT 23)), oG 25 (.move (tT 4)) 24 true, oG 26 (.binOp .leq 5 (tT 25) (kB 122) 5) 24 true, oO 27 (.pick (tT 24) (tT 26) (.const (.bool false))), oO 21 (.assign (tT 27))])
 (.cond (tT 21) (.skip)
 (rg [oO 28 (.move (tT 4)), oO 29 (.binOp .geq 5 (tT 28) (kB 65) 5), oO 30 (.move (tT 29)), oG 31 (.move (tT 4)) 30 true, oG 32 (.binOp .leq 5 (tT 31) (kB 90) 5) 30 true, oO 33 (.pick (tT 30) (tT 32) (.const (.bool false))), oO 21 (.assign (tT 33))])))
 (.cond (tT 21) (.skip)
 (.seq (rg [oO 35 (.move (tT 3)), oO 36 (.binOp .gtr 3 (tT 35) (kI 0) 3), oO 37 (.move (tT 36)), oG 38 (.move (tT 4)) 37 true, oG 39 (.binOp .geq 5 (tT 38) (kB 48) 5) 37 true, oG 40 (.move (tT 39)) 37 true, oG 41 (.move (tT 4)) 40 true, oG 42 (.binOp .leq 5 (tT 41) (kB 57) 5) 40 true, oG 43 (.pick (tT 40) (tT 42) (.const (.bool false))) 37 true, oG 44 (.move (tT 43)) 37 true, oG 45 (.move (tT 4)) 44 false, oG 46 (.binOp .eql 5 (tT 45) (kB 95) 5) 44 false, oG 47 (.pick (tT 44) (.const (.bool true)) (tT 46)) 37 true, oO 48 (.pick (tT 37) (tT 47) (.const (.bool false))), oO 34 (.assign (tT 48))])
 (.cond (tT 34) (.skip)
 (.seq (rg [oO 2 (.assign (.const (.bool false)))])
 (.ret))))))))))
 (rg [oO 49 (.binOp .add 3 (tT 15) (kI 1) 3), oO 15 (.move (tT 49))])))))))
 (.seq (rg [oO 2 (.assign (.const (.bool true)))])
 .ret)))
theorem F152 : Fun1 Tryz.prog 152 50 c152 [.tmp 2] := mkT Tryz.func152 rfl (by decide +kernel) Tryz.ntmps152 rfl (by kernel_rfl) rfl
def c157 : AC :=
.seq (rg [oO 2 (.box 22 (tT 0)), oO 4 (.assign (kI 0))])
 (.seq (rg [oO 5 (.alloc 210)])
 (.seq (.reg true [] [⟨⟨some 8, .load 22 (tT 2), none⟩, false, true⟩, ⟨⟨some 9, .load 22 (tT 2), none⟩, false, true⟩, ⟨⟨some 10, .move (tT 1), none⟩, false, true⟩, ⟨⟨some 11, .indexAddr 22 (tT 9) (tT 10), none⟩, false, true⟩, ⟨⟨some 12, .fieldAddr 154 (tT 11) 1, none⟩, false, true⟩, ⟨⟨some 13, .load 3 (tT 12), none⟩, false, true⟩, oO 14 (.makeFunc (.func 190) #[] #[tT 2, tT 5]), oO 15 (cF (.func 189) #[tT 8, tT 13, tT 14] #[22, 3, 188])])
 (.seq (.seq (rg [oO 16 (.load 22 (tT 2)), oO 17 (.move (tT 1)), oO 18 (.indexAddr 22 (tT 16) (tT 17)), oO 19 (.fieldAddr 154 (tT 18) 2), oO 20 (.load 152 (tT 19)), oO 21 (cB .len #[tT 20] #[152]), oO 22 (.move (kI 0))])
 (.block 0 (.loop (.seq (rg [oO 23 (.binOp .lss 3 (tT 22) (tT 21) 3)])
 (.seq (.cond (tT 23) (.skip)
 (.exit 0))
 (.seq (.block 1 (.seq (rg [oO 24 (.indexAddr 152 (tT 20) (tT 22)), oO 25 (.load 157 (tT 24)), oO 7 (.alloc 157), oN (.store 157 (tT 7) (tT 25))])
 (.seq (.block 2 (.seq (rg [oO 27 (.fieldAddr 157 (tT 7) 0), oO 28 (.load 9 (tT 27)), oO 29 (cF (.func 152) #[tT 28] #[9]), oO 30 (.unOp .not 4 (tT 29)), oO 26 (.assign (tT 30))])
 (.cond (tT 26) (.seq (rg [oO 4 (.assign (kI 6))])
 (.ret))
 (.seq (rg [oO 32 (.load 210 (tT 5)), oO 33 (.fieldAddr 157 (tT 7) 0), oO 34 (.load 9 (tT 33)), oO 35 (cF (.func 153) #[tT 32, tT 34] #[210, 9]), oO 31 (.assign (tT 35))])
 (.cond (tT 31) (.seq (rg [oO 4 (.assign (kI 20))])
 (.ret))
 (.seq (rg [oO 37 (.load 22 (tT 2)), oO 38 (.fieldAddr 157 (tT 7) 1), oO 39 (.load 81 (tT 38)), oO 40 (cF (.func 191) #[tT 37, tT 39] #[22, 81]), oO 41 (.unOp .not 4 (tT 40)), oO 36 (.assign (tT 41))])
 (.cond (tT 36) (.seq (rg [oO 4 (.assign (kI 22))])
 (.ret))
 (.skip))))))))
 (rg [oO 42 (.load 210 (tT 5)), oO 43 (.fieldAddr 157 (tT 7) 0), oO 44 (.load 9 (tT 43)), oO 45 (.buildSlice 210 1 #[(0, .tmp 44)]), oO 46 (cB .append #[tT 42, tT 45] #[210, 210]), oN (.store 210 (tT 5) (tT 46))]))))
 (rg [oO 47 (.binOp .add 3 (tT 22) (kI 1) 3), oO 22 (.move (tT 47))])))))))
 (.seq (.seq (rg [oO 48 (.load 210 (tT 5)), oO 49 (cB .len #[tT 48] #[210]), oO 50 (.binOp .gtr 3 (tT 49) (kI 32) 3)])
 (.cond (tT 50) (.seq (rg [oO 4 (.assign (kI 4))])
 (.ret))
 (.skip)))
 (.seq (rg [oO 4 (.assign (kI 0))])
 .ret)))))
theorem F157 : Fun1 Tryz.prog 157 51 c157 [.tmp 4] := mkT Tryz.func157 rfl (by decide +kernel) Tryz.ntmps157 rfl (by kernel_rfl) rfl
def c190 : AC :=
.seq (rg [oO 4 (.assign (.const (.bool false)))])
 (.seq (.seq (rg [oO 7 (.load 22 (tT 1)), oO 8 (.move (tT 0)), oO 9 (.indexAddr 22 (tT 7) (tT 8)), oO 10 (.fieldAddr 154 (tT 9) 2), oO 11 (.load 152 (tT 10)), oO 12 (cB .len #[tT 11] #[152]), oO 13 (.move (kI 0))])
 (.block 0 (.loop (.seq (rg [oO 14 (.binOp .lss 3 (tT 13) (tT 12) 3)])
 (.seq (.cond (tT 14) (.skip)
 (.exit 0))
 (.seq (.block 1 (.seq (rg [oO 15 (.indexAddr 152 (tT 11) (tT 13)), oO 16 (.load 157 (tT 15)), oO 6 (.alloc 157), oN (.store 157 (tT 6) (tT 16))])
 (rg [oO 17 (.load 210 (tT 2)), oO 18 (.fieldAddr 157 (tT 6) 0), oO 19 (.load 9 (tT 18)), oO 20 (.buildSlice 210 1 #[(0, .tmp 19)]), oO 21 (cB .append #[tT 17, tT 20] #[210, 210]), oN (.store 210 (tT 2) (tT 21))])))
 (rg [oO 22 (.binOp .add 3 (tT 13) (kI 1) 3), oO 13 (.move (tT 22))])))))))
 (.seq (rg [oO 4 (.assign (.const (.bool true)))])
 .ret))
theorem F190 : Fun1 Tryz.prog 190 23 c190 [.tmp 4] := mkT Tryz.func190 rfl (by decide +kernel) Tryz.ntmps190 rfl (by kernel_rfl) rfl
def c189 : AC :=
.block 0 (.loop (.seq (.seq (rg [oO 7 (.move (tT 1)), oO 8 (.binOp .geq 3 (tT 7) (kI 0) 3), oO 9 (.move (tT 8)), oG 10 (.move (tT 1)) 9 true, oG 11 (.move (tT 0)) 9 true, oG 12 (cB .len #[tT 11] #[22]) 9 true, oG 13 (.binOp .lss 3 (tT 10) (tT 12) 3) 9 true, oO 14 (.pick (tT 9) (tT 13) (.const (.bool false))), oO 15 (.move (tT 14)), oG 16 (.move (tT 2)) 15 true, oG 17 (.move (tT 1)) 15 true, oG 18 (cF (tT 16) #[tT 17] #[3]) 15 true, oO 19 (.pick (tT 15) (tT 18) (.const (.bool false)))])
 (.cond (tT 19) (.skip)
 (.exit 0)))
 (.block 1 (.seq (rg [oO 20 (.move (tT 0)), oO 21 (.move (tT 1)), oO 22 (.indexAddr 22 (tT 20) (tT 21)), oO 23 (.fieldAddr 154 (tT 22) 1), oO 24 (.load 3 (tT 23)), oO 6 (.assign (tT 24))])
 (.seq (.seq (rg [oO 25 (.move (tT 6)), oO 26 (.move (tT 1)), oO 27 (.binOp .geq 3 (tT 25) (tT 26) 3)])
 (.cond (tT 27) (.ret)
 (.skip)))
 (rg [oO 28 (.move (tT 6)), oO 1 (.assign (tT 28))]))))))
theorem F189 : Fun1 Tryz.prog 189 29 c189 [] := mkT Tryz.func189 rfl (by decide +kernel) Tryz.ntmps189 rfl (by kernel_rfl) rfl
def c191 : AC :=
.seq (rg [oO 4 (.assign (.const (.bool false)))])
 (.seq (rg [oO 5 (.move (tT 1)), oO 6 (.binOp .eql 81 (tT 5) (kB 1) 81), oO 7 (.move (tT 6)), oG 8 (.move (tT 1)) 7 false, oG 9 (.binOp .eql 81 (tT 8) (kB 2) 81) 7 false, oO 10 (.pick (tT 7) (.const (.bool true)) (tT 9)), oO 11 (.move (tT 10)), oG 12 (.move (tT 1)) 11 false, oG 13 (.binOp .eql 81 (tT 12) (kB 4) 81) 11 false, oO 14 (.pick (tT 11) (.const (.bool true)) (tT 13)), oO 15 (.move (tT 14)), oG 16 (.move (tT 1)) 15 false, oG 17 (.binOp .eql 81 (tT 16) (kB 5) 81) 15 false, oO 18 (.pick (tT 15) (.const (.bool true)) (tT 17)), oO 19 (.move (tT 18)), oG 20 (.move (tT 0)) 19 false, oG 21 (.move (tT 1)) 19 false, oG 22 (cF (.func 170) #[tT 20, tT 21] #[22, 81]) 19 false, oG 23 (.binOp .geq 3 (tT 22) (kI 0) 3) 19 false, oO 24 (.pick (tT 19) (.const (.bool true)) (tT 23)), oO 4 (.assign (tT 24))])
 .ret)
theorem F191 : Fun1 Tryz.prog 191 25 c191 [.tmp 4] := mkT Tryz.func191 rfl (by decide +kernel) Tryz.ntmps191 rfl (by kernel_rfl) rfl
def c170 : AC :=
.seq (rg [oO 4 (.assign (kI 0))])
 (.seq (.seq (rg [oO 5 (.move (tT 1)), oO 6 (.binOp .lss 81 (tT 5) (kB 16) 81), oO 7 (.move (tT 6)), oG 8 (.move (tT 1)) 7 false, oG 9 (.binOp .sub 81 (tT 8) (kB 16) 81) 7 false, oG 10 (.convert 81 3 (tT 9)) 7 false, oG 11 (.move (tT 0)) 7 false, oG 12 (cB .len #[tT 11] #[22]) 7 false, oG 13 (.binOp .geq 3 (tT 10) (tT 12) 3) 7 false, oO 14 (.pick (tT 7) (.const (.bool true)) (tT 13))])
 (.cond (tT 14) (.seq (rg [oO 4 (.assign (kI (-1)))])
 (.ret))
 (.skip)))
 (.seq (rg [oO 15 (.move (tT 1)), oO 16 (.binOp .sub 81 (tT 15) (kB 16) 81), oO 17 (.convert 81 3 (tT 16)), oO 4 (.assign (tT 17))])
 .ret))
theorem F170 : Fun1 Tryz.prog 170 18 c170 [.tmp 4] := mkT Tryz.func170 rfl (by decide +kernel) Tryz.ntmps170 rfl (by kernel_rfl) rfl
def c121 : AC :=
.seq (rg [oO 4 (.assign (.const (.bool false)))])
 (.seq (rg [oO 5 (.move (tT 0)), oO 6 (.move (tT 1)), oO 7 (cF (.func 139) #[tT 5, tT 6] #[22, 81]), oO 8 (.move (tT 7)), oG 9 (.move (tT 1)) 8 true, oG 10 (.binOp .neq 81 (tT 9) (kB 0) 81) 8 true, oO 11 (.pick (tT 8) (tT 10) (.const (.bool false))), oO 12 (.move (tT 11)), oG 13 (.move (tT 1)) 12 true, oG 14 (.binOp .neq 81 (tT 13) (kB 3) 81) 12 true, oO 15 (.pick (tT 12) (tT 14) (.const (.bool false))), oO 4 (.assign (tT 15))])
 .ret)
theorem F121 : Fun1 Tryz.prog 121 16 c121 [.tmp 4] := mkT Tryz.func121 rfl (by decide +kernel) Tryz.ntmps121 rfl (by kernel_rfl) rfl
def c120 : AC :=
.seq (rg [oO 3 (.assign (.const (.bool false)))])
 (.seq (rg [oO 4 (.fieldAddr 25 (tT 1) 0), oO 5 (.load 22 (tT 4)), oO 6 (.move (tT 0)), oO 7 (cF (.func 121) #[tT 5, tT 6] #[22, 81]), oO 8 (.unOp .not 4 (tT 7)), oO 3 (.assign (tT 8))])
 .ret)
theorem F120 : Fun1 Tryz.prog 120 9 c120 [.tmp 3] := mkT Tryz.func120 rfl (by decide +kernel) Tryz.ntmps120 rfl (by kernel_rfl) rfl
def c122 : AC :=
.seq (rg [oO 4 (.assign (.const (.bool false)))])
 (.seq (rg [oO 5 (.move (tT 0)), oO 6 (.move (tT 1)), oO 7 (cF (.func 158) #[tT 5, tT 6] #[93, 184]), oO 8 (.binOp .geq 3 (tT 7) (kI 0) 3), oO 4 (.assign (tT 8))])
 .ret)
theorem F122 : Fun1 Tryz.prog 122 9 c122 [.tmp 4] := mkT Tryz.func122 rfl (by decide +kernel) Tryz.ntmps122 rfl (by kernel_rfl) rfl
def c158 : AC :=
.seq (rg [oO 4 (.assign (kI 0))])
 (.seq (.seq (rg [oO 6 (.move (tT 0)), oO 7 (cB .len #[tT 6] #[93]), oO 8 (.move (kI 0))])
 (.block 0 (.loop (.seq (rg [oO 9 (.binOp .lss 3 (tT 8) (tT 7) 3)])
 (.seq (.cond (tT 9) (.skip)
 (.exit 0))
 (.seq (.block 1 (.seq (rg [oO 10 (.move (tT 8)), oO 5 (.assign (tT 10))])
 (.seq (rg [oO 11 (.move (tT 1)), oO 12 (.move (tT 0)), oO 13 (.move (tT 5)), oO 14 (.indexAddr 93 (tT 12) (tT 13)), oO 15 (.load 81 (tT 14)), oO 16 (cF (tT 11) #[tT 15] #[81])])
 (.cond (tT 16) (.seq (rg [oO 17 (.move (tT 5)), oO 4 (.assign (tT 17))])
 (.ret))
 (.skip)))))
 (rg [oO 18 (.binOp .add 3 (tT 8) (kI 1) 3), oO 8 (.move (tT 18))])))))))
 (.seq (rg [oO 4 (.assign (kI (-1)))])
 .ret))
theorem F158 : Fun1 Tryz.prog 158 19 c158 [.tmp 4] := mkT Tryz.func158 rfl (by decide +kernel) Tryz.ntmps158 rfl (by kernel_rfl) rfl
def c139 : AC :=
.seq (rg [oO 4 (.assign (.const (.bool false)))])
 (.seq (rg [oO 5 (.move (tT 1)), oO 6 (.binOp .leq 81 (tT 5) (kB 5) 81), oO 7 (.move (tT 6)), oG 8 (.move (tT 0)) 7 false, oG 9 (.move (tT 1)) 7 false, oG 10 (cF (.func 170) #[tT 8, tT 9] #[22, 81]) 7 false, oG 11 (.binOp .geq 3 (tT 10) (kI 0) 3) 7 false, oO 12 (.pick (tT 7) (.const (.bool true)) (tT 11)), oO 4 (.assign (tT 12))])
 .ret)
theorem F139 : Fun1 Tryz.prog 139 13 c139 [.tmp 4] := mkT Tryz.func139 rfl (by decide +kernel) Tryz.ntmps139 rfl (by kernel_rfl) rfl
def c97 : AC :=
.seq (rg [oO 6 (.alloc 84), oO 7 (.assign (kI 0))])
 (.seq (rg [oO 13 (.move (tT 2)), oO 14 (cF (.func 140) #[tT 13] #[3]), oO 12 (.move (tT 14)), oO 15 (.extract (tT 12) 0), oO 16 (.extract (tT 12) 1), oO 8 (.alloc 84), oN (.store 84 (tT 8) (tT 15)), oO 9 (.assign (tT 16))])
 (.seq (.seq (rg [oO 17 (.move (tT 9)), oO 18 (.binOp .neq 32 (tT 17) (kI 0) 32), oO 19 (.move (tT 18)), oG 20 (.move (tT 1)) 19 false, oG 21 (cB .len #[tT 20] #[93]) 19 false, oG 22 (.binOp .gtr 3 (tT 21) (kI 8) 3) 19 false, oO 23 (.pick (tT 19) (.const (.bool true)) (tT 22)), oO 24 (.move (tT 23)), oG 25 (.move (tT 1)) 24 false, oG 26 (cB .len #[tT 25] #[93]) 24 false, oG 27 (.move (tT 2)) 24 false, oG 28 (.binOp .gtr 3 (tT 26) (tT 27) 3) 24 false, oO 29 (.pick (tT 24) (.const (.bool true)) (tT 28))])
 (.cond (tT 29) (.seq (rg [oO 30 (.build 84 #[]), oN (.store 84 (tT 6) (tT 30)), oO 7 (.assign (kI 1))])
 (.ret))
 (.skip)))
 (.seq (.seq (rg [oO 31 (.move (tT 1)), oO 32 (cB .len #[tT 31] #[93]), oO 33 (.move (kI 0))])
 (.block 0 (.loop (.seq (rg [oO 34 (.binOp .lss 3 (tT 33) (tT 32) 3)])
 (.seq (.cond (tT 34) (.skip)
 (.exit 0))
 (.seq (.block 1 (.seq (rg [oO 35 (.move (tT 33)), oO 36 (.indexAddr 93 (tT 31) (tT 33)), oO 37 (.load 81 (tT 36)), oO 10 (.assign (tT 35)), oO 11 (.assign (tT 37))])
 (.seq (.seq (rg [oO 38 (.move (tT 0)), oO 39 (.move (tT 11)), oO 40 (cF (.func 139) #[tT 38, tT 39] #[22, 81]), oO 41 (.unOp .not 4 (tT 40)), oO 42 (.move (tT 41)), oG 43 (.move (tT 11)) 42 false, oG 44 (.binOp .eql 81 (tT 43) (kB 0) 81) 42 false, oO 45 (.pick (tT 42) (.const (.bool true)) (tT 44)), oO 46 (.move (tT 45)), oG 47 (.move (tT 11)) 46 false, oG 48 (.binOp .eql 81 (tT 47) (kB 3) 81) 46 false, oO 49 (.pick (tT 46) (.const (.bool true)) (tT 48))])
 (.cond (tT 49) (.seq (rg [oO 50 (.build 84 #[]), oN (.store 84 (tT 6) (tT 50)), oO 7 (.assign (kI 1))])
 (.ret))
 (.skip)))
 (rg [oO 51 (.move (tT 10)), oO 52 (.move (tT 11)), oO 53 (.fieldAddr 84 (tT 8) 2), oO 54 (.indexAddr 82 (tT 53) (tT 51)), oN (.store 81 (tT 54) (tT 52))]))))
 (rg [oO 55 (.binOp .add 3 (tT 33) (kI 1) 3), oO 33 (.move (tT 55))])))))))
 (.seq (rg [oO 56 (.load 84 (tT 8)), oN (.store 84 (tT 6) (tT 56)), oO 7 (.assign (kI 0))])
 .ret))))
theorem F97 : Fun1 Tryz.prog 97 57 c97 [.cell 6 84, .tmp 7] := mkT Tryz.func97 rfl (by decide +kernel) Tryz.ntmps97 rfl (by kernel_rfl) rfl
def c140 : AC :=
.seq (rg [oO 2 (.alloc 84), oO 3 (.assign (kI 0))])
 (.seq (.seq (rg [oO 4 (.move (tT 0)), oO 5 (.binOp .lss 3 (tT 4) (kI 0) 3), oO 6 (.move (tT 5)), oG 7 (.move (tT 0)) 6 false, oG 8 (.binOp .gtr 3 (tT 7) (kI 16) 3) 6 false, oO 9 (.pick (tT 6) (.const (.bool true)) (tT 8))])
 (.cond (tT 9) (.seq (rg [oO 10 (.build 84 #[]), oN (.store 84 (tT 2) (tT 10)), oO 3 (.assign (kI 1))])
 (.ret))
 (.skip)))
 (.seq (rg [oO 11 (.move (tT 0)), oO 12 (.build 84 #[(0, .tmp 11)]), oN (.store 84 (tT 2) (tT 12)), oO 3 (.assign (kI 0))])
 .ret))
theorem F140 : Fun1 Tryz.prog 140 13 c140 [.cell 2 84, .tmp 3] := mkT Tryz.func140 rfl (by decide +kernel) Tryz.ntmps140 rfl (by kernel_rfl) rfl
def c100 : AC :=
.seq (rg [oO 2 (.assign (kI 0)), oO 3 (.assign (kI 0))])
 (.seq (.seq (rg [oO 4 (.assign (kI 0))])
 (.block 0 (.loop (.seq (.seq (rg [oO 6 (.move (tT 4)), oO 7 (.move (tT 0)), oO 8 (cB .len #[tT 7] #[22]), oO 9 (.binOp .lss 3 (tT 6) (tT 8) 3)])
 (.cond (tT 9) (.skip)
 (.exit 0)))
 (.seq (.block 1 (.seq (rg [oO 12 (.move (tT 0)), oO 13 (.move (tT 4)), oO 14 (cF (.func 146) #[tT 12, tT 13] #[22, 3]), oO 5 (.assign (tT 14))])
 (.seq (rg [oO 15 (.move (tT 5)), oO 16 (.binOp .neq 32 (tT 15) (kI 0) 32)])
 (.cond (tT 16) (.seq (rg [oO 17 (.move (tT 4)), oO 18 (.move (tT 5)), oO 2 (.assign (tT 17)), oO 3 (.assign (tT 18))])
 (.ret))
 (.skip)))))
 (rg [oO 10 (.move (tT 4)), oO 11 (.binOp .add 3 (tT 10) (kI 1) 3), oO 4 (.assign (tT 11))]))))))
 (.seq (rg [oO 2 (.assign (kI 0)), oO 3 (.assign (kI 0))])
 .ret))
theorem F100 : Fun1 Tryz.prog 100 19 c100 [.tmp 2, .tmp 3] := mkT Tryz.func100 rfl (by decide +kernel) Tryz.ntmps100 rfl (by kernel_rfl) rfl
def c146 : AC :=
.seq (rg [oO 4 (.assign (kI 0))])
 (.seq (rg [oO 10 (.move (tT 0)), oO 11 (.move (tT 1)), oO 12 (.indexAddr 22 (tT 10) (tT 11)), oO 13 (.load 154 (tT 12)), oO 5 (.alloc 154), oN (.store 154 (tT 5) (tT 13))])
 (.seq (.seq (rg [oO 14 (.move (tT 1)), oO 15 (.binOp .geq 3 (tT 14) (kI 32) 3)])
 (.cond (tT 15) (.seq (rg [oO 4 (.assign (kI 4))])
 (.ret))
 (.skip)))
 (.seq (.seq (rg [oO 16 (.fieldAddr 154 (tT 5) 0), oO 17 (.load 9 (tT 16)), oO 18 (cF (.func 177) #[tT 17] #[9]), oO 19 (.unOp .not 4 (tT 18)), oO 20 (.move (tT 19)), oG 21 (.fieldAddr 154 (tT 5) 0) 20 false, oG 22 (.load 9 (tT 21)) 20 false, oG 23 (cF (.func 178) #[tT 22] #[9]) 20 false, oO 24 (.pick (tT 20) (.const (.bool true)) (tT 23))])
 (.cond (tT 24) (.seq (rg [oO 4 (.assign (kI 6))])
 (.ret))
 (.skip)))
 (.seq (.seq (rg [oO 6 (.assign (kI 0))])
 (.block 0 (.loop (.seq (.seq (rg [oO 25 (.move (tT 6)), oO 26 (.move (tT 1)), oO 27 (.binOp .lss 3 (tT 25) (tT 26) 3)])
 (.cond (tT 27) (.skip)
 (.exit 0)))
 (.seq (.block 1 (.seq (.reg true [] [⟨⟨some 30, .move (tT 0), none⟩, false, true⟩, ⟨⟨some 31, .move (tT 6), none⟩, false, true⟩, ⟨⟨some 32, .indexAddr 22 (tT 30) (tT 31), none⟩, false, true⟩, ⟨⟨some 33, .fieldAddr 154 (tT 32) 0, none⟩, false, true⟩, ⟨⟨some 34, .load 9 (tT 33), none⟩, false, true⟩, oO 35 (.fieldAddr 154 (tT 5) 0), oO 36 (.load 9 (tT 35)), oO 37 (.binOp .eql 9 (tT 34) (tT 36) 9)])
 (.cond (tT 37) (.seq (rg [oO 4 (.assign (kI 20))])
 (.ret))
 (.skip))))
 (rg [oO 28 (.move (tT 6)), oO 29 (.binOp .add 3 (tT 28) (kI 1) 3), oO 6 (.assign (tT 29))]))))))
 (.seq (.seq (rg [oO 38 (.fieldAddr 154 (tT 5) 1), oO 39 (.load 3 (tT 38)), oO 40 (.binOp .lss 3 (tT 39) (kI (-1)) 3), oO 41 (.move (tT 40)), oG 42 (.fieldAddr 154 (tT 5) 1) 41 false, oG 43 (.load 3 (tT 42)) 41 false, oG 44 (.move (tT 1)) 41 false, oG 45 (.binOp .geq 3 (tT 43) (tT 44) 3) 41 false, oO 46 (.pick (tT 41) (.const (.bool true)) (tT 45))])
 (.cond (tT 46) (.seq (rg [oO 4 (.assign (kI 21))])
 (.ret))
 (.skip)))
 (.seq (rg [oO 47 (.move (tT 0)), oO 48 (.fieldAddr 154 (tT 5) 1), oO 49 (.load 3 (tT 48)), oO 50 (cF (.func 179) #[tT 47, tT 49] #[22, 3]), oO 7 (.assign (tT 50))])
 (.seq (.seq (rg [oO 8 (.assign (kI 0))])
 (.block 2 (.loop (.seq (.seq (rg [oO 51 (.move (tT 8)), oO 52 (.fieldAddr 154 (tT 5) 2), oO 53 (.load 152 (tT 52)), oO 54 (cB .len #[tT 53] #[152]), oO 55 (.binOp .lss 3 (tT 51) (tT 54) 3)])
 (.cond (tT 55) (.skip)
 (.exit 2)))
 (.seq (.block 3 (.seq (rg [oO 58 (.fieldAddr 154 (tT 5) 2), oO 59 (.load 152 (tT 58)), oO 60 (.move (tT 8)), oO 61 (.indexAddr 152 (tT 59) (tT 60)), oO 62 (.load 157 (tT 61)), oO 9 (.alloc 157), oN (.store 157 (tT 9) (tT 62))])
 (.seq (.seq (rg [oO 63 (.fieldAddr 157 (tT 9) 0), oO 64 (.load 9 (tT 63)), oO 65 (cF (.func 177) #[tT 64] #[9]), oO 66 (.unOp .not 4 (tT 65))])
 (.cond (tT 66) (.seq (rg [oO 4 (.assign (kI 6))])
 (.ret))
 (.skip)))
 (.seq (.seq (.reg true [] [⟨⟨some 67, .move (tT 7), none⟩, false, true⟩, oO 68 (.fieldAddr 157 (tT 9) 0), oO 69 (.load 9 (tT 68)), oO 70 (cF (.func 180) #[tT 67, tT 69] #[152, 9]), oO 71 (.move (tT 70)), ⟨⟨some 72, .fieldAddr 154 (tT 5) 2, some (71, false)⟩, false, true⟩, ⟨⟨some 73, .load 152 (tT 72), some (71, false)⟩, false, true⟩, ⟨⟨some 74, .move (tT 8), some (71, false)⟩, false, true⟩, ⟨⟨some 75, .slice 152 (tT 73) none (some (tT 74)) none, some (71, false)⟩, false, true⟩, oG 76 (.fieldAddr 157 (tT 9) 0) 71 false, oG 77 (.load 9 (tT 76)) 71 false, oG 78 (cF (.func 180) #[tT 75, tT 77] #[152, 9]) 71 false, oO 79 (.pick (tT 71) (.const (.bool true)) (tT 78))])
 (.cond (tT 79) (.seq (rg [oO 4 (.assign (kI 20))])
 (.ret))
 (.skip)))
 (.seq (rg [oO 80 (.move (tT 0)), oO 81 (.fieldAddr 157 (tT 9) 1), oO 82 (.load 81 (tT 81)), oO 83 (cF (.func 150) #[tT 80, tT 82] #[22, 81]), oO 84 (.unOp .not 4 (tT 83))])
 (.cond (tT 84) (.seq (rg [oO 4 (.assign (kI 22))])
 (.ret))
 (.skip)))))))
 (rg [oO 56 (.move (tT 8)), oO 57 (.binOp .add 3 (tT 56) (kI 1) 3), oO 8 (.assign (tT 57))]))))))
 (.seq (.seq (rg [oO 85 (.fieldAddr 154 (tT 5) 2), oO 86 (.load 152 (tT 85)), oO 87 (cB .len #[tT 86] #[152]), oO 88 (.move (tT 7)), oO 89 (cB .len #[tT 88] #[152]), oO 90 (.binOp .sub 3 (kI 32) (tT 89) 3), oO 91 (.binOp .gtr 3 (tT 87) (tT 90) 3)])
 (.cond (tT 91) (.seq (rg [oO 4 (.assign (kI 4))])
 (.ret))
 (.skip)))
 (.seq (rg [oO 4 (.assign (kI 0))])
 .ret)))))))))
theorem F146 : Fun1 Tryz.prog 146 92 c146 [.tmp 4] := mkT Tryz.func146 rfl (by decide +kernel) Tryz.ntmps146 rfl (by kernel_rfl) rfl
def c177 : AC :=
.seq (rg [oO 2 (.assign (.const (.bool false)))])
 (.seq (.seq (rg [oO 6 (.move (tT 0)), oO 7 (cB .len #[tT 6] #[9]), oO 8 (.binOp .lss 3 (tT 7) (kI 1) 3), oO 9 (.move (tT 8)), oG 10 (.move (tT 0)) 9 false, oG 11 (cB .len #[tT 10] #[9]) 9 false, oG 12 (.binOp .gtr 3 (tT 11) (kI 24) 3) 9 false, oO 13 (.pick (tT 9) (.const (.bool true)) (tT 12))])
 (.cond (tT 13) (.seq (rg [oO 2 (.assign (.const (.bool false)))])
 (.ret))
 (.skip)))
 (.seq (.seq (rg [oO 3 (.assign (kI 0))])
 (.block 0 (.loop (.seq (.seq (rg [oO 14 (.move (tT 3)), oO 15 (.move (tT 0)), oO 16 (cB .len #[tT 15] #[9]), oO 17 (.binOp .lss 3 (tT 14) (tT 16) 3)])
 (.cond (tT 17) (.skip)
 (.exit 0)))
 (.seq (.block 1 (.seq (rg [oO 20 (.move (tT 0)), oO 21 (.move (tT 3)), oO 22 (.index 9 (tT 20) (tT 21)), oO 4 (.assign (tT 22))])
 (.seq (rg [oO 23 (.move (tT 4)), oO 24 (.binOp .geq 5 (tT 23) (kB 97) 5), oO 25 (.move (tT 24)), oG 26 (.move (tT 4)) 25 true, oG 27 (.binOp .leq 5 (tT 26) (kB 122) 5) 25 true, oO 28 (.pick (tT 25) (tT 27) (.const (.bool false))), oO 29 (.move (tT 28)), oG 30 (.move (tT 4)) 29 false, oG 31 (.binOp .geq 5 (tT 30) (kB 65) 5) 29 false, oG 32 (.move (tT 31)) 29 false, oG 33 (.move (tT 4)) 32 true, oG 34 (.binOp .leq 5 (tT 33) (kB 90) 5) 32 true, oG 35 (.pick (tT 32) (tT 34) (.const (.bool false))) 29 false, oO 36 (.pick (tT 29) (.const (.bool true)) (tT 35)), oO 5 (.assign (tT 36))])
 (.seq (rg [oO 37 (.move (tT 5)), oO 38 (.unOp .not 4 (tT 37)), oO 39 (.move (tT 38)), oG 40 (.move (tT 3)) 39 true, oG 41 (.binOp .eql 3 (tT 40) (kI 0) 3) 39 true, oG 42 (.move (tT 41)) 39 true, oG 43 (.move (tT 4)) 42 false, oG 44 (.binOp .neq 5 (tT 43) (kB 95) 5) 42 false, oG 45 (.move (tT 44)) 42 false, oG 46 (.move (tT 4)) 45 true, oG 47 (.binOp .lss 5 (tT 46) (kB 48) 5) 45 true, oG 48 (.move (tT 47)) 45 true, oG 49 (.move (tT 4)) 48 false, oG 50 (.binOp .gtr 5 (tT 49) (kB 57) 5) 48 false, oG 51 (.pick (tT 48) (.const (.bool true)) (tT 50)) 45 true, oG 52 (.pick (tT 45) (tT 51) (.const (.bool false))) 42 false, oG 53 (.pick (tT 42) (.const (.bool true)) (tT 52)) 39 true, oO 54 (.pick (tT 39) (tT 53) (.const (.bool false)))])
 (.cond (tT 54) (.seq (rg [oO 2 (.assign (.const (.bool false)))])
 (.ret))
 (.skip))))))
 (rg [oO 18 (.move (tT 3)), oO 19 (.binOp .add 3 (tT 18) (kI 1) 3), oO 3 (.assign (tT 19))]))))))
 (.seq (rg [oO 2 (.assign (.const (.bool true)))])
 .ret)))
theorem F177 : Fun1 Tryz.prog 177 55 c177 [.tmp 2] := mkT Tryz.func177 rfl (by decide +kernel) Tryz.ntmps177 rfl (by kernel_rfl) rfl
def c178 : AC :=
.seq (rg [oO 2 (.assign (.const (.bool false)))])
 (.seq (.seq (rg [oO 3 (.assign (kB 0))])
 (.block 0 (.loop (.seq (.seq (rg [oO 4 (.move (tT 3)), oO 5 (.binOp .leq 81 (tT 4) (kB 5) 81)])
 (.cond (tT 5) (.skip)
 (.exit 0)))
 (.seq (.block 1 (.seq (rg [oO 8 (.move (tT 3)), oO 9 (cF (.func 215) #[tT 8] #[81]), oO 10 (.move (tT 0)), oO 11 (.binOp .eql 9 (tT 9) (tT 10) 9)])
 (.cond (tT 11) (.seq (rg [oO 2 (.assign (.const (.bool true)))])
 (.ret))
 (.skip))))
 (rg [oO 6 (.move (tT 3)), oO 7 (.binOp .add 81 (tT 6) (kB 1) 81), oO 3 (.assign (tT 7))]))))))
 (.seq (rg [oO 2 (.assign (.const (.bool false)))])
 .ret))
theorem F178 : Fun1 Tryz.prog 178 12 c178 [.tmp 2] := mkT Tryz.func178 rfl (by decide +kernel) Tryz.ntmps178 rfl (by kernel_rfl) rfl
def c215 : AC :=
.seq (rg [oO 2 (.assign (.const (.string { data := #[] })))])
 (.seq (.seq (rg [oO 3 (.move (tT 0))])
 (.block 0 (.seq (rg [oO 5 (.binOp .eql 81 (tT 3) (kB 0) 81), oO 4 (.assign (tT 5))])
 (.cond (tT 4) (.seq (rg [oO 2 (.assign (.const (.string { data := #[116, 111, 112] })))])
 (.ret))
 (.seq (rg [oO 7 (.binOp .eql 81 (tT 3) (kB 1) 81), oO 6 (.assign (tT 7))])
 (.cond (tT 6) (.seq (rg [oO 2 (.assign (.const (.string { data := #[105, 110, 116] })))])
 (.ret))
 (.seq (rg [oO 9 (.binOp .eql 81 (tT 3) (kB 2) 81), oO 8 (.assign (tT 9))])
 (.cond (tT 8) (.seq (rg [oO 2 (.assign (.const (.string { data := #[98, 111, 111, 108] })))])
 (.ret))
 (.seq (rg [oO 11 (.binOp .eql 81 (tT 3) (kB 3) 81), oO 10 (.assign (tT 11))])
 (.cond (tT 10) (.seq (rg [oO 2 (.assign (.const (.string { data := #[110, 117, 108, 108] })))])
 (.ret))
 (.seq (rg [oO 13 (.binOp .eql 81 (tT 3) (kB 4) 81), oO 12 (.assign (tT 13))])
 (.cond (tT 12) (.seq (rg [oO 2 (.assign (.const (.string { data := #[105, 110, 116, 115] })))])
 (.ret))
 (.seq (rg [oO 15 (.binOp .eql 81 (tT 3) (kB 5) 81), oO 14 (.assign (tT 15))])
 (.cond (tT 14) (.seq (rg [oO 2 (.assign (.const (.string { data := #[97, 110, 121] })))])
 (.ret))
 (.skip)))))))))))))))
 (.seq (rg [oO 2 (.assign (.const (.string { data := #[] })))])
 .ret))
theorem F215 : Fun1 Tryz.prog 215 16 c215 [.tmp 2] := mkT Tryz.func215 rfl (by decide +kernel) Tryz.ntmps215 rfl (by kernel_rfl) rfl
def c180 : AC :=
.seq (rg [oO 4 (.assign (.const (.bool false)))])
 (.seq (.seq (rg [oO 5 (.assign (kI 0))])
 (.block 0 (.loop (.seq (.seq (rg [oO 6 (.move (tT 5)), oO 7 (.move (tT 0)), oO 8 (cB .len #[tT 7] #[152]), oO 9 (.binOp .lss 3 (tT 6) (tT 8) 3)])
 (.cond (tT 9) (.skip)
 (.exit 0)))
 (.seq (.block 1 (.seq (rg [oO 12 (.move (tT 0)), oO 13 (.move (tT 5)), oO 14 (.indexAddr 152 (tT 12) (tT 13)), oO 15 (.fieldAddr 157 (tT 14) 0), oO 16 (.load 9 (tT 15)), oO 17 (.move (tT 1)), oO 18 (.binOp .eql 9 (tT 16) (tT 17) 9)])
 (.cond (tT 18) (.seq (rg [oO 4 (.assign (.const (.bool true)))])
 (.ret))
 (.skip))))
 (rg [oO 10 (.move (tT 5)), oO 11 (.binOp .add 3 (tT 10) (kI 1) 3), oO 5 (.assign (tT 11))]))))))
 (.seq (rg [oO 4 (.assign (.const (.bool false)))])
 .ret))
theorem F180 : Fun1 Tryz.prog 180 19 c180 [.tmp 4] := mkT Tryz.func180 rfl (by decide +kernel) Tryz.ntmps180 rfl (by kernel_rfl) rfl
def c179 : AC :=
.seq (rg [oO 4 (.assign (.const (.slice none 0 0)))])
 (.seq (rg [oO 8 (.move (tT 0)), oO 9 (.move (tT 1)), oO 10 (cF (.func 133) #[tT 8, tT 9] #[22, 3]), oO 5 (.assign (tT 10))])
 (.seq (rg [oO 6 (.assign (.const (.slice none 0 0)))])
 (.seq (.seq (rg [oO 11 (.move (tT 5)), oO 12 (cB .len #[tT 11] #[29]), oO 13 (.binOp .sub 3 (tT 12) (kI 1) 3), oO 7 (.assign (tT 13))])
 (.block 0 (.loop (.seq (.seq (rg [oO 14 (.move (tT 7)), oO 15 (.binOp .geq 3 (tT 14) (kI 0) 3)])
 (.cond (tT 15) (.skip)
 (.exit 0)))
 (.seq (.block 1 (rg [oO 18 (.move (tT 6)), oO 19 (.move (tT 0)), oO 20 (.move (tT 5)), oO 21 (.move (tT 7)), oO 22 (.indexAddr 29 (tT 20) (tT 21)), oO 23 (.load 3 (tT 22)), oO 24 (.indexAddr 22 (tT 19) (tT 23)), oO 25 (.fieldAddr 154 (tT 24) 2), oO 26 (.load 152 (tT 25)), oO 27 (cB .append #[tT 18, tT 26] #[152, 152]), oO 6 (.assign (tT 27))]))
 (rg [oO 16 (.move (tT 7)), oO 17 (.binOp .sub 3 (tT 16) (kI 1) 3), oO 7 (.assign (tT 17))]))))))
 (.seq (rg [oO 28 (.move (tT 6)), oO 4 (.assign (tT 28))])
 .ret))))
theorem F179 : Fun1 Tryz.prog 179 29 c179 [.tmp 4] := mkT Tryz.func179 rfl (by decide +kernel) Tryz.ntmps179 rfl (by kernel_rfl) rfl
def c133 : AC :=
.seq (rg [oO 4 (.assign (.const (.slice none 0 0)))])
 (.seq (rg [oO 5 (.assign (.const (.slice none 0 0)))])
 (.seq (.block 0 (.loop (.seq (.seq (rg [oO 6 (.move (tT 1)), oO 7 (.binOp .geq 3 (tT 6) (kI 0) 3), oO 8 (.move (tT 7)), oG 9 (.move (tT 1)) 8 true, oG 10 (.move (tT 0)) 8 true, oG 11 (cB .len #[tT 10] #[22]) 8 true, oG 12 (.binOp .lss 3 (tT 9) (tT 11) 3) 8 true, oO 13 (.pick (tT 8) (tT 12) (.const (.bool false))), oO 14 (.move (tT 13)), oG 15 (.move (tT 5)) 14 true, oG 16 (cB .len #[tT 15] #[29]) 14 true, oG 17 (.move (tT 0)) 14 true, oG 18 (cB .len #[tT 17] #[22]) 14 true, oG 19 (.binOp .leq 3 (tT 16) (tT 18) 3) 14 true, oO 20 (.pick (tT 14) (tT 19) (.const (.bool false)))])
 (.cond (tT 20) (.skip)
 (.exit 0)))
 (.block 1 (.seq (rg [oO 21 (.move (tT 5)), oO 22 (.move (tT 1)), oO 23 (.buildSlice 29 1 #[(0, .tmp 22)]), oO 24 (cB .append #[tT 21, tT 23] #[29, 29]), oO 5 (.assign (tT 24))])
 (rg [oO 25 (.move (tT 0)), oO 26 (.move (tT 1)), oO 27 (.indexAddr 22 (tT 25) (tT 26)), oO 28 (.fieldAddr 154 (tT 27) 1), oO 29 (.load 3 (tT 28)), oO 1 (.assign (tT 29))]))))))
 (.seq (rg [oO 30 (.move (tT 5)), oO 4 (.assign (tT 30))])
 .ret)))
theorem F133 : Fun1 Tryz.prog 133 31 c133 [.tmp 4] := mkT Tryz.func133 rfl (by decide +kernel) Tryz.ntmps133 rfl (by kernel_rfl) rfl
def c150 : AC :=
.seq (rg [oO 4 (.assign (.const (.bool false)))])
 (.seq (rg [oO 5 (.move (tT 0)), oO 6 (.move (tT 1)), oO 7 (cF (.func 103) #[tT 5, tT 6] #[22, 81]), oO 8 (.move (tT 7)), oG 9 (.move (tT 1)) 8 true, oG 10 (.binOp .neq 81 (tT 9) (kB 0) 81) 8 true, oO 11 (.pick (tT 8) (tT 10) (.const (.bool false))), oO 12 (.move (tT 11)), oG 13 (.move (tT 1)) 12 true, oG 14 (.binOp .neq 81 (tT 13) (kB 3) 81) 12 true, oO 15 (.pick (tT 12) (tT 14) (.const (.bool false))), oO 4 (.assign (tT 15))])
 .ret)
theorem F150 : Fun1 Tryz.prog 150 16 c150 [.tmp 4] := mkT Tryz.func150 rfl (by decide +kernel) Tryz.ntmps150 rfl (by kernel_rfl) rfl
def c103 : AC :=
.seq (rg [oO 4 (.assign (.const (.bool false)))])
 (.seq (rg [oO 5 (.move (tT 1)), oO 6 (.binOp .leq 81 (tT 5) (kB 5) 81), oO 7 (.move (tT 6)), oG 8 (.move (tT 1)) 7 false, oG 9 (.binOp .geq 81 (tT 8) (kB 16) 81) 7 false, oG 10 (.move (tT 9)) 7 false, oG 11 (.move (tT 1)) 10 true, oG 12 (.binOp .sub 81 (tT 11) (kB 16) 81) 10 true, oG 13 (.convert 81 3 (tT 12)) 10 true, oG 14 (.move (tT 0)) 10 true, oG 15 (cB .len #[tT 14] #[22]) 10 true, oG 16 (.binOp .lss 3 (tT 13) (tT 15) 3) 10 true, oG 17 (.pick (tT 10) (tT 16) (.const (.bool false))) 7 false, oO 18 (.pick (tT 7) (.const (.bool true)) (tT 17)), oO 4 (.assign (tT 18))])
 .ret)
theorem F103 : Fun1 Tryz.prog 103 19 c103 [.tmp 4] := mkT Tryz.func103 rfl (by decide +kernel) Tryz.ntmps103 rfl (by kernel_rfl) rfl
def c60 : AC :=
.seq (rg [oO 6 (.alloc 84), oO 7 (.assign (kI 0))])
 (.seq (rg [oO 13 (.move (tT 2)), oO 14 (cF (.func 104) #[tT 13] #[3]), oO 12 (.move (tT 14)), oO 15 (.extract (tT 12) 0), oO 16 (.extract (tT 12) 1), oO 8 (.alloc 84), oN (.store 84 (tT 8) (tT 15)), oO 9 (.assign (tT 16))])
 (.seq (.seq (rg [oO 17 (.move (tT 9)), oO 18 (.binOp .neq 32 (tT 17) (kI 0) 32), oO 19 (.move (tT 18)), oG 20 (.move (tT 1)) 19 false, oG 21 (cB .len #[tT 20] #[93]) 19 false, oG 22 (.binOp .gtr 3 (tT 21) (kI 8) 3) 19 false, oO 23 (.pick (tT 19) (.const (.bool true)) (tT 22)), oO 24 (.move (tT 23)), oG 25 (.move (tT 1)) 24 false, oG 26 (cB .len #[tT 25] #[93]) 24 false, oG 27 (.move (tT 2)) 24 false, oG 28 (.binOp .gtr 3 (tT 26) (tT 27) 3) 24 false, oO 29 (.pick (tT 24) (.const (.bool true)) (tT 28))])
 (.cond (tT 29) (.seq (rg [oO 30 (.build 84 #[]), oN (.store 84 (tT 6) (tT 30)), oO 7 (.assign (kI 1))])
 (.ret))
 (.skip)))
 (.seq (.seq (rg [oO 31 (.move (tT 1)), oO 32 (cB .len #[tT 31] #[93]), oO 33 (.move (kI 0))])
 (.block 0 (.loop (.seq (rg [oO 34 (.binOp .lss 3 (tT 33) (tT 32) 3)])
 (.seq (.cond (tT 34) (.skip)
 (.exit 0))
 (.seq (.block 1 (.seq (rg [oO 35 (.move (tT 33)), oO 36 (.indexAddr 93 (tT 31) (tT 33)), oO 37 (.load 81 (tT 36)), oO 10 (.assign (tT 35)), oO 11 (.assign (tT 37))])
 (.seq (.seq (rg [oO 38 (.move (tT 0)), oO 39 (.move (tT 11)), oO 40 (cF (.func 105) #[tT 38, tT 39] #[22, 81]), oO 41 (.unOp .not 4 (tT 40))])
 (.cond (tT 41) (.seq (rg [oO 42 (.build 84 #[]), oN (.store 84 (tT 6) (tT 42)), oO 7 (.assign (kI 1))])
 (.ret))
 (.skip)))
 (rg [oO 43 (.move (tT 10)), oO 44 (.move (tT 11)), oO 45 (.fieldAddr 84 (tT 8) 2), oO 46 (.indexAddr 82 (tT 45) (tT 43)), oN (.store 81 (tT 46) (tT 44))]))))
 (rg [oO 47 (.binOp .add 3 (tT 33) (kI 1) 3), oO 33 (.move (tT 47))])))))))
 (.seq (rg [oO 48 (.load 84 (tT 8)), oN (.store 84 (tT 6) (tT 48)), oO 7 (.assign (kI 0))])
 .ret))))
theorem F60 : Fun1 Tryz.prog 60 49 c60 [.cell 6 84, .tmp 7] := mkT Tryz.func60 rfl (by decide +kernel) Tryz.ntmps60 rfl (by kernel_rfl) rfl
def c104 : AC :=
.seq (rg [oO 2 (.alloc 84), oO 3 (.assign (kI 0))])
 (.seq (.seq (rg [oO 4 (.move (tT 0)), oO 5 (.binOp .lss 3 (tT 4) (kI 0) 3), oO 6 (.move (tT 5)), oG 7 (.move (tT 0)) 6 false, oG 8 (.binOp .gtr 3 (tT 7) (kI 16) 3) 6 false, oO 9 (.pick (tT 6) (.const (.bool true)) (tT 8))])
 (.cond (tT 9) (.seq (rg [oO 10 (.build 84 #[]), oN (.store 84 (tT 2) (tT 10)), oO 3 (.assign (kI 1))])
 (.ret))
 (.skip)))
 (.seq (rg [oO 11 (.move (tT 0)), oO 12 (.build 84 #[(0, .tmp 11)]), oN (.store 84 (tT 2) (tT 12)), oO 3 (.assign (kI 0))])
 .ret))
theorem F104 : Fun1 Tryz.prog 104 13 c104 [.cell 2 84, .tmp 3] := mkT Tryz.func104 rfl (by decide +kernel) Tryz.ntmps104 rfl (by kernel_rfl) rfl
def c105 : AC :=
.seq (rg [oO 4 (.assign (.const (.bool false)))])
 (.seq (rg [oO 5 (.move (tT 0)), oO 6 (.move (tT 1)), oO 7 (cF (.func 103) #[tT 5, tT 6] #[22, 81]), oO 8 (.move (tT 7)), oG 9 (.move (tT 1)) 8 true, oG 10 (.binOp .neq 81 (tT 9) (kB 0) 81) 8 true, oO 11 (.pick (tT 8) (tT 10) (.const (.bool false))), oO 12 (.move (tT 11)), oG 13 (.move (tT 1)) 12 true, oG 14 (.binOp .neq 81 (tT 13) (kB 3) 81) 12 true, oO 15 (.pick (tT 12) (tT 14) (.const (.bool false))), oO 4 (.assign (tT 15))])
 .ret)
theorem F105 : Fun1 Tryz.prog 105 16 c105 [.tmp 4] := mkT Tryz.func105 rfl (by decide +kernel) Tryz.ntmps105 rfl (by kernel_rfl) rfl
structure Fd where
  name : ByteArray
  ty : Ty
  deriving DecidableEq
structure Cl where
  name : ByteArray
  parent : Int
  fields : List Fd
  deriving DecidableEq
def eF (f : Fd) : List D := [.str f.name, .int .u8 f.ty.val]
def eC (c : Cl) : List D := [.str c.name, .int .i64 c.parent, .slice .no (rws eF c.fields)]
theorem eF_len (f : Fd) : (eF f).length = 2 := rfl
theorem eC_len (c : Cl) : (eC c).length = 3 := rfl
theorem wrap_ty_i64 (t : Ty) : IntKind.wrap .i64 (t.val : Int) = t.val := wrap_i64 (by omega) (by omega)
def clsOf (n : Nat) (t : Ty) : Int := if 16 ≤ t.val ∧ t.val - 16 < n then (t.val : Int) - 16 else -1
def validN (n : Nat) (t : Ty) : Bool := decide (t.val ≤ 5 ∨ 16 ≤ t.val ∧ t.val - 16 < n)
theorem class147 (l : List Cl) (o : Own) (t : Ty) : PCall Tryz.prog 170 [.slice o (rws eC l), .int .u8 t.val] (.int .i64 (clsOf l.length t)) := by
  refine F170.pcall' rfl fun T hT => ?_
  simp -implicitDefEqProofs only [go_sem, c170, hT]
  refine gbr_split (fun h => ?_) fun h => ?_
  · have h1 : 16 ≤ t.val := by simp at h; omega
    have h2 : ((t.val : Int) < 16) = False := by simp; omega
    have h3 : IntKind.wrap .u8 ((t.val : Int) - 16) = (t.val : Int) - 16 := wrap_u8 (by omega) (by omega)
    have h4 : IntKind.wrap .i64 ((t.val : Int) - 16) = (t.val : Int) - 16 := wrap_i64 (by omega) (by omega)
    simp -implicitDefEqProofs only [go_sem, hT, h2, h3, h4]
    refine br_split (fun h => DLe.of_eq ?_) fun h => DLe.of_eq ?_
    · simp at h
      rw [clsOf, if_neg (by omega)]
    · simp at h
      rw [clsOf, if_pos (by omega)]
  · have h2 : ((t.val : Int) < 16) = True := by simp at h; simp; omega
    simp -implicitDefEqProofs only [go_sem, hT, h2]
    refine DLe.of_eq ?_
    simp at h2
    rw [clsOf, if_neg (by omega)]
theorem clsOf_ge (n : Nat) (t : Ty) : (0 ≤ clsOf n t) = (16 ≤ t.val ∧ t.val - 16 < n) := by
  unfold clsOf
  split <;> rename_i h
  · simp [h]; omega
  · simp [h]
theorem valid105 (l : List Cl) (o : Own) (t : Ty) : PCall Tryz.prog 139 [.slice o (rws eC l), .int .u8 t.val] (.bool (validN l.length t)) := by
  refine F139.pcall' rfl fun T hT => ?_
  simp -implicitDefEqProofs only [go_sem, c139, hT]
  refine gbr_split (fun h => ?_) fun h => ?_
  · have h2 : ((t.val : Int) ≤ 5) = False := by simp at h; simp; omega
    simp -implicitDefEqProofs only [go_sem, hT, h2]
    refine callB_pure (class147 l o t) ?_
    simp -implicitDefEqProofs only [go_sem, hT, h2]
    refine DLe_bool ?_
    simp at h2
    simp [validN, clsOf_ge]
    omega
  · have h2 : ((t.val : Int) ≤ 5) = True := by simp at h; simp; omega
    simp -implicitDefEqProofs only [go_sem, hT, h2]
    refine DLe_bool ?_
    simp at h2
    simp [validN]
    omega
theorem refValid87 (l : List Cl) (o : Own) (t : Ty) : PCall Tryz.prog 103 [.slice o (rws eC l), .int .u8 t.val] (.bool (validN l.length t)) := by
  refine F103.pcall' rfl fun T hT => ?_
  by_cases h1 : t.val ≤ 5
  · have h2 : ((t.val : Int) ≤ 5) = True := by simp; omega
    simp -implicitDefEqProofs only [go_sem, c103, hT, h2]
    refine DLe_bool ?_
    simp [validN, h1]
  · have h2 : ((t.val : Int) ≤ 5) = False := by simp; omega
    by_cases h3 : 16 ≤ t.val
    · have h4 : ((16 : Int) ≤ t.val) = True := by simp; omega
      have h5 : IntKind.wrap .u8 ((t.val : Int) - 16) = (t.val : Int) - 16 := wrap_u8 (by omega) (by omega)
      have h6 : IntKind.wrap .i64 ((t.val : Int) - 16) = (t.val : Int) - 16 := wrap_i64 (by omega) (by omega)
      simp -implicitDefEqProofs only [go_sem, c103, hT, h2, h4, h5, h6]
      refine DLe_bool ?_
      simp [validN, h1, h3]
      omega
    · have h4 : ((16 : Int) ≤ t.val) = False := by simp; omega
      simp -implicitDefEqProofs only [go_sem, c103, hT, h2, h4]
      refine DLe_bool ?_
      simp [validN, h1, h3]
def storedN (n : Nat) (t : Ty) : Bool := validN n t && decide (t.val ≠ 0 ∧ t.val ≠ 3)
theorem stored146 (l : List Cl) (o : Own) (t : Ty) : PCall Tryz.prog 191 [.slice o (rws eC l), .int .u8 t.val] (.bool (storedN l.length t)) := by
  refine F191.pcall' rfl fun T hT => ?_
  by_cases h1 : (t.val : Int) = 1
  · simp -implicitDefEqProofs only [go_sem, c191, hT, h1]
    exact DLe_bool (by simp [storedN, validN]; omega)
  by_cases h2 : (t.val : Int) = 2
  · simp -implicitDefEqProofs only [go_sem, c191, hT, h1, h2]
    exact DLe_bool (by simp [storedN, validN]; omega)
  by_cases h3 : (t.val : Int) = 4
  · simp -implicitDefEqProofs only [go_sem, c191, hT, h1, h2, h3]
    exact DLe_bool (by simp [storedN, validN]; omega)
  by_cases h4 : (t.val : Int) = 5
  · simp -implicitDefEqProofs only [go_sem, c191, hT, h1, h2, h3, h4]
    exact DLe_bool (by simp [storedN, validN]; omega)
  simp -implicitDefEqProofs only [go_sem, c191, hT, h1, h2, h3, h4]
  refine callB_pure (class147 l o t) ?_
  simp -implicitDefEqProofs only [go_sem, hT, h1, h2, h3, h4]
  exact DLe_bool (by rw [Bool.eq_iff_iff]; simp [storedN, validN, clsOf_ge]; omega)
theorem stored66 (l : List Cl) (o : Own) (t : Ty) : PCall Tryz.prog 121 [.slice o (rws eC l), .int .u8 t.val] (.bool (storedN l.length t)) := by
  refine F121.pcall' rfl fun T hT => ?_
  simp -implicitDefEqProofs only [go_sem, c121, hT]
  refine callB_pure (valid105 l o t) ?_
  cases hv : validN l.length t
  · simp -implicitDefEqProofs only [go_sem, hT]
    exact DLe_bool (by simp [storedN, hv])
  · by_cases h1 : (t.val : Int) = 0
    · simp -implicitDefEqProofs only [go_sem, hT, h1]
      exact DLe_bool (by rw [Bool.eq_iff_iff]; simp [storedN, hv]; omega)
    · simp -implicitDefEqProofs only [go_sem, hT, h1]
      exact DLe_bool (by rw [Bool.eq_iff_iff]; simp [storedN, hv]; omega)
theorem refStored109 (l : List Cl) (o : Own) (t : Ty) : PCall Tryz.prog 150 [.slice o (rws eC l), .int .u8 t.val] (.bool (storedN l.length t)) := by
  refine F150.pcall' rfl fun T hT => ?_
  simp -implicitDefEqProofs only [go_sem, c150, hT]
  refine callB_pure (refValid87 l o t) ?_
  cases hv : validN l.length t
  · simp -implicitDefEqProofs only [go_sem, hT]
    exact DLe_bool (by simp [storedN, hv])
  · by_cases h1 : (t.val : Int) = 0
    · simp -implicitDefEqProofs only [go_sem, hT, h1]
      exact DLe_bool (by rw [Bool.eq_iff_iff]; simp [storedN, hv]; omega)
    · simp -implicitDefEqProofs only [go_sem, hT, h1]
      exact DLe_bool (by rw [Bool.eq_iff_iff]; simp [storedN, hv]; omega)
theorem refStored111 (l : List Cl) (o : Own) (t : Ty) : PCall Tryz.prog 105 [.slice o (rws eC l), .int .u8 t.val] (.bool (storedN l.length t)) := by
  refine F105.pcall' rfl fun T hT => ?_
  simp -implicitDefEqProofs only [go_sem, c105, hT]
  refine callB_pure (refValid87 l o t) ?_
  cases hv : validN l.length t
  · simp -implicitDefEqProofs only [go_sem, hT]
    exact DLe_bool (by simp [storedN, hv])
  · by_cases h1 : (t.val : Int) = 0
    · simp -implicitDefEqProofs only [go_sem, hT, h1]
      exact DLe_bool (by rw [Bool.eq_iff_iff]; simp [storedN, hv]; omega)
    · simp -implicitDefEqProofs only [go_sem, hT, h1]
      exact DLe_bool (by rw [Bool.eq_iff_iff]; simp [storedN, hv]; omega)
def idxFrom {α : Type} (p : α → Bool) : List α → Nat → Int
  | [], _ => -1
  | x :: xs, i => if p x then (i : Int) else idxFrom p xs (i + 1)
def idxOf {α : Type} (p : α → Bool) (xs : List α) : Int := idxFrom p xs 0
theorem idxFrom_drop {α : Type} {p : α → Bool} {xs : List α} {i : Nat} (h : i < xs.length) : idxFrom p (xs.drop i) i = if p xs[i] then (i : Int) else idxFrom p (xs.drop (i + 1)) (i + 1) := by
  rw [List.drop_eq_getElem_cons h]; rfl
theorem idxFrom_ge {α : Type} {p : α → Bool} : ∀ {xs : List α} {i : Nat}, (0 ≤ idxFrom p xs i) = (xs.any p = true)
  | [], i => by simp [idxFrom]
  | x :: xs, i => by
    unfold idxFrom
    cases h : p x
    · simp [h, idxFrom_ge (xs := xs)]
    · simp [h]
def Tests {α : Type} (g : FuncId) (fi ca : List D) (one : α → D) (p : α → Bool) (xs : List α) (σ : St) : Prop :=
  ∀ x ∈ xs, RCall Tryz.prog g (fi ++ [one x] ++ ca) σ fun d s' => d = .bool (p x) ∧ s' = σ
theorem idxFunc106 (xs : List Ty) (o : Own) (g : FuncId) (fi ca : List D) (p : Ty → Bool) (σ : St) (hl : xs.length ≤ 140737488355328) (hp : Tests g fi ca (fun t : Ty => D.int .u8 t.val) p xs σ) :
    RCall Tryz.prog 158 [.slice o (rws eT xs), .func (.func g) fi ca] σ fun d s' => d = .int .i64 (idxOf p xs) ∧ s' = σ := by
  refine F158.rcall rfl fun T hT => ?_
  simp -implicitDefEqProofs only [go_sem, c158, hT]
  refine loopL F158 (fun i : Nat => [(0, .slice o (rws eT xs)), (1, .func (.func g) fi ca), (7, .int .i64 xs.length), (8, .int .i64 i)]) (fun _ => σ) (fun i => i ≤ xs.length ∧ idxFrom p xs 0 = idxFrom p (xs.drop i) i) (fun i => xs.length - i) 0
    ⟨Nat.zero_le _, rfl⟩ ?_ (St.le.refl _) ?_
  · simp -implicitDefEqProofs only [go_sem, hT, Int.ofNat_zero]
  rintro i ⟨hi, heq⟩ T hT
  simp -implicitDefEqProofs only [go_sem, hT]
  refine br_split (fun h => ?_) fun h => ?_
  · have h : i < xs.length := by simpa using h
    simp -implicitDefEqProofs only [go_sem, hT, rws_at h, eT_len, eT]
    refine ⟨⟨by omega, by omega⟩, ?_⟩
    refine callB_all (hp xs[i] (by simp)) ?_
    rintro d s' ⟨rfl, rfl⟩
    rw [idxFrom_drop h] at heq
    simp -implicitDefEqProofs only [go_sem, hT]
    refine br_split (fun h' => ?_) fun h' => ?_
    · exact ⟨_, _, DLe.refl _, St.le.refl _, by simp [idxOf, heq, h'], rfl⟩
    · refine ⟨i + 1, ⟨by omega, by simpa [h'] using heq⟩, by omega, ?_, St.le.refl _⟩
      rw [wrap_i64 (by omega) (by omega)]
      simp
  · have h : ¬ i < xs.length := by simpa using h
    refine ⟨_, _, DLe.refl _, St.le.refl _, ?_, rfl⟩
    rw [idxOf, heq, List.drop_of_length_le (by omega)]
    rfl
theorem contFunc67 (xs : List Ty) (o : Own) (g : FuncId) (fi ca : List D) (p : Ty → Bool) (σ : St) (hl : xs.length ≤ 140737488355328) (hp : Tests g fi ca (fun t : Ty => D.int .u8 t.val) p xs σ) :
    RCall Tryz.prog 122 [.slice o (rws eT xs), .func (.func g) fi ca] σ fun d s' => d = .bool (xs.any p) ∧ s' = σ := by
  refine F122.rcall rfl fun T hT => ?_
  simp -implicitDefEqProofs only [go_sem, c122, hT]
  refine callB_all (idxFunc106 xs o g fi ca p σ hl hp) ?_
  rintro d s' ⟨rfl, rfl⟩
  simp -implicitDefEqProofs only [go_sem, hT, idxOf, idxFrom_ge]
  exact ⟨_, _, DLe.refl _, St.le.refl _, by rw [D.bool.injEq, Bool.eq_iff_iff]; simp, rfl⟩
def upL (l : List Cl) (c : Nat) : List Nat :=
  match l[c]? with
  | some x => c :: (if h : 0 ≤ x.parent ∧ x.parent < c then upL l x.parent.toNat else [])
  | none => []
termination_by c
decreasing_by omega
def upI (l : List Cl) (c : Int) : List Nat := if 0 ≤ c then upL l c.toNat else []
theorem upI_step {l : List Cl} {c : Nat} (h : c < l.length) : upI l c = c :: (if l[c].parent < c then upI l l[c].parent else []) := by
  rw [upI, if_pos (by omega), upL]
  simp only [Int.toNat_natCast, List.getElem?_eq_getElem h]
  unfold upI
  by_cases h1 : 0 ≤ l[c].parent <;> by_cases h2 : l[c].parent < (c : Int) <;> simp [h1, h2]
theorem upI_neg {l : List Cl} {c : Int} (h : c < 0) : upI l c = [] := by rw [upI, if_neg (by omega)]
theorem upI_out {l : List Cl} {c : Int} (h : (l.length : Int) ≤ c) : upI l c = [] := by
  rw [upI, if_pos (by omega), upL, List.getElem?_eq_none (by omega)]
def Runs {α : Type} (Step : α → Nat → Bool → α → Prop) : List Nat → α → α → Prop
  | [], a, a' => a' = a
  | c :: cs, a, a'' => ∃ b a', Step a c b a' ∧ if b = true then Runs Step cs a' a'' else a'' = a'
def byteI (s : ByteArray) (i : Nat) : Int := ((s.data.toList[i]?.getD 0).toNat : Int)
theorem byteI_eq (s : ByteArray) (i : Nat) : (((s.data.toList[i]?.getD 0).toNat : Nat) : Int) = byteI s i := rfl
def letterI (c : Int) : Bool := decide (97 ≤ c ∧ c ≤ 122 ∨ 65 ≤ c ∧ c ≤ 90)
def nameByte (s : ByteArray) (i : Nat) : Bool := letterI (byteI s i) || decide (0 < i ∧ (48 ≤ byteI s i ∧ byteI s i ≤ 57 ∨ byteI s i = 95))
def isNameB (s : ByteArray) : Bool := decide (0 < s.size ∧ s.size ≤ 24 ∧ ∀ i < s.size, nameByte s i = true)
theorem isName99 (s : ByteArray) : PCall Tryz.prog 152 [.str s] (.bool (isNameB s)) := by
  refine F152.pcall' rfl fun T hT => ?_
  by_cases h0 : (s.size : Int) = 0
  · simp -implicitDefEqProofs only [go_sem, c152, hT, h0]
    exact DLe_bool (by rw [Bool.eq_iff_iff]; simp [isNameB]; omega)
  by_cases h1 : (24 : Int) < s.size
  · simp -implicitDefEqProofs only [go_sem, c152, hT, h0, h1]
    exact DLe_bool (by rw [Bool.eq_iff_iff]; simp [isNameB]; omega)
  simp -implicitDefEqProofs only [go_sem, c152, hT, h0, h1]
  refine loopL F152 (fun i : Nat => [(0, .str s), (14, .int .i64 s.size), (15, .int .i64 i)]) (fun _ => {}) (fun i => i ≤ s.size ∧ ∀ j < i, nameByte s j = true) (fun i => s.size - i) 0
    ⟨Nat.zero_le _, by simp⟩ ?_ (St.le.refl _) ?_
  · simp -implicitDefEqProofs only [go_sem, hT, Int.ofNat_zero]
  rintro i ⟨hi, hok⟩ T hT
  by_cases h : i < s.size
  · have h2 : ((i : Int) < s.size) = True := by simp; omega
    have good : nameByte s i = true → ∃ y : Nat, (y ≤ s.size ∧ ∀ j < y, nameByte s j = true) ∧ s.size - y < s.size - i ∧ D.int .i64 (IntKind.wrap .i64 ((i : Int) + 1)) = D.int .i64 (y : Int) ∧ ({} : St).le {} := fun g =>
      ⟨i + 1, ⟨by omega, fun j hj => by
        rcases Nat.lt_or_eq_of_le (Nat.le_of_lt_succ hj) with hj | rfl
        · exact hok j hj
        · exact g⟩, by omega, by rw [wrap_i64 (by omega) (by omega)]; simp, St.le.refl _⟩
    have bad : nameByte s i = false → DLe (.bool false) (.bool (isNameB s)) := fun g => DLe_bool (by
      cases hh : isNameB s with
      | false => rfl
      | true => rw [(of_decide_eq_true hh).2.2 i h] at g; cases g)
    simp -implicitDefEqProofs only [go_sem, mmB, hT, h2, byteI_eq]
    refine ⟨by omega, br_split (fun h => good ?_) fun h => bad ?_⟩
    · simp at h; simp [nameByte, letterI]; omega
    · rw [← Bool.not_eq_true] at h ⊢; simp at h; simp [nameByte, letterI]; omega
  · have h2 : ((i : Int) < s.size) = False := by simp; omega
    simp -implicitDefEqProofs only [go_sem, hT, h2]
    refine DLe_bool ?_
    symm
    exact decide_eq_true ⟨by omega, by omega, fun j hj => hok j (by omega)⟩
theorem isName148 (s : ByteArray) : PCall Tryz.prog 177 [.str s] (.bool (isNameB s)) := by
  refine F177.pcall' rfl fun T hT => ?_
  by_cases h0 : ((s.size : Int) < 1)
  · simp -implicitDefEqProofs only [go_sem, mmB, c177, hT, h0]
    exact DLe_bool (by rw [Bool.eq_iff_iff]; simp [isNameB]; omega)
  by_cases h1 : (24 : Int) < s.size
  · simp -implicitDefEqProofs only [go_sem, mmB, c177, hT, h0, h1]
    exact DLe_bool (by rw [Bool.eq_iff_iff]; simp [isNameB]; omega)
  simp -implicitDefEqProofs only [go_sem, mmB, c177, hT, h0, h1]
  refine loopL F177 (fun i : Nat => [(0, .str s), (3, .int .i64 i)]) (fun _ => {}) (fun i => i ≤ s.size ∧ ∀ j < i, nameByte s j = true) (fun i => s.size - i) 0
    ⟨Nat.zero_le _, by simp⟩ ?_ (St.le.refl _) ?_
  · simp -implicitDefEqProofs only [go_sem, hT, Int.ofNat_zero]
  rintro i ⟨hi, hok⟩ T hT
  by_cases h : i < s.size
  · have h2 : ((i : Int) < s.size) = True := by simp; omega
    have good : nameByte s i = true → ∃ y : Nat, (y ≤ s.size ∧ ∀ j < y, nameByte s j = true) ∧ s.size - y < s.size - i ∧ D.int .i64 (IntKind.wrap .i64 ((i : Int) + 1)) = D.int .i64 (y : Int) ∧ ({} : St).le {} := fun g =>
      ⟨i + 1, ⟨by omega, fun j hj => by
        rcases Nat.lt_or_eq_of_le (Nat.le_of_lt_succ hj) with hj | rfl
        · exact hok j hj
        · exact g⟩, by omega, by rw [wrap_i64 (by omega) (by omega)]; simp, St.le.refl _⟩
    have bad : nameByte s i = false → DLe (.bool false) (.bool (isNameB s)) := fun g => DLe_bool (by
      cases hh : isNameB s with
      | false => rfl
      | true => rw [(of_decide_eq_true hh).2.2 i h] at g; cases g)
    simp -implicitDefEqProofs only [go_sem, mmB, hT, h2, byteI_eq]
    refine ⟨by omega, br_split (fun h => bad ?_) fun h => good ?_⟩
    · rw [← Bool.not_eq_true]; simp at h; simp [nameByte, letterI]; omega
    · rw [← Bool.not_eq_true] at h; simp at h; simp [nameByte, letterI]; omega
  · have h2 : ((i : Int) < s.size) = False := by simp; omega
    simp -implicitDefEqProofs only [go_sem, mmB, hT, h2]
    refine DLe_bool ?_
    symm
    exact decide_eq_true ⟨by omega, by omega, fun j hj => hok j (by omega)⟩
def wordsL : List ByteArray := [⟨#[116, 111, 112]⟩, ⟨#[105, 110, 116]⟩, ⟨#[98, 111, 111, 108]⟩, ⟨#[110, 117, 108, 108]⟩, ⟨#[105, 110, 116, 115]⟩, ⟨#[97, 110, 121]⟩]
def wordOf (t : Nat) : ByteArray := (wordsL[t]?).getD ⟨#[]⟩
def hasN (l : List ByteArray) (x : ByteArray) : Bool := l.any fun y => decide (y = x)
theorem hasN_mem {l : List ByteArray} {x : ByteArray} : (hasN l x = true) = (x ∈ l) := by simp [hasN]
theorem hasN_congr {a b : List ByteArray} (h : ∀ x, x ∈ a ↔ x ∈ b) (x : ByteArray) : hasN a x = hasN b x := by
  rw [Bool.eq_iff_iff, hasN_mem, hasN_mem]; exact h x
def isWordB (s : ByteArray) : Bool := hasN wordsL s
def eY (s : ByteArray) : List D := [.str s]
theorem word183 (t : Ty) : PCall Tryz.prog 215 [.int .u8 t.val] (.str (wordOf t.val)) := by
  refine F215.pcall' rfl fun T hT => ?_
  have six : t.val = 0 ∨ t.val = 1 ∨ t.val = 2 ∨ t.val = 3 ∨ t.val = 4 ∨ t.val = 5 ∨ 6 ≤ t.val := by omega
  rcases six with h | h | h | h | h | h | h
  case inr.inr.inr.inr.inr.inr =>
    have h0 : ((t.val : Int) = 0) = False := by simp; omega
    have h1 : ((t.val : Int) = 1) = False := by simp; omega
    have h2 : ((t.val : Int) = 2) = False := by simp; omega
    have h3 : ((t.val : Int) = 3) = False := by simp; omega
    have h4 : ((t.val : Int) = 4) = False := by simp; omega
    have h5 : ((t.val : Int) = 5) = False := by simp; omega
    simp -implicitDefEqProofs only [go_sem, c215, hT, h0, h1, h2, h3, h4, h5]
    exact DLe.of_eq (by rw [wordOf, List.getElem?_eq_none (by simp [wordsL]; omega)]; rfl)
  all_goals
    rw [h]
    have h' := congrArg (Nat.cast (R := Int)) h
    simp only [Int.ofNat_zero, Int.ofNat_one, Int.cast_ofNat_Int] at h'
    simp -implicitDefEqProofs only [go_sem, c215, hT, h']
    exact DLe.of_eq rfl
theorem isWord149 (s : ByteArray) : PCall Tryz.prog 178 [.str s] (.bool (isWordB s)) := by
  refine F178.pcall' rfl fun T hT => ?_
  simp -implicitDefEqProofs only [go_sem, c178, hT]
  refine loopL F178 (fun i : Nat => [(0, .str s), (3, .int .u8 i)]) (fun _ => {}) (fun i => i ≤ 6 ∧ ∀ j < i, wordOf j ≠ s) (fun i => 6 - i) 0
    ⟨Nat.zero_le _, by simp⟩ ?_ (St.le.refl _) ?_
  · simp -implicitDefEqProofs only [go_sem, hT, Int.ofNat_zero]
  rintro i ⟨hi, hok⟩ T hT
  have iff : (isWordB s = true) ↔ ∃ j < 6, wordOf j = s := by
    simp only [isWordB, hasN_mem]
    constructor
    · intro h
      obtain ⟨j, hj, he⟩ := List.getElem_of_mem h
      exact ⟨j, hj, by rw [wordOf, List.getElem?_eq_getElem hj]; exact he⟩
    · rintro ⟨j, hj, rfl⟩
      rw [wordOf, List.getElem?_eq_getElem (show j < wordsL.length from hj)]
      exact List.getElem_mem _
  by_cases h : i < 6
  · have h2 : ((i : Int) ≤ 5) = True := by simp; omega
    simp -implicitDefEqProofs only [go_sem, hT, h2]
    refine callB_pure (word183 ⟨i, by omega⟩) ?_
    simp -implicitDefEqProofs only [go_sem, hT, h2]
    refine br_split (fun h' => DLe_bool ?_) fun h' => ?_
    · symm; rw [iff]; exact ⟨i, h, of_decide_eq_true h'⟩
    · refine ⟨i + 1, ⟨by omega, fun j hj => ?_⟩, by omega, ?_, St.le.refl _⟩
      · rcases Nat.lt_or_eq_of_le (Nat.le_of_lt_succ hj) with hj | rfl
        · exact hok j hj
        · simpa using h'
      · rw [wrap_u8 (by omega) (by omega)]; simp
  · have h2 : ((i : Int) ≤ 5) = False := by simp; omega
    simp -implicitDefEqProofs only [go_sem, hT, h2]
    refine DLe_bool ?_
    symm; rw [← Bool.not_eq_true, iff]
    rintro ⟨j, hj, he⟩
    exact hok j (by omega) he
theorem words101 : PCall Tryz.prog 154 [] (.slice .no (rws eY wordsL)) := by
  refine F154.pcall' rfl fun T hT => ?_
  simp -implicitDefEqProofs only [go_sem, c154, hT, frz]
  exact DLe.slice _ _
theorem index142 (xs : List ByteArray) (o : Own) (s : ByteArray) (hl : xs.length ≤ 140737488355328) : PCall Tryz.prog 187 [.slice o (rws eY xs), .str s] (.int .i64 (idxOf (fun y => decide (y = s)) xs)) := by
  refine F187.pcall' rfl fun T hT => ?_
  simp -implicitDefEqProofs only [go_sem, c187, hT]
  refine loopL F187 (fun i : Nat => [(0, .slice o (rws eY xs)), (1, .str s), (7, .int .i64 xs.length), (8, .int .i64 i)]) (fun _ => {}) (fun i => i ≤ xs.length ∧ idxFrom (fun y => decide (y = s)) xs 0 = idxFrom (fun y => decide (y = s)) (xs.drop i) i) (fun i => xs.length - i) 0
    ⟨Nat.zero_le _, rfl⟩ ?_ (St.le.refl _) ?_
  · simp -implicitDefEqProofs only [go_sem, hT, Int.ofNat_zero]
  rintro i ⟨hi, heq⟩ T hT
  simp -implicitDefEqProofs only [go_sem, hT]
  refine br_split (fun h => ?_) fun h => ?_
  · have h : i < xs.length := by simpa using h
    simp -implicitDefEqProofs only [go_sem, hT, rws_at h, eY]
    refine ⟨⟨by omega, by omega⟩, ?_⟩
    rw [idxFrom_drop h] at heq
    refine br_split (fun h' => ?_) fun h' => ?_
    · have h' : xs[i] = s := (of_decide_eq_true h').symm
      exact DLe.of_eq (by simp [idxOf, heq, h'])
    · have h' : ¬ xs[i] = s := fun e => by simp [e] at h'
      refine ⟨i + 1, ⟨by omega, by simpa [h'] using heq⟩, by omega, ?_, St.le.refl _⟩
      rw [wrap_i64 (by omega) (by omega)]
      simp
  · have h : ¬ i < xs.length := by simpa using h
    refine DLe.of_eq ?_
    rw [idxOf, heq, List.drop_of_length_le (by omega)]
    rfl
theorem contains100 (xs : List ByteArray) (o : Own) (s : ByteArray) (hl : xs.length ≤ 140737488355328) : PCall Tryz.prog 153 [.slice o (rws eY xs), .str s] (.bool (hasN xs s)) := by
  refine F153.pcall' rfl fun T hT => ?_
  simp -implicitDefEqProofs only [go_sem, c153, hT]
  refine callB_pure (index142 xs o s hl) ?_
  simp -implicitDefEqProofs only [go_sem, hT]
  exact DLe_bool (by rw [Bool.eq_iff_iff, decide_eq_true_iff, idxOf, idxFrom_ge]; rfl)
theorem has150 (l : List Fd) (o : Own) (s : ByteArray) (hl : l.length ≤ 140737488355328) : PCall Tryz.prog 180 [.slice o (rws eF l), .str s] (.bool (hasN (l.map Fd.name) s)) := by
  refine F180.pcall' rfl fun T hT => ?_
  simp -implicitDefEqProofs only [go_sem, c180, hT]
  refine loopL F180 (fun i : Nat => [(0, .slice o (rws eF l)), (1, .str s), (5, .int .i64 i)]) (fun _ => {}) (fun i => i ≤ l.length ∧ hasN (l.map Fd.name) s = hasN ((l.drop i).map Fd.name) s) (fun i => l.length - i) 0
    ⟨Nat.zero_le _, rfl⟩ ?_ (St.le.refl _) ?_
  · simp -implicitDefEqProofs only [go_sem, hT, Int.ofNat_zero]
  rintro i ⟨hi, heq⟩ T hT
  simp -implicitDefEqProofs only [go_sem, hT]
  refine br_split (fun h => ?_) fun h => ?_
  · have h : i < l.length := by simpa using h
    simp -implicitDefEqProofs only [go_sem, hT, rws_at h, eF_len, eF]
    refine ⟨⟨by omega, by omega⟩, ?_⟩
    rw [List.drop_eq_getElem_cons h] at heq
    refine br_split (fun h' => ?_) fun h' => ?_
    · have h' : l[i].name = s := of_decide_eq_true h'
      exact DLe_bool (by rw [heq]; simp only [hasN, List.map_cons, List.any_cons, h', decide_true, Bool.true_or])
    · have h' : ¬ l[i].name = s := by simpa using h'
      refine ⟨i + 1, ⟨by omega, by rw [heq]; simp only [hasN, List.map_cons, List.any_cons, h', decide_false, Bool.false_or]⟩, by omega, ?_, St.le.refl _⟩
      rw [wrap_i64 (by omega) (by omega)]
      simp
  · have h : ¬ i < l.length := by simpa using h
    refine DLe_bool ?_
    rw [heq, List.drop_of_length_le (by omega)]
    rfl
end Go.AL
