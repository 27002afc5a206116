import Derived.Test.YtobmoajkfbigkaaGreatJh
import Derived.Test.YtobmoajkfbigkaaGreatJg
import Derived.Test.YtobmoajkfbigkaaGreatJd
set_option linter.defProp false
set_option linter.unusedSimpArgs false
set_option linter.unusedVariables false
set_option maxRecDepth 100000
set_option maxHeartbeats 400000
namespace Go.AL
open Go.Proofs
def c107 : AC :=
.seq (rg [oO 3 (.box 25 (tT 0)), oO 4 (.box 84 (tT 1)), oO 5 (.box 38 (tT 2)), oO 6 (.alloc 84), oO 7 (.assign (kI 0))])
 (.seq (rg [oO 12 (.build 84 #[]), oO 8 (.alloc 84), oN (.store 84 (tT 8) (tT 12))])
 (.seq (.seq (rg [oO 13 (.load 25 (tT 3)), oO 14 (cF (.func 58) #[tT 13] #[25]), oO 15 (.unOp .not 4 (tT 14))])
 (.cond (tT 15) (.seq (rg [oO 16 (.load 84 (tT 8)), oN (.store 84 (tT 6) (tT 16)), oO 7 (.assign (kI 1))])
 (.ret))
 (.skip)))
 (.seq (.seq (rg [oO 17 (.fieldAddr 25 (tT 3) 0), oO 18 (.load 22 (tT 17)), oO 19 (.load 84 (tT 4)), oO 20 (cF (.func 59) #[tT 18, tT 19] #[22, 84]), oO 9 (.assign (tT 20))])
 (.seq (rg [oO 21 (.move (tT 9)), oO 22 (.binOp .neq 32 (tT 21) (kI 0) 32)])
 (.cond (tT 22) (.seq (rg [oO 23 (.load 84 (tT 8)), oO 24 (.move (tT 9)), oN (.store 84 (tT 6) (tT 23)), oO 7 (.assign (tT 24))])
 (.ret))
 (.skip))))
 (.seq (.seq (rg [oO 25 (.fieldAddr 38 (tT 5) 1), oO 26 (.load 5 (tT 25)), oO 27 (cF (.func 20) #[tT 26] #[5]), oO 28 (.binOp .eql 3 (tT 27) (kI 0) 3)])
 (.cond (tT 28) (.seq (rg [oO 29 (.load 84 (tT 8)), oN (.store 84 (tT 6) (tT 29)), oO 7 (.assign (kI 40))])
 (.ret))
 (.skip)))
 (.seq (rg [oO 30 (.fieldAddr 38 (tT 5) 1), oO 31 (.load 5 (tT 30)), oO 32 (.binOp .eql 5 (tT 31) (kB 4) 5), oO 33 (.move (tT 32)), oG 34 (.fieldAddr 38 (tT 5) 1) 33 false, oG 35 (.load 5 (tT 34)) 33 false, oG 36 (.binOp .eql 5 (tT 35) (kB 5) 5) 33 false, oO 37 (.pick (tT 33) (.const (.bool true)) (tT 36)), oO 10 (.assign (tT 37))])
 (.seq (.seq (rg [oO 38 (.move (tT 10)), oO 39 (.move (tT 38)), oG 40 (.fieldAddr 38 (tT 5) 2) 39 true, oG 41 (.load 3 (tT 40)) 39 true, oG 42 (.binOp .lss 3 (tT 41) (kI 0) 3) 39 true, oG 43 (.move (tT 42)) 39 true, oG 44 (.fieldAddr 38 (tT 5) 2) 43 false, oG 45 (.load 3 (tT 44)) 43 false, oG 46 (.fieldAddr 84 (tT 4) 0) 43 false, oG 47 (.load 3 (tT 46)) 43 false, oG 48 (.binOp .geq 3 (tT 45) (tT 47) 3) 43 false, oG 49 (.pick (tT 43) (.const (.bool true)) (tT 48)) 39 true, oO 50 (.pick (tT 39) (tT 49) (.const (.bool false)))])
 (.cond (tT 50) (.seq (rg [oO 51 (.load 84 (tT 8)), oN (.store 84 (tT 6) (tT 51)), oO 7 (.assign (kI 33))])
 (.ret))
 (.skip)))
 (.seq (.seq (rg [oO 52 (.load 25 (tT 3)), oO 53 (.load 38 (tT 5)), oO 54 (cF (.func 147) #[tT 52, tT 53] #[25, 38]), oO 11 (.assign (tT 54))])
 (.seq (rg [oO 55 (.move (tT 11)), oO 56 (.binOp .neq 32 (tT 55) (kI 0) 32)])
 (.cond (tT 56) (.seq (rg [oO 57 (.load 84 (tT 8)), oO 58 (.move (tT 11)), oN (.store 84 (tT 6) (tT 57)), oO 7 (.assign (tT 58))])
 (.ret))
 (.skip))))
 (.seq (rg [oO 59 (.load 25 (tT 3)), oO 60 (.load 84 (tT 4)), oO 61 (.load 38 (tT 5)), oO 62 (cF (.func 148) #[tT 59, tT 60, tT 61] #[25, 84, 38]), oO 63 (.extract (tT 62) 0), oO 64 (.extract (tT 62) 1), oN (.store 84 (tT 6) (tT 63)), oO 7 (.assign (tT 64))])
 .ret))))))))
theorem F107 : Fun1 Tryz.prog 107 65 c107 [.cell 6 84, .tmp 7] := mkT Tryz.func107 rfl (by decide +kernel) Tryz.ntmps107 rfl (by kernel_rfl) rfl
def c50 : AC :=
.seq (rg [oO 4 (.box 84 (tT 1)), oO 5 (.box 84 (tT 2)), oO 6 (.assign (.const (.bool false)))])
 (.seq (.seq (rg [oO 8 (.move (tT 0)), oO 9 (.load 84 (tT 4)), oO 10 (cF (.func 59) #[tT 8, tT 9] #[22, 84]), oO 11 (.binOp .neq 32 (tT 10) (kI 0) 32), oO 12 (.move (tT 11)), oG 13 (.move (tT 0)) 12 false, oG 14 (.load 84 (tT 5)) 12 false, oG 15 (cF (.func 59) #[tT 13, tT 14] #[22, 84]) 12 false, oG 16 (.binOp .neq 32 (tT 15) (kI 0) 32) 12 false, oO 17 (.pick (tT 12) (.const (.bool true)) (tT 16)), oO 18 (.move (tT 17)), oG 19 (.fieldAddr 84 (tT 4) 0) 18 false, oG 20 (.load 3 (tT 19)) 18 false, oG 21 (.fieldAddr 84 (tT 5) 0) 18 false, oG 22 (.load 3 (tT 21)) 18 false, oG 23 (.binOp .neq 3 (tT 20) (tT 22) 3) 18 false, oO 24 (.pick (tT 18) (.const (.bool true)) (tT 23)), oO 25 (.move (tT 24)), oG 26 (.fieldAddr 84 (tT 4) 1) 25 false, oG 27 (.load 3 (tT 26)) 25 false, oG 28 (.fieldAddr 84 (tT 5) 1) 25 false, oG 29 (.load 3 (tT 28)) 25 false, oG 30 (.binOp .neq 3 (tT 27) (tT 29) 3) 25 false, oO 31 (.pick (tT 25) (.const (.bool true)) (tT 30))])
 (.cond (tT 31) (.seq (rg [oO 6 (.assign (.const (.bool false)))])
 (.ret))
 (.skip)))
 (.seq (.seq (rg [oO 7 (.assign (kI 0))])
 (.block 0 (.loop (.seq (.seq (rg [oO 32 (.move (tT 7)), oO 33 (.fieldAddr 84 (tT 4) 0), oO 34 (.load 3 (tT 33)), oO 35 (.fieldAddr 84 (tT 4) 1), oO 36 (.load 3 (tT 35)), oO 37 (.binOp .add 3 (tT 34) (tT 36) 3), oO 38 (.binOp .lss 3 (tT 32) (tT 37) 3)])
 (.cond (tT 38) (.skip)
 (.exit 0)))
 (.seq (.block 1 (.seq (.reg true [] [⟨⟨some 41, .move (tT 0), none⟩, false, true⟩, ⟨⟨some 42, .move (tT 7), none⟩, false, true⟩, ⟨⟨some 43, .fieldAddr 84 (tT 4) 2, none⟩, false, true⟩, ⟨⟨some 44, .indexAddr 82 (tT 43) (tT 42), none⟩, false, true⟩, ⟨⟨some 45, .load 81 (tT 44), none⟩, false, true⟩, ⟨⟨some 46, .move (tT 7), none⟩, false, true⟩, oO 47 (.fieldAddr 84 (tT 5) 2), oO 48 (.indexAddr 82 (tT 47) (tT 46)), oO 49 (.load 81 (tT 48)), oO 50 (cF (.func 91) #[tT 41, tT 45, tT 49] #[22, 81, 81]), oO 51 (.unOp .not 4 (tT 50))])
 (.cond (tT 51) (.seq (rg [oO 6 (.assign (.const (.bool false)))])
 (.ret))
 (.skip))))
 (rg [oO 39 (.move (tT 7)), oO 40 (.binOp .add 3 (tT 39) (kI 1) 3), oO 7 (.assign (tT 40))]))))))
 (.seq (rg [oO 6 (.assign (.const (.bool true)))])
 .ret)))
theorem F50 : Fun1 Tryz.prog 50 52 c50 [.tmp 6] := mkT Tryz.func50 rfl (by decide +kernel) Tryz.ntmps50 rfl (by kernel_rfl) rfl
def c144 : AC :=
.seq (rg [oO 3 (.box 25 (tT 0)), oO 4 (.box 84 (tT 1)), oO 5 (.box 38 (tT 2)), oO 6 (.alloc 84), oO 7 (.assign (kI 0))])
 (.seq (.seq (rg [oO 15 (.load 25 (tT 3)), oO 16 (cF (.func 172) #[tT 15] #[25]), oO 17 (.unOp .not 4 (tT 16))])
 (.cond (tT 17) (.seq (rg [oO 18 (.build 84 #[]), oN (.store 84 (tT 6) (tT 18)), oO 7 (.assign (kI 1))])
 (.ret))
 (.skip)))
 (.seq (rg [oO 19 (.fieldAddr 25 (tT 3) 0), oO 20 (.load 22 (tT 19)), oO 21 (.load 84 (tT 4)), oO 22 (cF (.func 96) #[tT 20, tT 21] #[22, 84]), oO 8 (.assign (tT 22))])
 (.seq (.seq (rg [oO 23 (.move (tT 8)), oO 24 (.binOp .neq 32 (tT 23) (kI 0) 32)])
 (.cond (tT 24) (.seq (rg [oO 25 (.build 84 #[]), oO 26 (.move (tT 8)), oN (.store 84 (tT 6) (tT 25)), oO 7 (.assign (tT 26))])
 (.ret))
 (.skip)))
 (.seq (rg [oO 28 (.load 25 (tT 3)), oO 29 (.load 38 (tT 5)), oO 30 (cF (.func 173) #[tT 28, tT 29] #[25, 38]), oO 27 (.move (tT 30)), oO 31 (.extract (tT 27) 0), oO 32 (.extract (tT 27) 1), oO 9 (.alloc 229), oN (.store 229 (tT 9) (tT 31)), oO 8 (.assign (tT 32))])
 (.seq (rg [oO 33 (.fieldAddr 38 (tT 5) 1), oO 34 (.load 5 (tT 33)), oO 35 (.binOp .eql 5 (tT 34) (kB 4) 5), oO 36 (.move (tT 35)), oG 37 (.fieldAddr 38 (tT 5) 1) 36 false, oG 38 (.load 5 (tT 37)) 36 false, oG 39 (.binOp .eql 5 (tT 38) (kB 5) 5) 36 false, oO 40 (.pick (tT 36) (.const (.bool true)) (tT 39)), oO 10 (.assign (tT 40))])
 (.seq (.seq (rg [oO 41 (.move (tT 8)), oO 42 (.binOp .eql 32 (tT 41) (kI 0) 32), oO 43 (.move (tT 42)), oG 44 (.move (tT 10)) 43 true, oO 45 (.pick (tT 43) (tT 44) (.const (.bool false))), oO 46 (.move (tT 45)), oG 47 (.fieldAddr 38 (tT 5) 2) 46 true, oG 48 (.load 3 (tT 47)) 46 true, oG 49 (.binOp .lss 3 (tT 48) (kI 0) 3) 46 true, oG 50 (.move (tT 49)) 46 true, oG 51 (.fieldAddr 38 (tT 5) 2) 50 false, oG 52 (.load 3 (tT 51)) 50 false, oG 53 (.fieldAddr 84 (tT 4) 0) 50 false, oG 54 (.load 3 (tT 53)) 50 false, oG 55 (.binOp .geq 3 (tT 52) (tT 54) 3) 50 false, oG 56 (.pick (tT 50) (.const (.bool true)) (tT 55)) 46 true, oO 57 (.pick (tT 46) (tT 56) (.const (.bool false)))])
 (.cond (tT 57) (rg [oO 8 (.assign (kI 33))])
 (.skip)))
 (.seq (.seq (rg [oO 58 (.move (tT 8)), oO 59 (.binOp .neq 32 (tT 58) (kI 0) 32)])
 (.cond (tT 59) (.seq (rg [oO 60 (.build 84 #[]), oO 61 (.move (tT 8)), oN (.store 84 (tT 6) (tT 60)), oO 7 (.assign (tT 61))])
 (.ret))
 (.skip)))
 (.seq (rg [oO 63 (.fieldAddr 25 (tT 3) 0), oO 64 (.load 22 (tT 63)), oO 65 (.load 84 (tT 4)), oO 66 (.fieldAddr 229 (tT 9) 0), oO 67 (.load 227 (tT 66)), oO 68 (cF (.func 174) #[tT 64, tT 65, tT 67] #[22, 84, 227]), oO 62 (.move (tT 68)), oO 69 (.extract (tT 62) 0), oO 70 (.extract (tT 62) 1), oO 11 (.assign (tT 69)), oO 8 (.assign (tT 70))])
 (.seq (.seq (rg [oO 71 (.move (tT 8)), oO 72 (.binOp .neq 32 (tT 71) (kI 0) 32)])
 (.cond (tT 72) (.seq (rg [oO 73 (.build 84 #[]), oO 74 (.move (tT 8)), oN (.store 84 (tT 6) (tT 73)), oO 7 (.assign (tT 74))])
 (.ret))
 (.skip)))
 (.seq (rg [oO 75 (.fieldAddr 229 (tT 9) 1), oO 76 (.load 158 (tT 75)), oO 77 (.move (tT 11)), oO 78 (cF (tT 76) #[tT 77] #[93]), oO 12 (.assign (tT 78))])
 (.seq (.seq (rg [oO 79 (.fieldAddr 38 (tT 5) 1), oO 80 (.load 5 (tT 79)), oO 81 (.binOp .eql 5 (tT 80) (kB 4) 5)])
 (.cond (tT 81) (.seq (rg [oO 83 (.load 84 (tT 4)), oO 84 (.fieldAddr 38 (tT 5) 2), oO 85 (.load 3 (tT 84)), oO 86 (cF (.func 175) #[tT 83, tT 85] #[84, 3]), oO 82 (.move (tT 86)), oO 87 (.extract (tT 82) 0), oO 88 (.extract (tT 82) 1), oO 13 (.assign (tT 87)), oO 14 (.assign (tT 88))])
 (.seq (.seq (rg [oO 89 (.move (tT 13)), oO 90 (.binOp .eql 81 (tT 89) (kB 0) 81)])
 (.cond (tT 90) (.seq (rg [oO 91 (.build 84 #[]), oN (.store 84 (tT 6) (tT 91)), oO 7 (.assign (kI 70))])
 (.ret))
 (.skip)))
 (rg [oO 92 (.move (tT 13)), oO 93 (.buildSlice 93 1 #[(0, .tmp 92)]), oO 12 (.assign (tT 93))])))
 (.skip)))
 (.seq (rg [oO 94 (.load 84 (tT 4)), oO 95 (.load 38 (tT 5)), oO 96 (.move (tT 11)), oO 97 (.move (tT 12)), oO 98 (cF (.func 176) #[tT 94, tT 95, tT 96, tT 97] #[84, 38, 93, 93]), oO 99 (.extract (tT 98) 0), oO 100 (.extract (tT 98) 1), oN (.store 84 (tT 6) (tT 99)), oO 7 (.assign (tT 100))])
 .ret))))))))))))
theorem F144 : Fun1 Tryz.prog 144 101 c144 [.cell 6 84, .tmp 7] := mkT Tryz.func144 rfl (by decide +kernel) Tryz.ntmps144 rfl (by kernel_rfl) rfl
def c59 : AC :=
.seq (rg [oO 3 (.box 84 (tT 1)), oO 4 (.assign (kI 0))])
 (.seq (.seq (rg [oO 7 (.load 84 (tT 3)), oO 8 (cF (.func 102) #[tT 7] #[84]), oO 9 (.unOp .not 4 (tT 8))])
 (.cond (tT 9) (.seq (rg [oO 4 (.assign (kI 32))])
 (.ret))
 (.skip)))
 (.seq (.seq (rg [oO 10 (.fieldAddr 84 (tT 3) 0), oO 11 (.load 3 (tT 10)), oO 12 (.fieldAddr 84 (tT 3) 1), oO 13 (.load 3 (tT 12)), oO 14 (.binOp .add 3 (tT 11) (tT 13) 3), oO 5 (.assign (tT 14))])
 (.block 0 (.loop (.seq (.seq (rg [oO 15 (.move (tT 5)), oO 16 (.binOp .lss 3 (tT 15) (kI 24) 3)])
 (.cond (tT 16) (.skip)
 (.exit 0)))
 (.seq (.block 1 (.seq (rg [oO 19 (.move (tT 5)), oO 20 (.fieldAddr 84 (tT 3) 2), oO 21 (.indexAddr 82 (tT 20) (tT 19)), oO 22 (.load 81 (tT 21)), oO 23 (.binOp .neq 81 (tT 22) (kB 0) 81)])
 (.cond (tT 23) (.seq (rg [oO 4 (.assign (kI 32))])
 (.ret))
 (.skip))))
 (rg [oO 17 (.move (tT 5)), oO 18 (.binOp .add 3 (tT 17) (kI 1) 3), oO 5 (.assign (tT 18))]))))))
 (.seq (.seq (rg [oO 6 (.assign (kI 0))])
 (.block 2 (.loop (.seq (.seq (rg [oO 24 (.move (tT 6)), oO 25 (.fieldAddr 84 (tT 3) 0), oO 26 (.load 3 (tT 25)), oO 27 (.fieldAddr 84 (tT 3) 1), oO 28 (.load 3 (tT 27)), oO 29 (.binOp .add 3 (tT 26) (tT 28) 3), oO 30 (.binOp .lss 3 (tT 24) (tT 29) 3)])
 (.cond (tT 30) (.skip)
 (.exit 2)))
 (.seq (.block 3 (.seq (rg [oO 33 (.move (tT 0)), oO 34 (.move (tT 6)), oO 35 (.fieldAddr 84 (tT 3) 2), oO 36 (.indexAddr 82 (tT 35) (tT 34)), oO 37 (.load 81 (tT 36)), oO 38 (cF (.func 103) #[tT 33, tT 37] #[22, 81]), oO 39 (.unOp .not 4 (tT 38))])
 (.cond (tT 39) (.seq (rg [oO 4 (.assign (kI 22))])
 (.ret))
 (.skip))))
 (rg [oO 31 (.move (tT 6)), oO 32 (.binOp .add 3 (tT 31) (kI 1) 3), oO 6 (.assign (tT 32))]))))))
 (.seq (rg [oO 4 (.assign (kI 0))])
 .ret))))
theorem F59 : Fun1 Tryz.prog 59 40 c59 [.tmp 4] := mkT Tryz.func59 rfl (by decide +kernel) Tryz.ntmps59 rfl (by kernel_rfl) rfl
def c148_10 : AC :=
.seq (.seq (rg [oO 126 (.move (tT 9)), oO 127 (cB .len #[tT 126] #[93]), oO 128 (.move (kI 0))])
 (.block 3 (.loop (.seq (rg [oO 129 (.binOp .lss 3 (tT 128) (tT 127) 3)])
 (.seq (.cond (tT 129) (.skip)
 (.exit 3))
 (.seq (.block 4 (rg [oO 131 (.load 84 (tT 4)), oO 132 (cF (.func 184) #[tT 131] #[84]), oO 130 (.move (tT 132)), oO 133 (.extract (tT 130) 0), oO 134 (.extract (tT 130) 1), oO 135 (.extract (tT 130) 2), oN (.store 84 (tT 4) (tT 133))]))
 (rg [oO 136 (.binOp .add 3 (tT 128) (kI 1) 3), oO 128 (.move (tT 136))])))))))
 (.seq (.seq (rg [oO 137 (.fieldAddr 38 (tT 5) 1), oO 138 (.load 5 (tT 137)), oO 139 (.binOp .eql 5 (tT 138) (kB 22) 5), oO 140 (.move (tT 139)), oG 141 (.fieldAddr 84 (tT 4) 1) 140 true, oG 142 (.load 3 (tT 141)) 140 true, oG 143 (.binOp .gtr 3 (tT 142) (kI 0) 3) 140 true, oO 144 (.pick (tT 140) (tT 143) (.const (.bool false)))])
 (.cond (tT 144) (.seq (rg [oO 145 (.load 84 (tT 8)), oN (.store 84 (tT 6) (tT 145)), oO 7 (.assign (kI 73))])
 (.ret))
 (.skip)))
 (.seq (.seq (rg [oO 146 (.fieldAddr 38 (tT 5) 1), oO 147 (.load 5 (tT 146)), oO 148 (.binOp .eql 5 (tT 147) (kB 5) 5)])
 (.cond (tT 148) (.reg true [] [⟨⟨some 149, .fieldAddr 38 (tT 5) 2, none⟩, false, true⟩, ⟨⟨some 150, .load 3 (tT 149), none⟩, false, true⟩, ⟨⟨some 151, .move (tT 11), none⟩, false, true⟩, ⟨⟨some 152, .indexAddr 93 (tT 151) (kI 0), none⟩, false, true⟩, ⟨⟨some 153, .load 81 (tT 152), none⟩, false, true⟩, oO 154 (.fieldAddr 84 (tT 4) 2), oO 155 (.indexAddr 82 (tT 154) (tT 150)), oN (.store 81 (tT 155) (tT 153))])
 (.skip)))
 (.seq (.seq (rg [oO 156 (.move (tT 15)), oO 157 (cB .len #[tT 156] #[93]), oO 158 (.move (kI 0))])
 (.block 5 (.loop (.seq (rg [oO 159 (.binOp .lss 3 (tT 158) (tT 157) 3)])
 (.seq (.cond (tT 159) (.skip)
 (.exit 5))
 (.seq (.block 6 (.seq (rg [oO 160 (.indexAddr 93 (tT 156) (tT 158)), oO 161 (.load 81 (tT 160)), oO 17 (.assign (tT 161))])
 (.seq (rg [oO 163 (.load 84 (tT 4)), oO 164 (.move (tT 17)), oO 165 (cF (.func 185) #[tT 163, tT 164] #[84, 81]), oO 162 (.move (tT 165)), oO 166 (.extract (tT 162) 0), oO 167 (.extract (tT 162) 1), oO 18 (.alloc 84), oN (.store 84 (tT 18) (tT 166)), oO 19 (.assign (tT 167))])
 (.seq (.seq (rg [oO 168 (.move (tT 19)), oO 169 (.binOp .neq 32 (tT 168) (kI 0) 32)])
 (.cond (tT 169) (.seq (rg [oO 170 (.load 84 (tT 8)), oO 171 (.move (tT 19)), oN (.store 84 (tT 6) (tT 170)), oO 7 (.assign (tT 171))])
 (.ret))
 (.skip)))
 (rg [oO 172 (.load 84 (tT 18)), oN (.store 84 (tT 4) (tT 172))])))))
 (rg [oO 173 (.binOp .add 3 (tT 158) (kI 1) 3), oO 158 (.move (tT 173))])))))))
 (.seq (rg [oO 174 (.load 84 (tT 4)), oN (.store 84 (tT 6) (tT 174)), oO 7 (.assign (kI 0))])
 .ret))))
def c148 : AC :=
.seq (rg [oO 3 (.box 25 (tT 0)), oO 4 (.box 84 (tT 1)), oO 5 (.box 38 (tT 2)), oO 6 (.alloc 84), oO 7 (.assign (kI 0))])
 (.seq (rg [oO 20 (.build 84 #[]), oO 8 (.alloc 84), oN (.store 84 (tT 8) (tT 20))])
 (.seq (rg [oO 21 (.load 25 (tT 3)), oO 22 (.load 38 (tT 5)), oO 23 (cF (.func 181) #[tT 21, tT 22] #[25, 38]), oO 9 (.assign (tT 23))])
 (.seq (.seq (rg [oO 24 (.fieldAddr 84 (tT 4) 1), oO 25 (.load 3 (tT 24)), oO 26 (.move (tT 9)), oO 27 (cB .len #[tT 26] #[93]), oO 28 (.binOp .lss 3 (tT 25) (tT 27) 3)])
 (.cond (tT 28) (.seq (rg [oO 29 (.load 84 (tT 8)), oN (.store 84 (tT 6) (tT 29)), oO 7 (.assign (kI 30))])
 (.ret))
 (.skip)))
 (.seq (rg [oO 30 (.fieldAddr 84 (tT 4) 0), oO 31 (.load 3 (tT 30)), oO 32 (.fieldAddr 84 (tT 4) 1), oO 33 (.load 3 (tT 32)), oO 34 (.binOp .add 3 (tT 31) (tT 33) 3), oO 35 (.move (tT 9)), oO 36 (cB .len #[tT 35] #[93]), oO 37 (.binOp .sub 3 (tT 34) (tT 36) 3), oO 10 (.assign (tT 37))])
 (.seq (rg [oO 11 (.assign (.const (.slice none 0 0)))])
 (.seq (.seq (rg [oO 38 (.move (tT 9)), oO 39 (cB .len #[tT 38] #[93]), oO 40 (.move (kI 0))])
 (.block 0 (.loop (.seq (rg [oO 41 (.binOp .lss 3 (tT 40) (tT 39) 3)])
 (.seq (.cond (tT 41) (.skip)
 (.exit 0))
 (.seq (.block 1 (.seq (rg [oO 42 (.move (tT 40)), oO 43 (.indexAddr 93 (tT 38) (tT 40)), oO 44 (.load 81 (tT 43)), oO 12 (.assign (tT 42)), oO 13 (.assign (tT 44))])
 (.seq (rg [oO 45 (.move (tT 10)), oO 46 (.move (tT 12)), oO 47 (.binOp .add 3 (tT 45) (tT 46) 3), oO 48 (.fieldAddr 84 (tT 4) 2), oO 49 (.indexAddr 82 (tT 48) (tT 47)), oO 50 (.load 81 (tT 49)), oO 14 (.assign (tT 50))])
 (.seq (.seq (rg [oO 51 (.fieldAddr 25 (tT 3) 0), oO 52 (.load 22 (tT 51)), oO 53 (.move (tT 14)), oO 54 (.move (tT 13)), oO 55 (cF (.func 182) #[tT 52, tT 53, tT 54] #[22, 81, 81]), oO 56 (.unOp .not 4 (tT 55))])
 (.cond (tT 56) (.seq (rg [oO 57 (.load 84 (tT 8)), oN (.store 84 (tT 6) (tT 57)), oO 7 (.assign (kI 70))])
 (.ret))
 (.skip)))
 (rg [oO 58 (.move (tT 11)), oO 59 (.move (tT 14)), oO 60 (.buildSlice 93 1 #[(0, .tmp 59)]), oO 61 (cB .append #[tT 58, tT 60] #[93, 93]), oO 11 (.assign (tT 61))])))))
 (rg [oO 62 (.binOp .add 3 (tT 40) (kI 1) 3), oO 40 (.move (tT 62))])))))))
 (.seq (.seq (.reg true [] [oO 63 (.fieldAddr 38 (tT 5) 1), oO 64 (.load 5 (tT 63)), oO 65 (.binOp .eql 5 (tT 64) (kB 16) 5), oO 66 (.move (tT 65)), ⟨⟨some 67, .move (tT 11), some (66, true)⟩, false, true⟩, ⟨⟨some 68, .indexAddr 93 (tT 67) (kI 0), some (66, true)⟩, false, true⟩, ⟨⟨some 69, .load 81 (tT 68), some (66, true)⟩, false, true⟩, oG 70 (.move (tT 11)) 66 true, oG 71 (.indexAddr 93 (tT 70) (kI 1)) 66 true, oG 72 (.load 81 (tT 71)) 66 true, oG 73 (.binOp .neq 81 (tT 69) (tT 72) 81) 66 true, oG 74 (.move (tT 73)) 66 true, oG 75 (.move (tT 11)) 74 false, oG 76 (.indexAddr 93 (tT 75) (kI 0)) 74 false, oG 77 (.load 81 (tT 76)) 74 false, oG 78 (.binOp .neq 81 (tT 77) (kB 1) 81) 74 false, oG 79 (.move (tT 78)) 74 false, oG 80 (.move (tT 11)) 79 true, oG 81 (.indexAddr 93 (tT 80) (kI 0)) 79 true, oG 82 (.load 81 (tT 81)) 79 true, oG 83 (.binOp .neq 81 (tT 82) (kB 2) 81) 79 true, oG 84 (.pick (tT 79) (tT 83) (.const (.bool false))) 74 false, oG 85 (.pick (tT 74) (.const (.bool true)) (tT 84)) 66 true, oO 86 (.pick (tT 66) (tT 85) (.const (.bool false)))])
 (.cond (tT 86) (.seq (rg [oO 87 (.load 84 (tT 8)), oN (.store 84 (tT 6) (tT 87)), oO 7 (.assign (kI 70))])
 (.ret))
 (.skip)))
 (.seq (rg [oO 88 (.load 25 (tT 3)), oO 89 (.load 38 (tT 5)), oO 90 (cF (.func 183) #[tT 88, tT 89] #[25, 38]), oO 15 (.assign (tT 90))])
 (.seq (.seq (rg [oO 91 (.fieldAddr 38 (tT 5) 1), oO 92 (.load 5 (tT 91))])
 (.block 2 (.seq (rg [oO 94 (.binOp .eql 5 (tT 92) (kB 4) 5), oO 93 (.assign (tT 94))])
 (.cond (tT 93) (.seq (.seq (rg [oO 95 (.fieldAddr 38 (tT 5) 2), oO 96 (.load 3 (tT 95)), oO 97 (.fieldAddr 84 (tT 4) 2), oO 98 (.indexAddr 82 (tT 97) (tT 96)), oO 99 (.load 81 (tT 98)), oO 100 (.binOp .eql 81 (tT 99) (kB 0) 81)])
 (.cond (tT 100) (.seq (rg [oO 101 (.load 84 (tT 8)), oN (.store 84 (tT 6) (tT 101)), oO 7 (.assign (kI 70))])
 (.ret))
 (.skip)))
 (rg [oO 102 (.fieldAddr 38 (tT 5) 2), oO 103 (.load 3 (tT 102)), oO 104 (.fieldAddr 84 (tT 4) 2), oO 105 (.indexAddr 82 (tT 104) (tT 103)), oO 106 (.load 81 (tT 105)), oO 107 (.buildSlice 93 1 #[(0, .tmp 106)]), oO 15 (.assign (tT 107))]))
 (.seq (rg [oO 109 (.binOp .eql 5 (tT 92) (kB 7) 5), oO 108 (.assign (tT 109))])
 (.cond (tT 108) (.reg true [] [⟨⟨some 110, .move (tT 11), none⟩, false, true⟩, ⟨⟨some 111, .indexAddr 93 (tT 110) (kI 0), none⟩, false, true⟩, ⟨⟨some 112, .load 81 (tT 111), none⟩, false, true⟩, oO 113 (.move (tT 11)), oO 114 (.indexAddr 93 (tT 113) (kI 0)), oO 115 (.load 81 (tT 114)), oO 116 (.buildSlice 93 2 #[(0, .tmp 112), (1, .tmp 115)]), oO 15 (.assign (tT 116))])
 (.seq (rg [oO 118 (.binOp .eql 5 (tT 92) (kB 8) 5), oO 117 (.assign (tT 118))])
 (.cond (tT 117) (.reg true [] [⟨⟨some 119, .move (tT 11), none⟩, false, true⟩, ⟨⟨some 120, .indexAddr 93 (tT 119) (kI 1), none⟩, false, true⟩, ⟨⟨some 121, .load 81 (tT 120), none⟩, false, true⟩, oO 122 (.move (tT 11)), oO 123 (.indexAddr 93 (tT 122) (kI 0)), oO 124 (.load 81 (tT 123)), oO 125 (.buildSlice 93 2 #[(0, .tmp 121), (1, .tmp 124)]), oO 15 (.assign (tT 125))])
 (.skip)))))))))
 c148_10)))))))))
theorem F148 : Fun1 Tryz.prog 148 175 c148 [.cell 6 84, .tmp 7] := mkT Tryz.func148 rfl (by decide +kernel) Tryz.ntmps148 rfl (by kernel_rfl) rfl
def c91 : AC :=
.seq (rg [oO 6 (.assign (.const (.bool false)))])
 (.seq (.seq (rg [oO 9 (.move (tT 0)), oO 10 (.move (tT 1)), oO 11 (cF (.func 103) #[tT 9, tT 10] #[22, 81]), oO 12 (.unOp .not 4 (tT 11)), oO 13 (.move (tT 12)), oG 14 (.move (tT 0)) 13 false, oG 15 (.move (tT 2)) 13 false, oG 16 (cF (.func 103) #[tT 14, tT 15] #[22, 81]) 13 false, oG 17 (.unOp .not 4 (tT 16)) 13 false, oO 18 (.pick (tT 13) (.const (.bool true)) (tT 17))])
 (.cond (tT 18) (.seq (rg [oO 6 (.assign (.const (.bool false)))])
 (.ret))
 (.skip)))
 (.seq (.seq (rg [oO 19 (.move (tT 1)), oO 20 (.move (tT 2)), oO 21 (.binOp .eql 81 (tT 19) (tT 20) 81), oO 22 (.move (tT 21)), oG 23 (.move (tT 2)) 22 false, oG 24 (.binOp .eql 81 (tT 23) (kB 0) 81) 22 false, oO 25 (.pick (tT 22) (.const (.bool true)) (tT 24)), oO 26 (.move (tT 25)), oG 27 (.move (tT 1)) 26 false, oG 28 (.binOp .eql 81 (tT 27) (kB 3) 81) 26 false, oG 29 (.move (tT 28)) 26 false, oG 30 (.move (tT 2)) 29 true, oG 31 (cF (.func 132) #[tT 30] #[81]) 29 true, oG 32 (.pick (tT 29) (tT 31) (.const (.bool false))) 26 false, oO 33 (.pick (tT 26) (.const (.bool true)) (tT 32)), oO 34 (.move (tT 33)), oG 35 (.move (tT 1)) 34 false, oG 36 (cF (.func 132) #[tT 35] #[81]) 34 false, oG 37 (.move (tT 36)) 34 false, oG 38 (.move (tT 2)) 37 true, oG 39 (.binOp .eql 81 (tT 38) (kB 5) 81) 37 true, oG 40 (.pick (tT 37) (tT 39) (.const (.bool false))) 34 false, oO 41 (.pick (tT 34) (.const (.bool true)) (tT 40))])
 (.cond (tT 41) (.seq (rg [oO 6 (.assign (.const (.bool true)))])
 (.ret))
 (.skip)))
 (.seq (.seq (rg [oO 42 (.move (tT 1)), oO 43 (.binOp .lss 81 (tT 42) (kB 16) 81), oO 44 (.move (tT 43)), oG 45 (.move (tT 2)) 44 false, oG 46 (.binOp .lss 81 (tT 45) (kB 16) 81) 44 false, oO 47 (.pick (tT 44) (.const (.bool true)) (tT 46))])
 (.cond (tT 47) (.seq (rg [oO 6 (.assign (.const (.bool false)))])
 (.ret))
 (.skip)))
 (.seq (rg [oO 48 (.move (tT 0)), oO 49 (.move (tT 1)), oO 50 (.binOp .sub 81 (tT 49) (kB 16) 81), oO 51 (.convert 81 3 (tT 50)), oO 52 (cF (.func 133) #[tT 48, tT 51] #[22, 3]), oO 7 (.assign (tT 52))])
 (.seq (.seq (rg [oO 8 (.assign (kI 0))])
 (.block 0 (.loop (.seq (.seq (rg [oO 53 (.move (tT 8)), oO 54 (.move (tT 7)), oO 55 (cB .len #[tT 54] #[29]), oO 56 (.binOp .lss 3 (tT 53) (tT 55) 3)])
 (.cond (tT 56) (.skip)
 (.exit 0)))
 (.seq (.block 1 (.seq (rg [oO 59 (.move (tT 7)), oO 60 (.move (tT 8)), oO 61 (.indexAddr 29 (tT 59) (tT 60)), oO 62 (.load 3 (tT 61)), oO 63 (.move (tT 2)), oO 64 (.binOp .sub 81 (tT 63) (kB 16) 81), oO 65 (.convert 81 3 (tT 64)), oO 66 (.binOp .eql 3 (tT 62) (tT 65) 3)])
 (.cond (tT 66) (.seq (rg [oO 6 (.assign (.const (.bool true)))])
 (.ret))
 (.skip))))
 (rg [oO 57 (.move (tT 8)), oO 58 (.binOp .add 3 (tT 57) (kI 1) 3), oO 8 (.assign (tT 58))]))))))
 (.seq (rg [oO 6 (.assign (.const (.bool false)))])
 .ret))))))
theorem F91 : Fun1 Tryz.prog 91 67 c91 [.tmp 6] := mkT Tryz.func91 rfl (by decide +kernel) Tryz.ntmps91 rfl (by kernel_rfl) rfl
def c96 : AC :=
.seq (rg [oO 3 (.box 84 (tT 1)), oO 4 (.assign (kI 0))])
 (.seq (.seq (.reg true [3] [oO 7 (.load 84 (tT 3)), oO 8 (cF (.func 137) #[tT 7] #[84]), oO 9 (.unOp .not 4 (tT 8)), oO 10 (.move (tT 9)), ⟨⟨some 11, .load 84 (tT 3), some (10, false)⟩, false, true⟩, ⟨⟨some 12, cF (.func 138) #[tT 11] #[84], some (10, false)⟩, false, true⟩, ⟨⟨some 13, .load 84 (tT 3), some (10, false)⟩, true, false⟩, oG 14 (.binOp .neq 84 (tT 12) (tT 13) 84) 10 false, oO 15 (.pick (tT 10) (.const (.bool true)) (tT 14))])
 (.cond (tT 15) (.seq (rg [oO 4 (.assign (kI 32))])
 (.ret))
 (.skip)))
 (.seq (.seq (rg [oO 16 (.fieldAddr 84 (tT 3) 2), oO 17 (.load 82 (tT 16)), oO 18 (.move (kI 0))])
 (.block 0 (.loop (.seq (rg [oO 19 (.binOp .lss 3 (tT 18) (kI 24) 3)])
 (.seq (.cond (tT 19) (.skip)
 (.exit 0))
 (.seq (.block 1 (.seq (rg [oO 20 (.index 82 (tT 17) (tT 18)), oO 6 (.assign (tT 20))])
 (.seq (rg [oO 21 (.move (tT 0)), oO 22 (.move (tT 6)), oO 23 (cF (.func 139) #[tT 21, tT 22] #[22, 81]), oO 24 (.unOp .not 4 (tT 23))])
 (.cond (tT 24) (.seq (rg [oO 4 (.assign (kI 22))])
 (.ret))
 (.skip)))))
 (rg [oO 25 (.binOp .add 3 (tT 18) (kI 1) 3), oO 18 (.move (tT 25))])))))))
 (.seq (rg [oO 4 (.assign (kI 0))])
 .ret)))
theorem F96 : Fun1 Tryz.prog 96 26 c96 [.tmp 4] := mkT Tryz.func96 rfl (by decide +kernel) Tryz.ntmps96 rfl (by kernel_rfl) rfl
def c174 : AC :=
.seq (rg [oO 4 (.box 84 (tT 1)), oO 6 (.assign (.const (.slice none 0 0))), oO 7 (.assign (kI 0))])
 (.seq (.seq (rg [oO 14 (.fieldAddr 84 (tT 4) 1), oO 15 (.load 3 (tT 14)), oO 16 (.move (tT 2)), oO 17 (cB .len #[tT 16] #[227]), oO 18 (.binOp .lss 3 (tT 15) (tT 17) 3)])
 (.cond (tT 18) (.seq (rg [oO 6 (.assign (.const (.slice none 0 0))), oO 7 (.assign (kI 30))])
 (.ret))
 (.skip)))
 (.seq (rg [oO 8 (.assign (.const (.slice none 0 0)))])
 (.seq (.seq (rg [oO 19 (.move (tT 2)), oO 20 (cB .len #[tT 19] #[227]), oO 21 (.move (kI 0))])
 (.block 0 (.loop (.seq (rg [oO 22 (.binOp .lss 3 (tT 21) (tT 20) 3)])
 (.seq (.cond (tT 22) (.skip)
 (.exit 0))
 (.seq (.block 1 (.seq (rg [oO 23 (.move (tT 21)), oO 9 (.assign (tT 23))])
 (.seq (rg [oO 25 (.load 84 (tT 4)), oO 26 (.move (tT 2)), oO 27 (cB .len #[tT 26] #[227]), oO 28 (.binOp .sub 3 (tT 27) (kI 1) 3), oO 29 (.move (tT 9)), oO 30 (.binOp .sub 3 (tT 28) (tT 29) 3), oO 31 (cF (.func 210) #[tT 25, tT 30] #[84, 3]), oO 24 (.move (tT 31)), oO 32 (.extract (tT 24) 0), oO 33 (.extract (tT 24) 1), oO 10 (.assign (tT 32)), oO 11 (.assign (tT 33))])
 (rg [oO 34 (.move (tT 8)), oO 35 (.move (tT 10)), oO 36 (.buildSlice 93 1 #[(0, .tmp 35)]), oO 37 (cB .append #[tT 34, tT 36] #[93, 93]), oO 8 (.assign (tT 37))]))))
 (rg [oO 38 (.binOp .add 3 (tT 21) (kI 1) 3), oO 21 (.move (tT 38))])))))))
 (.seq (.seq (rg [oO 39 (.move (tT 8)), oO 40 (cB .len #[tT 39] #[93]), oO 41 (.move (kI 0))])
 (.block 2 (.loop (.seq (rg [oO 42 (.binOp .lss 3 (tT 41) (tT 40) 3)])
 (.seq (.cond (tT 42) (.skip)
 (.exit 2))
 (.seq (.block 3 (.seq (rg [oO 43 (.move (tT 41)), oO 44 (.indexAddr 93 (tT 39) (tT 41)), oO 45 (.load 81 (tT 44)), oO 12 (.assign (tT 43)), oO 13 (.assign (tT 45))])
 (.seq (.reg true [] [⟨⟨some 46, .move (tT 0), none⟩, false, true⟩, ⟨⟨some 47, .move (tT 2), none⟩, false, true⟩, ⟨⟨some 48, .move (tT 12), none⟩, false, true⟩, ⟨⟨some 49, .indexAddr 227 (tT 47) (tT 48), none⟩, false, true⟩, ⟨⟨some 50, .load 266 (tT 49), none⟩, false, true⟩, ⟨⟨some 51, .move (tT 13), none⟩, false, true⟩, oO 52 (.move (tT 8)), oO 53 (.indexAddr 93 (tT 52) (kI 0)), oO 54 (.load 81 (tT 53)), oO 55 (cF (.func 211) #[tT 46, tT 50, tT 51, tT 54] #[22, 266, 81, 81]), oO 56 (.unOp .not 4 (tT 55))])
 (.cond (tT 56) (.seq (rg [oO 6 (.assign (.const (.slice none 0 0))), oO 7 (.assign (kI 70))])
 (.ret))
 (.skip)))))
 (rg [oO 57 (.binOp .add 3 (tT 41) (kI 1) 3), oO 41 (.move (tT 57))])))))))
 (.seq (rg [oO 58 (.move (tT 8)), oO 6 (.assign (tT 58)), oO 7 (.assign (kI 0))])
 .ret)))))
theorem F174 : Fun1 Tryz.prog 174 59 c174 [.tmp 6, .tmp 7] := mkT Tryz.func174 rfl (by decide +kernel) Tryz.ntmps174 rfl (by kernel_rfl) rfl
def c175 : AC :=
.seq (rg [oO 2 (.box 84 (tT 0)), oO 4 (.assign (kB 0)), oO 5 (.assign (kI 0))])
 (.seq (.block 0 (.seq (rg [oO 7 (.load 84 (tT 2)), oO 8 (cF (.func 137) #[tT 7] #[84]), oO 9 (.unOp .not 4 (tT 8)), oO 6 (.assign (tT 9))])
 (.cond (tT 6) (.seq (rg [oO 4 (.assign (kB 0)), oO 5 (.assign (kI 32))])
 (.ret))
 (.seq (rg [oO 11 (.move (tT 1)), oO 12 (.binOp .lss 3 (tT 11) (kI 0) 3), oO 13 (.move (tT 12)), oG 14 (.move (tT 1)) 13 false, oG 15 (.fieldAddr 84 (tT 2) 0) 13 false, oG 16 (.load 3 (tT 15)) 13 false, oG 17 (.binOp .geq 3 (tT 14) (tT 16) 3) 13 false, oO 18 (.pick (tT 13) (.const (.bool true)) (tT 17)), oO 10 (.assign (tT 18))])
 (.cond (tT 10) (.seq (rg [oO 4 (.assign (kB 0)), oO 5 (.assign (kI 33))])
 (.ret))
 (.skip))))))
 (.seq (rg [oO 19 (.move (tT 1)), oO 20 (.fieldAddr 84 (tT 2) 2), oO 21 (.indexAddr 82 (tT 20) (tT 19)), oO 22 (.load 81 (tT 21)), oO 4 (.assign (tT 22)), oO 5 (.assign (kI 0))])
 .ret))
theorem F175 : Fun1 Tryz.prog 175 23 c175 [.tmp 4, .tmp 5] := mkT Tryz.func175 rfl (by decide +kernel) Tryz.ntmps175 rfl (by kernel_rfl) rfl
def c176 : AC :=
.seq (rg [oO 4 (.box 84 (tT 0)), oO 5 (.box 38 (tT 1)), oO 8 (.alloc 84), oO 9 (.assign (kI 0))])
 (.seq (.seq (rg [oO 14 (.move (tT 2)), oO 15 (cB .len #[tT 14] #[93]), oO 16 (.move (kI 0))])
 (.block 0 (.loop (.seq (rg [oO 17 (.binOp .lss 3 (tT 16) (tT 15) 3)])
 (.seq (.cond (tT 17) (.skip)
 (.exit 0))
 (.seq (.block 1 (rg [oO 19 (.load 84 (tT 4)), oO 20 (cF (.func 212) #[tT 19] #[84]), oO 18 (.move (tT 20)), oO 21 (.extract (tT 18) 0), oO 22 (.extract (tT 18) 1), oO 23 (.extract (tT 18) 2), oN (.store 84 (tT 4) (tT 21))]))
 (rg [oO 24 (.binOp .add 3 (tT 16) (kI 1) 3), oO 16 (.move (tT 24))])))))))
 (.seq (.seq (rg [oO 25 (.fieldAddr 38 (tT 5) 1), oO 26 (.load 5 (tT 25)), oO 27 (.binOp .eql 5 (tT 26) (kB 22) 5), oO 28 (.move (tT 27)), oG 29 (.fieldAddr 84 (tT 4) 1) 28 true, oG 30 (.load 3 (tT 29)) 28 true, oG 31 (.binOp .gtr 3 (tT 30) (kI 0) 3) 28 true, oO 32 (.pick (tT 28) (tT 31) (.const (.bool false)))])
 (.cond (tT 32) (.seq (rg [oO 33 (.build 84 #[]), oN (.store 84 (tT 8) (tT 33)), oO 9 (.assign (kI 73))])
 (.ret))
 (.skip)))
 (.seq (.seq (rg [oO 34 (.fieldAddr 38 (tT 5) 1), oO 35 (.load 5 (tT 34)), oO 36 (.binOp .eql 5 (tT 35) (kB 5) 5)])
 (.cond (tT 36) (.reg true [] [⟨⟨some 38, .load 84 (tT 4), none⟩, false, true⟩, ⟨⟨some 39, .fieldAddr 38 (tT 5) 2, none⟩, false, true⟩, ⟨⟨some 40, .load 3 (tT 39), none⟩, false, true⟩, oO 41 (.move (tT 2)), oO 42 (.indexAddr 93 (tT 41) (kI 0)), oO 43 (.load 81 (tT 42)), oO 44 (cF (.func 213) #[tT 38, tT 40, tT 43] #[84, 3, 81]), oO 37 (.move (tT 44)), ⟨⟨some 45, .extract (tT 37) 0, none⟩, false, true⟩, ⟨⟨some 46, .extract (tT 37) 1, none⟩, true, true⟩, oN (.store 84 (tT 4) (tT 45))])
 (.skip)))
 (.seq (.seq (rg [oO 47 (.move (tT 3)), oO 48 (cB .len #[tT 47] #[93]), oO 49 (.move (kI 0))])
 (.block 2 (.loop (.seq (rg [oO 50 (.binOp .lss 3 (tT 49) (tT 48) 3)])
 (.seq (.cond (tT 50) (.skip)
 (.exit 2))
 (.seq (.block 3 (.seq (rg [oO 51 (.indexAddr 93 (tT 47) (tT 49)), oO 52 (.load 81 (tT 51)), oO 11 (.assign (tT 52))])
 (.seq (rg [oO 54 (.load 84 (tT 4)), oO 55 (.move (tT 11)), oO 56 (cF (.func 214) #[tT 54, tT 55] #[84, 81]), oO 53 (.move (tT 56)), oO 57 (.extract (tT 53) 0), oO 58 (.extract (tT 53) 1), oO 12 (.alloc 84), oN (.store 84 (tT 12) (tT 57)), oO 13 (.assign (tT 58))])
 (.seq (.seq (rg [oO 59 (.move (tT 13)), oO 60 (.binOp .neq 32 (tT 59) (kI 0) 32)])
 (.cond (tT 60) (.seq (rg [oO 61 (.build 84 #[]), oO 62 (.move (tT 13)), oN (.store 84 (tT 8) (tT 61)), oO 9 (.assign (tT 62))])
 (.ret))
 (.skip)))
 (rg [oO 63 (.load 84 (tT 12)), oN (.store 84 (tT 4) (tT 63))])))))
 (rg [oO 64 (.binOp .add 3 (tT 49) (kI 1) 3), oO 49 (.move (tT 64))])))))))
 (.seq (rg [oO 65 (.load 84 (tT 4)), oN (.store 84 (tT 8) (tT 65)), oO 9 (.assign (kI 0))])
 .ret)))))
theorem F176 : Fun1 Tryz.prog 176 66 c176 [.cell 8 84, .tmp 9] := mkT Tryz.func176 rfl (by decide +kernel) Tryz.ntmps176 rfl (by kernel_rfl) rfl
def c102 : AC :=
.seq (rg [oO 1 (.box 84 (tT 0)), oO 2 (.assign (.const (.bool false)))])
 (.seq (rg [oO 3 (.fieldAddr 84 (tT 1) 0), oO 4 (.load 3 (tT 3)), oO 5 (.binOp .geq 3 (tT 4) (kI 0) 3), oO 6 (.move (tT 5)), oG 7 (.fieldAddr 84 (tT 1) 0) 6 true, oG 8 (.load 3 (tT 7)) 6 true, oG 9 (.binOp .leq 3 (tT 8) (kI 16) 3) 6 true, oO 10 (.pick (tT 6) (tT 9) (.const (.bool false))), oO 11 (.move (tT 10)), oG 12 (.fieldAddr 84 (tT 1) 1) 11 true, oG 13 (.load 3 (tT 12)) 11 true, oG 14 (.binOp .geq 3 (tT 13) (kI 0) 3) 11 true, oO 15 (.pick (tT 11) (tT 14) (.const (.bool false))), oO 16 (.move (tT 15)), oG 17 (.fieldAddr 84 (tT 1) 1) 16 true, oG 18 (.load 3 (tT 17)) 16 true, oG 19 (.binOp .leq 3 (tT 18) (kI 24) 3) 16 true, oO 20 (.pick (tT 16) (tT 19) (.const (.bool false))), oO 21 (.move (tT 20)), oG 22 (.fieldAddr 84 (tT 1) 0) 21 true, oG 23 (.load 3 (tT 22)) 21 true, oG 24 (.fieldAddr 84 (tT 1) 1) 21 true, oG 25 (.load 3 (tT 24)) 21 true, oG 26 (.binOp .add 3 (tT 23) (tT 25) 3) 21 true, oG 27 (.binOp .leq 3 (tT 26) (kI 24) 3) 21 true, oO 28 (.pick (tT 21) (tT 27) (.const (.bool false))), oO 2 (.assign (tT 28))])
 .ret)
theorem F102 : Fun1 Tryz.prog 102 29 c102 [.tmp 2] := mkT Tryz.func102 rfl (by decide +kernel) Tryz.ntmps102 rfl (by kernel_rfl) rfl
def c182 : AC :=
.seq (rg [oO 6 (.assign (.const (.bool false)))])
 (.seq (.seq (rg [oO 7 (.move (tT 2))])
 (.block 0 (.seq (rg [oO 9 (.binOp .eql 81 (tT 7) (kB 255) 81), oO 8 (.assign (tT 9))])
 (.cond (tT 8) (.seq (rg [oO 6 (.assign (.const (.bool true)))])
 (.ret))
 (.seq (rg [oO 11 (.binOp .eql 81 (tT 7) (kB 254) 81), oO 10 (.assign (tT 11))])
 (.cond (tT 10) (.seq (rg [oO 12 (.move (tT 1)), oO 13 (.binOp .neq 81 (tT 12) (kB 0) 81), oO 6 (.assign (tT 13))])
 (.ret))
 (.seq (rg [oO 15 (.binOp .eql 81 (tT 7) (kB 253) 81), oO 14 (.assign (tT 15))])
 (.cond (tT 14) (.seq (rg [oO 16 (.move (tT 1)), oO 17 (cF (.func 132) #[tT 16] #[81]), oO 6 (.assign (tT 17))])
 (.ret))
 (.skip)))))))))
 (.seq (rg [oO 18 (.move (tT 0)), oO 19 (.move (tT 1)), oO 20 (.move (tT 2)), oO 21 (cF (.func 91) #[tT 18, tT 19, tT 20] #[22, 81, 81]), oO 6 (.assign (tT 21))])
 .ret))
theorem F182 : Fun1 Tryz.prog 182 22 c182 [.tmp 6] := mkT Tryz.func182 rfl (by decide +kernel) Tryz.ntmps182 rfl (by kernel_rfl) rfl
def c184 : AC :=
.seq (rg [oO 1 (.box 84 (tT 0)), oO 2 (.alloc 84), oO 3 (.assign (kB 0)), oO 4 (.assign (kI 0))])
 (.seq (.seq (rg [oO 6 (.load 84 (tT 1)), oO 7 (cF (.func 102) #[tT 6] #[84]), oO 8 (.unOp .not 4 (tT 7))])
 (.cond (tT 8) (.seq (rg [oO 9 (.build 84 #[]), oN (.store 84 (tT 2) (tT 9)), oO 3 (.assign (kB 0)), oO 4 (.assign (kI 32))])
 (.ret))
 (.skip)))
 (.seq (.seq (rg [oO 10 (.fieldAddr 84 (tT 1) 1), oO 11 (.load 3 (tT 10)), oO 12 (.binOp .eql 3 (tT 11) (kI 0) 3)])
 (.cond (tT 12) (.seq (rg [oO 13 (.build 84 #[]), oN (.store 84 (tT 2) (tT 13)), oO 3 (.assign (kB 0)), oO 4 (.assign (kI 30))])
 (.ret))
 (.skip)))
 (.seq (rg [oO 14 (.fieldAddr 84 (tT 1) 0), oO 15 (.load 3 (tT 14)), oO 16 (.fieldAddr 84 (tT 1) 1), oO 17 (.load 3 (tT 16)), oO 18 (.binOp .add 3 (tT 15) (tT 17) 3), oO 19 (.binOp .sub 3 (tT 18) (kI 1) 3), oO 20 (.fieldAddr 84 (tT 1) 2), oO 21 (.indexAddr 82 (tT 20) (tT 19)), oO 22 (.load 81 (tT 21)), oO 5 (.assign (tT 22))])
 (.seq (rg [oO 23 (.fieldAddr 84 (tT 1) 1), oO 24 (.load 3 (tT 23)), oO 25 (.binOp .sub 3 (tT 24) (kI 1) 3), oO 26 (.fieldAddr 84 (tT 1) 1), oN (.store 3 (tT 26) (tT 25))])
 (.seq (rg [oO 27 (.load 84 (tT 1)), oO 28 (cF (.func 218) #[tT 27] #[84]), oO 29 (.move (tT 5)), oN (.store 84 (tT 2) (tT 28)), oO 3 (.assign (tT 29)), oO 4 (.assign (kI 0))])
 .ret)))))
theorem F184 : Fun1 Tryz.prog 184 30 c184 [.cell 2 84, .tmp 3, .tmp 4] := mkT Tryz.func184 rfl (by decide +kernel) Tryz.ntmps184 rfl (by kernel_rfl) rfl
def c185 : AC :=
.seq (rg [oO 2 (.box 84 (tT 0)), oO 4 (.alloc 84), oO 5 (.assign (kI 0))])
 (.seq (.seq (rg [oO 7 (.load 84 (tT 2)), oO 8 (cF (.func 102) #[tT 7] #[84]), oO 9 (.unOp .not 4 (tT 8))])
 (.cond (tT 9) (.seq (rg [oO 10 (.build 84 #[]), oN (.store 84 (tT 4) (tT 10)), oO 5 (.assign (kI 32))])
 (.ret))
 (.skip)))
 (.seq (rg [oO 11 (.fieldAddr 84 (tT 2) 0), oO 12 (.load 3 (tT 11)), oO 13 (.fieldAddr 84 (tT 2) 1), oO 14 (.load 3 (tT 13)), oO 15 (.binOp .add 3 (tT 12) (tT 14) 3), oO 6 (.assign (tT 15))])
 (.seq (.seq (rg [oO 16 (.move (tT 6)), oO 17 (.binOp .eql 3 (tT 16) (kI 24) 3)])
 (.cond (tT 17) (.seq (rg [oO 18 (.build 84 #[]), oN (.store 84 (tT 4) (tT 18)), oO 5 (.assign (kI 31))])
 (.ret))
 (.skip)))
 (.seq (rg [oO 19 (.load 84 (tT 2)), oO 20 (cF (.func 218) #[tT 19] #[84]), oN (.store 84 (tT 2) (tT 20))])
 (.seq (rg [oO 21 (.move (tT 6)), oO 22 (.move (tT 1)), oO 23 (.fieldAddr 84 (tT 2) 2), oO 24 (.indexAddr 82 (tT 23) (tT 21)), oN (.store 81 (tT 24) (tT 22))])
 (.seq (rg [oO 25 (.fieldAddr 84 (tT 2) 1), oO 26 (.load 3 (tT 25)), oO 27 (.binOp .add 3 (tT 26) (kI 1) 3), oO 28 (.fieldAddr 84 (tT 2) 1), oN (.store 3 (tT 28) (tT 27))])
 (.seq (rg [oO 29 (.load 84 (tT 2)), oN (.store 84 (tT 4) (tT 29)), oO 5 (.assign (kI 0))])
 .ret)))))))
theorem F185 : Fun1 Tryz.prog 185 30 c185 [.cell 4 84, .tmp 5] := mkT Tryz.func185 rfl (by decide +kernel) Tryz.ntmps185 rfl (by kernel_rfl) rfl
def c132 : AC :=
.seq (rg [oO 2 (.assign (.const (.bool false)))])
 (.seq (rg [oO 3 (.move (tT 0)), oO 4 (.binOp .eql 81 (tT 3) (kB 3) 81), oO 5 (.move (tT 4)), oG 6 (.move (tT 0)) 5 false, oG 7 (.binOp .eql 81 (tT 6) (kB 4) 81) 5 false, oO 8 (.pick (tT 5) (.const (.bool true)) (tT 7)), oO 9 (.move (tT 8)), oG 10 (.move (tT 0)) 9 false, oG 11 (.binOp .eql 81 (tT 10) (kB 5) 81) 9 false, oO 12 (.pick (tT 9) (.const (.bool true)) (tT 11)), oO 13 (.move (tT 12)), oG 14 (.move (tT 0)) 13 false, oG 15 (.binOp .geq 81 (tT 14) (kB 16) 81) 13 false, oO 16 (.pick (tT 13) (.const (.bool true)) (tT 15)), oO 2 (.assign (tT 16))])
 .ret)
theorem F132 : Fun1 Tryz.prog 132 17 c132 [.tmp 2] := mkT Tryz.func132 rfl (by decide +kernel) Tryz.ntmps132 rfl (by kernel_rfl) rfl
def c137 : AC :=
.seq (rg [oO 1 (.box 84 (tT 0)), oO 2 (.assign (.const (.bool false)))])
 (.seq (rg [oO 3 (.fieldAddr 84 (tT 1) 0), oO 4 (.load 3 (tT 3)), oO 5 (.binOp .geq 3 (tT 4) (kI 0) 3), oO 6 (.move (tT 5)), oG 7 (.fieldAddr 84 (tT 1) 0) 6 true, oG 8 (.load 3 (tT 7)) 6 true, oG 9 (.binOp .leq 3 (tT 8) (kI 16) 3) 6 true, oO 10 (.pick (tT 6) (tT 9) (.const (.bool false))), oO 11 (.move (tT 10)), oG 12 (.fieldAddr 84 (tT 1) 1) 11 true, oG 13 (.load 3 (tT 12)) 11 true, oG 14 (.binOp .geq 3 (tT 13) (kI 0) 3) 11 true, oO 15 (.pick (tT 11) (tT 14) (.const (.bool false))), oO 16 (.move (tT 15)), oG 17 (.fieldAddr 84 (tT 1) 1) 16 true, oG 18 (.load 3 (tT 17)) 16 true, oG 19 (.fieldAddr 84 (tT 1) 0) 16 true, oG 20 (.load 3 (tT 19)) 16 true, oG 21 (.binOp .sub 3 (kI 24) (tT 20) 3) 16 true, oG 22 (.binOp .leq 3 (tT 18) (tT 21) 3) 16 true, oO 23 (.pick (tT 16) (tT 22) (.const (.bool false))), oO 2 (.assign (tT 23))])
 .ret)
theorem F137 : Fun1 Tryz.prog 137 24 c137 [.tmp 2] := mkT Tryz.func137 rfl (by decide +kernel) Tryz.ntmps137 rfl (by kernel_rfl) rfl
def c138 : AC :=
.seq (rg [oO 1 (.box 84 (tT 0)), oO 2 (.alloc 84)])
 (.seq (rg [oO 4 (.fieldAddr 84 (tT 1) 0), oO 5 (.load 3 (tT 4)), oO 6 (.fieldAddr 84 (tT 1) 1), oO 7 (.load 3 (tT 6)), oO 8 (.build 84 #[(0, .tmp 5), (1, .tmp 7)]), oO 3 (.alloc 84), oN (.store 84 (tT 3) (tT 8))])
 (.seq (.reg true [] [⟨⟨some 9, .fieldAddr 84 (tT 3) 2, none⟩, false, true⟩, ⟨⟨some 10, .fieldAddr 84 (tT 1) 0, none⟩, false, true⟩, ⟨⟨some 11, .load 3 (tT 10), none⟩, false, true⟩, ⟨⟨some 12, .fieldAddr 84 (tT 1) 1, none⟩, false, true⟩, ⟨⟨some 13, .load 3 (tT 12), none⟩, false, true⟩, ⟨⟨some 14, .binOp .add 3 (tT 11) (tT 13) 3, none⟩, false, true⟩, ⟨⟨some 15, .slice 82 (tT 9) none (some (tT 14)) none, none⟩, false, true⟩, oO 16 (.fieldAddr 84 (tT 1) 2), oO 17 (.slice 82 (tT 16) none none none), oO 18 (cB .copy #[tT 15, tT 17] #[93, 93])])
 (.seq (rg [oO 19 (.load 84 (tT 3)), oN (.store 84 (tT 2) (tT 19))])
 .ret)))
theorem F138 : Fun1 Tryz.prog 138 20 c138 [.cell 2 84] := mkT Tryz.func138 rfl (by decide +kernel) Tryz.ntmps138 rfl (by kernel_rfl) rfl
def c210 : AC :=
.seq (rg [oO 2 (.box 84 (tT 0)), oO 4 (.assign (kB 0)), oO 5 (.assign (kI 0))])
 (.seq (.block 0 (.seq (rg [oO 7 (.load 84 (tT 2)), oO 8 (cF (.func 137) #[tT 7] #[84]), oO 9 (.unOp .not 4 (tT 8)), oO 6 (.assign (tT 9))])
 (.cond (tT 6) (.seq (rg [oO 4 (.assign (kB 0)), oO 5 (.assign (kI 32))])
 (.ret))
 (.seq (rg [oO 11 (.move (tT 1)), oO 12 (.binOp .lss 3 (tT 11) (kI 0) 3), oO 10 (.assign (tT 12))])
 (.cond (tT 10) (.seq (rg [oO 4 (.assign (kB 0)), oO 5 (.assign (kI 1))])
 (.ret))
 (.seq (rg [oO 14 (.move (tT 1)), oO 15 (.fieldAddr 84 (tT 2) 1), oO 16 (.load 3 (tT 15)), oO 17 (.binOp .geq 3 (tT 14) (tT 16) 3), oO 13 (.assign (tT 17))])
 (.cond (tT 13) (.seq (rg [oO 4 (.assign (kB 0)), oO 5 (.assign (kI 30))])
 (.ret))
 (.skip))))))))
 (.seq (rg [oO 18 (.fieldAddr 84 (tT 2) 0), oO 19 (.load 3 (tT 18)), oO 20 (.fieldAddr 84 (tT 2) 1), oO 21 (.load 3 (tT 20)), oO 22 (.binOp .add 3 (tT 19) (tT 21) 3), oO 23 (.binOp .sub 3 (tT 22) (kI 1) 3), oO 24 (.move (tT 1)), oO 25 (.binOp .sub 3 (tT 23) (tT 24) 3), oO 26 (.fieldAddr 84 (tT 2) 2), oO 27 (.indexAddr 82 (tT 26) (tT 25)), oO 28 (.load 81 (tT 27)), oO 4 (.assign (tT 28)), oO 5 (.assign (kI 0))])
 .ret))
theorem F210 : Fun1 Tryz.prog 210 29 c210 [.tmp 4, .tmp 5] := mkT Tryz.func210 rfl (by decide +kernel) Tryz.ntmps210 rfl (by kernel_rfl) rfl
def c211 : AC :=
.seq (rg [oO 5 (.box 266 (tT 1)), oO 8 (.assign (.const (.bool false)))])
 (.seq (.seq (rg [oO 9 (.fieldAddr 266 (tT 5) 0), oO 10 (.load 3 (tT 9))])
 (.block 0 (.seq (rg [oO 12 (.binOp .eql 3 (tT 10) (kI 1) 3), oO 11 (.assign (tT 12))])
 (.cond (tT 11) (.seq (rg [oO 13 (.move (tT 2)), oO 14 (.binOp .neq 81 (tT 13) (kB 0) 81), oO 8 (.assign (tT 14))])
 (.ret))
 (.seq (rg [oO 16 (.binOp .eql 3 (tT 10) (kI 2) 3), oO 15 (.assign (tT 16))])
 (.cond (tT 15) (.seq (rg [oO 17 (.move (tT 2)), oO 18 (cF (.func 227) #[tT 17] #[81]), oO 8 (.assign (tT 18))])
 (.ret))
 (.seq (rg [oO 20 (.binOp .eql 3 (tT 10) (kI 3) 3), oO 19 (.assign (tT 20))])
 (.cond (tT 19) (.seq (rg [oO 21 (.move (tT 2)), oO 22 (.move (tT 3)), oO 23 (.binOp .eql 81 (tT 21) (tT 22) 81), oO 24 (.move (tT 23)), oG 25 (.move (tT 2)) 24 true, oG 26 (.binOp .eql 81 (tT 25) (kB 1) 81) 24 true, oG 27 (.move (tT 26)) 24 true, oG 28 (.move (tT 2)) 27 false, oG 29 (.binOp .eql 81 (tT 28) (kB 2) 81) 27 false, oG 30 (.pick (tT 27) (.const (.bool true)) (tT 29)) 24 true, oO 31 (.pick (tT 24) (tT 30) (.const (.bool false))), oO 8 (.assign (tT 31))])
 (.ret))
 (.seq (rg [oO 33 (.binOp .eql 3 (tT 10) (kI 4) 3), oO 32 (.assign (tT 33))])
 (.cond (tT 32) (.seq (rg [oO 34 (.move (tT 0)), oO 35 (.move (tT 2)), oO 36 (.fieldAddr 266 (tT 5) 1), oO 37 (.load 81 (tT 36)), oO 38 (cF (.func 207) #[tT 34, tT 35, tT 37] #[22, 81, 81]), oO 8 (.assign (tT 38))])
 (.ret))
 (.skip)))))))))))
 (.seq (rg [oO 8 (.assign (.const (.bool true)))])
 .ret))
theorem F211 : Fun1 Tryz.prog 211 39 c211 [.tmp 8] := mkT Tryz.func211 rfl (by decide +kernel) Tryz.ntmps211 rfl (by kernel_rfl) rfl
def c212 : AC :=
.seq (rg [oO 1 (.box 84 (tT 0)), oO 2 (.alloc 84), oO 3 (.assign (kB 0)), oO 4 (.assign (kI 0))])
 (.seq (rg [oO 8 (.load 84 (tT 1)), oO 9 (cF (.func 210) #[tT 8, kI 0] #[84, 3]), oO 7 (.move (tT 9)), oO 10 (.extract (tT 7) 0), oO 11 (.extract (tT 7) 1), oO 5 (.assign (tT 10)), oO 6 (.assign (tT 11))])
 (.seq (.seq (rg [oO 12 (.move (tT 6)), oO 13 (.binOp .neq 32 (tT 12) (kI 0) 32)])
 (.cond (tT 13) (.seq (rg [oO 14 (.build 84 #[]), oO 15 (.move (tT 6)), oN (.store 84 (tT 2) (tT 14)), oO 3 (.assign (kB 0)), oO 4 (.assign (tT 15))])
 (.ret))
 (.skip)))
 (.seq (rg [oO 16 (.fieldAddr 84 (tT 1) 1), oO 17 (.load 3 (tT 16)), oO 18 (.binOp .sub 3 (tT 17) (kI 1) 3), oO 19 (.fieldAddr 84 (tT 1) 1), oN (.store 3 (tT 19) (tT 18))])
 (.seq (rg [oO 20 (.load 84 (tT 1)), oO 21 (cF (.func 138) #[tT 20] #[84]), oO 22 (.move (tT 5)), oN (.store 84 (tT 2) (tT 21)), oO 3 (.assign (tT 22)), oO 4 (.assign (kI 0))])
 .ret))))
theorem F212 : Fun1 Tryz.prog 212 23 c212 [.cell 2 84, .tmp 3, .tmp 4] := mkT Tryz.func212 rfl (by decide +kernel) Tryz.ntmps212 rfl (by kernel_rfl) rfl
def c213 : AC :=
.seq (rg [oO 3 (.box 84 (tT 0)), oO 6 (.alloc 84), oO 7 (.assign (kI 0))])
 (.seq (rg [oO 11 (.load 84 (tT 3)), oO 12 (.move (tT 1)), oO 13 (cF (.func 175) #[tT 11, tT 12] #[84, 3]), oO 10 (.move (tT 13)), oO 14 (.extract (tT 10) 0), oO 15 (.extract (tT 10) 1), oO 8 (.assign (tT 14)), oO 9 (.assign (tT 15))])
 (.seq (.seq (rg [oO 16 (.move (tT 9)), oO 17 (.binOp .neq 32 (tT 16) (kI 0) 32)])
 (.cond (tT 17) (.seq (rg [oO 18 (.build 84 #[]), oO 19 (.move (tT 9)), oN (.store 84 (tT 6) (tT 18)), oO 7 (.assign (tT 19))])
 (.ret))
 (.skip)))
 (.seq (rg [oO 20 (.load 84 (tT 3)), oO 21 (cF (.func 138) #[tT 20] #[84]), oN (.store 84 (tT 3) (tT 21))])
 (.seq (rg [oO 22 (.move (tT 1)), oO 23 (.move (tT 2)), oO 24 (.fieldAddr 84 (tT 3) 2), oO 25 (.indexAddr 82 (tT 24) (tT 22)), oN (.store 81 (tT 25) (tT 23))])
 (.seq (rg [oO 26 (.load 84 (tT 3)), oN (.store 84 (tT 6) (tT 26)), oO 7 (.assign (kI 0))])
 .ret)))))
theorem F213 : Fun1 Tryz.prog 213 27 c213 [.cell 6 84, .tmp 7] := mkT Tryz.func213 rfl (by decide +kernel) Tryz.ntmps213 rfl (by kernel_rfl) rfl
def c214 : AC :=
.seq (rg [oO 2 (.box 84 (tT 0)), oO 4 (.alloc 84), oO 5 (.assign (kI 0))])
 (.seq (.block 0 (.seq (rg [oO 7 (.load 84 (tT 2)), oO 8 (cF (.func 137) #[tT 7] #[84]), oO 9 (.unOp .not 4 (tT 8)), oO 6 (.assign (tT 9))])
 (.cond (tT 6) (.seq (rg [oO 10 (.build 84 #[]), oN (.store 84 (tT 4) (tT 10)), oO 5 (.assign (kI 32))])
 (.ret))
 (.seq (rg [oO 12 (.fieldAddr 84 (tT 2) 0), oO 13 (.load 3 (tT 12)), oO 14 (.fieldAddr 84 (tT 2) 1), oO 15 (.load 3 (tT 14)), oO 16 (.binOp .add 3 (tT 13) (tT 15) 3), oO 17 (.binOp .eql 3 (tT 16) (kI 24) 3), oO 11 (.assign (tT 17))])
 (.cond (tT 11) (.seq (rg [oO 18 (.build 84 #[]), oN (.store 84 (tT 4) (tT 18)), oO 5 (.assign (kI 31))])
 (.ret))
 (.skip))))))
 (.seq (rg [oO 19 (.load 84 (tT 2)), oO 20 (cF (.func 138) #[tT 19] #[84]), oN (.store 84 (tT 2) (tT 20))])
 (.seq (rg [oO 21 (.fieldAddr 84 (tT 2) 0), oO 22 (.load 3 (tT 21)), oO 23 (.fieldAddr 84 (tT 2) 1), oO 24 (.load 3 (tT 23)), oO 25 (.binOp .add 3 (tT 22) (tT 24) 3), oO 26 (.move (tT 1)), oO 27 (.fieldAddr 84 (tT 2) 2), oO 28 (.indexAddr 82 (tT 27) (tT 25)), oN (.store 81 (tT 28) (tT 26))])
 (.seq (rg [oO 29 (.fieldAddr 84 (tT 2) 1), oO 30 (.load 3 (tT 29)), oO 31 (.binOp .add 3 (tT 30) (kI 1) 3), oO 32 (.fieldAddr 84 (tT 2) 1), oN (.store 3 (tT 32) (tT 31))])
 (.seq (rg [oO 33 (.load 84 (tT 2)), oN (.store 84 (tT 4) (tT 33)), oO 5 (.assign (kI 0))])
 .ret)))))
theorem F214 : Fun1 Tryz.prog 214 34 c214 [.cell 4 84, .tmp 5] := mkT Tryz.func214 rfl (by decide +kernel) Tryz.ntmps214 rfl (by kernel_rfl) rfl
def c218 : AC :=
.seq (rg [oO 1 (.box 84 (tT 0)), oO 2 (.alloc 84)])
 (.seq (.seq (rg [oO 4 (.fieldAddr 84 (tT 1) 0), oO 5 (.load 3 (tT 4)), oO 6 (.fieldAddr 84 (tT 1) 1), oO 7 (.load 3 (tT 6)), oO 8 (.binOp .add 3 (tT 5) (tT 7) 3), oO 3 (.assign (tT 8))])
 (.block 0 (.loop (.seq (.seq (rg [oO 9 (.move (tT 3)), oO 10 (.binOp .lss 3 (tT 9) (kI 24) 3)])
 (.cond (tT 10) (.skip)
 (.exit 0)))
 (.seq (.block 1 (rg [oO 13 (.move (tT 3)), oO 14 (.fieldAddr 84 (tT 1) 2), oO 15 (.indexAddr 82 (tT 14) (tT 13)), oN (.store 81 (tT 15) (kB 0))]))
 (rg [oO 11 (.move (tT 3)), oO 12 (.binOp .add 3 (tT 11) (kI 1) 3), oO 3 (.assign (tT 12))]))))))
 (.seq (rg [oO 16 (.load 84 (tT 1)), oN (.store 84 (tT 2) (tT 16))])
 .ret))
theorem F218 : Fun1 Tryz.prog 218 17 c218 [.cell 2 84] := mkT Tryz.func218 rfl (by decide +kernel) Tryz.ntmps218 rfl (by kernel_rfl) rfl
def c227 : AC :=
.seq (rg [oO 2 (.assign (.const (.bool false)))])
 (.seq (rg [oO 3 (.move (tT 0)), oO 4 (.binOp .eql 81 (tT 3) (kB 3) 81), oO 5 (.move (tT 4)), oG 6 (.move (tT 0)) 5 false, oG 7 (.binOp .eql 81 (tT 6) (kB 4) 81) 5 false, oO 8 (.pick (tT 5) (.const (.bool true)) (tT 7)), oO 9 (.move (tT 8)), oG 10 (.move (tT 0)) 9 false, oG 11 (.binOp .eql 81 (tT 10) (kB 5) 81) 9 false, oO 12 (.pick (tT 9) (.const (.bool true)) (tT 11)), oO 13 (.move (tT 12)), oG 14 (.move (tT 0)) 13 false, oG 15 (.binOp .geq 81 (tT 14) (kB 16) 81) 13 false, oO 16 (.pick (tT 13) (.const (.bool true)) (tT 15)), oO 2 (.assign (tT 16))])
 .ret)
theorem F227 : Fun1 Tryz.prog 227 17 c227 [.tmp 2] := mkT Tryz.func227 rfl (by decide +kernel) Tryz.ntmps227 rfl (by kernel_rfl) rfl
def c207 : AC :=
.seq (rg [oO 6 (.assign (.const (.bool false)))])
 (.seq (.seq (rg [oO 9 (.move (tT 0)), oO 10 (.move (tT 1)), oO 11 (cF (.func 139) #[tT 9, tT 10] #[22, 81]), oO 12 (.unOp .not 4 (tT 11)), oO 13 (.move (tT 12)), oG 14 (.move (tT 0)) 13 false, oG 15 (.move (tT 2)) 13 false, oG 16 (cF (.func 139) #[tT 14, tT 15] #[22, 81]) 13 false, oG 17 (.unOp .not 4 (tT 16)) 13 false, oO 18 (.pick (tT 13) (.const (.bool true)) (tT 17))])
 (.cond (tT 18) (.seq (rg [oO 6 (.assign (.const (.bool false)))])
 (.ret))
 (.skip)))
 (.seq (.block 0 (.seq (rg [oO 20 (.move (tT 1)), oO 21 (.move (tT 2)), oO 22 (.binOp .eql 81 (tT 20) (tT 21) 81), oO 23 (.move (tT 22)), oG 24 (.move (tT 2)) 23 false, oG 25 (.binOp .eql 81 (tT 24) (kB 0) 81) 23 false, oO 26 (.pick (tT 23) (.const (.bool true)) (tT 25)), oO 19 (.assign (tT 26))])
 (.cond (tT 19) (.seq (rg [oO 6 (.assign (.const (.bool true)))])
 (.ret))
 (.seq (rg [oO 28 (.move (tT 1)), oO 29 (.binOp .eql 81 (tT 28) (kB 3) 81), oO 30 (.move (tT 29)), oG 31 (.move (tT 2)) 30 false, oG 32 (.binOp .eql 81 (tT 31) (kB 5) 81) 30 false, oO 33 (.pick (tT 30) (.const (.bool true)) (tT 32)), oO 27 (.assign (tT 33))])
 (.cond (tT 27) (.seq (rg [oO 34 (.move (tT 1)), oO 35 (cF (.func 227) #[tT 34] #[81]), oO 36 (.move (tT 35)), oG 37 (.move (tT 2)) 36 true, oG 38 (cF (.func 227) #[tT 37] #[81]) 36 true, oO 39 (.pick (tT 36) (tT 38) (.const (.bool false))), oO 6 (.assign (tT 39))])
 (.ret))
 (.skip))))))
 (.seq (rg [oO 40 (.move (tT 0)), oO 41 (.move (tT 1)), oO 42 (cF (.func 170) #[tT 40, tT 41] #[22, 81]), oO 43 (.move (tT 0)), oO 44 (.move (tT 2)), oO 45 (cF (.func 170) #[tT 43, tT 44] #[22, 81]), oO 7 (.assign (tT 42)), oO 8 (.assign (tT 45))])
 (.seq (rg [oO 46 (.move (tT 7)), oO 47 (.binOp .geq 3 (tT 46) (kI 0) 3), oO 48 (.move (tT 47)), oG 49 (.move (tT 8)) 48 true, oG 50 (.binOp .geq 3 (tT 49) (kI 0) 3) 48 true, oO 51 (.pick (tT 48) (tT 50) (.const (.bool false))), oO 52 (.move (tT 51)), oG 53 (.move (tT 0)) 52 true, oG 54 (.move (tT 7)) 52 true, oG 55 (.move (tT 8)) 52 true, oG 56 (cF (.func 228) #[tT 53, tT 54, tT 55] #[22, 3, 3]) 52 true, oO 57 (.pick (tT 52) (tT 56) (.const (.bool false))), oO 6 (.assign (tT 57))])
 .ret))))
theorem F207 : Fun1 Tryz.prog 207 58 c207 [.tmp 6] := mkT Tryz.func207 rfl (by decide +kernel) Tryz.ntmps207 rfl (by kernel_rfl) rfl
def c228 : AC :=
.seq (rg [oO 5 (.box 3 (tT 2)), oO 6 (.assign (.const (.bool false)))])
 (.seq (rg [oO 7 (.alloc 4), oN (.store 4 (tT 7) (.const (.bool false)))])
 (.seq (rg [oO 8 (.move (tT 0)), oO 9 (.move (tT 1)), oO 10 (.makeFunc (.func 241) #[] #[tT 5, tT 7]), oO 11 (cF (.func 189) #[tT 8, tT 9, tT 10] #[22, 3, 188])])
 (.seq (rg [oO 12 (.load 4 (tT 7)), oO 6 (.assign (tT 12))])
 .ret)))
theorem F228 : Fun1 Tryz.prog 228 13 c228 [.tmp 6] := mkT Tryz.func228 rfl (by decide +kernel) Tryz.ntmps228 rfl (by kernel_rfl) rfl
def c241 : AC :=
.seq (rg [oO 4 (.assign (.const (.bool false)))])
 (.seq (rg [oO 5 (.move (tT 0)), oO 6 (.load 3 (tT 1)), oO 7 (.binOp .eql 3 (tT 5) (tT 6) 3), oN (.store 4 (tT 2) (tT 7))])
 (.seq (rg [oO 8 (.load 4 (tT 2)), oO 9 (.unOp .not 4 (tT 8)), oO 4 (.assign (tT 9))])
 .ret))
theorem F241 : Fun1 Tryz.prog 241 10 c241 [.tmp 4] := mkT Tryz.func241 rfl (by decide +kernel) Tryz.ntmps241 rfl (by kernel_rfl) rfl
def eU (t : Ty) : D := .int .u8 (t.val : Int)
theorem fr_0 (f : Fr) : (eFr f)[0]? = some (.int .i64 f.loc) := rfl
theorem fr_1 (f : Fr) : (eFr f)[1]? = some (.int .i64 f.h) := rfl
theorem fr_at (f : Fr) (i : Nat) (h : i < 24) : (eFr f)[2 + i]? = some (.int .u8 (f.sl[i].val : Int)) := by
  rw [show 2 + i = i + 1 + 1 by omega]
  simp only [eFr, List.getElem?_cons_succ, List.getElem?_map]
  rw [List.getElem?_eq_getElem (by simpa using h)]
  simp
theorem eqAll_from {m n : Nat} (xs ys : List Ty) (hx : xs.length = n) (hy : ys.length = n) : ∀ (k s : Nat), s + k = n →
    eqAll Tryz.prog (eqV Tryz.prog (m + 1)) (xs.map eU) (ys.map eU) ((List.range' s k).map fun i => (81, i * 1)) = some (decide (xs.drop s = ys.drop s))
  | 0, s, h => by
    rw [List.drop_eq_nil_of_le (by omega), List.drop_eq_nil_of_le (by omega)]
    rfl
  | k + 1, s, h => by
    have h1 : s < xs.length := by omega
    have h2 : s < ys.length := by omega
    rw [List.range'_succ, List.map_cons, eqAll, Nat.mul_one]
    have p1 : partD Tryz.prog 81 (xs.map eU) s = some (eU xs[s]) := by simp [partD, Tryz.agg81, Tryz.sz81, h1]
    have p2 : partD Tryz.prog 81 (ys.map eU) s = some (eU ys[s]) := by simp [partD, Tryz.agg81, Tryz.sz81, h2]
    rw [p1, p2, eqAll_from xs ys hx hy k (s + 1) (by omega), List.drop_eq_getElem_cons h1, List.drop_eq_getElem_cons h2]
    simp only [eU, eqV_int Tryz.underlying81]
    congr 1
    rw [Bool.eq_iff_iff]
    simp only [Bool.and_eq_true, decide_eq_true_eq, List.cons.injEq, eT_eq]
theorem eq_fr (f g : Fr) : eqV Tryz.prog 10 84 (.agg (eFr f)) (.agg (eFr g)) = some (decide (f = g)) := by
  have h1 : Tryz.prog.stoodInHeld 84 = false := by kernel_rfl
  have h2 : (Tryz.prog.info? 81).isSome = true := by kernel_rfl
  have h3 : Tryz.prog.cellsOf 81 = 1 := by kernel_rfl
  have t : ∀ f : Fr, ((eFr f).drop 2).take 24 = f.sl.toList.map eU := fun f => by
    rw [List.take_of_length_le (by simp [eFr])]
    rfl
  rw [show (10 : Nat) = 8 + 1 + 1 from rfl, eqV_struct Tryz.underlying84 h1 rfl]
  simp only [fsParts, List.map_cons, List.map_nil, eqAll]
  simp -implicitDefEqProofs only [go_sem, fr_0, fr_1, t, eFr_len, eqV_int Tryz.underlying3]
  rw [eqV_array Tryz.underlying82 h2, h3, List.range_eq_range', eqAll_from f.sl.toList g.sl.toList (by simp) (by simp) 24 0 rfl]
  obtain ⟨a, b, c⟩ := f
  obtain ⟨a', b', c'⟩ := g
  simp only [List.drop_zero, Bool.and_true]
  congr 1
  rw [Bool.eq_iff_iff]
  simp [Fr.mk.injEq, Vector.toList_inj]
def shapedB (f : Fr) : Bool := decide (0 ≤ f.loc ∧ f.loc ≤ 16 ∧ 0 ≤ f.h ∧ f.h ≤ 24 - f.loc)
theorem shaped123 (f : Fr) : PCall Tryz.prog 137 [.agg (eFr f)] (.bool (shapedB f)) := by
  refine F137.pcall' rfl fun T hT => ?_
  simp -implicitDefEqProofs only [go_sem, c137, hT, eFr_len]
  refine fun b => ?_
  simp -implicitDefEqProofs only [go_sem, mmB, hT, eFr_len, fr_0, fr_1, gdD]
  refine DLe_bool ?_
  rw [Bool.eq_iff_iff]
  simp only [shapedB, Bool.and_eq_true, decide_eq_true_eq, and_assoc]
  constructor
  · rintro ⟨h1, h2, h3, h4⟩
    rw [wrap_i64 (by omega) (by omega)] at h4
    exact ⟨h1, h2, h3, h4⟩
  · rintro ⟨h1, h2, h3, h4⟩
    rw [wrap_i64 (by omega) (by omega)]
    exact ⟨h1, h2, h3, h4⟩
theorem refShape86 (f : Fr) : PCall Tryz.prog 102 [.agg (eFr f)] (.bool (shapedB f)) := by
  refine F102.pcall' rfl fun T hT => ?_
  simp -implicitDefEqProofs only [go_sem, c102, hT, eFr_len]
  refine fun b => ?_
  simp -implicitDefEqProofs only [go_sem, mmB, hT, eFr_len, fr_0, fr_1, gdD]
  refine DLe_bool ?_
  rw [Bool.eq_iff_iff]
  simp only [shapedB, Bool.and_eq_true, decide_eq_true_eq, and_assoc]
  constructor
  · rintro ⟨h1, h2, h3, h4, h5⟩
    rw [wrap_i64 (by omega) (by omega)] at h5
    exact ⟨h1, h2, h3, by omega⟩
  · rintro ⟨h1, h2, h3, h4⟩
    rw [wrap_i64 (by omega) (by omega)]
    exact ⟨h1, h2, h3, by omega, by omega⟩
def bareF (f : Fr) : Fr := ⟨f.loc, f.h, Vector.ofFn fun i => if (i.val : Int) < f.loc + f.h then f.sl[i.val] else 0⟩
theorem fr_tail (f : Fr) : (eFr f).drop 2 = f.sl.toList.map eU := rfl
theorem map24 (f : Fr) : List.take 24 (List.map eU f.sl.toList) = List.map eU f.sl.toList := List.take_of_length_le (by simp)
theorem len24 (f : Fr) : (List.map eU f.sl.toList).length = 24 := by simp
theorem bare_list (f : Fr) {k : Nat} (hk : f.loc + f.h = k) (h24 : k ≤ 24) :
    List.take (min 24 (k - 0)) (List.map eU f.sl.toList) ++ List.drop (2 + (List.take (min 24 (k - 0)) (List.map eU f.sl.toList)).length) (D.int .i64 f.loc :: D.int .i64 f.h :: List.replicate 24 (D.int .u8 0)) = List.map eU (bareF f).sl.toList := by
  have h1 : min 24 (k - 0) = k := by omega
  have h2 : (List.take k (List.map eU f.sl.toList)).length = k := by simp; omega
  rw [h1, h2, show 2 + k = k + 1 + 1 by omega, List.drop_succ_cons, List.drop_succ_cons, List.drop_replicate]
  apply List.ext_getElem
  · simp; omega
  · intro i hi hi'
    have hi24 : i < 24 := by simpa using hi'
    by_cases hik : i < k
    · rw [List.getElem_append_left (by rw [h2]; exact hik)]
      simp [bareF, eU, show (i : Int) < f.loc + f.h by omega]
    · rw [List.getElem_append_right (by rw [h2]; omega)]
      simp [bareF, eU, show ¬ (i : Int) < f.loc + f.h by omega]
theorem fr_eq (g : Fr) : eFr g = D.int .i64 g.loc :: D.int .i64 g.h :: List.map eU g.sl.toList := rfl
theorem bare_loc (f : Fr) : (bareF f).loc = f.loc := by unfold bareF; rfl
theorem bare_h (f : Fr) : (bareF f).h = f.h := by unfold bareF; rfl
theorem fr_bare (f : Fr) : (D.int .i64 f.loc :: D.int .i64 f.h :: List.map eU (bareF f).sl.toList) = eFr (bareF f) := by
  rw [fr_eq (bareF f), bare_loc, bare_h]
theorem bare124 (f : Fr) (hs : shapedB f = true) : PCall Tryz.prog 138 [.agg (eFr f)] (.agg (eFr (bareF f))) := by
  simp only [shapedB, decide_eq_true_eq] at hs
  obtain ⟨k, hk⟩ : ∃ k : Nat, f.loc + f.h = k := ⟨(f.loc + f.h).toNat, by omega⟩
  have hw : IntKind.wrap .i64 (f.loc + f.h) = (k : Int) := by rw [wrap_i64 (by omega) (by omega), hk]
  refine F138.pcall' rfl fun T hT => ?_
  simp -implicitDefEqProofs only [go_sem, c138, hT, eFr_len]
  intro b1 b2 n1 n2
  simp -implicitDefEqProofs only [go_sem, hT, eFr_len, fr_0, fr_1, gdD, n1, n2]
  intro b3 m1 m2 m3 m4
  have key := bare_list f hk (by omega)
  simp only [List.replicate_succ, List.replicate_zero] at key
  simp -implicitDefEqProofs only [go_sem, hT, eFr_len, fr_0, fr_1, gdD, n1, n2, m1, m2, m3, m4, set_set, hw, fr_tail, key, map24, len24]
  refine ⟨by omega, by omega, by omega, by omega, ?_⟩
  rw [fr_bare]
  exact DLe.refl _
theorem fr_idx (f : Fr) {i : Nat} (h : i < 24) : (List.map eU f.sl.toList)[i]? = some (.int .u8 (f.sl[i].val : Int)) := by
  rw [List.getElem?_map, List.getElem?_eq_getElem (by simpa using h)]
  simp [eU]
theorem refBare151 (f : Fr) (hs : shapedB f = true) : PCall Tryz.prog 218 [.agg (eFr f)] (.agg (eFr (bareF f))) := by
  simp only [shapedB, decide_eq_true_eq] at hs
  obtain ⟨k, hk⟩ : ∃ k : Nat, f.loc + f.h = k := ⟨(f.loc + f.h).toNat, by omega⟩
  have hw : IntKind.wrap .i64 (f.loc + f.h) = (k : Int) := by rw [wrap_i64 (by omega) (by omega), hk]
  refine F218.pcall' rfl fun T hT => ?_
  simp -implicitDefEqProofs only [go_sem, c218, hT, eFr_len]
  intro b1 b2 n1 n2
  simp -implicitDefEqProofs only [go_sem, hT, eFr_len, fr_0, fr_1, gdD, n1, n2, hw]
  generalize hz : (D.int .i64 0 :: D.int .i64 0 :: _ : List D) = z0
  have hzd : z0.drop 26 = [] := by rw [← hz]; rfl
  have hz26 : z0.length = 26 := by rw [← hz]; rfl
  -- slots from k up to i are cleared
  let g : Nat → Fr := fun i => ⟨f.loc, f.h, Vector.ofFn fun j => if j.val < k ∨ i ≤ j.val then f.sl[j.val] else 0⟩
  have g0 : g k = f := by
    obtain ⟨a, b, c⟩ := f
    simp only [g, Fr.mk.injEq, true_and]
    apply Vector.ext
    intro j hj
    simp only [Vector.getElem_ofFn]
    rw [if_pos (by omega)]
  have gl : g 24 = bareF f := by
    simp only [g, bareF, Fr.mk.injEq, true_and]
    apply Vector.ext
    intro j hj
    simp only [Vector.getElem_ofFn]
    by_cases hjk : j < k
    · rw [if_pos (.inl hjk), if_pos (by omega)]
    · rw [if_neg (by omega), if_neg (by omega)]
  have gs : ∀ i (h24 : i < 24), k ≤ i → (⟨(g i).loc, (g i).h, (g i).sl.set i 0 h24⟩ : Fr) = g (i + 1) := by
    intro i h24 hi
    simp only [g, Fr.mk.injEq, true_and]
    apply Vector.ext
    intro j hj
    simp only [Vector.getElem_set, Vector.getElem_ofFn]
    split
    · rename_i he; subst he; rw [if_neg (by omega)]
    · rename_i he
      by_cases h1 : j < k ∨ i ≤ j
      · rw [if_pos h1, if_pos (by omega)]
      · rw [if_neg h1, if_neg (by omega)]
  clear_value g
  refine loopL F218 (fun i : Nat => [(1, .ptr b1 0), (2, .ptr b2 0), (3, .int .i64 i)]) (fun i => (({} : St).set b1 (eFr (g i))).set b2 z0) (fun i => k ≤ i ∧ i ≤ 24) (fun i => 24 - i) k ⟨Nat.le_refl _, by omega⟩ ?_ (by rw [g0]; exact St.le.refl _) ?_
  · simp -implicitDefEqProofs only [go_sem, hT]
  clear hT T
  rintro i ⟨hi, h24⟩ T hT
  by_cases h : i < 24
  · have h1 : ((i : Int) < 24) = True := by simp; omega
    have hset := fr_set (f := g i) (i := i) h (t := 0)
    have h00 : (((0 : Ty).val : Nat) : Int) = 0 := rfl
    rw [gs i h hi, h00] at hset
    simp -implicitDefEqProofs only [go_sem, hT, h1, eFr_len, n1, n2, Nat.mul_one, hset]
    refine ⟨by omega, by omega, i + 1, ⟨by omega, by omega⟩, by omega, ?_, ?_⟩
    · rw [wrap_i64 (by omega) (by omega)]; simp
    · rw [Go.AL.set_comm (σ := ({} : St).set b1 (eFr (g i))) (show b2 ≠ b1 from fun e => by simp_all), set_set]
      exact St.le.refl _
  · have h1 : ((i : Int) < 24) = False := by simp; omega
    obtain rfl : i = 24 := by omega
    simp -implicitDefEqProofs only [go_sem, hT, h1, eFr_len, n1, n2, eFr_take, eFr_drop, hz26, hzd]
    rw [gl]
    exact DLe.refl _
def checkF (c : Nat) (f : Fr) : Nat := if shapedB f = false ∨ bareF f ≠ f then 32 else if (f.sl.toList.any fun t => !validN c t) = true then 22 else 0
theorem check81 (l : List Cl) (o : Own) (f : Fr) : PCall Tryz.prog 96 [.slice o (rws eC l), .agg (eFr f)] (.int .i64 (checkF l.length f)) := by
  refine F96.pcall' rfl fun T hT => ?_
  simp -implicitDefEqProofs only [go_sem, c96, hT, eFr_len]
  intro b3
  simp -implicitDefEqProofs only [go_sem, hT, eFr_len, eFr_take]
  refine ⟨by rintro b rfl; simp, callB_pure (shaped123 f) ?_⟩
  cases hs : shapedB f
  · simp -implicitDefEqProofs only [go_sem, hT]
    exact DLe.of_eq (by rw [checkF, if_pos (.inl hs)]; rfl)
  simp -implicitDefEqProofs only [go_sem, hT, eFr_len, eFr_take]
  refine callB_pure (bare124 f hs) ?_
  by_cases hb : bareF f = f
  case neg =>
    simp -implicitDefEqProofs only [go_sem, hT, eFr_len, eFr_take, eq_fr, hb]
    exact DLe.of_eq (by rw [checkF, if_pos (.inr hb)]; rfl)
  have hc : checkF l.length f = if (f.sl.toList.any fun t => !validN l.length t) = true then 22 else 0 := by
    rw [checkF, if_neg (by simp [hs, hb])]
  rw [hc, hb]
  have hl24 : f.sl.toList.length = 24 := by simp
  have hl24' : f.sl.size = 24 := by simp
  simp -implicitDefEqProofs only [go_sem, hT, eFr_len, eFr_take, eq_fr, decide_true, fr_tail, map24, hl24, len24, Nat.le_refl, List.length_map, Vector.length_toList]
  refine loopL F96 (fun i : Nat => [(0, .slice o (rws eC l)), (17, .agg (List.map eU f.sl.toList)), (18, .int .i64 i)]) (fun _ => {}) (fun i => i ≤ 24 ∧ ((f.sl.toList.take i).any fun t => !validN l.length t) = false) (fun i => 24 - i) 0 ⟨by omega, rfl⟩ ?_ (St.le.nil _) ?_
  · simp -implicitDefEqProofs only [go_sem, hT, Int.ofNat_zero]
  clear hT T
  rintro i ⟨hi, hok⟩ T hT
  by_cases h : i < 24
  · have h1 : ((i : Int) < 24) = True := by simp; omega
    have hx := fr_idx f h
    have hl : i < f.sl.toList.length := by simpa using h
    have htake : f.sl.toList.take (i + 1) = f.sl.toList.take i ++ [f.sl[i]] := by rw [List.take_succ_eq_append_getElem hl]; simp
    have hin : f.sl[i] ∈ f.sl.toList := by simp
    generalize f.sl[i] = t at *
    simp -implicitDefEqProofs only [go_sem, hT, h1, hx, Nat.mul_one]
    refine ⟨by omega, callB_pure (valid105 l o t) ?_⟩
    cases hv : validN l.length t
    · simp -implicitDefEqProofs only [go_sem, hT]
      rw [if_pos (List.any_eq_true.2 ⟨t, hin, by simp [hv]⟩)]
      exact DLe.of_eq rfl
    · simp -implicitDefEqProofs only [go_sem, hT]
      refine ⟨i + 1, ⟨by omega, by rw [htake, List.any_append, hok]; simp [hv]⟩, by omega, ?_, St.le.refl _⟩
      rw [wrap_i64 (by omega) (by omega)]; simp
  · have h1 : ((i : Int) < 24) = False := by simp; omega
    rw [List.take_of_length_le (by simp; omega)] at hok
    simp -implicitDefEqProofs only [go_sem, hT, h1]
    rw [if_neg (by simp [hok])]
    exact DLe.of_eq rfl
@[irreducible] def zFr : List D := [D.int .i64 0, D.int .i64 0, D.int .u8 0, D.int .u8 0, D.int .u8 0, D.int .u8 0, D.int .u8 0, D.int .u8 0, D.int .u8 0, D.int .u8 0, D.int .u8 0, D.int .u8 0, D.int .u8 0, D.int .u8 0, D.int .u8 0, D.int .u8 0, D.int .u8 0, D.int .u8 0, D.int .u8 0, D.int .u8 0, D.int .u8 0, D.int .u8 0, D.int .u8 0, D.int .u8 0, D.int .u8 0, D.int .u8 0]
theorem fr_zero : [D.int .i64 0, D.int .i64 0, D.int .u8 0, D.int .u8 0, D.int .u8 0, D.int .u8 0, D.int .u8 0, D.int .u8 0, D.int .u8 0, D.int .u8 0, D.int .u8 0, D.int .u8 0, D.int .u8 0, D.int .u8 0, D.int .u8 0, D.int .u8 0, D.int .u8 0, D.int .u8 0, D.int .u8 0, D.int .u8 0, D.int .u8 0, D.int .u8 0, D.int .u8 0, D.int .u8 0, D.int .u8 0, D.int .u8 0] = zFr := by rw [zFr]
theorem fr_fr0 : eFr (fr0 0) = zFr := by rw [zFr]; rfl
theorem zFr_len : zFr.length = 26 := by rw [zFr]; rfl
theorem zFr_take : zFr.take 26 = zFr := by rw [zFr]; rfl
theorem zFr_drop : zFr.drop 26 = [] := by rw [zFr]; rfl
def slAt (f : Fr) (i : Nat) : Ty := (f.sl.toList[i]?).getD 0
theorem slAt_lt (f : Fr) {i : Nat} (h : i < 24) : slAt f i = f.sl[i] := by
  rw [slAt, List.getElem?_eq_getElem (by simpa using h)]
  simp
theorem fr_slAt (f : Fr) {i : Nat} (h : i < 24) : (eFr f)[2 + i]? = some (.int .u8 ((slAt f i).val : Int)) := by rw [fr_at f i h, slAt_lt f h]
theorem shaped_of {f : Fr} (h : shapedB f = true) : 0 ≤ f.loc ∧ f.loc ≤ 16 ∧ 0 ≤ f.h ∧ f.loc + f.h ≤ 24 := by
  simp only [shapedB, decide_eq_true_eq] at h
  omega
def bYdaV0 := aI @fr_zero (aI @zFr_len (aI @zFr_take (aI @zFr_drop @eFr_len)))
def bYdaV1 := aI @fr_zero (aI @zFr_len (aI @zFr_take (aI @zFr_drop (aI @eFr_len @eFr_take))))
theorem top127 (f : Fr) (hs : shapedB f = true) (n : Nat) (hn : (n : Int) < f.h) : PCall Tryz.prog 210 [.agg (eFr f), .int .i64 n] (.tup [.int .u8 (slAt f (f.loc + f.h - 1 - n).toNat).val, .int .i64 0]) := by
  obtain ⟨s1, s2, s3, s4⟩ := shaped_of hs
  have w1 : IntKind.wrap .i64 (f.loc + f.h) = f.loc + f.h := wrap_i64 (by omega) (by omega)
  have w2 : IntKind.wrap .i64 (f.loc + f.h - 1) = f.loc + f.h - 1 := wrap_i64 (by omega) (by omega)
  have w3 : IntKind.wrap .i64 (f.loc + f.h - 1 - n) = f.loc + f.h - 1 - n := wrap_i64 (by omega) (by omega)
  have g1 : ((n : Int) < 0) = False := by simp
  have g2 : (f.h ≤ (n : Int)) = False := by simp; omega
  have hx := fr_slAt f (show (f.loc + f.h - 1 - n).toNat < 24 by omega)
  refine F210.pcall' rfl fun T hT => ?_
  simp -implicitDefEqProofs only [go_sem, c210, hT, bYdaV0]
  intro b1
  simp -implicitDefEqProofs only [go_sem, hT, bYdaV1]
  refine callB_pure (shaped123 f) ?_
  simp -implicitDefEqProofs only [go_sem, fr_zero, zFr_len, zFr_take, zFr_drop, hT, hs, eFr_len, fr_0, fr_1, gdD, g1, g2, w1, w2, w3, hx, Nat.mul_one]
  omega
theorem load84 (f : Fr) (hs : shapedB f = true) (a : Int) (h0 : 0 ≤ a) (h1 : a < f.loc) : PCall Tryz.prog 175 [.agg (eFr f), .int .i64 a] (.tup [.int .u8 (slAt f a.toNat).val, .int .i64 0]) := by
  obtain ⟨s1, s2, s3, s4⟩ := shaped_of hs
  have g1 : (decide (a < 0) || decide (f.loc ≤ a)) = false := by simp; omega
  have hx := fr_slAt f (show a.toNat < 24 by omega)
  refine F175.pcall' rfl fun T hT => ?_
  simp -implicitDefEqProofs only [go_sem, c175, hT, bYdaV0]
  intro b1
  simp -implicitDefEqProofs only [go_sem, hT, bYdaV1]
  refine callB_pure (shaped123 f) ?_
  simp -implicitDefEqProofs only [go_sem, mmB, fr_zero, zFr_len, zFr_take, zFr_drop, hT, hs, eFr_len, fr_0, fr_1, gdD, g1, hx, Nat.mul_one]
  omega
def popF (f : Fr) : Fr := bareF ⟨f.loc, f.h - 1, f.sl⟩
def topF (f : Fr) : Ty := slAt f (f.loc + f.h - 1).toNat
theorem fr_h (f : Fr) (n : Int) : List.take 1 (eFr f) ++ [D.int .i64 n] ++ List.drop 2 (eFr f) = eFr ⟨f.loc, n, f.sl⟩ := rfl
theorem pop_shape {f : Fr} (hs : shapedB f = true) (h0 : 0 < f.h) : shapedB ⟨f.loc, f.h - 1, f.sl⟩ = true := by
  have := shaped_of hs
  simp only [shapedB, decide_eq_true_eq]; omega
theorem pop129 (f : Fr) (hs : shapedB f = true) (h0 : 0 < f.h) : PCall Tryz.prog 212 [.agg (eFr f)] (.tup [.agg (eFr (popF f)), .int .u8 (topF f).val, .int .i64 0]) := by
  obtain ⟨s1, s2, s3, s4⟩ := shaped_of hs
  have w1 : IntKind.wrap .i64 (f.h - 1) = f.h - 1 := wrap_i64 (by omega) (by omega)
  have ht := top127 f hs 0 (by simpa using h0)
  rw [show f.loc + f.h - 1 - ((0 : Nat) : Int) = f.loc + f.h - 1 by omega] at ht
  refine F212.pcall' rfl fun T hT => ?_
  simp -implicitDefEqProofs only [go_sem, c212, hT, bYdaV0]
  intro b1 b2 n1 n2
  simp -implicitDefEqProofs only [go_sem, hT, n1, n2, bYdaV1]
  refine callB_pure ht ?_
  simp -implicitDefEqProofs only [go_sem, fr_zero, zFr_len, zFr_take, zFr_drop, hT, eFr_len, eFr_take, n1, n2, fr_1, w1, fr_h, set_set, gdD, eFr_drop, anD]
  refine callB_pure (bare124 _ (pop_shape hs h0)) ?_
  simp -implicitDefEqProofs only [go_sem, fr_zero, zFr_len, zFr_take, zFr_drop, hT, eFr_len, eFr_take, n1, n2, resM_cell, set_set]
  exact DLe.refl _
theorem refPop118 (f : Fr) (hs : shapedB f = true) (h0 : 0 < f.h) : PCall Tryz.prog 184 [.agg (eFr f)] (.tup [.agg (eFr (popF f)), .int .u8 (topF f).val, .int .i64 0]) := by
  obtain ⟨s1, s2, s3, s4⟩ := shaped_of hs
  have w1 : IntKind.wrap .i64 (f.h - 1) = f.h - 1 := wrap_i64 (by omega) (by omega)
  have w2 : IntKind.wrap .i64 (f.loc + f.h) = f.loc + f.h := wrap_i64 (by omega) (by omega)
  have w3 : IntKind.wrap .i64 (f.loc + f.h - 1) = f.loc + f.h - 1 := wrap_i64 (by omega) (by omega)
  have hx := fr_slAt f (show (f.loc + f.h - 1).toNat < 24 by omega)
  have g1 : (f.h = 0) = False := by simp; omega
  refine F184.pcall' rfl fun T hT => ?_
  simp -implicitDefEqProofs only [go_sem, c184, hT, bYdaV0]
  intro b1 b2 n1 n2
  simp -implicitDefEqProofs only [go_sem, hT, n1, n2, bYdaV1]
  refine callB_pure (refShape86 f) ?_
  simp -implicitDefEqProofs only [go_sem, fr_zero, zFr_len, zFr_take, zFr_drop, hT, hs, eFr_len, eFr_take, n1, n2, fr_0, fr_1, g1, w1, w2, w3, fr_h, set_set, gdD, hx, Nat.mul_one, eFr_drop, anD]
  refine ⟨by omega, ?_⟩
  refine callB_pure (refBare151 _ (pop_shape hs h0)) ?_
  simp -implicitDefEqProofs only [go_sem, fr_zero, zFr_len, zFr_take, zFr_drop, hT, eFr_len, eFr_take, n1, n2, resM_cell, set_set]
  exact DLe.refl _
theorem bare_shape {f : Fr} : shapedB (bareF f) = shapedB f := by simp only [shapedB, bare_loc, bare_h]
theorem bare_bare {f : Fr} : bareF (bareF f) = bareF f := by
  simp only [bareF, Fr.mk.injEq, true_and]
  apply Vector.ext
  intro j hj
  simp only [Vector.getElem_ofFn]
  split <;> rfl
def setF (f : Fr) (a : Int) (t : Ty) : Fr := ⟨f.loc, f.h, if h : a.toNat < 24 then f.sl.set a.toNat t h else f.sl⟩
theorem setF_loc {f : Fr} {a : Int} {t : Ty} : (setF f a t).loc = f.loc := by unfold setF; rfl
theorem setF_h {f : Fr} {a : Int} {t : Ty} : (setF f a t).h = f.h := by unfold setF; rfl
theorem fr_setF {f : Fr} {a : Int} (h0 : 0 ≤ a) (h : a < 24) {t : Ty} : (eFr f).take (2 + a.toNat) ++ [D.int .u8 (t.val : Int)] ++ (eFr f).drop (2 + a.toNat + 1) = eFr (setF f a t) := by
  rw [setF, dif_pos (show a.toNat < 24 by omega)]
  exact fr_set (by omega)
theorem store130 (f : Fr) (hs : shapedB f = true) (a : Int) (t : Ty) (h0 : 0 ≤ a) (h1 : a < f.loc) : PCall Tryz.prog 213 [.agg (eFr f), .int .i64 a, .int .u8 t.val] (.tup [.agg (eFr (setF (bareF f) a t)), .int .i64 0]) := by
  obtain ⟨s1, s2, s3, s4⟩ := shaped_of hs
  have hst := fr_setF (f := bareF f) (t := t) h0 (by omega)
  refine F213.pcall' rfl fun T hT => ?_
  simp -implicitDefEqProofs only [go_sem, c213, hT, bYdaV0]
  intro b1 b2 n1 n2
  simp -implicitDefEqProofs only [go_sem, hT, n1, n2, bYdaV1]
  refine callB_pure (load84 f hs a h0 h1) ?_
  simp -implicitDefEqProofs only [go_sem, hT, n1, n2, bYdaV1]
  refine callB_pure (bare124 f hs) ?_
  simp -implicitDefEqProofs only [go_sem, fr_zero, zFr_len, zFr_take, zFr_drop, hT, eFr_len, eFr_take, n1, n2, set_set, eFr_drop, anD, hst, Nat.mul_one, resM_cell, gdD]
  omega
def pushF (f : Fr) (t : Ty) : Fr × Nat := if f.loc + f.h = 24 then (fr0 0, 31) else (⟨f.loc, f.h + 1, (setF (bareF f) (f.loc + f.h) t).sl⟩, 0)
def bYdaV2 := aI @fr_zero (aI @zFr_len (aI @zFr_take (aI @zFr_drop (aI @eFr_len (aI @eFr_take (aI @fr_0 (aI @fr_1 (aI @resM_cell (aI @set_set @gdD)))))))))
theorem push131 (f : Fr) (hs : shapedB f = true) (t : Ty) : PCall Tryz.prog 214 [.agg (eFr f), .int .u8 t.val] (.tup [.agg (eFr (pushF f t).1), .int .i64 (pushF f t).2]) := by
  obtain ⟨s1, s2, s3, s4⟩ := shaped_of hs
  have w1 : IntKind.wrap .i64 (f.loc + f.h) = f.loc + f.h := wrap_i64 (by omega) (by omega)
  have w2 : IntKind.wrap .i64 (f.h + 1) = f.h + 1 := wrap_i64 (by omega) (by omega)
  refine F214.pcall' rfl fun T hT => ?_
  simp -implicitDefEqProofs only [go_sem, c214, hT, bYdaV0]
  intro b1 b2 n1 n2
  simp -implicitDefEqProofs only [go_sem, hT, n1, n2, bYdaV1]
  refine callB_pure (shaped123 f) ?_
  by_cases h24 : f.loc + f.h = 24
  · have h24' : (f.loc + f.h = 24) = True := by simp [h24]
    simp -implicitDefEqProofs only [go_sem, hT, hs, n1, n2, w1, h24', bYdaV2]
    rw [pushF, if_pos h24, fr_fr0]
    exact DLe.refl _
  simp -implicitDefEqProofs only [go_sem, hT, hs, n1, n2, w1, h24, bYdaV2]
  refine callB_pure (bare124 f hs) ?_
  have hst := fr_setF (f := bareF f) (a := f.loc + f.h) (t := t) (by omega) (by omega)
  simp -implicitDefEqProofs only [go_sem, fr_zero, zFr_len, zFr_take, zFr_drop, hT, eFr_len, eFr_take, n1, n2, set_set, eFr_drop, anD, fr_0, fr_1, bare_loc, bare_h, w1, hst, setF_loc, setF_h, w2, fr_h, Nat.mul_one, resM_cell, gdD]
  refine ⟨by omega, by omega, ?_⟩
  rw [pushF, if_neg h24]
  exact DLe.refl _
theorem refPush119 (f : Fr) (hs : shapedB f = true) (t : Ty) : PCall Tryz.prog 185 [.agg (eFr f), .int .u8 t.val] (.tup [.agg (eFr (pushF f t).1), .int .i64 (pushF f t).2]) := by
  obtain ⟨s1, s2, s3, s4⟩ := shaped_of hs
  have w1 : IntKind.wrap .i64 (f.loc + f.h) = f.loc + f.h := wrap_i64 (by omega) (by omega)
  have w2 : IntKind.wrap .i64 (f.h + 1) = f.h + 1 := wrap_i64 (by omega) (by omega)
  refine F185.pcall' rfl fun T hT => ?_
  simp -implicitDefEqProofs only [go_sem, c185, hT, bYdaV0]
  intro b1 b2 n1 n2
  simp -implicitDefEqProofs only [go_sem, hT, n1, n2, bYdaV1]
  refine callB_pure (refShape86 f) ?_
  by_cases h24 : f.loc + f.h = 24
  · have h24' : (f.loc + f.h = 24) = True := by simp [h24]
    simp -implicitDefEqProofs only [go_sem, hT, hs, n1, n2, w1, h24', bYdaV2]
    rw [pushF, if_pos h24, fr_fr0]
    exact DLe.refl _
  simp -implicitDefEqProofs only [go_sem, hT, hs, n1, n2, w1, h24, bYdaV2]
  refine callB_pure (refBare151 f hs) ?_
  have hst := fr_setF (f := bareF f) (a := f.loc + f.h) (t := t) (by omega) (by omega)
  simp -implicitDefEqProofs only [go_sem, fr_zero, zFr_len, zFr_take, zFr_drop, hT, eFr_len, eFr_take, n1, n2, set_set, eFr_drop, anD, fr_0, fr_1, bare_loc, bare_h, w1, hst, setF_loc, setF_h, w2, fr_h, Nat.mul_one, resM_cell, gdD]
  refine ⟨by omega, by omega, ?_⟩
  rw [pushF, if_neg h24]
  exact DLe.refl _
end Go.AL
