import Derived.Test.YtanhkkillmbkhaaCa
namespace Go.AL
open Go.Proofs
/- proviso/provisolaw07.StepParts -/
def c10_2 : AC :=
.seq (.reg true [5] [⟨⟨some 40, .load 57 (tT 4), none⟩, false, true⟩, ⟨⟨some 41, cF (.func 30) #[tT 40] #[57], none⟩, false, true⟩, ⟨⟨some 42, .load 71 (tT 5), none⟩, true, true⟩, ⟨⟨some 43, .move (tT 2), none⟩, true, true⟩, ⟨⟨some 44, .move (tT 3), none⟩, true, true⟩, ⟨⟨some 45, .buildSlice 139 2 #[(0, .tmp 43), (1, .tmp 44)], none⟩, true, true⟩, ⟨⟨some 46, cF (.func 43) #[tT 45] #[139], none⟩, false, true⟩, ⟨⟨some 47, cF (.func 42) #[tT 41, tT 42, tT 46] #[57, 71, 78], none⟩, false, true⟩, ⟨⟨some 39, .move (tT 47), none⟩, false, true⟩, ⟨⟨some 48, .extract (tT 39) 0, none⟩, false, true⟩, ⟨⟨some 49, .extract (tT 39) 1, none⟩, true, true⟩, ⟨⟨some 50, .extract (tT 39) 2, none⟩, true, true⟩, ⟨⟨some 9, .alloc 71, none⟩, true, false⟩, oN (.store 71 (tT 9) (tT 48)), oO 10 (.assign (tT 49)), oO 11 (.assign (tT 50))])
 (.seq (.reg true [5] [⟨⟨some 52, .load 57 (tT 4), none⟩, false, true⟩, ⟨⟨some 53, cF (.func 30) #[tT 52] #[57], none⟩, false, true⟩, ⟨⟨some 54, .load 71 (tT 5), none⟩, true, true⟩, ⟨⟨some 55, .move (tT 2), none⟩, true, true⟩, ⟨⟨some 56, cF (.func 44) #[tT 55] #[78], none⟩, false, true⟩, ⟨⟨some 57, cF (.func 42) #[tT 53, tT 54, tT 56] #[57, 71, 78], none⟩, false, true⟩, ⟨⟨some 51, .move (tT 57), none⟩, false, true⟩, ⟨⟨some 58, .extract (tT 51) 0, none⟩, false, true⟩, ⟨⟨some 59, .extract (tT 51) 1, none⟩, true, true⟩, ⟨⟨some 60, .extract (tT 51) 2, none⟩, true, true⟩, ⟨⟨some 12, .alloc 71, none⟩, true, false⟩, oN (.store 71 (tT 12) (tT 58)), oO 13 (.assign (tT 59)), oO 14 (.assign (tT 60))])
 (.seq (.seq (.reg false [] [oO 62 (.load 57 (tT 4)), oO 63 (.load 71 (tT 5)), oO 64 (.move (tT 2)), oO 65 (cF (.func 45) #[tT 62, tT 63, tT 64] #[57, 71, 78]), oO 61 (.move (tT 65)), oO 66 (.extract (tT 61) 0), oO 67 (.extract (tT 61) 1), oO 68 (.extract (tT 61) 2), oO 15 (.alloc 71), oN (.store 71 (tT 15) (tT 66)), oO 16 (.assign (tT 67)), oO 17 (.assign (tT 68))])
 (.seq (.reg false [] [oO 69 (.move (tT 17)), oO 70 (.move (tT 14)), oO 71 (.binOp .neq 45 (tT 69) (tT 70) 45)])
 (.cond (tT 71) (.seq (.reg false [] [oO 8 (.assign (.const (.bool false)))])
 (.ret))
 (.skip))))
 (.seq (.seq (.reg false [] [oO 72 (.move (tT 14)), oO 73 (.binOp .neq 45 (tT 72) (kI 0) 45)])
 (.cond (tT 73) (.seq (.reg false [] [oO 74 (.move (tT 11)), oO 75 (.move (tT 14)), oO 76 (.binOp .eql 45 (tT 74) (tT 75) 45), oO 77 (.move (tT 76)), oG 78 (.move (tT 10)) 77 true, oG 79 (.move (tT 13)) 77 true, oG 80 (.binOp .eql 3 (tT 78) (tT 79) 3) 77 true, oO 81 (.pick (tT 77) (tT 80) (.const (.bool false))), oO 82 (.move (tT 81)), oG 83 (.load 71 (tT 9)) 82 true, oG 84 (.load 71 (tT 12)) 82 true, oG 85 (.binOp .eql 71 (tT 83) (tT 84) 71) 82 true, oO 86 (.pick (tT 82) (tT 85) (.const (.bool false))), oO 8 (.assign (tT 86))])
 (.ret))
 (.skip)))
 (.seq (.reg true [12] [⟨⟨some 88, .load 57 (tT 4), none⟩, false, true⟩, ⟨⟨some 89, cF (.func 30) #[tT 88] #[57], none⟩, false, true⟩, ⟨⟨some 90, .load 71 (tT 12), none⟩, true, true⟩, ⟨⟨some 91, .move (tT 3), none⟩, true, true⟩, ⟨⟨some 92, cF (.func 44) #[tT 91] #[78], none⟩, false, true⟩, ⟨⟨some 93, cF (.func 42) #[tT 89, tT 90, tT 92] #[57, 71, 78], none⟩, false, true⟩, ⟨⟨some 87, .move (tT 93), none⟩, false, true⟩, ⟨⟨some 94, .extract (tT 87) 0, none⟩, false, true⟩, ⟨⟨some 95, .extract (tT 87) 1, none⟩, true, true⟩, ⟨⟨some 96, .extract (tT 87) 2, none⟩, true, true⟩, ⟨⟨some 18, .alloc 71, none⟩, true, false⟩, oN (.store 71 (tT 18) (tT 94)), oO 19 (.assign (tT 95)), oO 20 (.assign (tT 96))])
 (.seq (.seq (.reg false [] [oO 97 (.move (tT 20)), oO 98 (.binOp .neq 45 (tT 97) (kI 0) 45)])
 (.cond (tT 98) (.seq (.reg false [] [oO 99 (.move (tT 11)), oO 100 (.move (tT 20)), oO 101 (.binOp .eql 45 (tT 99) (tT 100) 45), oO 102 (.move (tT 101)), oG 103 (.move (tT 10)) 102 true, oG 104 (.move (tT 2)) 102 true, oG 105 (cB .len #[tT 104] #[78]) 102 true, oG 106 (.move (tT 19)) 102 true, oG 107 (.binOp .add 3 (tT 105) (tT 106) 3) 102 true, oG 108 (.binOp .eql 3 (tT 103) (tT 107) 3) 102 true, oO 109 (.pick (tT 102) (tT 108) (.const (.bool false))), oO 110 (.move (tT 109)), oG 111 (.load 71 (tT 9)) 110 true, oG 112 (.load 71 (tT 18)) 110 true, oG 113 (.binOp .eql 71 (tT 111) (tT 112) 71) 110 true, oO 114 (.pick (tT 110) (tT 113) (.const (.bool false))), oO 8 (.assign (tT 114))])
 (.ret))
 (.skip)))
 (.seq (.reg false [] [oO 115 (.move (tT 11)), oO 116 (.binOp .eql 45 (tT 115) (kI 0) 45), oO 117 (.move (tT 116)), oG 118 (.move (tT 10)) 117 true, oG 119 (.binOp .eql 3 (tT 118) (kI 0) 3) 117 true, oO 120 (.pick (tT 117) (tT 119) (.const (.bool false))), oO 121 (.move (tT 120)), oG 122 (.load 71 (tT 9)) 121 true, oG 123 (.load 71 (tT 18)) 121 true, oG 124 (.binOp .eql 71 (tT 122) (tT 123) 71) 121 true, oO 125 (.pick (tT 121) (tT 124) (.const (.bool false))), oO 8 (.assign (tT 125))])
 .ret))))))
def c10 : AC :=
.seq (.reg false [] [oO 4 (.box 57 (tT 0)), oO 5 (.box 71 (tT 1)), oO 8 (.assign (.const (.bool false)))])
 (.seq (.seq (.reg false [] [oO 21 (.move (tT 2)), oO 22 (cB .len #[tT 21] #[78]), oO 23 (.binOp .gtr 3 (tT 22) (kI 0) 3), oO 24 (.move (tT 23)), oG 25 (.move (tT 3)) 24 true, oG 26 (cB .len #[tT 25] #[78]) 24 true, oG 27 (.binOp .gtr 3 (tT 26) (kI 0) 3) 24 true, oO 28 (.pick (tT 24) (tT 27) (.const (.bool false))), oO 29 (.move (tT 28)), oG 30 (.move (tT 2)) 29 true, oG 31 (.move (tT 2)) 29 true, oG 32 (cB .len #[tT 31] #[78]) 29 true, oG 33 (.binOp .sub 3 (tT 32) (kI 1) 3) 29 true, oG 34 (.indexAddr 78 (tT 30) (tT 33)) 29 true, oG 35 (.fieldAddr 63 (tT 34) 1) 29 true, oG 36 (.load 5 (tT 35)) 29 true, oG 37 (cF (.func 41) #[tT 36] #[5]) 29 true, oO 38 (.pick (tT 29) (tT 37) (.const (.bool false)))])
 (.cond (tT 38) (.seq (.reg false [] [oO 8 (.assign (.const (.bool true)))])
 (.ret))
 (.skip)))
 c10_2)
theorem F10 : Fun1 Try.prog 10 126 c10 [.tmp 8] := Fun1.mk' AL.Try.follows_mixed Try.func10 rfl (by decide +kernel) Try.ntmps10 rfl (by kernel_rfl) rfl

/- proviso/provisoref04.Ends -/
def c41 : AC :=
.seq (.reg false [] [oO 2 (.assign (.const (.bool false)))])
 (.seq (.reg false [] [oO 3 (.move (tT 0)), oO 4 (.binOp .eql 5 (tT 3) (kB 19) 5), oO 5 (.move (tT 4)), oG 6 (.move (tT 0)) 5 false, oG 7 (.binOp .eql 5 (tT 6) (kB 22) 5) 5 false, oO 8 (.pick (tT 5) (.const (.bool true)) (tT 7)), oO 9 (.move (tT 8)), oG 10 (.move (tT 0)) 9 false, oG 11 (.binOp .eql 5 (tT 10) (kB 32) 5) 9 false, oO 12 (.pick (tT 9) (.const (.bool true)) (tT 11)), oO 2 (.assign (tT 12))])
 .ret)
theorem F41 : Fun1 Try.prog 41 13 c41 [.tmp 2] := Fun1.mk' AL.Try.follows_mixed Try.func41 rfl (by decide +kernel) Try.ntmps41 rfl (by kernel_rfl) rfl

/- proviso/step.Line -/
def c42 : AC :=
.seq (.reg false [] [oO 3 (.box 57 (tT 0)), oO 4 (.box 71 (tT 1)), oO 6 (.alloc 71), oO 7 (.assign (kI 0)), oO 8 (.assign (kI 0))])
 (.seq (.seq (.reg false [] [oO 14 (.load 57 (tT 3)), oO 15 (cF (.func 80) #[tT 14] #[57]), oO 16 (.unOp .not 4 (tT 15))])
 (.cond (tT 16) (.seq (.reg false [] [oO 17 (.build 71 #[]), oN (.store 71 (tT 6) (tT 17)), oO 7 (.assign (kI 0)), oO 8 (.assign (kI 1))])
 (.ret))
 (.skip)))
 (.seq (.reg false [] [oO 18 (.fieldAddr 57 (tT 3) 0), oO 19 (.load 52 (tT 18)), oO 20 (.load 71 (tT 4)), oO 21 (cF (.func 81) #[tT 19, tT 20] #[52, 71]), oO 9 (.assign (tT 21))])
 (.seq (.seq (.reg false [] [oO 22 (.move (tT 9)), oO 23 (.binOp .neq 45 (tT 22) (kI 0) 45)])
 (.cond (tT 23) (.seq (.reg false [] [oO 24 (.build 71 #[]), oO 25 (.move (tT 9)), oN (.store 71 (tT 6) (tT 24)), oO 7 (.assign (kI 0)), oO 8 (.assign (tT 25))])
 (.ret))
 (.skip)))
 (.seq (.seq (.reg false [] [oO 26 (.move (tT 2)), oO 27 (cB .len #[tT 26] #[78]), oO 28 (.move (kI 0))])
 (.block 0 (.loop (.seq (.reg false [] [oO 29 (.binOp .lss 3 (tT 28) (tT 27) 3)])
 (.seq (.cond (tT 29) (.skip)
 (.exit 0))
 (.seq (.block 1 (.seq (.reg false [] [oO 30 (.move (tT 28)), oO 31 (.indexAddr 78 (tT 26) (tT 28)), oO 32 (.load 63 (tT 31)), oO 11 (.alloc 63), oO 10 (.assign (tT 30)), oN (.store 63 (tT 11) (tT 32))])
 (.seq (.seq (.reg false [] [oO 33 (.move (tT 10)), oO 34 (.binOp .gtr 3 (tT 33) (kI 0) 3), oO 35 (.move (tT 34)), oG 36 (.move (tT 2)) 35 true, oG 37 (.move (tT 10)) 35 true, oG 38 (.binOp .sub 3 (tT 37) (kI 1) 3) 35 true, oG 39 (.indexAddr 78 (tT 36) (tT 38)) 35 true, oG 40 (.fieldAddr 63 (tT 39) 1) 35 true, oG 41 (.load 5 (tT 40)) 35 true, oG 42 (cF (.func 88) #[tT 41] #[5]) 35 true, oO 43 (.pick (tT 35) (tT 42) (.const (.bool false)))])
 (.cond (tT 43) (.seq (.reg false [] [oO 44 (.build 71 #[]), oO 45 (.move (tT 10)), oN (.store 71 (tT 6) (tT 44)), oO 7 (.assign (tT 45)), oO 8 (.assign (kI 51))])
 (.ret))
 (.skip)))
 (.seq (.reg false [] [oO 47 (.load 57 (tT 3)), oO 48 (.load 71 (tT 4)), oO 49 (.load 63 (tT 11)), oO 50 (cF (.func 39) #[tT 47, tT 48, tT 49] #[57, 71, 63]), oO 46 (.move (tT 50)), oO 51 (.extract (tT 46) 0), oO 52 (.extract (tT 46) 1), oO 12 (.alloc 71), oN (.store 71 (tT 12) (tT 51)), oO 13 (.assign (tT 52))])
 (.seq (.seq (.reg false [] [oO 53 (.move (tT 13)), oO 54 (.binOp .neq 45 (tT 53) (kI 0) 45)])
 (.cond (tT 54) (.seq (.reg false [] [oO 55 (.build 71 #[]), oO 56 (.move (tT 10)), oO 57 (.move (tT 13)), oN (.store 71 (tT 6) (tT 55)), oO 7 (.assign (tT 56)), oO 8 (.assign (tT 57))])
 (.ret))
 (.skip)))
 (.reg false [] [oO 58 (.load 71 (tT 12)), oN (.store 71 (tT 4) (tT 58))]))))))
 (.reg false [] [oO 59 (.binOp .add 3 (tT 28) (kI 1) 3), oO 28 (.move (tT 59))])))))))
 (.seq (.reg false [] [oO 60 (.load 71 (tT 4)), oN (.store 71 (tT 6) (tT 60)), oO 7 (.assign (kI 0)), oO 8 (.assign (kI 0))])
 .ret)))))
theorem F42 : Fun1 Try.prog 42 61 c42 [.cell 6 71, .tmp 7, .tmp 8] := Fun1.mk' AL.Try.follows_mixed Try.func42 rfl (by decide +kernel) Try.ntmps42 rfl (by kernel_rfl) rfl

/- slices.Concat[[]proviso/api.Instr,proviso/api.Instr] -/
def c43 : AC :=
.seq (.reg false [] [oO 2 (.assign (.const (.slice none 0 0)))])
 (.seq (.reg false [] [oO 3 (.assign (kI 0))])
 (.seq (.seq (.reg false [] [oO 9 (.move (tT 0)), oO 10 (cB .len #[tT 9] #[139]), oO 11 (.move (kI 0))])
 (.block 0 (.loop (.seq (.reg false [] [oO 12 (.binOp .lss 3 (tT 11) (tT 10) 3)])
 (.seq (.cond (tT 12) (.skip)
 (.exit 0))
 (.seq (.block 1 (.seq (.reg false [] [oO 13 (.indexAddr 139 (tT 9) (tT 11)), oO 14 (.load 78 (tT 13)), oO 5 (.assign (tT 14))])
 (.seq (.reg false [] [oO 15 (.move (tT 3)), oO 16 (.move (tT 5)), oO 17 (cB .len #[tT 16] #[78]), oO 18 (.binOp .add 3 (tT 15) (tT 17) 3), oO 3 (.assign (tT 18))])
 (.seq (.reg false [] [oO 19 (.move (tT 3)), oO 20 (.binOp .lss 3 (tT 19) (kI 0) 3)])
 (.cond (tT 20) (.reg false [] [oO 21 (.makeInterface 9 (.const (.string { data := #[108, 101, 110, 32, 111, 117, 116, 32, 111, 102, 32, 114, 97, 110, 103, 101] }))), oN (.panic (tT 21))])
 (.skip))))))
 (.reg false [] [oO 22 (.binOp .add 3 (tT 11) (kI 1) 3), oO 11 (.move (tT 22))])))))))
 (.seq (.reg false [] [oO 23 (.move (tT 3)), oO 24 (cF (.func 89) #[.const (.slice none 0 0), tT 23] #[78, 3]), oO 6 (.assign (tT 24))])
 (.seq (.seq (.reg false [] [oO 25 (.move (tT 0)), oO 26 (cB .len #[tT 25] #[139]), oO 27 (.move (kI 0))])
 (.block 2 (.loop (.seq (.reg false [] [oO 28 (.binOp .lss 3 (tT 27) (tT 26) 3)])
 (.seq (.cond (tT 28) (.skip)
 (.exit 2))
 (.seq (.block 3 (.seq (.reg false [] [oO 29 (.indexAddr 139 (tT 25) (tT 27)), oO 30 (.load 78 (tT 29)), oO 8 (.assign (tT 30))])
 (.reg false [] [oO 31 (.move (tT 6)), oO 32 (.move (tT 8)), oO 33 (cB .append #[tT 31, tT 32] #[78, 78]), oO 6 (.assign (tT 33))])))
 (.reg false [] [oO 34 (.binOp .add 3 (tT 27) (kI 1) 3), oO 27 (.move (tT 34))])))))))
 (.seq (.reg false [] [oO 35 (.move (tT 6)), oO 2 (.assign (tT 35))])
 .ret)))))
theorem F43 : Fun1 Try.prog 43 36 c43 [.tmp 2] := Fun1.mk' AL.Try.follows_mixed Try.func43 rfl (by decide +kernel) Try.ntmps43 rfl (by kernel_rfl) rfl

/- slices.Clone[[]proviso/api.Instr,proviso/api.Instr] -/
def c44 : AC :=
.seq (.reg false [] [oO 2 (.assign (.const (.slice none 0 0)))])
 (.seq (.seq (.reg false [] [oO 3 (.move (tT 0)), oO 4 (.binOp .eql 78 (tT 3) (.const (.slice none 0 0)) 78)])
 (.cond (tT 4) (.seq (.reg false [] [oO 2 (.assign (.const (.slice none 0 0)))])
 (.ret))
 (.skip)))
 (.seq (.reg false [] [oO 5 (.buildSlice 78 0 #[]), oO 6 (.move (tT 0)), oO 7 (cB .append #[tT 5, tT 6] #[78, 78]), oO 2 (.assign (tT 7))])
 .ret))
theorem F44 : Fun1 Try.prog 44 8 c44 [.tmp 2] := Fun1.mk' AL.Try.follows_mixed Try.func44 rfl (by decide +kernel) Try.ntmps44 rfl (by kernel_rfl) rfl

/- proviso/provisoref07.Line -/
def c45 : AC :=
.seq (.reg false [] [oO 3 (.box 57 (tT 0)), oO 4 (.box 71 (tT 1)), oO 6 (.alloc 71), oO 7 (.assign (kI 0)), oO 8 (.assign (kI 0))])
 (.seq (.seq (.reg false [] [oO 14 (.load 57 (tT 3)), oO 15 (cF (.func 73) #[tT 14] #[57]), oO 16 (.unOp .not 4 (tT 15))])
 (.cond (tT 16) (.seq (.reg false [] [oO 17 (.build 71 #[]), oN (.store 71 (tT 6) (tT 17)), oO 7 (.assign (kI 0)), oO 8 (.assign (kI 1))])
 (.ret))
 (.skip)))
 (.seq (.seq (.reg false [] [oO 18 (.fieldAddr 57 (tT 3) 0), oO 19 (.load 52 (tT 18)), oO 20 (.load 71 (tT 4)), oO 21 (cF (.func 40) #[tT 19, tT 20] #[52, 71]), oO 9 (.assign (tT 21))])
 (.seq (.reg false [] [oO 22 (.move (tT 9)), oO 23 (.binOp .neq 45 (tT 22) (kI 0) 45)])
 (.cond (tT 23) (.seq (.reg false [] [oO 24 (.build 71 #[]), oO 25 (.move (tT 9)), oN (.store 71 (tT 6) (tT 24)), oO 7 (.assign (kI 0)), oO 8 (.assign (tT 25))])
 (.ret))
 (.skip))))
 (.seq (.seq (.reg false [] [oO 26 (.move (tT 2)), oO 27 (cB .len #[tT 26] #[78]), oO 28 (.move (kI 0))])
 (.block 0 (.loop (.seq (.reg false [] [oO 29 (.binOp .lss 3 (tT 28) (tT 27) 3)])
 (.seq (.cond (tT 29) (.skip)
 (.exit 0))
 (.seq (.block 1 (.seq (.reg false [] [oO 30 (.move (tT 28)), oO 31 (.indexAddr 78 (tT 26) (tT 28)), oO 32 (.load 63 (tT 31)), oO 11 (.alloc 63), oO 10 (.assign (tT 30)), oN (.store 63 (tT 11) (tT 32))])
 (.seq (.seq (.reg false [] [oO 33 (.move (tT 10)), oO 34 (.binOp .gtr 3 (tT 33) (kI 0) 3), oO 35 (.move (tT 34)), oG 36 (.move (tT 2)) 35 true, oG 37 (.move (tT 10)) 35 true, oG 38 (.binOp .sub 3 (tT 37) (kI 1) 3) 35 true, oG 39 (.indexAddr 78 (tT 36) (tT 38)) 35 true, oG 40 (.fieldAddr 63 (tT 39) 1) 35 true, oG 41 (.load 5 (tT 40)) 35 true, oG 42 (cF (.func 41) #[tT 41] #[5]) 35 true, oO 43 (.pick (tT 35) (tT 42) (.const (.bool false)))])
 (.cond (tT 43) (.seq (.reg false [] [oO 44 (.build 71 #[]), oO 45 (.move (tT 10)), oN (.store 71 (tT 6) (tT 44)), oO 7 (.assign (tT 45)), oO 8 (.assign (kI 51))])
 (.ret))
 (.skip)))
 (.seq (.reg false [] [oO 47 (.load 57 (tT 3)), oO 48 (.load 71 (tT 4)), oO 49 (.load 63 (tT 11)), oO 50 (cF (.func 37) #[tT 47, tT 48, tT 49] #[57, 71, 63]), oO 46 (.move (tT 50)), oO 51 (.extract (tT 46) 0), oO 52 (.extract (tT 46) 1), oO 12 (.alloc 71), oN (.store 71 (tT 12) (tT 51)), oO 13 (.assign (tT 52))])
 (.seq (.seq (.reg false [] [oO 53 (.move (tT 13)), oO 54 (.binOp .neq 45 (tT 53) (kI 0) 45)])
 (.cond (tT 54) (.seq (.reg false [] [oO 55 (.build 71 #[]), oO 56 (.move (tT 10)), oO 57 (.move (tT 13)), oN (.store 71 (tT 6) (tT 55)), oO 7 (.assign (tT 56)), oO 8 (.assign (tT 57))])
 (.ret))
 (.skip)))
 (.reg false [] [oO 58 (.load 71 (tT 12)), oN (.store 71 (tT 4) (tT 58))]))))))
 (.reg false [] [oO 59 (.binOp .add 3 (tT 28) (kI 1) 3), oO 28 (.move (tT 59))])))))))
 (.seq (.reg false [] [oO 60 (.load 71 (tT 4)), oN (.store 71 (tT 6) (tT 60)), oO 7 (.assign (kI 0)), oO 8 (.assign (kI 0))])
 .ret))))
theorem F45 : Fun1 Try.prog 45 61 c45 [.cell 6 71, .tmp 7, .tmp 8] := Fun1.mk' AL.Try.follows_mixed Try.func45 rfl (by decide +kernel) Try.ntmps45 rfl (by kernel_rfl) rfl

/- slices.Grow[[]proviso/api.Instr,proviso/api.Instr] -/
/- proviso/code.Ends -/
def c88 : AC :=
.seq (.reg false [] [oO 2 (.assign (.const (.bool false)))])
 (.seq (.reg false [] [oO 3 (.move (tT 0)), oO 4 (.binOp .eql 5 (tT 3) (kB 19) 5), oO 5 (.move (tT 4)), oG 6 (.move (tT 0)) 5 false, oG 7 (.binOp .eql 5 (tT 6) (kB 22) 5) 5 false, oO 8 (.pick (tT 5) (.const (.bool true)) (tT 7)), oO 9 (.move (tT 8)), oG 10 (.move (tT 0)) 9 false, oG 11 (.binOp .eql 5 (tT 10) (kB 32) 5) 9 false, oO 12 (.pick (tT 9) (.const (.bool true)) (tT 11)), oO 2 (.assign (tT 12))])
 .ret)
theorem F88 : Fun1 Try.prog 88 13 c88 [.tmp 2] := Fun1.mk' AL.Try.follows_mixed Try.func88 rfl (by decide +kernel) Try.ntmps88 rfl (by kernel_rfl) rfl

end Go.AL
