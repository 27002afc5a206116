import Derived.Test.YtanhkkillmbkhaaLc
import Derived.Test.YtanhkkillmbkhaaProg
namespace Go.AL
open Go.Proofs
theorem Try.follows_mixed : Try.prog.follows .mixedOrders = true := by kernel_rfl
/- slices.Clone[[]int,int] -/
/- proviso/meaning.Admits -/
/- proviso/provisoref15.Admits -/
/- proviso/provisoplain.SameSig -/
/- slices.Equal[[]int,int] -/
/- proviso/provisoplain.Sig -/
def c11 : AC :=
.seq (.reg false [] [oO 1 (.box 25 (tT 0)), oO 2 (.alloc 25)])
 (.seq (.reg false [] [oO 3 (.fieldAddr 25 (tT 1) 0), oO 4 (.load 22 (tT 3)), oO 5 (cF (.func 46) #[tT 4] #[22]), oO 6 (.fieldAddr 25 (tT 1) 0), oN (.store 22 (tT 6) (tT 5))])
 (.seq (.reg false [] [oO 7 (.load 25 (tT 1)), oN (.store 25 (tT 2) (tT 7))])
 .ret))
theorem F11 : Fun1 Try.prog 11 8 c11 [.cell 2 25] := Fun1.mk' AL.Try.follows_mixed Try.func11 rfl (by decide +kernel) Try.ntmps11 rfl (by kernel_rfl) rfl

/- proviso/provisolaw15.MeaningAdmits -/
def c3 : AC :=
.seq (.reg false [] [oO 2 (.box 25 (tT 0)), oO 4 (.assign (.const (.bool false)))])
 (.seq (.reg false [] [oO 7 (.load 25 (tT 2)), oO 8 (cF (.func 11) #[tT 7] #[25]), oO 9 (.move (tT 1)), oO 10 (cF (.func 12) #[tT 9] #[26]), oO 5 (.alloc 25), oN (.store 25 (tT 5) (tT 8)), oO 6 (.assign (tT 10))])
 (.seq (.reg true [2] [⟨⟨some 11, .load 25 (tT 5), none⟩, false, true⟩, ⟨⟨some 12, .move (tT 6), none⟩, false, true⟩, ⟨⟨some 13, cF (.func 13) #[tT 11, tT 12] #[25, 26], none⟩, false, true⟩, ⟨⟨some 14, .load 25 (tT 2), none⟩, true, true⟩, ⟨⟨some 15, .move (tT 1), none⟩, true, false⟩, oO 16 (cF (.func 14) #[tT 14, tT 15] #[25, 26]), oO 17 (.binOp .eql 4 (tT 13) (tT 16) 4), oO 18 (.move (tT 17)), ⟨⟨some 19, .load 25 (tT 5), some (18, true)⟩, false, true⟩, oG 20 (.load 25 (tT 2)) 18 true, oG 21 (cF (.func 15) #[tT 19, tT 20] #[25, 25]) 18 true, oO 22 (.pick (tT 18) (tT 21) (.const (.bool false))), oO 23 (.move (tT 22)), ⟨⟨some 24, .move (tT 6), some (23, true)⟩, false, true⟩, oG 25 (.move (tT 1)) 23 true, oG 26 (cF (.func 16) #[tT 24, tT 25] #[26, 26]) 23 true, oO 27 (.pick (tT 23) (tT 26) (.const (.bool false))), oO 28 (.move (tT 27)), oG 29 (.build 25 #[]) 28 true, oG 30 (cF (.func 13) #[tT 29, .const (.slice none 0 0)] #[25, 26]) 28 true, oO 31 (.pick (tT 28) (tT 30) (.const (.bool false))), oO 4 (.assign (tT 31))])
 .ret))
/- slices.Clone[[]proviso/api.Type,proviso/api.Type] -/
def c46 : AC :=
.seq (.reg false [] [oO 2 (.assign (.const (.slice none 0 0)))])
 (.seq (.seq (.reg false [] [oO 3 (.move (tT 0)), oO 4 (.binOp .eql 22 (tT 3) (.const (.slice none 0 0)) 22)])
 (.cond (tT 4) (.seq (.reg false [] [oO 2 (.assign (.const (.slice none 0 0)))])
 (.ret))
 (.skip)))
 (.seq (.reg false [] [oO 5 (.buildSlice 22 0 #[]), oO 6 (.move (tT 0)), oO 7 (cB .append #[tT 5, tT 6] #[22, 22]), oO 2 (.assign (tT 7))])
 .ret))
theorem F46 : Fun1 Try.prog 46 8 c46 [.tmp 2] := Fun1.mk' AL.Try.follows_mixed Try.func46 rfl (by decide +kernel) Try.ntmps46 rfl (by kernel_rfl) rfl

/- slices.Equal[[]proviso/api.Type,proviso/api.Type] -/
end Go.AL
namespace Go.AL
open Go.Proofs
/- proviso/provisoplain.Env -/
def c30 : AC :=
.seq (.reg false [] [oO 1 (.box 57 (tT 0)), oO 2 (.alloc 57)])
 (.seq (.seq (.reg true [1] [⟨⟨some 6, .fieldAddr 57 (tT 1) 0, none⟩, false, true⟩, ⟨⟨some 7, .load 52 (tT 6), none⟩, false, true⟩, ⟨⟨some 8, cF (.func 63) #[tT 7] #[52], none⟩, false, true⟩, ⟨⟨some 9, .fieldAddr 57 (tT 1) 2, none⟩, true, true⟩, ⟨⟨some 10, .load 3 (tT 9), none⟩, true, true⟩, ⟨⟨some 11, .build 57 #[(0, .tmp 8), (2, .tmp 10)], none⟩, false, true⟩, ⟨⟨some 3, .alloc 57, none⟩, true, false⟩])
 (.reg false [] [oN (.store 57 (tT 3) (tT 11))]))
 (.seq (.seq (.reg false [] [oO 12 (.fieldAddr 57 (tT 1) 1), oO 13 (.load 49 (tT 12)), oO 14 (cB .len #[tT 13] #[49]), oO 15 (.move (kI 0))])
 (.block 0 (.loop (.seq (.reg false [] [oO 16 (.binOp .lss 3 (tT 15) (tT 14) 3)])
 (.seq (.cond (tT 16) (.skip)
 (.exit 0))
 (.seq (.block 1 (.seq (.reg false [] [oO 17 (.indexAddr 49 (tT 13) (tT 15)), oO 18 (.load 25 (tT 17)), oO 5 (.alloc 25), oN (.store 25 (tT 5) (tT 18))])
 (.seq (.reg true [3] [⟨⟨some 19, .fieldAddr 57 (tT 3) 1, none⟩, true, true⟩, ⟨⟨some 20, .load 49 (tT 19), none⟩, true, true⟩, oO 21 (.load 25 (tT 5)), oO 22 (cF (.func 11) #[tT 21] #[25]), oO 23 (.buildSlice 49 1 #[(0, .tmp 22)])])
 (.reg false [] [oO 24 (cB .append #[tT 20, tT 23] #[49, 49]), oO 25 (.fieldAddr 57 (tT 3) 1), oN (.store 49 (tT 25) (tT 24))]))))
 (.reg false [] [oO 26 (.binOp .add 3 (tT 15) (kI 1) 3), oO 15 (.move (tT 26))])))))))
 (.seq (.reg false [] [oO 27 (.load 57 (tT 3)), oN (.store 57 (tT 2) (tT 27))])
 .ret)))
theorem F30 : Fun1 Try.prog 30 28 c30 [.cell 2 57] := Fun1.mk' AL.Try.follows_mixed Try.func30 rfl (by decide +kernel) Try.ntmps30 rfl (by kernel_rfl) rfl

/- proviso/infer.May -/
/- proviso/provisoref08.May -/
/- proviso/provisoplain.SameEnv -/
/- proviso/provisoplain.Classes -/
def c63 : AC :=
.seq (.reg false [] [oO 2 (.assign (.const (.slice none 0 0)))])
 (.seq (.reg false [] [oO 3 (.assign (.const (.slice none 0 0)))])
 (.seq (.seq (.reg false [] [oO 6 (.move (tT 0)), oO 7 (cB .len #[tT 6] #[52]), oO 8 (.move (kI 0))])
 (.block 0 (.loop (.seq (.reg false [] [oO 9 (.binOp .lss 3 (tT 8) (tT 7) 3)])
 (.seq (.cond (tT 9) (.skip)
 (.exit 0))
 (.seq (.block 1 (.seq (.reg false [] [oO 10 (.indexAddr 52 (tT 6) (tT 8)), oO 11 (.load 107 (tT 10)), oO 5 (.alloc 107), oN (.store 107 (tT 5) (tT 11))])
 (.seq (.reg false [] [oO 12 (.fieldAddr 107 (tT 5) 2), oO 13 (.load 105 (tT 12)), oO 14 (cF (.func 98) #[tT 13] #[105]), oO 15 (.fieldAddr 107 (tT 5) 2), oN (.store 105 (tT 15) (tT 14))])
 (.reg false [] [oO 16 (.move (tT 3)), oO 17 (.load 107 (tT 5)), oO 18 (.buildSlice 52 1 #[(0, .tmp 17)]), oO 19 (cB .append #[tT 16, tT 18] #[52, 52]), oO 3 (.assign (tT 19))]))))
 (.reg false [] [oO 20 (.binOp .add 3 (tT 8) (kI 1) 3), oO 8 (.move (tT 20))])))))))
 (.seq (.reg false [] [oO 21 (.move (tT 3)), oO 2 (.assign (tT 21))])
 .ret)))
theorem F63 : Fun1 Try.prog 63 22 c63 [.tmp 2] := Fun1.mk' AL.Try.follows_mixed Try.func63 rfl (by decide +kernel) Try.ntmps63 rfl (by kernel_rfl) rfl

/- proviso/provisoplain.SameClasses -/
/- slices.Equal[[]proviso/api.Field,proviso/api.Field] -/
/- slices.Clone[[]proviso/api.Field,proviso/api.Field] -/
def c98 : AC :=
.seq (.reg false [] [oO 2 (.assign (.const (.slice none 0 0)))])
 (.seq (.seq (.reg false [] [oO 3 (.move (tT 0)), oO 4 (.binOp .eql 105 (tT 3) (.const (.slice none 0 0)) 105)])
 (.cond (tT 4) (.seq (.reg false [] [oO 2 (.assign (.const (.slice none 0 0)))])
 (.ret))
 (.skip)))
 (.seq (.reg false [] [oO 5 (.buildSlice 105 0 #[]), oO 6 (.move (tT 0)), oO 7 (cB .append #[tT 5, tT 6] #[105, 105]), oO 2 (.assign (tT 7))])
 .ret))
theorem F98 : Fun1 Try.prog 98 8 c98 [.tmp 2] := Fun1.mk' AL.Try.follows_mixed Try.func98 rfl (by decide +kernel) Try.ntmps98 rfl (by kernel_rfl) rfl

/- proviso/types.Check -/
def c64 : AC :=
.seq (.reg false [] [oO 2 (.assign (kI 0)), oO 3 (.assign (kI 0))])
 (.seq (.seq (.reg false [] [oO 7 (.move (tT 0)), oO 8 (cB .len #[tT 7] #[52]), oO 9 (.move (kI 0))])
 (.block 0 (.loop (.seq (.reg false [] [oO 10 (.binOp .lss 3 (tT 9) (tT 8) 3)])
 (.seq (.cond (tT 10) (.skip)
 (.exit 0))
 (.seq (.block 1 (.seq (.reg false [] [oO 11 (.move (tT 9)), oO 12 (.indexAddr 52 (tT 7) (tT 9)), oO 13 (.load 107 (tT 12)), oO 5 (.alloc 107), oO 4 (.assign (tT 11)), oN (.store 107 (tT 5) (tT 13))])
 (.seq (.reg false [] [oO 6 (.assign (kI 0))])
 (.seq (.block 2 (.seq (.reg false [] [oO 18 (.move (tT 4)), oO 19 (.binOp .geq 3 (tT 18) (kI 32) 3), oO 17 (.assign (tT 19))])
 (.cond (tT 17) (.reg false [] [oO 6 (.assign (kI 4))])
 (.seq (.reg true [5] [oO 21 (.fieldAddr 107 (tT 5) 0), oO 22 (.load 9 (tT 21)), oO 23 (cF (.func 99) #[tT 22] #[9]), oO 24 (.unOp .not 4 (tT 23)), oO 25 (.move (tT 24)), ⟨⟨some 26, cF (.func 101) #[] #[], some (25, false)⟩, false, true⟩, ⟨⟨some 27, .fieldAddr 107 (tT 5) 0, some (25, false)⟩, true, false⟩, ⟨⟨some 28, .load 9 (tT 27), some (25, false)⟩, true, false⟩, oG 29 (cF (.func 100) #[tT 26, tT 28] #[166, 9]) 25 false, oO 30 (.pick (tT 25) (.const (.bool true)) (tT 29)), oO 20 (.assign (tT 30))])
 (.cond (tT 20) (.reg false [] [oO 6 (.assign (kI 6))])
 (.seq (.reg false [] [oO 32 (.move (tT 0)), oO 33 (.move (tT 4)), oO 34 (.slice 52 (tT 32) none (some (tT 33)) none), oO 35 (.makeFunc (.func 103) #[] #[tT 5]), oO 36 (cF (.func 102) #[tT 34, tT 35] #[52, 169]), oO 31 (.assign (tT 36))])
 (.cond (tT 31) (.reg false [] [oO 6 (.assign (kI 20))])
 (.seq (.reg false [] [oO 38 (.fieldAddr 107 (tT 5) 1), oO 39 (.load 3 (tT 38)), oO 40 (.binOp .lss 3 (tT 39) (kI (-1)) 3), oO 41 (.move (tT 40)), oG 42 (.fieldAddr 107 (tT 5) 1) 41 false, oG 43 (.load 3 (tT 42)) 41 false, oG 44 (.move (tT 4)) 41 false, oG 45 (.binOp .geq 3 (tT 43) (tT 44) 3) 41 false, oO 46 (.pick (tT 41) (.const (.bool true)) (tT 45)), oO 37 (.assign (tT 46))])
 (.cond (tT 37) (.reg false [] [oO 6 (.assign (kI 21))])
 (.reg false [] [oO 14 (.move (tT 0)), oO 15 (.move (tT 4)), oO 16 (cF (.func 104) #[tT 14, tT 15] #[52, 3]), oO 6 (.assign (tT 16))]))))))))))
 (.seq (.reg false [] [oO 47 (.move (tT 6)), oO 48 (.binOp .neq 45 (tT 47) (kI 0) 45)])
 (.cond (tT 48) (.seq (.reg false [] [oO 49 (.move (tT 4)), oO 50 (.move (tT 6)), oO 2 (.assign (tT 49)), oO 3 (.assign (tT 50))])
 (.ret))
 (.skip)))))))
 (.reg false [] [oO 51 (.binOp .add 3 (tT 9) (kI 1) 3), oO 9 (.move (tT 51))])))))))
 (.seq (.reg false [] [oO 2 (.assign (kI 0)), oO 3 (.assign (kI 0))])
 .ret))
theorem F64 : Fun1 Try.prog 64 52 c64 [.tmp 2, .tmp 3] := Fun1.mk' AL.Try.follows_mixed Try.func64 rfl (by decide +kernel) Try.ntmps64 rfl (by kernel_rfl) rfl

/- proviso/types.Check$1 -/
def c103 : AC :=
.seq (.reg false [] [oO 2 (.box 107 (tT 0)), oO 3 (.assign (.const (.bool false)))])
 (.seq (.reg false [] [oO 4 (.fieldAddr 107 (tT 2) 0), oO 5 (.load 9 (tT 4)), oO 6 (.fieldAddr 107 (tT 1) 0), oO 7 (.load 9 (tT 6)), oO 8 (.binOp .eql 9 (tT 5) (tT 7) 9), oO 3 (.assign (tT 8))])
 .ret)
theorem F103 : Fun1 Try.prog 103 9 c103 [.tmp 3] := Fun1.mk' AL.Try.follows_mixed Try.func103 rfl (by decide +kernel) Try.ntmps103 rfl (by kernel_rfl) rfl

/- slices.ContainsFunc[[]proviso/api.Class,proviso/api.Class] -/
def c102 : AC :=
.seq (.reg false [] [oO 4 (.assign (.const (.bool false)))])
 (.seq (.reg false [] [oO 5 (.move (tT 0)), oO 6 (.move (tT 1)), oO 7 (cF (.func 143) #[tT 5, tT 6] #[52, 169]), oO 8 (.binOp .geq 3 (tT 7) (kI 0) 3), oO 4 (.assign (tT 8))])
 .ret)
theorem F102 : Fun1 Try.prog 102 9 c102 [.tmp 4] := Fun1.mk' AL.Try.follows_mixed Try.func102 rfl (by decide +kernel) Try.ntmps102 rfl (by kernel_rfl) rfl

/- slices.Contains[[]string,string] -/
def c100 : AC :=
.seq (.reg false [] [oO 4 (.assign (.const (.bool false)))])
 (.seq (.reg false [] [oO 5 (.move (tT 0)), oO 6 (.move (tT 1)), oO 7 (cF (.func 142) #[tT 5, tT 6] #[166, 9]), oO 8 (.binOp .geq 3 (tT 7) (kI 0) 3), oO 4 (.assign (tT 8))])
 .ret)
theorem F100 : Fun1 Try.prog 100 9 c100 [.tmp 4] := Fun1.mk' AL.Try.follows_mixed Try.func100 rfl (by decide +kernel) Try.ntmps100 rfl (by kernel_rfl) rfl

/- slices.Index[[]string,string] -/
def c142 : AC :=
.seq (.reg false [] [oO 4 (.assign (kI 0))])
 (.seq (.seq (.reg false [] [oO 6 (.move (tT 0)), oO 7 (cB .len #[tT 6] #[166]), oO 8 (.move (kI 0))])
 (.block 0 (.loop (.seq (.reg false [] [oO 9 (.binOp .lss 3 (tT 8) (tT 7) 3)])
 (.seq (.cond (tT 9) (.skip)
 (.exit 0))
 (.seq (.block 1 (.seq (.reg false [] [oO 10 (.move (tT 8)), oO 5 (.assign (tT 10))])
 (.seq (.reg false [] [oO 11 (.move (tT 1)), oO 12 (.move (tT 0)), oO 13 (.move (tT 5)), oO 14 (.indexAddr 166 (tT 12) (tT 13)), oO 15 (.load 9 (tT 14)), oO 16 (.binOp .eql 9 (tT 11) (tT 15) 9)])
 (.cond (tT 16) (.seq (.reg false [] [oO 17 (.move (tT 5)), oO 4 (.assign (tT 17))])
 (.ret))
 (.skip)))))
 (.reg false [] [oO 18 (.binOp .add 3 (tT 8) (kI 1) 3), oO 8 (.move (tT 18))])))))))
 (.seq (.reg false [] [oO 4 (.assign (kI (-1)))])
 .ret))
theorem F142 : Fun1 Try.prog 142 19 c142 [.tmp 4] := Fun1.mk' AL.Try.follows_mixed Try.func142 rfl (by decide +kernel) Try.ntmps142 rfl (by kernel_rfl) rfl

/- slices.IndexFunc[[]proviso/api.Class,proviso/api.Class] -/
def c143 : AC :=
.seq (.reg false [] [oO 4 (.assign (kI 0))])
 (.seq (.seq (.reg false [] [oO 6 (.move (tT 0)), oO 7 (cB .len #[tT 6] #[52]), oO 8 (.move (kI 0))])
 (.block 0 (.loop (.seq (.reg false [] [oO 9 (.binOp .lss 3 (tT 8) (tT 7) 3)])
 (.seq (.cond (tT 9) (.skip)
 (.exit 0))
 (.seq (.block 1 (.seq (.reg false [] [oO 10 (.move (tT 8)), oO 5 (.assign (tT 10))])
 (.seq (.reg false [] [oO 11 (.move (tT 1)), oO 12 (.move (tT 0)), oO 13 (.move (tT 5)), oO 14 (.indexAddr 52 (tT 12) (tT 13)), oO 15 (.load 107 (tT 14)), oO 16 (cF (tT 11) #[tT 15] #[107])])
 (.cond (tT 16) (.seq (.reg false [] [oO 17 (.move (tT 5)), oO 4 (.assign (tT 17))])
 (.ret))
 (.skip)))))
 (.reg false [] [oO 18 (.binOp .add 3 (tT 8) (kI 1) 3), oO 8 (.move (tT 18))])))))))
 (.seq (.reg false [] [oO 4 (.assign (kI (-1)))])
 .ret))
theorem F143 : Fun1 Try.prog 143 19 c143 [.tmp 4] := Fun1.mk' AL.Try.follows_mixed Try.func143 rfl (by decide +kernel) Try.ntmps143 rfl (by kernel_rfl) rfl

/- proviso/types.words -/
def c101 : AC :=
.seq (.reg false [] [oO 0 (.assign (.const (.slice none 0 0)))])
 (.seq (.reg false [] [oO 1 (.buildSlice 166 6 #[(0, .const (.string { data := #[116, 111, 112] })), (1, .const (.string { data := #[105, 110, 116] })), (2, .const (.string { data := #[98, 111, 111, 108] })), (3, .const (.string { data := #[110, 117, 108, 108] })), (4, .const (.string { data := #[105, 110, 116, 115] })), (5, .const (.string { data := #[97, 110, 121] }))]), oO 0 (.assign (tT 1))])
 .ret)
theorem F101 : Fun1 Try.prog 101 2 c101 [.tmp 0] := Fun1.mk' AL.Try.follows_mixed Try.func101 rfl (by decide +kernel) Try.ntmps101 rfl (by kernel_rfl) rfl

/- proviso/wire.IsName -/
def c99 : AC :=
.seq (.reg false [] [oO 2 (.assign (.const (.bool false)))])
 (.seq (.seq (.reg false [] [oO 5 (.move (tT 0)), oO 6 (cB .len #[tT 5] #[9]), oO 7 (.binOp .eql 3 (tT 6) (kI 0) 3), oO 8 (.move (tT 7)), oG 9 (.move (tT 0)) 8 false, oG 10 (cB .len #[tT 9] #[9]) 8 false, oG 11 (.binOp .gtr 3 (tT 10) (kI 24) 3) 8 false, oO 12 (.pick (tT 8) (.const (.bool true)) (tT 11))])
 (.cond (tT 12) (.seq (.reg false [] [oO 2 (.assign (.const (.bool false)))])
 (.ret))
 (.skip)))
 (.seq (.seq (.reg false [] [oO 13 (.move (tT 0)), oO 14 (cB .len #[tT 13] #[9]), oO 15 (.move (kI 0))])
 (.block 0 (.loop (.seq (.reg false [] [oO 16 (.binOp .lss 3 (tT 15) (tT 14) 3)])
 (.seq (.cond (tT 16) (.skip)
 (.exit 0))
 (.seq (.block 1 (.seq (.reg false [] [oO 17 (.move (tT 15)), oO 3 (.assign (tT 17))])
 (.seq (.reg false [] [oO 18 (.move (tT 0)), oO 19 (.move (tT 3)), oO 20 (.index 9 (tT 18) (tT 19)), oO 4 (.assign (tT 20))])
 (.block 2 (.seq (.seq (.reg false [] [oO 22 (.move (tT 4)), oO 23 (.binOp .geq 5 (tT 22) (kB 97) 5), oO 24 (.move (tT 23)), oG 25 (.move (tT 4)) 24 true, oG 26 (.binOp .leq 5 (tT 25) (kB 122) 5) 24 true, oO 27 (.pick (tT 24) (tT 26) (.const (.bool false))), oO 21 (.assign (tT 27))])
 (.cond (tT 21) (.skip)
 (.reg false [] [oO 28 (.move (tT 4)), oO 29 (.binOp .geq 5 (tT 28) (kB 65) 5), oO 30 (.move (tT 29)), oG 31 (.move (tT 4)) 30 true, oG 32 (.binOp .leq 5 (tT 31) (kB 90) 5) 30 true, oO 33 (.pick (tT 30) (tT 32) (.const (.bool false))), oO 21 (.assign (tT 33))])))
 (.cond (tT 21) (.skip)
 (.seq (.reg false [] [oO 35 (.move (tT 3)), oO 36 (.binOp .gtr 3 (tT 35) (kI 0) 3), oO 37 (.move (tT 36)), oG 38 (.move (tT 4)) 37 true, oG 39 (.binOp .geq 5 (tT 38) (kB 48) 5) 37 true, oG 40 (.move (tT 39)) 37 true, oG 41 (.move (tT 4)) 40 true, oG 42 (.binOp .leq 5 (tT 41) (kB 57) 5) 40 true, oG 43 (.pick (tT 40) (tT 42) (.const (.bool false))) 37 true, oG 44 (.move (tT 43)) 37 true, oG 45 (.move (tT 4)) 44 false, oG 46 (.binOp .eql 5 (tT 45) (kB 95) 5) 44 false, oG 47 (.pick (tT 44) (.const (.bool true)) (tT 46)) 37 true, oO 48 (.pick (tT 37) (tT 47) (.const (.bool false))), oO 34 (.assign (tT 48))])
 (.cond (tT 34) (.skip)
 (.seq (.reg false [] [oO 2 (.assign (.const (.bool false)))])
 (.ret))))))))))
 (.reg false [] [oO 49 (.binOp .add 3 (tT 15) (kI 1) 3), oO 15 (.move (tT 49))])))))))
 (.seq (.reg false [] [oO 2 (.assign (.const (.bool true)))])
 .ret)))
theorem F99 : Fun1 Try.prog 99 50 c99 [.tmp 2] := Fun1.mk' AL.Try.follows_mixed Try.func99 rfl (by decide +kernel) Try.ntmps99 rfl (by kernel_rfl) rfl

/- proviso/types.fields -/
def c104 : AC :=
.seq (.reg false [] [oO 2 (.box 52 (tT 0)), oO 4 (.assign (kI 0))])
 (.seq (.reg false [] [oO 5 (.alloc 166)])
 (.seq (.reg true [] [⟨⟨some 8, .load 52 (tT 2), none⟩, false, true⟩, ⟨⟨some 9, .load 52 (tT 2), none⟩, false, true⟩, ⟨⟨some 10, .move (tT 1), none⟩, false, true⟩, ⟨⟨some 11, .indexAddr 52 (tT 9) (tT 10), none⟩, false, true⟩, ⟨⟨some 12, .fieldAddr 107 (tT 11) 1, none⟩, false, true⟩, ⟨⟨some 13, .load 3 (tT 12), none⟩, false, true⟩, oO 14 (.makeFunc (.func 145) #[] #[tT 2, tT 5]), oO 15 (cF (.func 144) #[tT 8, tT 13, tT 14] #[52, 3, 195])])
 (.seq (.seq (.reg false [] [oO 16 (.load 52 (tT 2)), oO 17 (.move (tT 1)), oO 18 (.indexAddr 52 (tT 16) (tT 17)), oO 19 (.fieldAddr 107 (tT 18) 2), oO 20 (.load 105 (tT 19)), oO 21 (cB .len #[tT 20] #[105]), oO 22 (.move (kI 0))])
 (.block 0 (.loop (.seq (.reg false [] [oO 23 (.binOp .lss 3 (tT 22) (tT 21) 3)])
 (.seq (.cond (tT 23) (.skip)
 (.exit 0))
 (.seq (.block 1 (.seq (.reg false [] [oO 24 (.indexAddr 105 (tT 20) (tT 22)), oO 25 (.load 110 (tT 24)), oO 7 (.alloc 110), oN (.store 110 (tT 7) (tT 25))])
 (.seq (.block 2 (.seq (.reg false [] [oO 27 (.fieldAddr 110 (tT 7) 0), oO 28 (.load 9 (tT 27)), oO 29 (cF (.func 99) #[tT 28] #[9]), oO 30 (.unOp .not 4 (tT 29)), oO 26 (.assign (tT 30))])
 (.cond (tT 26) (.seq (.reg false [] [oO 4 (.assign (kI 6))])
 (.ret))
 (.seq (.reg false [] [oO 32 (.load 166 (tT 5)), oO 33 (.fieldAddr 110 (tT 7) 0), oO 34 (.load 9 (tT 33)), oO 35 (cF (.func 100) #[tT 32, tT 34] #[166, 9]), oO 31 (.assign (tT 35))])
 (.cond (tT 31) (.seq (.reg false [] [oO 4 (.assign (kI 20))])
 (.ret))
 (.seq (.reg false [] [oO 37 (.load 52 (tT 2)), oO 38 (.fieldAddr 110 (tT 7) 1), oO 39 (.load 23 (tT 38)), oO 40 (cF (.func 146) #[tT 37, tT 39] #[52, 23]), oO 41 (.unOp .not 4 (tT 40)), oO 36 (.assign (tT 41))])
 (.cond (tT 36) (.seq (.reg false [] [oO 4 (.assign (kI 22))])
 (.ret))
 (.skip))))))))
 (.reg false [] [oO 42 (.load 166 (tT 5)), oO 43 (.fieldAddr 110 (tT 7) 0), oO 44 (.load 9 (tT 43)), oO 45 (.buildSlice 166 1 #[(0, .tmp 44)]), oO 46 (cB .append #[tT 42, tT 45] #[166, 166]), oN (.store 166 (tT 5) (tT 46))]))))
 (.reg false [] [oO 47 (.binOp .add 3 (tT 22) (kI 1) 3), oO 22 (.move (tT 47))])))))))
 (.seq (.seq (.reg false [] [oO 48 (.load 166 (tT 5)), oO 49 (cB .len #[tT 48] #[166]), oO 50 (.binOp .gtr 3 (tT 49) (kI 32) 3)])
 (.cond (tT 50) (.seq (.reg false [] [oO 4 (.assign (kI 4))])
 (.ret))
 (.skip)))
 (.seq (.reg false [] [oO 4 (.assign (kI 0))])
 .ret)))))
theorem F104 : Fun1 Try.prog 104 51 c104 [.tmp 4] := Fun1.mk' AL.Try.follows_mixed Try.func104 rfl (by decide +kernel) Try.ntmps104 rfl (by kernel_rfl) rfl

/- proviso/types.fields$1 -/
def c145 : AC :=
.seq (.reg false [] [oO 4 (.assign (.const (.bool false)))])
 (.seq (.seq (.reg false [] [oO 7 (.load 52 (tT 1)), oO 8 (.move (tT 0)), oO 9 (.indexAddr 52 (tT 7) (tT 8)), oO 10 (.fieldAddr 107 (tT 9) 2), oO 11 (.load 105 (tT 10)), oO 12 (cB .len #[tT 11] #[105]), oO 13 (.move (kI 0))])
 (.block 0 (.loop (.seq (.reg false [] [oO 14 (.binOp .lss 3 (tT 13) (tT 12) 3)])
 (.seq (.cond (tT 14) (.skip)
 (.exit 0))
 (.seq (.block 1 (.seq (.reg false [] [oO 15 (.indexAddr 105 (tT 11) (tT 13)), oO 16 (.load 110 (tT 15)), oO 6 (.alloc 110), oN (.store 110 (tT 6) (tT 16))])
 (.reg false [] [oO 17 (.load 166 (tT 2)), oO 18 (.fieldAddr 110 (tT 6) 0), oO 19 (.load 9 (tT 18)), oO 20 (.buildSlice 166 1 #[(0, .tmp 19)]), oO 21 (cB .append #[tT 17, tT 20] #[166, 166]), oN (.store 166 (tT 2) (tT 21))])))
 (.reg false [] [oO 22 (.binOp .add 3 (tT 13) (kI 1) 3), oO 13 (.move (tT 22))])))))))
 (.seq (.reg false [] [oO 4 (.assign (.const (.bool true)))])
 .ret))
theorem F145 : Fun1 Try.prog 145 23 c145 [.tmp 4] := Fun1.mk' AL.Try.follows_mixed Try.func145 rfl (by decide +kernel) Try.ntmps145 rfl (by kernel_rfl) rfl

/- proviso/types.climb -/
def c144 : AC :=
.block 0 (.loop (.seq (.seq (.reg false [] [oO 7 (.move (tT 1)), oO 8 (.binOp .geq 3 (tT 7) (kI 0) 3), oO 9 (.move (tT 8)), oG 10 (.move (tT 1)) 9 true, oG 11 (.move (tT 0)) 9 true, oG 12 (cB .len #[tT 11] #[52]) 9 true, oG 13 (.binOp .lss 3 (tT 10) (tT 12) 3) 9 true, oO 14 (.pick (tT 9) (tT 13) (.const (.bool false))), oO 15 (.move (tT 14)), oG 16 (.move (tT 2)) 15 true, oG 17 (.move (tT 1)) 15 true, oG 18 (cF (tT 16) #[tT 17] #[3]) 15 true, oO 19 (.pick (tT 15) (tT 18) (.const (.bool false)))])
 (.cond (tT 19) (.skip)
 (.exit 0)))
 (.block 1 (.seq (.reg false [] [oO 20 (.move (tT 0)), oO 21 (.move (tT 1)), oO 22 (.indexAddr 52 (tT 20) (tT 21)), oO 23 (.fieldAddr 107 (tT 22) 1), oO 24 (.load 3 (tT 23)), oO 6 (.assign (tT 24))])
 (.seq (.seq (.reg false [] [oO 25 (.move (tT 6)), oO 26 (.move (tT 1)), oO 27 (.binOp .geq 3 (tT 25) (tT 26) 3)])
 (.cond (tT 27) (.ret)
 (.skip)))
 (.reg false [] [oO 28 (.move (tT 6)), oO 1 (.assign (tT 28))]))))))
theorem F144 : Fun1 Try.prog 144 29 c144 [] := Fun1.mk' AL.Try.follows_mixed Try.func144 rfl (by decide +kernel) Try.ntmps144 rfl (by kernel_rfl) rfl

/- proviso/types.stored -/
def c146 : AC :=
.seq (.reg false [] [oO 4 (.assign (.const (.bool false)))])
 (.seq (.reg false [] [oO 5 (.move (tT 1)), oO 6 (.binOp .eql 23 (tT 5) (kB 1) 23), oO 7 (.move (tT 6)), oG 8 (.move (tT 1)) 7 false, oG 9 (.binOp .eql 23 (tT 8) (kB 2) 23) 7 false, oO 10 (.pick (tT 7) (.const (.bool true)) (tT 9)), oO 11 (.move (tT 10)), oG 12 (.move (tT 1)) 11 false, oG 13 (.binOp .eql 23 (tT 12) (kB 4) 23) 11 false, oO 14 (.pick (tT 11) (.const (.bool true)) (tT 13)), oO 15 (.move (tT 14)), oG 16 (.move (tT 1)) 15 false, oG 17 (.binOp .eql 23 (tT 16) (kB 5) 23) 15 false, oO 18 (.pick (tT 15) (.const (.bool true)) (tT 17)), oO 19 (.move (tT 18)), oG 20 (.move (tT 0)) 19 false, oG 21 (.move (tT 1)) 19 false, oG 22 (cF (.func 147) #[tT 20, tT 21] #[52, 23]) 19 false, oG 23 (.binOp .geq 3 (tT 22) (kI 0) 3) 19 false, oO 24 (.pick (tT 19) (.const (.bool true)) (tT 23)), oO 4 (.assign (tT 24))])
 .ret)
theorem F146 : Fun1 Try.prog 146 25 c146 [.tmp 4] := Fun1.mk' AL.Try.follows_mixed Try.func146 rfl (by decide +kernel) Try.ntmps146 rfl (by kernel_rfl) rfl

/- proviso/types.class -/
def c147 : AC :=
.seq (.reg false [] [oO 4 (.assign (kI 0))])
 (.seq (.seq (.reg false [] [oO 5 (.move (tT 1)), oO 6 (.binOp .lss 23 (tT 5) (kB 16) 23), oO 7 (.move (tT 6)), oG 8 (.move (tT 1)) 7 false, oG 9 (.binOp .sub 23 (tT 8) (kB 16) 23) 7 false, oG 10 (.convert 23 3 (tT 9)) 7 false, oG 11 (.move (tT 0)) 7 false, oG 12 (cB .len #[tT 11] #[52]) 7 false, oG 13 (.binOp .geq 3 (tT 10) (tT 12) 3) 7 false, oO 14 (.pick (tT 7) (.const (.bool true)) (tT 13))])
 (.cond (tT 14) (.seq (.reg false [] [oO 4 (.assign (kI (-1)))])
 (.ret))
 (.skip)))
 (.seq (.reg false [] [oO 15 (.move (tT 1)), oO 16 (.binOp .sub 23 (tT 15) (kB 16) 23), oO 17 (.convert 23 3 (tT 16)), oO 4 (.assign (tT 17))])
 .ret))
theorem F147 : Fun1 Try.prog 147 18 c147 [.tmp 4] := Fun1.mk' AL.Try.follows_mixed Try.func147 rfl (by decide +kernel) Try.ntmps147 rfl (by kernel_rfl) rfl

/- proviso/infer.stored -/
/- proviso/infer.May$1 -/
/- slices.ContainsFunc[[]proviso/api.Type,proviso/api.Type] -/
/- slices.IndexFunc[[]proviso/api.Type,proviso/api.Type] -/
/- proviso/types.Valid -/
def c105 : AC :=
.seq (.reg false [] [oO 4 (.assign (.const (.bool false)))])
 (.seq (.reg false [] [oO 5 (.move (tT 1)), oO 6 (.binOp .leq 23 (tT 5) (kB 5) 23), oO 7 (.move (tT 6)), oG 8 (.move (tT 0)) 7 false, oG 9 (.move (tT 1)) 7 false, oG 10 (cF (.func 147) #[tT 8, tT 9] #[52, 23]) 7 false, oG 11 (.binOp .geq 3 (tT 10) (kI 0) 3) 7 false, oO 12 (.pick (tT 7) (.const (.bool true)) (tT 11)), oO 4 (.assign (tT 12))])
 .ret)
theorem F105 : Fun1 Try.prog 105 13 c105 [.tmp 4] := Fun1.mk' AL.Try.follows_mixed Try.func105 rfl (by decide +kernel) Try.ntmps105 rfl (by kernel_rfl) rfl

/- proviso/frames.Start -/
/- proviso/frames.Empty -/
/- proviso/provisoref02.Check -/
def c69 : AC :=
.seq (.reg false [] [oO 2 (.assign (kI 0)), oO 3 (.assign (kI 0))])
 (.seq (.seq (.reg false [] [oO 4 (.assign (kI 0))])
 (.block 0 (.loop (.seq (.seq (.reg false [] [oO 6 (.move (tT 4)), oO 7 (.move (tT 0)), oO 8 (cB .len #[tT 7] #[52]), oO 9 (.binOp .lss 3 (tT 6) (tT 8) 3)])
 (.cond (tT 9) (.skip)
 (.exit 0)))
 (.seq (.block 1 (.seq (.reg false [] [oO 12 (.move (tT 0)), oO 13 (.move (tT 4)), oO 14 (cF (.func 108) #[tT 12, tT 13] #[52, 3]), oO 5 (.assign (tT 14))])
 (.seq (.reg false [] [oO 15 (.move (tT 5)), oO 16 (.binOp .neq 45 (tT 15) (kI 0) 45)])
 (.cond (tT 16) (.seq (.reg false [] [oO 17 (.move (tT 4)), oO 18 (.move (tT 5)), oO 2 (.assign (tT 17)), oO 3 (.assign (tT 18))])
 (.ret))
 (.skip)))))
 (.reg false [] [oO 10 (.move (tT 4)), oO 11 (.binOp .add 3 (tT 10) (kI 1) 3), oO 4 (.assign (tT 11))]))))))
 (.seq (.reg false [] [oO 2 (.assign (kI 0)), oO 3 (.assign (kI 0))])
 .ret))
theorem F69 : Fun1 Try.prog 69 19 c69 [.tmp 2, .tmp 3] := Fun1.mk' AL.Try.follows_mixed Try.func69 rfl (by decide +kernel) Try.ntmps69 rfl (by kernel_rfl) rfl

/- proviso/provisoref02.fault -/
def c108 : AC :=
.seq (.reg false [] [oO 4 (.assign (kI 0))])
 (.seq (.reg false [] [oO 10 (.move (tT 0)), oO 11 (.move (tT 1)), oO 12 (.indexAddr 52 (tT 10) (tT 11)), oO 13 (.load 107 (tT 12)), oO 5 (.alloc 107), oN (.store 107 (tT 5) (tT 13))])
 (.seq (.seq (.reg false [] [oO 14 (.move (tT 1)), oO 15 (.binOp .geq 3 (tT 14) (kI 32) 3)])
 (.cond (tT 15) (.seq (.reg false [] [oO 4 (.assign (kI 4))])
 (.ret))
 (.skip)))
 (.seq (.seq (.reg false [] [oO 16 (.fieldAddr 107 (tT 5) 0), oO 17 (.load 9 (tT 16)), oO 18 (cF (.func 148) #[tT 17] #[9]), oO 19 (.unOp .not 4 (tT 18)), oO 20 (.move (tT 19)), oG 21 (.fieldAddr 107 (tT 5) 0) 20 false, oG 22 (.load 9 (tT 21)) 20 false, oG 23 (cF (.func 149) #[tT 22] #[9]) 20 false, oO 24 (.pick (tT 20) (.const (.bool true)) (tT 23))])
 (.cond (tT 24) (.seq (.reg false [] [oO 4 (.assign (kI 6))])
 (.ret))
 (.skip)))
 (.seq (.seq (.reg false [] [oO 6 (.assign (kI 0))])
 (.block 0 (.loop (.seq (.seq (.reg false [] [oO 25 (.move (tT 6)), oO 26 (.move (tT 1)), oO 27 (.binOp .lss 3 (tT 25) (tT 26) 3)])
 (.cond (tT 27) (.skip)
 (.exit 0)))
 (.seq (.block 1 (.seq (.reg true [] [⟨⟨some 30, .move (tT 0), none⟩, false, true⟩, ⟨⟨some 31, .move (tT 6), none⟩, false, true⟩, ⟨⟨some 32, .indexAddr 52 (tT 30) (tT 31), none⟩, false, true⟩, ⟨⟨some 33, .fieldAddr 107 (tT 32) 0, none⟩, false, true⟩, ⟨⟨some 34, .load 9 (tT 33), none⟩, false, true⟩, oO 35 (.fieldAddr 107 (tT 5) 0), oO 36 (.load 9 (tT 35)), oO 37 (.binOp .eql 9 (tT 34) (tT 36) 9)])
 (.cond (tT 37) (.seq (.reg false [] [oO 4 (.assign (kI 20))])
 (.ret))
 (.skip))))
 (.reg false [] [oO 28 (.move (tT 6)), oO 29 (.binOp .add 3 (tT 28) (kI 1) 3), oO 6 (.assign (tT 29))]))))))
 (.seq (.seq (.reg false [] [oO 38 (.fieldAddr 107 (tT 5) 1), oO 39 (.load 3 (tT 38)), oO 40 (.binOp .lss 3 (tT 39) (kI (-1)) 3), oO 41 (.move (tT 40)), oG 42 (.fieldAddr 107 (tT 5) 1) 41 false, oG 43 (.load 3 (tT 42)) 41 false, oG 44 (.move (tT 1)) 41 false, oG 45 (.binOp .geq 3 (tT 43) (tT 44) 3) 41 false, oO 46 (.pick (tT 41) (.const (.bool true)) (tT 45))])
 (.cond (tT 46) (.seq (.reg false [] [oO 4 (.assign (kI 21))])
 (.ret))
 (.skip)))
 (.seq (.reg false [] [oO 47 (.move (tT 0)), oO 48 (.fieldAddr 107 (tT 5) 1), oO 49 (.load 3 (tT 48)), oO 50 (cF (.func 114) #[tT 47, tT 49] #[52, 3]), oO 7 (.assign (tT 50))])
 (.seq (.seq (.reg false [] [oO 8 (.assign (kI 0))])
 (.block 2 (.loop (.seq (.seq (.reg false [] [oO 51 (.move (tT 8)), oO 52 (.fieldAddr 107 (tT 5) 2), oO 53 (.load 105 (tT 52)), oO 54 (cB .len #[tT 53] #[105]), oO 55 (.binOp .lss 3 (tT 51) (tT 54) 3)])
 (.cond (tT 55) (.skip)
 (.exit 2)))
 (.seq (.block 3 (.seq (.reg false [] [oO 58 (.fieldAddr 107 (tT 5) 2), oO 59 (.load 105 (tT 58)), oO 60 (.move (tT 8)), oO 61 (.indexAddr 105 (tT 59) (tT 60)), oO 62 (.load 110 (tT 61)), oO 9 (.alloc 110), oN (.store 110 (tT 9) (tT 62))])
 (.seq (.seq (.reg false [] [oO 63 (.fieldAddr 110 (tT 9) 0), oO 64 (.load 9 (tT 63)), oO 65 (cF (.func 148) #[tT 64] #[9]), oO 66 (.unOp .not 4 (tT 65))])
 (.cond (tT 66) (.seq (.reg false [] [oO 4 (.assign (kI 6))])
 (.ret))
 (.skip)))
 (.seq (.seq (.reg true [] [⟨⟨some 67, .move (tT 7), none⟩, false, true⟩, oO 68 (.fieldAddr 110 (tT 9) 0), oO 69 (.load 9 (tT 68)), oO 70 (cF (.func 150) #[tT 67, tT 69] #[105, 9]), oO 71 (.move (tT 70)), ⟨⟨some 72, .fieldAddr 107 (tT 5) 2, some (71, false)⟩, false, true⟩, ⟨⟨some 73, .load 105 (tT 72), some (71, false)⟩, false, true⟩, ⟨⟨some 74, .move (tT 8), some (71, false)⟩, false, true⟩, ⟨⟨some 75, .slice 105 (tT 73) none (some (tT 74)) none, some (71, false)⟩, false, true⟩, oG 76 (.fieldAddr 110 (tT 9) 0) 71 false, oG 77 (.load 9 (tT 76)) 71 false, oG 78 (cF (.func 150) #[tT 75, tT 77] #[105, 9]) 71 false, oO 79 (.pick (tT 71) (.const (.bool true)) (tT 78))])
 (.cond (tT 79) (.seq (.reg false [] [oO 4 (.assign (kI 20))])
 (.ret))
 (.skip)))
 (.seq (.reg false [] [oO 80 (.move (tT 0)), oO 81 (.fieldAddr 110 (tT 9) 1), oO 82 (.load 23 (tT 81)), oO 83 (cF (.func 109) #[tT 80, tT 82] #[52, 23]), oO 84 (.unOp .not 4 (tT 83))])
 (.cond (tT 84) (.seq (.reg false [] [oO 4 (.assign (kI 22))])
 (.ret))
 (.skip)))))))
 (.reg false [] [oO 56 (.move (tT 8)), oO 57 (.binOp .add 3 (tT 56) (kI 1) 3), oO 8 (.assign (tT 57))]))))))
 (.seq (.seq (.reg false [] [oO 85 (.fieldAddr 107 (tT 5) 2), oO 86 (.load 105 (tT 85)), oO 87 (cB .len #[tT 86] #[105]), oO 88 (.move (tT 7)), oO 89 (cB .len #[tT 88] #[105]), oO 90 (.binOp .sub 3 (kI 32) (tT 89) 3), oO 91 (.binOp .gtr 3 (tT 87) (tT 90) 3)])
 (.cond (tT 91) (.seq (.reg false [] [oO 4 (.assign (kI 4))])
 (.ret))
 (.skip)))
 (.seq (.reg false [] [oO 4 (.assign (kI 0))])
 .ret)))))))))
theorem F108 : Fun1 Try.prog 108 92 c108 [.tmp 4] := Fun1.mk' AL.Try.follows_mixed Try.func108 rfl (by decide +kernel) Try.ntmps108 rfl (by kernel_rfl) rfl

/- proviso/provisoref02.IsName -/
def c148 : AC :=
.seq (.reg false [] [oO 2 (.assign (.const (.bool false)))])
 (.seq (.seq (.reg false [] [oO 6 (.move (tT 0)), oO 7 (cB .len #[tT 6] #[9]), oO 8 (.binOp .lss 3 (tT 7) (kI 1) 3), oO 9 (.move (tT 8)), oG 10 (.move (tT 0)) 9 false, oG 11 (cB .len #[tT 10] #[9]) 9 false, oG 12 (.binOp .gtr 3 (tT 11) (kI 24) 3) 9 false, oO 13 (.pick (tT 9) (.const (.bool true)) (tT 12))])
 (.cond (tT 13) (.seq (.reg false [] [oO 2 (.assign (.const (.bool false)))])
 (.ret))
 (.skip)))
 (.seq (.seq (.reg false [] [oO 3 (.assign (kI 0))])
 (.block 0 (.loop (.seq (.seq (.reg false [] [oO 14 (.move (tT 3)), oO 15 (.move (tT 0)), oO 16 (cB .len #[tT 15] #[9]), oO 17 (.binOp .lss 3 (tT 14) (tT 16) 3)])
 (.cond (tT 17) (.skip)
 (.exit 0)))
 (.seq (.block 1 (.seq (.reg false [] [oO 20 (.move (tT 0)), oO 21 (.move (tT 3)), oO 22 (.index 9 (tT 20) (tT 21)), oO 4 (.assign (tT 22))])
 (.seq (.reg false [] [oO 23 (.move (tT 4)), oO 24 (.binOp .geq 5 (tT 23) (kB 97) 5), oO 25 (.move (tT 24)), oG 26 (.move (tT 4)) 25 true, oG 27 (.binOp .leq 5 (tT 26) (kB 122) 5) 25 true, oO 28 (.pick (tT 25) (tT 27) (.const (.bool false))), oO 29 (.move (tT 28)), oG 30 (.move (tT 4)) 29 false, oG 31 (.binOp .geq 5 (tT 30) (kB 65) 5) 29 false, oG 32 (.move (tT 31)) 29 false, oG 33 (.move (tT 4)) 32 true, oG 34 (.binOp .leq 5 (tT 33) (kB 90) 5) 32 true, oG 35 (.pick (tT 32) (tT 34) (.const (.bool false))) 29 false, oO 36 (.pick (tT 29) (.const (.bool true)) (tT 35)), oO 5 (.assign (tT 36))])
 (.seq (.reg false [] [oO 37 (.move (tT 5)), oO 38 (.unOp .not 4 (tT 37)), oO 39 (.move (tT 38)), oG 40 (.move (tT 3)) 39 true, oG 41 (.binOp .eql 3 (tT 40) (kI 0) 3) 39 true, oG 42 (.move (tT 41)) 39 true, oG 43 (.move (tT 4)) 42 false, oG 44 (.binOp .neq 5 (tT 43) (kB 95) 5) 42 false, oG 45 (.move (tT 44)) 42 false, oG 46 (.move (tT 4)) 45 true, oG 47 (.binOp .lss 5 (tT 46) (kB 48) 5) 45 true, oG 48 (.move (tT 47)) 45 true, oG 49 (.move (tT 4)) 48 false, oG 50 (.binOp .gtr 5 (tT 49) (kB 57) 5) 48 false, oG 51 (.pick (tT 48) (.const (.bool true)) (tT 50)) 45 true, oG 52 (.pick (tT 45) (tT 51) (.const (.bool false))) 42 false, oG 53 (.pick (tT 42) (.const (.bool true)) (tT 52)) 39 true, oO 54 (.pick (tT 39) (tT 53) (.const (.bool false)))])
 (.cond (tT 54) (.seq (.reg false [] [oO 2 (.assign (.const (.bool false)))])
 (.ret))
 (.skip))))))
 (.reg false [] [oO 18 (.move (tT 3)), oO 19 (.binOp .add 3 (tT 18) (kI 1) 3), oO 3 (.assign (tT 19))]))))))
 (.seq (.reg false [] [oO 2 (.assign (.const (.bool true)))])
 .ret)))
theorem F148 : Fun1 Try.prog 148 55 c148 [.tmp 2] := Fun1.mk' AL.Try.follows_mixed Try.func148 rfl (by decide +kernel) Try.ntmps148 rfl (by kernel_rfl) rfl

/- proviso/provisoref02.isWord -/
def c149 : AC :=
.seq (.reg false [] [oO 2 (.assign (.const (.bool false)))])
 (.seq (.seq (.reg false [] [oO 3 (.assign (kB 0))])
 (.block 0 (.loop (.seq (.seq (.reg false [] [oO 4 (.move (tT 3)), oO 5 (.binOp .leq 23 (tT 4) (kB 5) 23)])
 (.cond (tT 5) (.skip)
 (.exit 0)))
 (.seq (.block 1 (.seq (.reg false [] [oO 8 (.move (tT 3)), oO 9 (cF (.func 183) #[tT 8] #[23]), oO 10 (.move (tT 0)), oO 11 (.binOp .eql 9 (tT 9) (tT 10) 9)])
 (.cond (tT 11) (.seq (.reg false [] [oO 2 (.assign (.const (.bool true)))])
 (.ret))
 (.skip))))
 (.reg false [] [oO 6 (.move (tT 3)), oO 7 (.binOp .add 23 (tT 6) (kB 1) 23), oO 3 (.assign (tT 7))]))))))
 (.seq (.reg false [] [oO 2 (.assign (.const (.bool false)))])
 .ret))
theorem F149 : Fun1 Try.prog 149 12 c149 [.tmp 2] := Fun1.mk' AL.Try.follows_mixed Try.func149 rfl (by decide +kernel) Try.ntmps149 rfl (by kernel_rfl) rfl

/- proviso/provisoref02.word -/
def c183 : AC :=
.seq (.reg false [] [oO 2 (.assign (.const (.string { data := #[] })))])
 (.seq (.seq (.reg false [] [oO 3 (.move (tT 0))])
 (.block 0 (.seq (.reg false [] [oO 5 (.binOp .eql 23 (tT 3) (kB 0) 23), oO 4 (.assign (tT 5))])
 (.cond (tT 4) (.seq (.reg false [] [oO 2 (.assign (.const (.string { data := #[116, 111, 112] })))])
 (.ret))
 (.seq (.reg false [] [oO 7 (.binOp .eql 23 (tT 3) (kB 1) 23), oO 6 (.assign (tT 7))])
 (.cond (tT 6) (.seq (.reg false [] [oO 2 (.assign (.const (.string { data := #[105, 110, 116] })))])
 (.ret))
 (.seq (.reg false [] [oO 9 (.binOp .eql 23 (tT 3) (kB 2) 23), oO 8 (.assign (tT 9))])
 (.cond (tT 8) (.seq (.reg false [] [oO 2 (.assign (.const (.string { data := #[98, 111, 111, 108] })))])
 (.ret))
 (.seq (.reg false [] [oO 11 (.binOp .eql 23 (tT 3) (kB 3) 23), oO 10 (.assign (tT 11))])
 (.cond (tT 10) (.seq (.reg false [] [oO 2 (.assign (.const (.string { data := #[110, 117, 108, 108] })))])
 (.ret))
 (.seq (.reg false [] [oO 13 (.binOp .eql 23 (tT 3) (kB 4) 23), oO 12 (.assign (tT 13))])
 (.cond (tT 12) (.seq (.reg false [] [oO 2 (.assign (.const (.string { data := #[105, 110, 116, 115] })))])
 (.ret))
 (.seq (.reg false [] [oO 15 (.binOp .eql 23 (tT 3) (kB 5) 23), oO 14 (.assign (tT 15))])
 (.cond (tT 14) (.seq (.reg false [] [oO 2 (.assign (.const (.string { data := #[97, 110, 121] })))])
 (.ret))
 (.skip)))))))))))))))
 (.seq (.reg false [] [oO 2 (.assign (.const (.string { data := #[] })))])
 .ret))
theorem F183 : Fun1 Try.prog 183 16 c183 [.tmp 2] := Fun1.mk' AL.Try.follows_mixed Try.func183 rfl (by decide +kernel) Try.ntmps183 rfl (by kernel_rfl) rfl

/- proviso/provisoref02.has -/
def c150 : AC :=
.seq (.reg false [] [oO 4 (.assign (.const (.bool false)))])
 (.seq (.seq (.reg false [] [oO 5 (.assign (kI 0))])
 (.block 0 (.loop (.seq (.seq (.reg false [] [oO 6 (.move (tT 5)), oO 7 (.move (tT 0)), oO 8 (cB .len #[tT 7] #[105]), oO 9 (.binOp .lss 3 (tT 6) (tT 8) 3)])
 (.cond (tT 9) (.skip)
 (.exit 0)))
 (.seq (.block 1 (.seq (.reg false [] [oO 12 (.move (tT 0)), oO 13 (.move (tT 5)), oO 14 (.indexAddr 105 (tT 12) (tT 13)), oO 15 (.fieldAddr 110 (tT 14) 0), oO 16 (.load 9 (tT 15)), oO 17 (.move (tT 1)), oO 18 (.binOp .eql 9 (tT 16) (tT 17) 9)])
 (.cond (tT 18) (.seq (.reg false [] [oO 4 (.assign (.const (.bool true)))])
 (.ret))
 (.skip))))
 (.reg false [] [oO 10 (.move (tT 5)), oO 11 (.binOp .add 3 (tT 10) (kI 1) 3), oO 5 (.assign (tT 11))]))))))
 (.seq (.reg false [] [oO 4 (.assign (.const (.bool false)))])
 .ret))
theorem F150 : Fun1 Try.prog 150 19 c150 [.tmp 4] := Fun1.mk' AL.Try.follows_mixed Try.func150 rfl (by decide +kernel) Try.ntmps150 rfl (by kernel_rfl) rfl

/- proviso/provisoref02.Fields -/
def c114 : AC :=
.seq (.reg false [] [oO 4 (.assign (.const (.slice none 0 0)))])
 (.seq (.reg false [] [oO 8 (.move (tT 0)), oO 9 (.move (tT 1)), oO 10 (cF (.func 121) #[tT 8, tT 9] #[52, 3]), oO 5 (.assign (tT 10))])
 (.seq (.reg false [] [oO 6 (.assign (.const (.slice none 0 0)))])
 (.seq (.seq (.reg false [] [oO 11 (.move (tT 5)), oO 12 (cB .len #[tT 11] #[26]), oO 13 (.binOp .sub 3 (tT 12) (kI 1) 3), oO 7 (.assign (tT 13))])
 (.block 0 (.loop (.seq (.seq (.reg false [] [oO 14 (.move (tT 7)), oO 15 (.binOp .geq 3 (tT 14) (kI 0) 3)])
 (.cond (tT 15) (.skip)
 (.exit 0)))
 (.seq (.block 1 (.reg false [] [oO 18 (.move (tT 6)), oO 19 (.move (tT 0)), oO 20 (.move (tT 5)), oO 21 (.move (tT 7)), oO 22 (.indexAddr 26 (tT 20) (tT 21)), oO 23 (.load 3 (tT 22)), oO 24 (.indexAddr 52 (tT 19) (tT 23)), oO 25 (.fieldAddr 107 (tT 24) 2), oO 26 (.load 105 (tT 25)), oO 27 (cB .append #[tT 18, tT 26] #[105, 105]), oO 6 (.assign (tT 27))]))
 (.reg false [] [oO 16 (.move (tT 7)), oO 17 (.binOp .sub 3 (tT 16) (kI 1) 3), oO 7 (.assign (tT 17))]))))))
 (.seq (.reg false [] [oO 28 (.move (tT 6)), oO 4 (.assign (tT 28))])
 .ret))))
theorem F114 : Fun1 Try.prog 114 29 c114 [.tmp 4] := Fun1.mk' AL.Try.follows_mixed Try.func114 rfl (by decide +kernel) Try.ntmps114 rfl (by kernel_rfl) rfl

/- proviso/provisoref02.Line -/
def c121 : AC :=
.seq (.reg false [] [oO 4 (.assign (.const (.slice none 0 0)))])
 (.seq (.reg false [] [oO 5 (.assign (.const (.slice none 0 0)))])
 (.seq (.block 0 (.loop (.seq (.seq (.reg false [] [oO 6 (.move (tT 1)), oO 7 (.binOp .geq 3 (tT 6) (kI 0) 3), oO 8 (.move (tT 7)), oG 9 (.move (tT 1)) 8 true, oG 10 (.move (tT 0)) 8 true, oG 11 (cB .len #[tT 10] #[52]) 8 true, oG 12 (.binOp .lss 3 (tT 9) (tT 11) 3) 8 true, oO 13 (.pick (tT 8) (tT 12) (.const (.bool false))), oO 14 (.move (tT 13)), oG 15 (.move (tT 5)) 14 true, oG 16 (cB .len #[tT 15] #[26]) 14 true, oG 17 (.move (tT 0)) 14 true, oG 18 (cB .len #[tT 17] #[52]) 14 true, oG 19 (.binOp .leq 3 (tT 16) (tT 18) 3) 14 true, oO 20 (.pick (tT 14) (tT 19) (.const (.bool false)))])
 (.cond (tT 20) (.skip)
 (.exit 0)))
 (.block 1 (.seq (.reg false [] [oO 21 (.move (tT 5)), oO 22 (.move (tT 1)), oO 23 (.buildSlice 26 1 #[(0, .tmp 22)]), oO 24 (cB .append #[tT 21, tT 23] #[26, 26]), oO 5 (.assign (tT 24))])
 (.reg false [] [oO 25 (.move (tT 0)), oO 26 (.move (tT 1)), oO 27 (.indexAddr 52 (tT 25) (tT 26)), oO 28 (.fieldAddr 107 (tT 27) 1), oO 29 (.load 3 (tT 28)), oO 1 (.assign (tT 29))]))))))
 (.seq (.reg false [] [oO 30 (.move (tT 5)), oO 4 (.assign (tT 30))])
 .ret)))
theorem F121 : Fun1 Try.prog 121 31 c121 [.tmp 4] := Fun1.mk' AL.Try.follows_mixed Try.func121 rfl (by decide +kernel) Try.ntmps121 rfl (by kernel_rfl) rfl

/- proviso/provisoref02.Stored -/
def c109 : AC :=
.seq (.reg false [] [oO 4 (.assign (.const (.bool false)))])
 (.seq (.reg false [] [oO 5 (.move (tT 0)), oO 6 (.move (tT 1)), oO 7 (cF (.func 87) #[tT 5, tT 6] #[52, 23]), oO 8 (.move (tT 7)), oG 9 (.move (tT 1)) 8 true, oG 10 (.binOp .neq 23 (tT 9) (kB 0) 23) 8 true, oO 11 (.pick (tT 8) (tT 10) (.const (.bool false))), oO 12 (.move (tT 11)), oG 13 (.move (tT 1)) 12 true, oG 14 (.binOp .neq 23 (tT 13) (kB 3) 23) 12 true, oO 15 (.pick (tT 12) (tT 14) (.const (.bool false))), oO 4 (.assign (tT 15))])
 .ret)
theorem F109 : Fun1 Try.prog 109 16 c109 [.tmp 4] := Fun1.mk' AL.Try.follows_mixed Try.func109 rfl (by decide +kernel) Try.ntmps109 rfl (by kernel_rfl) rfl

/- proviso/provisoref02.Valid -/
def c87 : AC :=
.seq (.reg false [] [oO 4 (.assign (.const (.bool false)))])
 (.seq (.reg false [] [oO 5 (.move (tT 1)), oO 6 (.binOp .leq 23 (tT 5) (kB 5) 23), oO 7 (.move (tT 6)), oG 8 (.move (tT 1)) 7 false, oG 9 (.binOp .geq 23 (tT 8) (kB 16) 23) 7 false, oG 10 (.move (tT 9)) 7 false, oG 11 (.move (tT 1)) 10 true, oG 12 (.binOp .sub 23 (tT 11) (kB 16) 23) 10 true, oG 13 (.convert 23 3 (tT 12)) 10 true, oG 14 (.move (tT 0)) 10 true, oG 15 (cB .len #[tT 14] #[52]) 10 true, oG 16 (.binOp .lss 3 (tT 13) (tT 15) 3) 10 true, oG 17 (.pick (tT 10) (tT 16) (.const (.bool false))) 7 false, oO 18 (.pick (tT 7) (.const (.bool true)) (tT 17)), oO 4 (.assign (tT 18))])
 .ret)
theorem F87 : Fun1 Try.prog 87 19 c87 [.tmp 4] := Fun1.mk' AL.Try.follows_mixed Try.func87 rfl (by decide +kernel) Try.ntmps87 rfl (by kernel_rfl) rfl

/- proviso/provisoref02.SigMay -/
/- proviso/provisoref03.Start -/
/- proviso/provisoref03.Empty -/
/- proviso/provisoref03.stored -/
/- proviso/provisolaw08.InferMays -/
end Go.AL
namespace Go.AL
open Go.Proofs
/- proviso/step.counts -/
/- proviso/step.Takes -/
/- proviso/step.Gives -/
/- proviso/step.environment -/
def c80 : AC :=
.seq (.reg false [] [oO 1 (.box 57 (tT 0)), oO 2 (.assign (.const (.bool false)))])
 (.seq (.reg false [] [oO 11 (.fieldAddr 57 (tT 1) 0), oO 12 (.load 52 (tT 11)), oO 13 (cF (.func 64) #[tT 12] #[52]), oO 10 (.move (tT 13)), oO 14 (.extract (tT 10) 0), oO 15 (.extract (tT 10) 1), oO 3 (.assign (tT 14)), oO 4 (.assign (tT 15))])
 (.seq (.seq (.reg false [] [oO 16 (.move (tT 4)), oO 17 (.binOp .neq 45 (tT 16) (kI 0) 45), oO 18 (.move (tT 17)), oG 19 (.fieldAddr 57 (tT 1) 1) 18 false, oG 20 (.load 49 (tT 19)) 18 false, oG 21 (cB .len #[tT 20] #[49]) 18 false, oG 22 (.binOp .gtr 3 (tT 21) (kI 64) 3) 18 false, oO 23 (.pick (tT 18) (.const (.bool true)) (tT 22)), oO 24 (.move (tT 23)), oG 25 (.fieldAddr 57 (tT 1) 2) 24 false, oG 26 (.load 3 (tT 25)) 24 false, oG 27 (.binOp .lss 3 (tT 26) (kI 0) 3) 24 false, oO 28 (.pick (tT 24) (.const (.bool true)) (tT 27)), oO 29 (.move (tT 28)), oG 30 (.fieldAddr 57 (tT 1) 2) 29 false, oG 31 (.load 3 (tT 30)) 29 false, oG 32 (.fieldAddr 57 (tT 1) 1) 29 false, oG 33 (.load 49 (tT 32)) 29 false, oG 34 (cB .len #[tT 33] #[49]) 29 false, oG 35 (.binOp .geq 3 (tT 31) (tT 34) 3) 29 false, oO 36 (.pick (tT 29) (.const (.bool true)) (tT 35))])
 (.cond (tT 36) (.seq (.reg false [] [oO 2 (.assign (.const (.bool false)))])
 (.ret))
 (.skip)))
 (.seq (.reg false [] [oO 37 (.makeFunc (.func 122) #[] #[tT 1]), oO 5 (.assign (tT 37))])
 (.seq (.seq (.reg false [] [oO 38 (.fieldAddr 57 (tT 1) 1), oO 39 (.load 49 (tT 38)), oO 40 (cB .len #[tT 39] #[49]), oO 41 (.move (kI 0))])
 (.block 0 (.loop (.seq (.reg false [] [oO 42 (.binOp .lss 3 (tT 41) (tT 40) 3)])
 (.seq (.cond (tT 42) (.skip)
 (.exit 0))
 (.seq (.block 1 (.seq (.reg false [] [oO 43 (.indexAddr 49 (tT 39) (tT 41)), oO 44 (.load 25 (tT 43)), oO 7 (.alloc 25), oN (.store 25 (tT 7) (tT 44))])
 (.seq (.seq (.reg false [] [oO 45 (.fieldAddr 25 (tT 7) 0), oO 46 (.load 22 (tT 45)), oO 47 (cB .len #[tT 46] #[22]), oO 48 (.binOp .gtr 3 (tT 47) (kI 8) 3), oO 49 (.move (tT 48)), oG 50 (.fieldAddr 25 (tT 7) 1) 49 false, oG 51 (.load 23 (tT 50)) 49 false, oG 52 (.binOp .neq 23 (tT 51) (kB 0) 23) 49 false, oG 53 (.move (tT 52)) 49 false, oG 54 (.move (tT 5)) 53 true, oG 55 (.fieldAddr 25 (tT 7) 1) 53 true, oG 56 (.load 23 (tT 55)) 53 true, oG 57 (cF (tT 54) #[tT 56] #[23]) 53 true, oG 58 (.unOp .not 4 (tT 57)) 53 true, oG 59 (.pick (tT 53) (tT 58) (.const (.bool false))) 49 false, oO 60 (.pick (tT 49) (.const (.bool true)) (tT 59))])
 (.cond (tT 60) (.seq (.reg false [] [oO 2 (.assign (.const (.bool false)))])
 (.ret))
 (.skip)))
 (.seq (.reg false [] [oO 61 (.fieldAddr 25 (tT 7) 0), oO 62 (.load 22 (tT 61)), oO 63 (cB .len #[tT 62] #[22]), oO 64 (.move (kI 0))])
 (.block 2 (.loop (.seq (.reg false [] [oO 65 (.binOp .lss 3 (tT 64) (tT 63) 3)])
 (.seq (.cond (tT 65) (.skip)
 (.exit 2))
 (.seq (.block 3 (.seq (.reg false [] [oO 66 (.indexAddr 22 (tT 62) (tT 64)), oO 67 (.load 23 (tT 66)), oO 9 (.assign (tT 67))])
 (.seq (.reg false [] [oO 68 (.move (tT 5)), oO 69 (.move (tT 9)), oO 70 (cF (tT 68) #[tT 69] #[23]), oO 71 (.unOp .not 4 (tT 70))])
 (.cond (tT 71) (.seq (.reg false [] [oO 2 (.assign (.const (.bool false)))])
 (.ret))
 (.skip)))))
 (.reg false [] [oO 72 (.binOp .add 3 (tT 64) (kI 1) 3), oO 64 (.move (tT 72))]))))))))))
 (.reg false [] [oO 73 (.binOp .add 3 (tT 41) (kI 1) 3), oO 41 (.move (tT 73))])))))))
 (.seq (.reg false [] [oO 2 (.assign (.const (.bool true)))])
 .ret)))))
theorem F80 : Fun1 Try.prog 80 74 c80 [.tmp 2] := Fun1.mk' AL.Try.follows_mixed Try.func80 rfl (by decide +kernel) Try.ntmps80 rfl (by kernel_rfl) rfl

/- proviso/step.environment$1 -/
def c122 : AC :=
.seq (.reg false [] [oO 3 (.assign (.const (.bool false)))])
 (.seq (.reg false [] [oO 4 (.fieldAddr 57 (tT 1) 0), oO 5 (.load 52 (tT 4)), oO 6 (.move (tT 0)), oO 7 (cF (.func 105) #[tT 5, tT 6] #[52, 23]), oO 8 (.move (tT 7)), oG 9 (.move (tT 0)) 8 true, oG 10 (.binOp .neq 23 (tT 9) (kB 0) 23) 8 true, oO 11 (.pick (tT 8) (tT 10) (.const (.bool false))), oO 12 (.move (tT 11)), oG 13 (.move (tT 0)) 12 true, oG 14 (.binOp .neq 23 (tT 13) (kB 3) 23) 12 true, oO 15 (.pick (tT 12) (tT 14) (.const (.bool false))), oO 3 (.assign (tT 15))])
 .ret)
theorem F122 : Fun1 Try.prog 122 16 c122 [.tmp 3] := Fun1.mk' AL.Try.follows_mixed Try.func122 rfl (by decide +kernel) Try.ntmps122 rfl (by kernel_rfl) rfl

/- proviso/step.told -/
def c82 : AC :=
.seq (.reg false [] [oO 2 (.box 57 (tT 0)), oO 3 (.box 63 (tT 1)), oO 4 (.alloc 130), oO 5 (.assign (kI 0))])
 (.seq (.seq (.reg false [] [oO 6 (.fieldAddr 63 (tT 3) 1), oO 7 (.load 5 (tT 6)), oO 8 (cF (.func 125) #[tT 7] #[5]), oO 9 (.binOp .eql 3 (tT 8) (kI 0) 3)])
 (.cond (tT 9) (.seq (.reg false [] [oO 10 (.build 130 #[]), oN (.store 130 (tT 4) (tT 10)), oO 5 (.assign (kI 40))])
 (.ret))
 (.skip)))
 (.seq (.seq (.reg true [3, 2] [⟨⟨some 11, cF (.func 126) #[] #[], none⟩, false, true⟩, ⟨⟨some 12, .fieldAddr 63 (tT 3) 1, none⟩, true, true⟩, ⟨⟨some 13, .load 5 (tT 12), none⟩, true, true⟩, ⟨⟨some 14, .index 184 (tT 11) (tT 13), none⟩, false, true⟩, ⟨⟨some 15, .load 57 (tT 2), none⟩, true, true⟩, ⟨⟨some 16, .load 63 (tT 3), none⟩, true, false⟩])
 (.reg false [] [oO 17 (cF (tT 14) #[tT 15, tT 16] #[57, 63]), ⟨⟨some 18, .extract (tT 17) 0, none⟩, false, true⟩, oO 19 (.extract (tT 17) 1), oN (.store 130 (tT 4) (tT 18)), oO 5 (.assign (tT 19))]))
 .ret))
theorem F82 : Fun1 Try.prog 82 20 c82 [.cell 4 130, .tmp 5] := Fun1.mk' AL.Try.follows_mixed Try.func82 rfl (by decide +kernel) Try.ntmps82 rfl (by kernel_rfl) rfl

/- proviso/code.Size -/
def c125 : AC :=
.seq (.reg false [] [oO 2 (.assign (kI 0))])
 (.seq (.seq (.reg false [] [oO 5 (.move (tT 0)), oO 6 (.binOp .geq 5 (tT 5) (kB 34) 5)])
 (.cond (tT 6) (.seq (.reg false [] [oO 2 (.assign (kI 0))])
 (.ret))
 (.skip)))
 (.seq (.reg false [] [oO 8 (.move (tT 0)), oO 9 (cF (.func 152) #[tT 8] #[5]), oO 7 (.move (tT 9)), oO 10 (.extract (tT 7) 0), oO 11 (.extract (tT 7) 1), oO 3 (.assign (tT 10)), oO 4 (.assign (tT 11))])
 (.seq (.reg false [] [oO 12 (.move (tT 3)), oO 13 (.binOp .add 3 (kI 1) (tT 12) 3), oO 14 (.move (tT 4)), oO 15 (.binOp .add 3 (tT 13) (tT 14) 3), oO 2 (.assign (tT 15))])
 .ret)))
theorem F125 : Fun1 Try.prog 125 16 c125 [.tmp 2] := Fun1.mk' AL.Try.follows_mixed Try.func125 rfl (by decide +kernel) Try.ntmps125 rfl (by kernel_rfl) rfl

/- proviso/code.widths -/
def c152 : AC :=
.seq (.reg false [] [oO 2 (.assign (kI 0)), oO 3 (.assign (kI 0))])
 (.seq (.seq (.reg false [] [oO 4 (.move (tT 0))])
 (.block 0 (.seq (.block 5 (.block 4 (.seq (.block 3 (.seq (.block 2 (.seq (.block 1 (.seq (.seq (.seq (.reg false [] [oO 6 (.binOp .eql 5 (tT 4) (kB 1) 5), oO 5 (.assign (tT 6))])
 (.cond (tT 5) (.exit 1)
 (.skip)))
 (.seq (.seq (.seq (.reg false [] [oO 8 (.binOp .eql 5 (tT 4) (kB 19) 5), oO 7 (.assign (tT 8))])
 (.cond (tT 7) (.skip)
 (.reg false [] [oO 9 (.binOp .eql 5 (tT 4) (kB 20) 5), oO 7 (.assign (tT 9))])))
 (.cond (tT 7) (.exit 2)
 (.skip)))
 (.seq (.seq (.seq (.reg false [] [oO 11 (.binOp .eql 5 (tT 4) (kB 24) 5), oO 10 (.assign (tT 11))])
 (.cond (tT 10) (.skip)
 (.reg false [] [oO 12 (.binOp .eql 5 (tT 4) (kB 25) 5), oO 10 (.assign (tT 12))])))
 (.cond (tT 10) (.exit 3)
 (.skip)))
 (.seq (.seq (.seq (.reg false [] [oO 14 (.binOp .eql 5 (tT 4) (kB 2) 5), oO 13 (.assign (tT 14))])
 (.cond (tT 13) (.skip)
 (.seq (.reg false [] [oO 15 (.binOp .eql 5 (tT 4) (kB 4) 5), oO 13 (.assign (tT 15))])
 (.cond (tT 13) (.skip)
 (.reg false [] [oO 16 (.binOp .eql 5 (tT 4) (kB 5) 5), oO 13 (.assign (tT 16))])))))
 (.cond (tT 13) (.exit 4)
 (.skip)))
 (.seq (.seq (.reg false [] [oO 18 (.binOp .eql 5 (tT 4) (kB 21) 5), oO 17 (.assign (tT 18))])
 (.cond (tT 17) (.skip)
 (.seq (.reg false [] [oO 19 (.binOp .eql 5 (tT 4) (kB 23) 5), oO 17 (.assign (tT 19))])
 (.cond (tT 17) (.skip)
 (.seq (.reg false [] [oO 20 (.binOp .eql 5 (tT 4) (kB 30) 5), oO 17 (.assign (tT 20))])
 (.cond (tT 17) (.skip)
 (.seq (.reg false [] [oO 21 (.binOp .eql 5 (tT 4) (kB 31) 5), oO 17 (.assign (tT 21))])
 (.cond (tT 17) (.skip)
 (.reg false [] [oO 22 (.binOp .eql 5 (tT 4) (kB 32) 5), oO 17 (.assign (tT 22))])))))))))
 (.cond (tT 17) (.exit 5)
 (.skip)))))))
 (.exit 0)))
 (.seq (.seq (.reg false [] [oO 2 (.assign (kI 4)), oO 3 (.assign (kI 0))])
 (.ret))
 (.exit 0))))
 (.seq (.seq (.reg false [] [oO 2 (.assign (kI 2)), oO 3 (.assign (kI 0))])
 (.ret))
 (.exit 0))))
 (.seq (.seq (.reg false [] [oO 2 (.assign (kI 1)), oO 3 (.assign (kI 1))])
 (.ret))
 (.exit 0)))))
 (.seq (.seq (.reg false [] [oO 2 (.assign (kI 1)), oO 3 (.assign (kI 0))])
 (.ret))
 (.exit 0)))))
 (.seq (.reg false [] [oO 2 (.assign (kI 0)), oO 3 (.assign (kI 0))])
 .ret))
theorem F152 : Fun1 Try.prog 152 23 c152 [.tmp 2, .tmp 3] := Fun1.mk' AL.Try.follows_mixed Try.func152 rfl (by decide +kernel) Try.ntmps152 rfl (by kernel_rfl) rfl

/- proviso/step.table -/
def c126 : AC :=
.seq (.reg false [] [oO 0 (.alloc 184)])
 (.seq (.reg false [] [oO 11 (cF (.func 153) #[kB 1] #[23]), oO 12 (cF (.func 153) #[kB 2] #[23]), oO 13 (cF (.func 153) #[kB 4] #[23]), oO 1 (.alloc 188), oO 2 (.alloc 188), oO 3 (.alloc 188), oN (.store 188 (tT 1) (tT 11)), oN (.store 188 (tT 2) (tT 12)), oN (.store 188 (tT 3) (tT 13))])
 (.seq (.reg false [] [oO 14 (.load 188 (tT 1)), oO 15 (.load 188 (tT 1)), oO 16 (.buildSlice 128 2 #[(0, .tmp 14), (1, .tmp 15)]), oO 4 (.assign (tT 16))])
 (.seq (.reg false [] [oO 17 (cF (.func 154) #[.const (.slice none 0 0)] #[22]), oO 5 (.alloc 85), oN (.store 85 (tT 5) (tT 17))])
 (.seq (.reg false [] [oO 6 (.alloc 184)])
 (.seq (.seq (.reg false [] [oO 18 (.buildSlice 210 3 #[(0, kB 0), (1, kB 19), (2, kB 32)]), oO 19 (cB .len #[tT 18] #[210]), oO 20 (.move (kI 0))])
 (.block 0 (.loop (.seq (.reg false [] [oO 21 (.binOp .lss 3 (tT 20) (tT 19) 3)])
 (.seq (.cond (tT 21) (.skip)
 (.exit 0))
 (.seq (.block 1 (.seq (.reg false [] [oO 22 (.indexAddr 210 (tT 18) (tT 20)), oO 23 (.load 5 (tT 22)), oO 8 (.assign (tT 23))])
 (.reg false [] [oO 24 (.move (tT 8)), oO 25 (.load 85 (tT 5)), oO 26 (cF (.func 155) #[.const (.slice none 0 0), tT 25] #[128, 85]), oO 27 (.indexAddr 184 (tT 6) (tT 24)), oN (.store 183 (tT 27) (tT 26))])))
 (.reg false [] [oO 28 (.binOp .add 3 (tT 20) (kI 1) 3), oO 20 (.move (tT 28))])))))))
 (.seq (.reg false [] [oO 29 (.buildSlice 22 1 #[(0, kB 1)]), oO 30 (cF (.func 154) #[tT 29] #[22]), oO 31 (cF (.func 155) #[.const (.slice none 0 0), tT 30] #[128, 85]), oO 32 (.indexAddr 184 (tT 6) (kB 1)), oN (.store 183 (tT 32) (tT 31))])
 (.seq (.reg false [] [oO 33 (.buildSlice 22 1 #[(0, kB 2)]), oO 34 (cF (.func 154) #[tT 33] #[22]), oO 35 (cF (.func 155) #[.const (.slice none 0 0), tT 34] #[128, 85]), oO 36 (.indexAddr 184 (tT 6) (kB 2)), oN (.store 183 (tT 36) (tT 35))])
 (.seq (.reg false [] [oO 37 (.buildSlice 22 1 #[(0, kB 3)]), oO 38 (cF (.func 154) #[tT 37] #[22]), oO 39 (cF (.func 155) #[.const (.slice none 0 0), tT 38] #[128, 85]), oO 40 (.indexAddr 184 (tT 6) (kB 3)), oN (.store 183 (tT 40) (tT 39))])
 (.seq (.reg false [] [oO 41 (.buildSlice 22 1 #[(0, kB 0)]), oO 42 (cF (.func 154) #[tT 41] #[22]), oO 43 (cF (.func 155) #[.const (.slice none 0 0), tT 42] #[128, 85]), oO 44 (.indexAddr 184 (tT 6) (kB 4)), oN (.store 183 (tT 44) (tT 43))])
 (.seq (.reg false [] [oO 45 (.build 188 #[(0, kI 1)]), oO 46 (.buildSlice 128 1 #[(0, .tmp 45)]), oO 47 (.load 85 (tT 5)), oO 48 (cF (.func 155) #[tT 46, tT 47] #[128, 85]), oO 49 (.indexAddr 184 (tT 6) (kB 5)), oN (.store 183 (tT 49) (tT 48))])
 (.seq (.reg false [] [oO 50 (.build 188 #[(0, kI 0)]), oO 51 (.buildSlice 128 1 #[(0, .tmp 50)]), oO 52 (.load 85 (tT 5)), oO 53 (cF (.func 155) #[tT 51, tT 52] #[128, 85]), oO 54 (.indexAddr 184 (tT 6) (kB 6)), oN (.store 183 (tT 54) (tT 53))])
 (.seq (.reg false [] [oO 55 (.build 188 #[(0, kI 0)]), oO 56 (.buildSlice 128 1 #[(0, .tmp 55)]), oO 57 (cF (.func 155) #[tT 56, .func 156] #[128, 85]), oO 58 (.indexAddr 184 (tT 6) (kB 7)), oN (.store 183 (tT 58) (tT 57))])
 (.seq (.reg false [] [oO 59 (.build 188 #[(0, kI 0)]), oO 60 (.build 188 #[(0, kI 0)]), oO 61 (.buildSlice 128 2 #[(0, .tmp 59), (1, .tmp 60)]), oO 62 (cF (.func 155) #[tT 61, .func 157] #[128, 85]), oO 63 (.indexAddr 184 (tT 6) (kB 8)), oN (.store 183 (tT 63) (tT 62))])
 (.seq (.seq (.reg false [] [oO 64 (.buildSlice 210 5 #[(0, kB 9), (1, kB 10), (2, kB 11), (3, kB 12), (4, kB 13)]), oO 65 (cB .len #[tT 64] #[210]), oO 66 (.move (kI 0))])
 (.block 2 (.loop (.seq (.reg false [] [oO 67 (.binOp .lss 3 (tT 66) (tT 65) 3)])
 (.seq (.cond (tT 67) (.skip)
 (.exit 2))
 (.seq (.block 3 (.seq (.reg false [] [oO 68 (.indexAddr 210 (tT 64) (tT 66)), oO 69 (.load 5 (tT 68)), oO 10 (.assign (tT 69))])
 (.reg false [] [oO 70 (.move (tT 10)), oO 71 (.move (tT 4)), oO 72 (.buildSlice 22 1 #[(0, kB 1)]), oO 73 (cF (.func 154) #[tT 72] #[22]), oO 74 (cF (.func 155) #[tT 71, tT 73] #[128, 85]), oO 75 (.indexAddr 184 (tT 6) (tT 70)), oN (.store 183 (tT 75) (tT 74))])))
 (.reg false [] [oO 76 (.binOp .add 3 (tT 66) (kI 1) 3), oO 66 (.move (tT 76))])))))))
 (.seq (.seq (.reg true [1] [⟨⟨some 77, .load 188 (tT 1), none⟩, true, true⟩, ⟨⟨some 78, .buildSlice 128 1 #[(0, .tmp 77)], none⟩, true, true⟩, oO 79 (.buildSlice 22 1 #[(0, kB 1)]), oO 80 (cF (.func 154) #[tT 79] #[22])])
 (.reg false [] [oO 81 (cF (.func 155) #[tT 78, tT 80] #[128, 85]), oO 82 (.indexAddr 184 (tT 6) (kB 14)), oN (.store 183 (tT 82) (tT 81))]))
 (.seq (.reg false [] [oO 83 (.move (tT 4)), oO 84 (.buildSlice 22 1 #[(0, kB 2)]), oO 85 (cF (.func 154) #[tT 84] #[22]), oO 86 (cF (.func 155) #[tT 83, tT 85] #[128, 85]), oO 87 (.indexAddr 184 (tT 6) (kB 15)), oN (.store 183 (tT 87) (tT 86))])
 (.seq (.reg false [] [oO 88 (.build 188 #[(0, kI 3)]), oO 89 (.build 188 #[(0, kI 3)]), oO 90 (.buildSlice 128 2 #[(0, .tmp 88), (1, .tmp 89)]), oO 91 (.buildSlice 22 1 #[(0, kB 2)]), oO 92 (cF (.func 154) #[tT 91] #[22]), oO 93 (cF (.func 155) #[tT 90, tT 92] #[128, 85]), oO 94 (.indexAddr 184 (tT 6) (kB 16)), oN (.store 183 (tT 94) (tT 93))])
 (.seq (.seq (.reg true [2] [⟨⟨some 95, .load 188 (tT 2), none⟩, true, true⟩, ⟨⟨some 96, .buildSlice 128 1 #[(0, .tmp 95)], none⟩, true, true⟩, oO 97 (.buildSlice 22 1 #[(0, kB 2)]), oO 98 (cF (.func 154) #[tT 97] #[22])])
 (.reg false [] [oO 99 (cF (.func 155) #[tT 96, tT 98] #[128, 85]), oO 100 (.indexAddr 184 (tT 6) (kB 17)), oN (.store 183 (tT 100) (tT 99))]))
 (.seq (.reg false [] [oO 101 (.build 188 #[(0, kI 2)]), oO 102 (.build 188 #[(0, kI 2)]), oO 103 (.buildSlice 128 2 #[(0, .tmp 101), (1, .tmp 102)]), oO 104 (.buildSlice 22 1 #[(0, kB 2)]), oO 105 (cF (.func 154) #[tT 104] #[22]), oO 106 (cF (.func 155) #[tT 103, tT 105] #[128, 85]), oO 107 (.indexAddr 184 (tT 6) (kB 18)), oN (.store 183 (tT 107) (tT 106))])
 (.seq (.reg false [] [oO 108 (.load 188 (tT 2)), oO 109 (.buildSlice 128 1 #[(0, .tmp 108)]), oO 110 (.load 85 (tT 5)), oO 111 (cF (.func 155) #[tT 109, tT 110] #[128, 85]), oO 112 (.indexAddr 184 (tT 6) (kB 20)), oN (.store 183 (tT 112) (tT 111))])
 (.seq (.reg false [] [oO 113 (.indexAddr 184 (tT 6) (kB 21)), oN (.store 183 (tT 113) (.func 158))])
 (.seq (.reg false [] [oO 114 (.makeFunc (.func 159) #[] #[tT 5]), oO 115 (.indexAddr 184 (tT 6) (kB 22)), oN (.store 183 (tT 115) (tT 114))])
 (.seq (.reg false [] [oO 116 (cF (.func 161) #[.const (.slice none 0 0), .const (.bool true)] #[128, 4]), oO 117 (.indexAddr 184 (tT 6) (kB 23)), oN (.store 183 (tT 117) (tT 116))])
 (.seq (.reg false [] [oO 118 (cF (.func 162) #[.const (.bool false)] #[4]), oO 119 (.indexAddr 184 (tT 6) (kB 24)), oN (.store 183 (tT 119) (tT 118))])
 (.seq (.reg false [] [oO 120 (cF (.func 162) #[.const (.bool true)] #[4]), oO 121 (.indexAddr 184 (tT 6) (kB 25)), oN (.store 183 (tT 121) (tT 120))])
 (.seq (.seq (.reg true [1] [⟨⟨some 122, .load 188 (tT 1), none⟩, true, true⟩, ⟨⟨some 123, .buildSlice 128 1 #[(0, .tmp 122)], none⟩, true, true⟩, oO 124 (.buildSlice 22 1 #[(0, kB 4)]), oO 125 (cF (.func 154) #[tT 124] #[22])])
 (.reg false [] [oO 126 (cF (.func 155) #[tT 123, tT 125] #[128, 85]), oO 127 (.indexAddr 184 (tT 6) (kB 26)), oN (.store 183 (tT 127) (tT 126))]))
 (.seq (.seq (.reg true [3] [⟨⟨some 128, .load 188 (tT 3), none⟩, true, true⟩, ⟨⟨some 129, .buildSlice 128 1 #[(0, .tmp 128)], none⟩, true, true⟩, oO 130 (.buildSlice 22 1 #[(0, kB 1)]), oO 131 (cF (.func 154) #[tT 130] #[22])])
 (.reg false [] [oO 132 (cF (.func 155) #[tT 129, tT 131] #[128, 85]), oO 133 (.indexAddr 184 (tT 6) (kB 27)), oN (.store 183 (tT 133) (tT 132))]))
 (.seq (.seq (.reg true [3, 1] [⟨⟨some 134, .load 188 (tT 3), none⟩, true, true⟩, ⟨⟨some 135, .load 188 (tT 1), none⟩, true, true⟩, ⟨⟨some 136, .buildSlice 128 2 #[(0, .tmp 134), (1, .tmp 135)], none⟩, true, true⟩, oO 137 (.buildSlice 22 1 #[(0, kB 1)]), oO 138 (cF (.func 154) #[tT 137] #[22])])
 (.reg false [] [oO 139 (cF (.func 155) #[tT 136, tT 138] #[128, 85]), oO 140 (.indexAddr 184 (tT 6) (kB 28)), oN (.store 183 (tT 140) (tT 139))]))
 (.seq (.reg false [] [oO 141 (.load 188 (tT 3)), oO 142 (.load 188 (tT 1)), oO 143 (.load 188 (tT 1)), oO 144 (.buildSlice 128 3 #[(0, .tmp 141), (1, .tmp 142), (2, .tmp 143)]), oO 145 (.load 85 (tT 5)), oO 146 (cF (.func 155) #[tT 144, tT 145] #[128, 85]), oO 147 (.indexAddr 184 (tT 6) (kB 29)), oN (.store 183 (tT 147) (tT 146))])
 (.seq (.reg false [] [oO 148 (.build 188 #[(0, kI 2)]), oO 149 (.buildSlice 128 1 #[(0, .tmp 148)]), oO 150 (cF (.func 161) #[tT 149, .const (.bool true)] #[128, 4]), oO 151 (.indexAddr 184 (tT 6) (kB 30)), oN (.store 183 (tT 151) (tT 150))])
 (.seq (.reg false [] [oO 152 (.build 188 #[(0, kI 2)]), oO 153 (.buildSlice 128 1 #[(0, .tmp 152)]), oO 154 (cF (.func 161) #[tT 153, .const (.bool false)] #[128, 4]), oO 155 (.indexAddr 184 (tT 6) (kB 31)), oN (.store 183 (tT 155) (tT 154))])
 (.seq (.reg false [] [oO 156 (.load 188 (tT 1)), oO 157 (.buildSlice 128 1 #[(0, .tmp 156)]), oO 158 (.load 85 (tT 5)), oO 159 (cF (.func 155) #[tT 157, tT 158] #[128, 85]), oO 160 (.indexAddr 184 (tT 6) (kB 33)), oN (.store 183 (tT 160) (tT 159))])
 (.seq (.reg false [] [oO 161 (.load 184 (tT 6)), oN (.store 184 (tT 0) (tT 161))])
 .ret)))))))))))))))))))))))))))))))))
theorem F126 : Fun1 Try.prog 126 162 c126 [.cell 0 184] := Fun1.mk' AL.Try.follows_mixed Try.func126 rfl (by decide +kernel) Try.ntmps126 rfl (by kernel_rfl) rfl

/- proviso/step.of -/
def c153 : AC :=
.seq (.reg false [] [oO 2 (.alloc 188)])
 (.seq (.reg false [] [oO 3 (.move (tT 0)), oO 4 (.build 188 #[(0, kI 4), (1, .tmp 3)]), oN (.store 188 (tT 2) (tT 4))])
 .ret)
theorem F153 : Fun1 Try.prog 153 5 c153 [.cell 2 188] := Fun1.mk' AL.Try.follows_mixed Try.func153 rfl (by decide +kernel) Try.ntmps153 rfl (by kernel_rfl) rfl

/- proviso/step.giving -/
def c154 : AC :=
.seq (.reg false [] [oO 1 (.box 22 (tT 0)), oO 2 (.assign (.const .nilFunc))])
 (.seq (.reg false [] [oO 3 (.makeFunc (.func 184) #[] #[tT 1]), oO 2 (.assign (tT 3))])
 .ret)
theorem F154 : Fun1 Try.prog 154 4 c154 [.tmp 2] := Fun1.mk' AL.Try.follows_mixed Try.func154 rfl (by decide +kernel) Try.ntmps154 rfl (by kernel_rfl) rfl

/- proviso/step.fixed -/
def c155 : AC :=
.seq (.reg false [] [oO 2 (.box 128 (tT 0)), oO 3 (.box 85 (tT 1)), oO 4 (.assign (.const .nilFunc))])
 (.seq (.reg false [] [oO 5 (.makeFunc (.func 185) #[] #[tT 2, tT 3]), oO 4 (.assign (tT 5))])
 .ret)
theorem F155 : Fun1 Try.prog 155 6 c155 [.tmp 4] := Fun1.mk' AL.Try.follows_mixed Try.func155 rfl (by decide +kernel) Try.ntmps155 rfl (by kernel_rfl) rfl

/- proviso/step.table$1 -/
def c156 : AC :=
.seq (.reg false [] [oO 2 (.assign (.const (.slice none 0 0)))])
 (.seq (.reg true [] [⟨⟨some 3, .move (tT 0), none⟩, false, true⟩, ⟨⟨some 4, .indexAddr 22 (tT 3) (kI 0), none⟩, false, true⟩, ⟨⟨some 5, .load 23 (tT 4), none⟩, false, true⟩, oO 6 (.move (tT 0)), oO 7 (.indexAddr 22 (tT 6) (kI 0)), oO 8 (.load 23 (tT 7)), oO 9 (.buildSlice 22 2 #[(0, .tmp 5), (1, .tmp 8)]), oO 2 (.assign (tT 9))])
 .ret)
theorem F156 : Fun1 Try.prog 156 10 c156 [.tmp 2] := Fun1.mk' AL.Try.follows_mixed Try.func156 rfl (by decide +kernel) Try.ntmps156 rfl (by kernel_rfl) rfl

/- proviso/step.table$2 -/
def c157 : AC :=
.seq (.reg false [] [oO 2 (.assign (.const (.slice none 0 0)))])
 (.seq (.reg true [] [⟨⟨some 3, .move (tT 0), none⟩, false, true⟩, ⟨⟨some 4, .indexAddr 22 (tT 3) (kI 1), none⟩, false, true⟩, ⟨⟨some 5, .load 23 (tT 4), none⟩, false, true⟩, oO 6 (.move (tT 0)), oO 7 (.indexAddr 22 (tT 6) (kI 0)), oO 8 (.load 23 (tT 7)), oO 9 (.buildSlice 22 2 #[(0, .tmp 5), (1, .tmp 8)]), oO 2 (.assign (tT 9))])
 .ret)
theorem F157 : Fun1 Try.prog 157 10 c157 [.tmp 2] := Fun1.mk' AL.Try.follows_mixed Try.func157 rfl (by decide +kernel) Try.ntmps157 rfl (by kernel_rfl) rfl

/- proviso/step.call -/
def c158 : AC :=
.seq (.reg false [] [oO 2 (.box 57 (tT 0)), oO 3 (.box 63 (tT 1)), oO 4 (.alloc 130), oO 5 (.assign (kI 0))])
 (.seq (.seq (.reg false [] [oO 10 (.fieldAddr 63 (tT 3) 2), oO 11 (.load 3 (tT 10)), oO 12 (.binOp .lss 3 (tT 11) (kI 0) 3), oO 13 (.move (tT 12)), oG 14 (.fieldAddr 63 (tT 3) 2) 13 false, oG 15 (.load 3 (tT 14)) 13 false, oG 16 (.fieldAddr 57 (tT 2) 1) 13 false, oG 17 (.load 49 (tT 16)) 13 false, oG 18 (cB .len #[tT 17] #[49]) 13 false, oG 19 (.binOp .geq 3 (tT 15) (tT 18) 3) 13 false, oO 20 (.pick (tT 13) (.const (.bool true)) (tT 19))])
 (.cond (tT 20) (.seq (.reg false [] [oO 21 (.build 130 #[]), oN (.store 130 (tT 4) (tT 21)), oO 5 (.assign (kI 71))])
 (.ret))
 (.skip)))
 (.seq (.reg false [] [oO 22 (.fieldAddr 57 (tT 2) 1), oO 23 (.load 49 (tT 22)), oO 24 (.fieldAddr 63 (tT 3) 2), oO 25 (.load 3 (tT 24)), oO 26 (.indexAddr 49 (tT 23) (tT 25)), oO 27 (.load 25 (tT 26)), oO 6 (.alloc 25), oN (.store 25 (tT 6) (tT 27))])
 (.seq (.reg false [] [oO 7 (.assign (.const (.slice none 0 0)))])
 (.seq (.seq (.reg false [] [oO 28 (.fieldAddr 25 (tT 6) 0), oO 29 (.load 22 (tT 28)), oO 30 (cB .len #[tT 29] #[22]), oO 31 (.move (kI 0))])
 (.block 0 (.loop (.seq (.reg false [] [oO 32 (.binOp .lss 3 (tT 31) (tT 30) 3)])
 (.seq (.cond (tT 32) (.skip)
 (.exit 0))
 (.seq (.block 1 (.seq (.reg false [] [oO 33 (.indexAddr 22 (tT 29) (tT 31)), oO 34 (.load 23 (tT 33)), oO 9 (.assign (tT 34))])
 (.reg false [] [oO 35 (.move (tT 7)), oO 36 (.move (tT 9)), oO 37 (cF (.func 153) #[tT 36] #[23]), oO 38 (.buildSlice 128 1 #[(0, .tmp 37)]), oO 39 (cB .append #[tT 35, tT 38] #[128, 128]), oO 7 (.assign (tT 39))])))
 (.reg false [] [oO 40 (.binOp .add 3 (tT 31) (kI 1) 3), oO 31 (.move (tT 40))])))))))
 (.seq (.seq (.reg false [] [oO 41 (.fieldAddr 25 (tT 6) 1), oO 42 (.load 23 (tT 41)), oO 43 (.binOp .eql 23 (tT 42) (kB 0) 23)])
 (.cond (tT 43) (.seq (.reg false [] [oO 44 (.move (tT 7)), oO 45 (cF (.func 154) #[.const (.slice none 0 0)] #[22]), oO 46 (.build 130 #[(0, .tmp 44), (1, .tmp 45)]), oN (.store 130 (tT 4) (tT 46)), oO 5 (.assign (kI 0))])
 (.ret))
 (.skip)))
 (.seq (.reg false [] [oO 47 (.move (tT 7)), oO 48 (.fieldAddr 25 (tT 6) 1), oO 49 (.load 23 (tT 48)), oO 50 (.buildSlice 22 1 #[(0, .tmp 49)]), oO 51 (cF (.func 154) #[tT 50] #[22]), oO 52 (.build 130 #[(0, .tmp 47), (1, .tmp 51)]), oN (.store 130 (tT 4) (tT 52)), oO 5 (.assign (kI 0))])
 .ret))))))
theorem F158 : Fun1 Try.prog 158 53 c158 [.cell 4 130, .tmp 5] := Fun1.mk' AL.Try.follows_mixed Try.func158 rfl (by decide +kernel) Try.ntmps158 rfl (by kernel_rfl) rfl

/- proviso/step.table$3 -/
def c159 : AC :=
.seq (.reg false [] [oO 3 (.box 57 (tT 0)), oO 4 (.box 63 (tT 1)), oO 5 (.alloc 130), oO 6 (.assign (kI 0))])
 (.seq (.seq (.reg true [2] [⟨⟨some 7, .fieldAddr 57 (tT 3) 1, none⟩, false, true⟩, ⟨⟨some 8, .load 49 (tT 7), none⟩, false, true⟩, ⟨⟨some 9, .fieldAddr 57 (tT 3) 2, none⟩, false, true⟩, ⟨⟨some 10, .load 3 (tT 9), none⟩, false, true⟩, ⟨⟨some 11, .indexAddr 49 (tT 8) (tT 10), none⟩, false, true⟩, ⟨⟨some 12, .fieldAddr 25 (tT 11) 1, none⟩, false, true⟩, ⟨⟨some 13, .load 23 (tT 12), none⟩, false, true⟩, ⟨⟨some 14, cF (.func 160) #[tT 13] #[23], none⟩, false, true⟩, ⟨⟨some 15, .load 85 (tT 2), none⟩, true, false⟩])
 (.reg false [] [oO 16 (.build 130 #[(0, .tmp 14), (1, .tmp 15)]), oN (.store 130 (tT 5) (tT 16)), oO 6 (.assign (kI 0))]))
 .ret)
theorem F159 : Fun1 Try.prog 159 17 c159 [.cell 5 130, .tmp 6] := Fun1.mk' AL.Try.follows_mixed Try.func159 rfl (by decide +kernel) Try.ntmps159 rfl (by kernel_rfl) rfl

/- proviso/step.results -/
def c160 : AC :=
.seq (.reg false [] [oO 2 (.assign (.const (.slice none 0 0)))])
 (.seq (.seq (.reg false [] [oO 3 (.move (tT 0)), oO 4 (.binOp .eql 23 (tT 3) (kB 0) 23)])
 (.cond (tT 4) (.seq (.reg false [] [oO 2 (.assign (.const (.slice none 0 0)))])
 (.ret))
 (.skip)))
 (.seq (.reg false [] [oO 5 (.move (tT 0)), oO 6 (cF (.func 153) #[tT 5] #[23]), oO 7 (.buildSlice 128 1 #[(0, .tmp 6)]), oO 2 (.assign (tT 7))])
 .ret))
theorem F160 : Fun1 Try.prog 160 8 c160 [.tmp 2] := Fun1.mk' AL.Try.follows_mixed Try.func160 rfl (by decide +kernel) Try.ntmps160 rfl (by kernel_rfl) rfl

/- proviso/step.classed -/
def c161 : AC :=
.seq (.reg false [] [oO 2 (.box 128 (tT 0)), oO 3 (.box 4 (tT 1)), oO 4 (.assign (.const .nilFunc))])
 (.seq (.reg false [] [oO 5 (.makeFunc (.func 186) #[] #[tT 3, tT 2]), oO 4 (.assign (tT 5))])
 .ret)
theorem F161 : Fun1 Try.prog 161 6 c161 [.tmp 4] := Fun1.mk' AL.Try.follows_mixed Try.func161 rfl (by decide +kernel) Try.ntmps161 rfl (by kernel_rfl) rfl

/- proviso/step.field -/
def c162 : AC :=
.seq (.reg false [] [oO 1 (.box 4 (tT 0)), oO 2 (.assign (.const .nilFunc))])
 (.seq (.reg false [] [oO 3 (.makeFunc (.func 188) #[] #[tT 1]), oO 2 (.assign (tT 3))])
 .ret)
theorem F162 : Fun1 Try.prog 162 4 c162 [.tmp 2] := Fun1.mk' AL.Try.follows_mixed Try.func162 rfl (by decide +kernel) Try.ntmps162 rfl (by kernel_rfl) rfl

/- proviso/step.giving$1 -/
def c184 : AC :=
.seq (.reg false [] [oO 3 (.assign (.const (.slice none 0 0)))])
 (.seq (.reg false [] [oO 4 (.load 22 (tT 1)), oO 3 (.assign (tT 4))])
 .ret)
theorem F184 : Fun1 Try.prog 184 5 c184 [.tmp 3] := Fun1.mk' AL.Try.follows_mixed Try.func184 rfl (by decide +kernel) Try.ntmps184 rfl (by kernel_rfl) rfl

/- proviso/step.fixed$1 -/
def c185 : AC :=
.seq (.reg false [] [oO 4 (.box 57 (tT 0)), oO 5 (.box 63 (tT 1)), oO 6 (.alloc 130), oO 7 (.assign (kI 0))])
 (.seq (.reg false [] [oO 8 (.load 128 (tT 2)), oO 9 (.load 85 (tT 3)), oO 10 (.build 130 #[(0, .tmp 8), (1, .tmp 9)]), oN (.store 130 (tT 6) (tT 10)), oO 7 (.assign (kI 0))])
 .ret)
theorem F185 : Fun1 Try.prog 185 11 c185 [.cell 6 130, .tmp 7] := Fun1.mk' AL.Try.follows_mixed Try.func185 rfl (by decide +kernel) Try.ntmps185 rfl (by kernel_rfl) rfl

/- proviso/step.classed$1 -/
def c186 : AC :=
.seq (.reg false [] [oO 4 (.box 57 (tT 0)), oO 5 (.box 63 (tT 1)), oO 6 (.alloc 130), oO 7 (.assign (kI 0))])
 (.seq (.seq (.reg false [] [oO 8 (.fieldAddr 63 (tT 5) 2), oO 9 (.load 3 (tT 8)), oO 10 (.binOp .lss 3 (tT 9) (kI 0) 3), oO 11 (.move (tT 10)), oG 12 (.fieldAddr 63 (tT 5) 2) 11 false, oG 13 (.load 3 (tT 12)) 11 false, oG 14 (.fieldAddr 57 (tT 4) 0) 11 false, oG 15 (.load 52 (tT 14)) 11 false, oG 16 (cB .len #[tT 15] #[52]) 11 false, oG 17 (.binOp .geq 3 (tT 13) (tT 16) 3) 11 false, oO 18 (.pick (tT 11) (.const (.bool true)) (tT 17))])
 (.cond (tT 18) (.seq (.reg false [] [oO 19 (.build 130 #[]), oN (.store 130 (tT 6) (tT 19)), oO 7 (.assign (kI 72))])
 (.ret))
 (.skip)))
 (.seq (.seq (.reg false [] [oO 20 (.load 4 (tT 2)), oO 21 (.unOp .not 4 (tT 20))])
 (.cond (tT 21) (.seq (.seq (.reg true [3] [⟨⟨some 22, .load 128 (tT 3), none⟩, true, true⟩, oO 23 (.buildSlice 22 1 #[(0, kB 2)]), oO 24 (cF (.func 154) #[tT 23] #[22])])
 (.reg false [] [oO 25 (.build 130 #[(0, .tmp 22), (1, .tmp 24)]), oN (.store 130 (tT 6) (tT 25)), oO 7 (.assign (kI 0))]))
 (.ret))
 (.skip)))
 (.seq (.seq (.reg true [3] [⟨⟨some 26, .load 128 (tT 3), none⟩, true, true⟩, oO 27 (.fieldAddr 63 (tT 5) 2), oO 28 (.load 3 (tT 27)), oO 29 (cF (.func 187) #[tT 28] #[3]), oO 30 (.buildSlice 22 1 #[(0, .tmp 29)]), oO 31 (cF (.func 154) #[tT 30] #[22])])
 (.reg false [] [oO 32 (.build 130 #[(0, .tmp 26), (1, .tmp 31)]), oN (.store 130 (tT 6) (tT 32)), oO 7 (.assign (kI 0))]))
 .ret)))
theorem F186 : Fun1 Try.prog 186 33 c186 [.cell 6 130, .tmp 7] := Fun1.mk' AL.Try.follows_mixed Try.func186 rfl (by decide +kernel) Try.ntmps186 rfl (by kernel_rfl) rfl

/- proviso/step.class -/
def c187 : AC :=
.seq (.reg false [] [oO 2 (.assign (kB 0))])
 (.seq (.reg false [] [oO 3 (.move (tT 0)), oO 4 (.convert 3 23 (tT 3)), oO 5 (.binOp .add 23 (kB 16) (tT 4) 23), oO 2 (.assign (tT 5))])
 .ret)
theorem F187 : Fun1 Try.prog 187 6 c187 [.tmp 2] := Fun1.mk' AL.Try.follows_mixed Try.func187 rfl (by decide +kernel) Try.ntmps187 rfl (by kernel_rfl) rfl

/- proviso/step.field$1 -/
def c188 : AC :=
.seq (.reg false [] [oO 3 (.box 57 (tT 0)), oO 4 (.box 63 (tT 1)), oO 5 (.alloc 130), oO 6 (.assign (kI 0))])
 (.seq (.reg false [] [oO 9 (.fieldAddr 57 (tT 3) 0), oO 10 (.load 52 (tT 9)), oO 11 (.fieldAddr 63 (tT 4) 2), oO 12 (.load 3 (tT 11)), oO 13 (cF (.func 189) #[tT 10, tT 12] #[52, 3]), oO 7 (.assign (tT 13))])
 (.seq (.seq (.reg false [] [oO 14 (.fieldAddr 63 (tT 4) 2), oO 15 (.load 3 (tT 14)), oO 16 (.binOp .lss 3 (tT 15) (kI 0) 3), oO 17 (.move (tT 16)), oG 18 (.fieldAddr 63 (tT 4) 2) 17 false, oG 19 (.load 3 (tT 18)) 17 false, oG 20 (.fieldAddr 57 (tT 3) 0) 17 false, oG 21 (.load 52 (tT 20)) 17 false, oG 22 (cB .len #[tT 21] #[52]) 17 false, oG 23 (.binOp .geq 3 (tT 19) (tT 22) 3) 17 false, oO 24 (.pick (tT 17) (.const (.bool true)) (tT 23)), oO 25 (.move (tT 24)), oG 26 (.fieldAddr 63 (tT 4) 3) 25 false, oG 27 (.load 3 (tT 26)) 25 false, oG 28 (.binOp .lss 3 (tT 27) (kI 0) 3) 25 false, oO 29 (.pick (tT 25) (.const (.bool true)) (tT 28)), oO 30 (.move (tT 29)), oG 31 (.fieldAddr 63 (tT 4) 3) 30 false, oG 32 (.load 3 (tT 31)) 30 false, oG 33 (.move (tT 7)) 30 false, oG 34 (cB .len #[tT 33] #[105]) 30 false, oG 35 (.binOp .geq 3 (tT 32) (tT 34) 3) 30 false, oO 36 (.pick (tT 30) (.const (.bool true)) (tT 35))])
 (.cond (tT 36) (.seq (.reg false [] [oO 37 (.build 130 #[]), oN (.store 130 (tT 5) (tT 37)), oO 6 (.assign (kI 72))])
 (.ret))
 (.skip)))
 (.seq (.reg false [] [oO 38 (.move (tT 7)), oO 39 (.fieldAddr 63 (tT 4) 3), oO 40 (.load 3 (tT 39)), oO 41 (.indexAddr 105 (tT 38) (tT 40)), oO 42 (.fieldAddr 110 (tT 41) 1), oO 43 (.load 23 (tT 42)), oO 8 (.assign (tT 43))])
 (.seq (.seq (.reg false [] [oO 44 (.load 4 (tT 2))])
 (.cond (tT 44) (.seq (.reg false [] [oO 45 (.fieldAddr 63 (tT 4) 2), oO 46 (.load 3 (tT 45)), oO 47 (cF (.func 187) #[tT 46] #[3]), oO 48 (cF (.func 153) #[tT 47] #[23]), oO 49 (.move (tT 8)), oO 50 (cF (.func 153) #[tT 49] #[23]), oO 51 (.buildSlice 128 2 #[(0, .tmp 48), (1, .tmp 50)]), oO 52 (cF (.func 154) #[.const (.slice none 0 0)] #[22]), oO 53 (.build 130 #[(0, .tmp 51), (1, .tmp 52)]), oN (.store 130 (tT 5) (tT 53)), oO 6 (.assign (kI 0))])
 (.ret))
 (.skip)))
 (.seq (.reg false [] [oO 54 (.fieldAddr 63 (tT 4) 2), oO 55 (.load 3 (tT 54)), oO 56 (cF (.func 187) #[tT 55] #[3]), oO 57 (cF (.func 153) #[tT 56] #[23]), oO 58 (.buildSlice 128 1 #[(0, .tmp 57)]), oO 59 (.move (tT 8)), oO 60 (.buildSlice 22 1 #[(0, .tmp 59)]), oO 61 (cF (.func 154) #[tT 60] #[22]), oO 62 (.build 130 #[(0, .tmp 58), (1, .tmp 61)]), oN (.store 130 (tT 5) (tT 62)), oO 6 (.assign (kI 0))])
 .ret)))))
theorem F188 : Fun1 Try.prog 188 63 c188 [.cell 5 130, .tmp 6] := Fun1.mk' AL.Try.follows_mixed Try.func188 rfl (by decide +kernel) Try.ntmps188 rfl (by kernel_rfl) rfl

/- proviso/types.Fields -/
def c189 : AC :=
.seq (.reg false [] [oO 4 (.assign (.const (.slice none 0 0)))])
 (.seq (.reg false [] [oO 5 (.alloc 26)])
 (.seq (.reg false [] [oO 8 (.move (tT 0)), oO 9 (.move (tT 1)), oO 10 (.makeFunc (.func 204) #[] #[tT 5]), oO 11 (cF (.func 144) #[tT 8, tT 9, tT 10] #[52, 3, 195])])
 (.seq (.reg false [] [oO 6 (.assign (.const (.slice none 0 0)))])
 (.seq (.seq (.reg false [] [oO 12 (.load 26 (tT 5)), oO 13 (cB .len #[tT 12] #[26]), oO 14 (.binOp .sub 3 (tT 13) (kI 1) 3), oO 7 (.assign (tT 14))])
 (.block 0 (.loop (.seq (.seq (.reg false [] [oO 15 (.move (tT 7)), oO 16 (.binOp .geq 3 (tT 15) (kI 0) 3)])
 (.cond (tT 16) (.skip)
 (.exit 0)))
 (.seq (.block 1 (.reg false [] [oO 19 (.move (tT 6)), oO 20 (.move (tT 0)), oO 21 (.load 26 (tT 5)), oO 22 (.move (tT 7)), oO 23 (.indexAddr 26 (tT 21) (tT 22)), oO 24 (.load 3 (tT 23)), oO 25 (.indexAddr 52 (tT 20) (tT 24)), oO 26 (.fieldAddr 107 (tT 25) 2), oO 27 (.load 105 (tT 26)), oO 28 (cB .append #[tT 19, tT 27] #[105, 105]), oO 6 (.assign (tT 28))]))
 (.reg false [] [oO 17 (.move (tT 7)), oO 18 (.binOp .sub 3 (tT 17) (kI 1) 3), oO 7 (.assign (tT 18))]))))))
 (.seq (.reg false [] [oO 29 (.move (tT 6)), oO 4 (.assign (tT 29))])
 .ret)))))
theorem F189 : Fun1 Try.prog 189 30 c189 [.tmp 4] := Fun1.mk' AL.Try.follows_mixed Try.func189 rfl (by decide +kernel) Try.ntmps189 rfl (by kernel_rfl) rfl

/- proviso/types.Fields$1 -/
def c204 : AC :=
.seq (.reg false [] [oO 3 (.assign (.const (.bool false)))])
 (.seq (.reg false [] [oO 4 (.load 26 (tT 1)), oO 5 (.move (tT 0)), oO 6 (.buildSlice 26 1 #[(0, .tmp 5)]), oO 7 (cB .append #[tT 4, tT 6] #[26, 26]), oN (.store 26 (tT 1) (tT 7))])
 (.seq (.reg false [] [oO 3 (.assign (.const (.bool true)))])
 .ret))
theorem F204 : Fun1 Try.prog 204 8 c204 [.tmp 3] := Fun1.mk' AL.Try.follows_mixed Try.func204 rfl (by decide +kernel) Try.ntmps204 rfl (by kernel_rfl) rfl

/- proviso/provisolaw07.StepCounts -/
/- proviso/provisoref07.Counts -/
/- proviso/provisoref07.Can -/
def c73 : AC :=
.seq (.reg false [] [oO 1 (.box 57 (tT 0)), oO 2 (.assign (.const (.bool false)))])
 (.seq (.seq (.reg false [] [oO 10 (.fieldAddr 57 (tT 1) 0), oO 11 (.load 52 (tT 10)), oO 12 (cF (.func 69) #[tT 11] #[52]), oO 9 (.move (tT 12)), oO 13 (.extract (tT 9) 0), oO 14 (.extract (tT 9) 1), oO 3 (.assign (tT 13)), oO 4 (.assign (tT 14))])
 (.seq (.reg false [] [oO 15 (.move (tT 4)), oO 16 (.binOp .neq 45 (tT 15) (kI 0) 45)])
 (.cond (tT 16) (.seq (.reg false [] [oO 2 (.assign (.const (.bool false)))])
 (.ret))
 (.skip))))
 (.seq (.seq (.reg false [] [oO 17 (.fieldAddr 57 (tT 1) 1), oO 18 (.load 49 (tT 17)), oO 19 (cB .len #[tT 18] #[49]), oO 20 (.binOp .gtr 3 (tT 19) (kI 64) 3), oO 21 (.move (tT 20)), oG 22 (.fieldAddr 57 (tT 1) 2) 21 false, oG 23 (.load 3 (tT 22)) 21 false, oG 24 (.binOp .lss 3 (tT 23) (kI 0) 3) 21 false, oO 25 (.pick (tT 21) (.const (.bool true)) (tT 24)), oO 26 (.move (tT 25)), oG 27 (.fieldAddr 57 (tT 1) 2) 26 false, oG 28 (.load 3 (tT 27)) 26 false, oG 29 (.fieldAddr 57 (tT 1) 1) 26 false, oG 30 (.load 49 (tT 29)) 26 false, oG 31 (cB .len #[tT 30] #[49]) 26 false, oG 32 (.binOp .geq 3 (tT 28) (tT 31) 3) 26 false, oO 33 (.pick (tT 26) (.const (.bool true)) (tT 32))])
 (.cond (tT 33) (.seq (.reg false [] [oO 2 (.assign (.const (.bool false)))])
 (.ret))
 (.skip)))
 (.seq (.seq (.reg false [] [oO 34 (.fieldAddr 57 (tT 1) 1), oO 35 (.load 49 (tT 34)), oO 36 (cB .len #[tT 35] #[49]), oO 37 (.move (kI 0))])
 (.block 0 (.loop (.seq (.reg false [] [oO 38 (.binOp .lss 3 (tT 37) (tT 36) 3)])
 (.seq (.cond (tT 38) (.skip)
 (.exit 0))
 (.seq (.block 1 (.seq (.reg false [] [oO 39 (.indexAddr 49 (tT 35) (tT 37)), oO 40 (.load 25 (tT 39)), oO 6 (.alloc 25), oN (.store 25 (tT 6) (tT 40))])
 (.seq (.seq (.reg false [] [oO 41 (.fieldAddr 25 (tT 6) 0), oO 42 (.load 22 (tT 41)), oO 43 (cB .len #[tT 42] #[22]), oO 44 (.binOp .gtr 3 (tT 43) (kI 8) 3), oO 45 (.move (tT 44)), oG 46 (.fieldAddr 25 (tT 6) 1) 45 false, oG 47 (.load 23 (tT 46)) 45 false, oG 48 (.binOp .neq 23 (tT 47) (kB 0) 23) 45 false, oG 49 (.move (tT 48)) 45 false, oG 50 (.fieldAddr 57 (tT 1) 0) 49 true, oG 51 (.load 52 (tT 50)) 49 true, oG 52 (.fieldAddr 25 (tT 6) 1) 49 true, oG 53 (.load 23 (tT 52)) 49 true, oG 54 (cF (.func 112) #[tT 51, tT 53] #[52, 23]) 49 true, oG 55 (.unOp .not 4 (tT 54)) 49 true, oG 56 (.pick (tT 49) (tT 55) (.const (.bool false))) 45 false, oO 57 (.pick (tT 45) (.const (.bool true)) (tT 56))])
 (.cond (tT 57) (.seq (.reg false [] [oO 2 (.assign (.const (.bool false)))])
 (.ret))
 (.skip)))
 (.seq (.reg false [] [oO 58 (.fieldAddr 25 (tT 6) 0), oO 59 (.load 22 (tT 58)), oO 60 (cB .len #[tT 59] #[22]), oO 61 (.move (kI 0))])
 (.block 2 (.loop (.seq (.reg false [] [oO 62 (.binOp .lss 3 (tT 61) (tT 60) 3)])
 (.seq (.cond (tT 62) (.skip)
 (.exit 2))
 (.seq (.block 3 (.seq (.reg false [] [oO 63 (.indexAddr 22 (tT 59) (tT 61)), oO 64 (.load 23 (tT 63)), oO 8 (.assign (tT 64))])
 (.seq (.reg false [] [oO 65 (.fieldAddr 57 (tT 1) 0), oO 66 (.load 52 (tT 65)), oO 67 (.move (tT 8)), oO 68 (cF (.func 112) #[tT 66, tT 67] #[52, 23]), oO 69 (.unOp .not 4 (tT 68))])
 (.cond (tT 69) (.seq (.reg false [] [oO 2 (.assign (.const (.bool false)))])
 (.ret))
 (.skip)))))
 (.reg false [] [oO 70 (.binOp .add 3 (tT 61) (kI 1) 3), oO 61 (.move (tT 70))]))))))))))
 (.reg false [] [oO 71 (.binOp .add 3 (tT 37) (kI 1) 3), oO 37 (.move (tT 71))])))))))
 (.seq (.reg false [] [oO 2 (.assign (.const (.bool true)))])
 .ret))))
theorem F73 : Fun1 Try.prog 73 72 c73 [.tmp 2] := Fun1.mk' AL.Try.follows_mixed Try.func73 rfl (by decide +kernel) Try.ntmps73 rfl (by kernel_rfl) rfl

/- proviso/provisoref04.Size -/
def c74 : AC :=
.seq (.reg false [] [oO 2 (.assign (kI 0))])
 (.seq (.seq (.reg false [] [oO 5 (.move (tT 0)), oO 6 (.binOp .geq 5 (tT 5) (kB 34) 5)])
 (.cond (tT 6) (.seq (.reg false [] [oO 2 (.assign (kI 0))])
 (.ret))
 (.skip)))
 (.seq (.reg false [] [oO 8 (.move (tT 0)), oO 9 (cF (.func 113) #[tT 8] #[5]), oO 7 (.move (tT 9)), oO 10 (.extract (tT 7) 0), oO 11 (.extract (tT 7) 1), oO 3 (.assign (tT 10)), oO 4 (.assign (tT 11))])
 (.seq (.reg false [] [oO 12 (.move (tT 3)), oO 13 (.binOp .add 3 (kI 1) (tT 12) 3), oO 14 (.move (tT 4)), oO 15 (.binOp .add 3 (tT 13) (tT 14) 3), oO 2 (.assign (tT 15))])
 .ret)))
theorem F74 : Fun1 Try.prog 74 16 c74 [.tmp 2] := Fun1.mk' AL.Try.follows_mixed Try.func74 rfl (by decide +kernel) Try.ntmps74 rfl (by kernel_rfl) rfl

/- proviso/provisoref04.wide -/
def c113 : AC :=
.seq (.reg false [] [oO 2 (.assign (kI 0)), oO 3 (.assign (kI 0))])
 (.seq (.seq (.reg false [] [oO 4 (.move (tT 0))])
 (.block 0 (.seq (.reg false [] [oO 6 (.binOp .eql 5 (tT 4) (kB 1) 5), oO 5 (.assign (tT 6))])
 (.cond (tT 5) (.seq (.reg false [] [oO 2 (.assign (kI 4)), oO 3 (.assign (kI 0))])
 (.ret))
 (.seq (.seq (.reg false [] [oO 8 (.binOp .eql 5 (tT 4) (kB 19) 5), oO 7 (.assign (tT 8))])
 (.cond (tT 7) (.skip)
 (.reg false [] [oO 9 (.binOp .eql 5 (tT 4) (kB 20) 5), oO 7 (.assign (tT 9))])))
 (.cond (tT 7) (.seq (.reg false [] [oO 2 (.assign (kI 2)), oO 3 (.assign (kI 0))])
 (.ret))
 (.seq (.seq (.reg false [] [oO 11 (.binOp .eql 5 (tT 4) (kB 24) 5), oO 10 (.assign (tT 11))])
 (.cond (tT 10) (.skip)
 (.reg false [] [oO 12 (.binOp .eql 5 (tT 4) (kB 25) 5), oO 10 (.assign (tT 12))])))
 (.cond (tT 10) (.seq (.reg false [] [oO 2 (.assign (kI 1)), oO 3 (.assign (kI 1))])
 (.ret))
 (.seq (.seq (.reg false [] [oO 14 (.binOp .eql 5 (tT 4) (kB 2) 5), oO 13 (.assign (tT 14))])
 (.cond (tT 13) (.skip)
 (.seq (.reg false [] [oO 15 (.binOp .eql 5 (tT 4) (kB 4) 5), oO 13 (.assign (tT 15))])
 (.cond (tT 13) (.skip)
 (.seq (.reg false [] [oO 16 (.binOp .eql 5 (tT 4) (kB 5) 5), oO 13 (.assign (tT 16))])
 (.cond (tT 13) (.skip)
 (.seq (.reg false [] [oO 17 (.binOp .eql 5 (tT 4) (kB 21) 5), oO 13 (.assign (tT 17))])
 (.cond (tT 13) (.skip)
 (.seq (.reg false [] [oO 18 (.binOp .eql 5 (tT 4) (kB 23) 5), oO 13 (.assign (tT 18))])
 (.cond (tT 13) (.skip)
 (.seq (.reg false [] [oO 19 (.binOp .eql 5 (tT 4) (kB 30) 5), oO 13 (.assign (tT 19))])
 (.cond (tT 13) (.skip)
 (.seq (.reg false [] [oO 20 (.binOp .eql 5 (tT 4) (kB 31) 5), oO 13 (.assign (tT 20))])
 (.cond (tT 13) (.skip)
 (.reg false [] [oO 21 (.binOp .eql 5 (tT 4) (kB 32) 5), oO 13 (.assign (tT 21))])))))))))))))))
 (.cond (tT 13) (.seq (.reg false [] [oO 2 (.assign (kI 1)), oO 3 (.assign (kI 0))])
 (.ret))
 (.skip)))))))))))
 (.seq (.reg false [] [oO 2 (.assign (kI 0)), oO 3 (.assign (kI 0))])
 .ret))
theorem F113 : Fun1 Try.prog 113 22 c113 [.tmp 2, .tmp 3] := Fun1.mk' AL.Try.follows_mixed Try.func113 rfl (by decide +kernel) Try.ntmps113 rfl (by kernel_rfl) rfl

/- proviso/provisoref07.Operands -/
def c75 : AC :=
.seq (.reg false [] [oO 2 (.box 57 (tT 0)), oO 3 (.box 63 (tT 1)), oO 4 (.assign (kI 0))])
 (.seq (.seq (.reg false [] [oO 5 (.fieldAddr 63 (tT 3) 1), oO 6 (.load 5 (tT 5))])
 (.block 0 (.seq (.reg false [] [oO 8 (.binOp .eql 5 (tT 6) (kB 21) 5), oO 7 (.assign (tT 8))])
 (.cond (tT 7) (.seq (.reg false [] [oO 9 (.fieldAddr 63 (tT 3) 2), oO 10 (.load 3 (tT 9)), oO 11 (.binOp .lss 3 (tT 10) (kI 0) 3), oO 12 (.move (tT 11)), oG 13 (.fieldAddr 63 (tT 3) 2) 12 false, oG 14 (.load 3 (tT 13)) 12 false, oG 15 (.fieldAddr 57 (tT 2) 1) 12 false, oG 16 (.load 49 (tT 15)) 12 false, oG 17 (cB .len #[tT 16] #[49]) 12 false, oG 18 (.binOp .geq 3 (tT 14) (tT 17) 3) 12 false, oO 19 (.pick (tT 12) (.const (.bool true)) (tT 18))])
 (.cond (tT 19) (.seq (.reg false [] [oO 4 (.assign (kI 71))])
 (.ret))
 (.skip)))
 (.seq (.seq (.reg false [] [oO 21 (.binOp .eql 5 (tT 6) (kB 23) 5), oO 20 (.assign (tT 21))])
 (.cond (tT 20) (.skip)
 (.seq (.reg false [] [oO 22 (.binOp .eql 5 (tT 6) (kB 30) 5), oO 20 (.assign (tT 22))])
 (.cond (tT 20) (.skip)
 (.seq (.reg false [] [oO 23 (.binOp .eql 5 (tT 6) (kB 31) 5), oO 20 (.assign (tT 23))])
 (.cond (tT 20) (.skip)
 (.seq (.reg false [] [oO 24 (.binOp .eql 5 (tT 6) (kB 24) 5), oO 20 (.assign (tT 24))])
 (.cond (tT 20) (.skip)
 (.reg false [] [oO 25 (.binOp .eql 5 (tT 6) (kB 25) 5), oO 20 (.assign (tT 25))])))))))))
 (.cond (tT 20) (.seq (.reg false [] [oO 26 (.fieldAddr 63 (tT 3) 2), oO 27 (.load 3 (tT 26)), oO 28 (.binOp .lss 3 (tT 27) (kI 0) 3), oO 29 (.move (tT 28)), oG 30 (.fieldAddr 63 (tT 3) 2) 29 false, oG 31 (.load 3 (tT 30)) 29 false, oG 32 (.fieldAddr 57 (tT 2) 0) 29 false, oG 33 (.load 52 (tT 32)) 29 false, oG 34 (cB .len #[tT 33] #[52]) 29 false, oG 35 (.binOp .geq 3 (tT 31) (tT 34) 3) 29 false, oO 36 (.pick (tT 29) (.const (.bool true)) (tT 35))])
 (.cond (tT 36) (.seq (.reg false [] [oO 4 (.assign (kI 72))])
 (.ret))
 (.skip)))
 (.skip)))))))
 (.seq (.seq (.reg false [] [oO 37 (.fieldAddr 63 (tT 3) 1), oO 38 (.load 5 (tT 37)), oO 39 (.binOp .eql 5 (tT 38) (kB 24) 5), oO 40 (.move (tT 39)), oG 41 (.fieldAddr 63 (tT 3) 1) 40 false, oG 42 (.load 5 (tT 41)) 40 false, oG 43 (.binOp .eql 5 (tT 42) (kB 25) 5) 40 false, oO 44 (.pick (tT 40) (.const (.bool true)) (tT 43))])
 (.cond (tT 44) (.seq (.reg true [3] [oO 45 (.fieldAddr 63 (tT 3) 3), oO 46 (.load 3 (tT 45)), oO 47 (.binOp .lss 3 (tT 46) (kI 0) 3), oO 48 (.move (tT 47)), ⟨⟨some 49, .fieldAddr 63 (tT 3) 3, some (48, false)⟩, true, true⟩, ⟨⟨some 50, .load 3 (tT 49), some (48, false)⟩, true, true⟩, ⟨⟨some 51, .fieldAddr 57 (tT 2) 0, some (48, false)⟩, false, true⟩, ⟨⟨some 52, .load 52 (tT 51), some (48, false)⟩, false, true⟩, oG 53 (.fieldAddr 63 (tT 3) 2) 48 false, oG 54 (.load 3 (tT 53)) 48 false, oG 55 (cF (.func 114) #[tT 52, tT 54] #[52, 3]) 48 false, oG 56 (cB .len #[tT 55] #[105]) 48 false, oG 57 (.binOp .geq 3 (tT 50) (tT 56) 3) 48 false, oO 58 (.pick (tT 48) (.const (.bool true)) (tT 57))])
 (.cond (tT 58) (.seq (.reg false [] [oO 4 (.assign (kI 72))])
 (.ret))
 (.skip)))
 (.skip)))
 (.seq (.reg false [] [oO 4 (.assign (kI 0))])
 .ret)))
theorem F75 : Fun1 Try.prog 75 59 c75 [.tmp 4] := Fun1.mk' AL.Try.follows_mixed Try.func75 rfl (by decide +kernel) Try.ntmps75 rfl (by kernel_rfl) rfl

/- proviso/provisoref07.Takes -/
def c76 : AC :=
.seq (.reg false [] [oO 2 (.box 57 (tT 0)), oO 3 (.box 63 (tT 1)), oO 4 (.assign (.const (.slice none 0 0)))])
 (.seq (.seq (.reg false [] [oO 5 (.fieldAddr 63 (tT 3) 1), oO 6 (.load 5 (tT 5))])
 (.block 0 (.seq (.reg false [] [oO 8 (.binOp .eql 5 (tT 6) (kB 5) 5), oO 7 (.assign (tT 8))])
 (.cond (tT 7) (.seq (.reg false [] [oO 9 (.buildSlice 22 1 #[(0, kB 254)]), oO 4 (.assign (tT 9))])
 (.ret))
 (.seq (.seq (.reg false [] [oO 11 (.binOp .eql 5 (tT 6) (kB 6) 5), oO 10 (.assign (tT 11))])
 (.cond (tT 10) (.skip)
 (.reg false [] [oO 12 (.binOp .eql 5 (tT 6) (kB 7) 5), oO 10 (.assign (tT 12))])))
 (.cond (tT 10) (.seq (.reg false [] [oO 13 (.buildSlice 22 1 #[(0, kB 255)]), oO 4 (.assign (tT 13))])
 (.ret))
 (.seq (.reg false [] [oO 15 (.binOp .eql 5 (tT 6) (kB 8) 5), oO 14 (.assign (tT 15))])
 (.cond (tT 14) (.seq (.reg false [] [oO 16 (.buildSlice 22 2 #[(0, kB 255), (1, kB 255)]), oO 4 (.assign (tT 16))])
 (.ret))
 (.seq (.seq (.reg false [] [oO 18 (.binOp .eql 5 (tT 6) (kB 9) 5), oO 17 (.assign (tT 18))])
 (.cond (tT 17) (.skip)
 (.seq (.reg false [] [oO 19 (.binOp .eql 5 (tT 6) (kB 10) 5), oO 17 (.assign (tT 19))])
 (.cond (tT 17) (.skip)
 (.seq (.reg false [] [oO 20 (.binOp .eql 5 (tT 6) (kB 11) 5), oO 17 (.assign (tT 20))])
 (.cond (tT 17) (.skip)
 (.seq (.reg false [] [oO 21 (.binOp .eql 5 (tT 6) (kB 12) 5), oO 17 (.assign (tT 21))])
 (.cond (tT 17) (.skip)
 (.seq (.reg false [] [oO 22 (.binOp .eql 5 (tT 6) (kB 13) 5), oO 17 (.assign (tT 22))])
 (.cond (tT 17) (.skip)
 (.reg false [] [oO 23 (.binOp .eql 5 (tT 6) (kB 15) 5), oO 17 (.assign (tT 23))])))))))))))
 (.cond (tT 17) (.seq (.reg false [] [oO 24 (.buildSlice 22 2 #[(0, kB 1), (1, kB 1)]), oO 4 (.assign (tT 24))])
 (.ret))
 (.seq (.seq (.reg false [] [oO 26 (.binOp .eql 5 (tT 6) (kB 14) 5), oO 25 (.assign (tT 26))])
 (.cond (tT 25) (.skip)
 (.seq (.reg false [] [oO 27 (.binOp .eql 5 (tT 6) (kB 26) 5), oO 25 (.assign (tT 27))])
 (.cond (tT 25) (.skip)
 (.reg false [] [oO 28 (.binOp .eql 5 (tT 6) (kB 33) 5), oO 25 (.assign (tT 28))])))))
 (.cond (tT 25) (.seq (.reg false [] [oO 29 (.buildSlice 22 1 #[(0, kB 1)]), oO 4 (.assign (tT 29))])
 (.ret))
 (.seq (.reg false [] [oO 31 (.binOp .eql 5 (tT 6) (kB 16) 5), oO 30 (.assign (tT 31))])
 (.cond (tT 30) (.seq (.reg false [] [oO 32 (.buildSlice 22 2 #[(0, kB 255), (1, kB 255)]), oO 4 (.assign (tT 32))])
 (.ret))
 (.seq (.seq (.reg false [] [oO 34 (.binOp .eql 5 (tT 6) (kB 17) 5), oO 33 (.assign (tT 34))])
 (.cond (tT 33) (.skip)
 (.reg false [] [oO 35 (.binOp .eql 5 (tT 6) (kB 20) 5), oO 33 (.assign (tT 35))])))
 (.cond (tT 33) (.seq (.reg false [] [oO 36 (.buildSlice 22 1 #[(0, kB 2)]), oO 4 (.assign (tT 36))])
 (.ret))
 (.seq (.reg false [] [oO 38 (.binOp .eql 5 (tT 6) (kB 18) 5), oO 37 (.assign (tT 38))])
 (.cond (tT 37) (.seq (.reg false [] [oO 39 (.buildSlice 22 2 #[(0, kB 253), (1, kB 253)]), oO 4 (.assign (tT 39))])
 (.ret))
 (.seq (.reg false [] [oO 41 (.binOp .eql 5 (tT 6) (kB 21) 5), oO 40 (.assign (tT 41))])
 (.cond (tT 40) (.seq (.reg false [] [oO 42 (.fieldAddr 57 (tT 2) 1), oO 43 (.load 49 (tT 42)), oO 44 (.fieldAddr 63 (tT 3) 2), oO 45 (.load 3 (tT 44)), oO 46 (.indexAddr 49 (tT 43) (tT 45)), oO 47 (.fieldAddr 25 (tT 46) 0), oO 48 (.load 22 (tT 47)), oO 4 (.assign (tT 48))])
 (.ret))
 (.seq (.reg false [] [oO 50 (.binOp .eql 5 (tT 6) (kB 22) 5), oO 49 (.assign (tT 50))])
 (.cond (tT 49) (.seq (.reg false [] [oO 51 (.fieldAddr 57 (tT 2) 1), oO 52 (.load 49 (tT 51)), oO 53 (.fieldAddr 57 (tT 2) 2), oO 54 (.load 3 (tT 53)), oO 55 (.indexAddr 49 (tT 52) (tT 54)), oO 56 (.fieldAddr 25 (tT 55) 1), oO 57 (.load 23 (tT 56)), oO 58 (cF (.func 115) #[tT 57] #[23]), oO 4 (.assign (tT 58))])
 (.ret))
 (.seq (.reg false [] [oO 60 (.binOp .eql 5 (tT 6) (kB 24) 5), oO 59 (.assign (tT 60))])
 (.cond (tT 59) (.seq (.reg false [] [oO 61 (.fieldAddr 63 (tT 3) 2), oO 62 (.load 3 (tT 61)), oO 63 (cF (.func 116) #[tT 62] #[3]), oO 64 (.buildSlice 22 1 #[(0, .tmp 63)]), oO 4 (.assign (tT 64))])
 (.ret))
 (.seq (.reg false [] [oO 66 (.binOp .eql 5 (tT 6) (kB 25) 5), oO 65 (.assign (tT 66))])
 (.cond (tT 65) (.seq (.reg true [2, 3] [⟨⟨some 67, .fieldAddr 63 (tT 3) 2, none⟩, false, true⟩, ⟨⟨some 68, .load 3 (tT 67), none⟩, false, true⟩, ⟨⟨some 69, cF (.func 116) #[tT 68] #[3], none⟩, false, true⟩, ⟨⟨some 70, .fieldAddr 57 (tT 2) 0, none⟩, true, true⟩, ⟨⟨some 71, .load 52 (tT 70), none⟩, true, true⟩, ⟨⟨some 72, .fieldAddr 63 (tT 3) 2, none⟩, true, true⟩, ⟨⟨some 73, .load 3 (tT 72), none⟩, true, true⟩, ⟨⟨some 74, cF (.func 114) #[tT 71, tT 73] #[52, 3], none⟩, false, true⟩, ⟨⟨some 75, .fieldAddr 63 (tT 3) 3, none⟩, true, false⟩, ⟨⟨some 76, .load 3 (tT 75), none⟩, true, false⟩, oO 77 (.indexAddr 105 (tT 74) (tT 76)), oO 78 (.fieldAddr 110 (tT 77) 1), oO 79 (.load 23 (tT 78)), oO 80 (.buildSlice 22 2 #[(0, .tmp 69), (1, .tmp 79)]), oO 4 (.assign (tT 80))])
 (.ret))
 (.seq (.reg false [] [oO 82 (.binOp .eql 5 (tT 6) (kB 27) 5), oO 81 (.assign (tT 82))])
 (.cond (tT 81) (.seq (.reg false [] [oO 83 (.buildSlice 22 1 #[(0, kB 4)]), oO 4 (.assign (tT 83))])
 (.ret))
 (.seq (.reg false [] [oO 85 (.binOp .eql 5 (tT 6) (kB 28) 5), oO 84 (.assign (tT 85))])
 (.cond (tT 84) (.seq (.reg false [] [oO 86 (.buildSlice 22 2 #[(0, kB 4), (1, kB 1)]), oO 4 (.assign (tT 86))])
 (.ret))
 (.seq (.reg false [] [oO 88 (.binOp .eql 5 (tT 6) (kB 29) 5), oO 87 (.assign (tT 88))])
 (.cond (tT 87) (.seq (.reg false [] [oO 89 (.buildSlice 22 3 #[(0, kB 4), (1, kB 1), (2, kB 1)]), oO 4 (.assign (tT 89))])
 (.ret))
 (.seq (.seq (.reg false [] [oO 91 (.binOp .eql 5 (tT 6) (kB 30) 5), oO 90 (.assign (tT 91))])
 (.cond (tT 90) (.skip)
 (.reg false [] [oO 92 (.binOp .eql 5 (tT 6) (kB 31) 5), oO 90 (.assign (tT 92))])))
 (.cond (tT 90) (.seq (.reg false [] [oO 93 (.buildSlice 22 1 #[(0, kB 253)]), oO 4 (.assign (tT 93))])
 (.ret))
 (.skip)))))))))))))))))))))))))))))))))))
 (.seq (.reg false [] [oO 4 (.assign (.const (.slice none 0 0)))])
 .ret))
theorem F76 : Fun1 Try.prog 76 94 c76 [.tmp 4] := Fun1.mk' AL.Try.follows_mixed Try.func76 rfl (by decide +kernel) Try.ntmps76 rfl (by kernel_rfl) rfl

/- proviso/provisoref07.Gives -/
def c77 : AC :=
.seq (.reg false [] [oO 2 (.box 57 (tT 0)), oO 3 (.box 63 (tT 1)), oO 4 (.assign (.const (.slice none 0 0)))])
 (.seq (.seq (.reg false [] [oO 5 (.fieldAddr 63 (tT 3) 1), oO 6 (.load 5 (tT 5))])
 (.block 0 (.seq (.seq (.reg false [] [oO 8 (.binOp .eql 5 (tT 6) (kB 1) 5), oO 7 (.assign (tT 8))])
 (.cond (tT 7) (.skip)
 (.seq (.reg false [] [oO 9 (.binOp .eql 5 (tT 6) (kB 9) 5), oO 7 (.assign (tT 9))])
 (.cond (tT 7) (.skip)
 (.seq (.reg false [] [oO 10 (.binOp .eql 5 (tT 6) (kB 10) 5), oO 7 (.assign (tT 10))])
 (.cond (tT 7) (.skip)
 (.seq (.reg false [] [oO 11 (.binOp .eql 5 (tT 6) (kB 11) 5), oO 7 (.assign (tT 11))])
 (.cond (tT 7) (.skip)
 (.seq (.reg false [] [oO 12 (.binOp .eql 5 (tT 6) (kB 12) 5), oO 7 (.assign (tT 12))])
 (.cond (tT 7) (.skip)
 (.seq (.reg false [] [oO 13 (.binOp .eql 5 (tT 6) (kB 13) 5), oO 7 (.assign (tT 13))])
 (.cond (tT 7) (.skip)
 (.seq (.reg false [] [oO 14 (.binOp .eql 5 (tT 6) (kB 14) 5), oO 7 (.assign (tT 14))])
 (.cond (tT 7) (.skip)
 (.seq (.reg false [] [oO 15 (.binOp .eql 5 (tT 6) (kB 27) 5), oO 7 (.assign (tT 15))])
 (.cond (tT 7) (.skip)
 (.reg false [] [oO 16 (.binOp .eql 5 (tT 6) (kB 28) 5), oO 7 (.assign (tT 16))])))))))))))))))))
 (.cond (tT 7) (.seq (.reg false [] [oO 17 (.buildSlice 22 1 #[(0, kB 1)]), oO 4 (.assign (tT 17))])
 (.ret))
 (.seq (.seq (.reg false [] [oO 19 (.binOp .eql 5 (tT 6) (kB 2) 5), oO 18 (.assign (tT 19))])
 (.cond (tT 18) (.skip)
 (.seq (.reg false [] [oO 20 (.binOp .eql 5 (tT 6) (kB 15) 5), oO 18 (.assign (tT 20))])
 (.cond (tT 18) (.skip)
 (.seq (.reg false [] [oO 21 (.binOp .eql 5 (tT 6) (kB 16) 5), oO 18 (.assign (tT 21))])
 (.cond (tT 18) (.skip)
 (.seq (.reg false [] [oO 22 (.binOp .eql 5 (tT 6) (kB 17) 5), oO 18 (.assign (tT 22))])
 (.cond (tT 18) (.skip)
 (.seq (.reg false [] [oO 23 (.binOp .eql 5 (tT 6) (kB 18) 5), oO 18 (.assign (tT 23))])
 (.cond (tT 18) (.skip)
 (.reg false [] [oO 24 (.binOp .eql 5 (tT 6) (kB 31) 5), oO 18 (.assign (tT 24))])))))))))))
 (.cond (tT 18) (.seq (.reg false [] [oO 25 (.buildSlice 22 1 #[(0, kB 2)]), oO 4 (.assign (tT 25))])
 (.ret))
 (.seq (.reg false [] [oO 27 (.binOp .eql 5 (tT 6) (kB 3) 5), oO 26 (.assign (tT 27))])
 (.cond (tT 26) (.seq (.reg false [] [oO 28 (.buildSlice 22 1 #[(0, kB 3)]), oO 4 (.assign (tT 28))])
 (.ret))
 (.seq (.reg false [] [oO 30 (.binOp .eql 5 (tT 6) (kB 4) 5), oO 29 (.assign (tT 30))])
 (.cond (tT 29) (.seq (.reg false [] [oO 31 (.buildSlice 22 1 #[(0, kB 255)]), oO 4 (.assign (tT 31))])
 (.ret))
 (.seq (.seq (.reg false [] [oO 33 (.binOp .eql 5 (tT 6) (kB 7) 5), oO 32 (.assign (tT 33))])
 (.cond (tT 32) (.skip)
 (.reg false [] [oO 34 (.binOp .eql 5 (tT 6) (kB 8) 5), oO 32 (.assign (tT 34))])))
 (.cond (tT 32) (.seq (.reg false [] [oO 35 (.buildSlice 22 2 #[(0, kB 255), (1, kB 255)]), oO 4 (.assign (tT 35))])
 (.ret))
 (.seq (.reg false [] [oO 37 (.binOp .eql 5 (tT 6) (kB 21) 5), oO 36 (.assign (tT 37))])
 (.cond (tT 36) (.seq (.reg false [] [oO 38 (.fieldAddr 57 (tT 2) 1), oO 39 (.load 49 (tT 38)), oO 40 (.fieldAddr 63 (tT 3) 2), oO 41 (.load 3 (tT 40)), oO 42 (.indexAddr 49 (tT 39) (tT 41)), oO 43 (.fieldAddr 25 (tT 42) 1), oO 44 (.load 23 (tT 43)), oO 45 (cF (.func 115) #[tT 44] #[23]), oO 4 (.assign (tT 45))])
 (.ret))
 (.seq (.seq (.reg false [] [oO 47 (.binOp .eql 5 (tT 6) (kB 23) 5), oO 46 (.assign (tT 47))])
 (.cond (tT 46) (.skip)
 (.reg false [] [oO 48 (.binOp .eql 5 (tT 6) (kB 30) 5), oO 46 (.assign (tT 48))])))
 (.cond (tT 46) (.seq (.reg false [] [oO 49 (.fieldAddr 63 (tT 3) 2), oO 50 (.load 3 (tT 49)), oO 51 (cF (.func 116) #[tT 50] #[3]), oO 52 (.buildSlice 22 1 #[(0, .tmp 51)]), oO 4 (.assign (tT 52))])
 (.ret))
 (.seq (.reg false [] [oO 54 (.binOp .eql 5 (tT 6) (kB 24) 5), oO 53 (.assign (tT 54))])
 (.cond (tT 53) (.seq (.reg true [3] [⟨⟨some 55, .fieldAddr 57 (tT 2) 0, none⟩, false, true⟩, ⟨⟨some 56, .load 52 (tT 55), none⟩, false, true⟩, ⟨⟨some 57, .fieldAddr 63 (tT 3) 2, none⟩, false, true⟩, ⟨⟨some 58, .load 3 (tT 57), none⟩, false, true⟩, ⟨⟨some 59, cF (.func 114) #[tT 56, tT 58] #[52, 3], none⟩, false, true⟩, ⟨⟨some 60, .fieldAddr 63 (tT 3) 3, none⟩, true, false⟩, ⟨⟨some 61, .load 3 (tT 60), none⟩, true, false⟩, oO 62 (.indexAddr 105 (tT 59) (tT 61)), oO 63 (.fieldAddr 110 (tT 62) 1), oO 64 (.load 23 (tT 63)), oO 65 (cF (.func 115) #[tT 64] #[23]), oO 4 (.assign (tT 65))])
 (.ret))
 (.seq (.reg false [] [oO 67 (.binOp .eql 5 (tT 6) (kB 26) 5), oO 66 (.assign (tT 67))])
 (.cond (tT 66) (.seq (.reg false [] [oO 68 (.buildSlice 22 1 #[(0, kB 4)]), oO 4 (.assign (tT 68))])
 (.ret))
 (.skip)))))))))))))))))))))
 (.seq (.reg false [] [oO 4 (.assign (.const (.slice none 0 0)))])
 .ret))
theorem F77 : Fun1 Try.prog 77 69 c77 [.tmp 4] := Fun1.mk' AL.Try.follows_mixed Try.func77 rfl (by decide +kernel) Try.ntmps77 rfl (by kernel_rfl) rfl

/- proviso/provisoref07.some -/
def c115 : AC :=
.seq (.reg false [] [oO 2 (.assign (.const (.slice none 0 0)))])
 (.seq (.seq (.reg false [] [oO 3 (.move (tT 0)), oO 4 (.binOp .eql 23 (tT 3) (kB 0) 23)])
 (.cond (tT 4) (.seq (.reg false [] [oO 2 (.assign (.const (.slice none 0 0)))])
 (.ret))
 (.skip)))
 (.seq (.reg false [] [oO 5 (.move (tT 0)), oO 6 (.buildSlice 22 1 #[(0, .tmp 5)]), oO 2 (.assign (tT 6))])
 .ret))
theorem F115 : Fun1 Try.prog 115 7 c115 [.tmp 2] := Fun1.mk' AL.Try.follows_mixed Try.func115 rfl (by decide +kernel) Try.ntmps115 rfl (by kernel_rfl) rfl

/- proviso/provisoref07.class -/
def c116 : AC :=
.seq (.reg false [] [oO 2 (.assign (kB 0))])
 (.seq (.reg false [] [oO 3 (.move (tT 0)), oO 4 (.convert 3 23 (tT 3)), oO 5 (.binOp .add 23 (kB 16) (tT 4) 23), oO 2 (.assign (tT 5))])
 .ret)
theorem F116 : Fun1 Try.prog 116 6 c116 [.tmp 2] := Fun1.mk' AL.Try.follows_mixed Try.func116 rfl (by decide +kernel) Try.ntmps116 rfl (by kernel_rfl) rfl

/- proviso/provisoref07.stored -/
def c112 : AC :=
.seq (.reg false [] [oO 4 (.assign (.const (.bool false)))])
 (.seq (.reg false [] [oO 5 (.move (tT 0)), oO 6 (.move (tT 1)), oO 7 (cF (.func 87) #[tT 5, tT 6] #[52, 23]), oO 8 (.move (tT 7)), oG 9 (.move (tT 1)) 8 true, oG 10 (.binOp .neq 23 (tT 9) (kB 0) 23) 8 true, oO 11 (.pick (tT 8) (tT 10) (.const (.bool false))), oO 12 (.move (tT 11)), oG 13 (.move (tT 1)) 12 true, oG 14 (.binOp .neq 23 (tT 13) (kB 3) 23) 12 true, oO 15 (.pick (tT 12) (tT 14) (.const (.bool false))), oO 4 (.assign (tT 15))])
 .ret)
theorem F112 : Fun1 Try.prog 112 16 c112 [.tmp 4] := Fun1.mk' AL.Try.follows_mixed Try.func112 rfl (by decide +kernel) Try.ntmps112 rfl (by kernel_rfl) rfl

end Go.AL
namespace Go.AL
open Go.Proofs
/- proviso/provisoref07.Apply -/
def c37 : AC :=
.seq (.reg false [] [oO 3 (.box 57 (tT 0)), oO 4 (.box 71 (tT 1)), oO 5 (.box 63 (tT 2)), oO 6 (.alloc 71), oO 7 (.assign (kI 0))])
 (.seq (.reg false [] [oO 12 (.build 71 #[]), oO 8 (.alloc 71), oN (.store 71 (tT 8) (tT 12))])
 (.seq (.seq (.reg false [] [oO 13 (.load 57 (tT 3)), oO 14 (cF (.func 73) #[tT 13] #[57]), oO 15 (.unOp .not 4 (tT 14))])
 (.cond (tT 15) (.seq (.reg false [] [oO 16 (.load 71 (tT 8)), oN (.store 71 (tT 6) (tT 16)), oO 7 (.assign (kI 1))])
 (.ret))
 (.skip)))
 (.seq (.seq (.reg false [] [oO 17 (.fieldAddr 57 (tT 3) 0), oO 18 (.load 52 (tT 17)), oO 19 (.load 71 (tT 4)), oO 20 (cF (.func 40) #[tT 18, tT 19] #[52, 71]), oO 9 (.assign (tT 20))])
 (.seq (.reg false [] [oO 21 (.move (tT 9)), oO 22 (.binOp .neq 45 (tT 21) (kI 0) 45)])
 (.cond (tT 22) (.seq (.reg false [] [oO 23 (.load 71 (tT 8)), oO 24 (.move (tT 9)), oN (.store 71 (tT 6) (tT 23)), oO 7 (.assign (tT 24))])
 (.ret))
 (.skip))))
 (.seq (.seq (.reg false [] [oO 25 (.fieldAddr 63 (tT 5) 1), oO 26 (.load 5 (tT 25)), oO 27 (cF (.func 74) #[tT 26] #[5]), oO 28 (.binOp .eql 3 (tT 27) (kI 0) 3)])
 (.cond (tT 28) (.seq (.reg false [] [oO 29 (.load 71 (tT 8)), oN (.store 71 (tT 6) (tT 29)), oO 7 (.assign (kI 40))])
 (.ret))
 (.skip)))
 (.seq (.reg false [] [oO 30 (.fieldAddr 63 (tT 5) 1), oO 31 (.load 5 (tT 30)), oO 32 (.binOp .eql 5 (tT 31) (kB 4) 5), oO 33 (.move (tT 32)), oG 34 (.fieldAddr 63 (tT 5) 1) 33 false, oG 35 (.load 5 (tT 34)) 33 false, oG 36 (.binOp .eql 5 (tT 35) (kB 5) 5) 33 false, oO 37 (.pick (tT 33) (.const (.bool true)) (tT 36)), oO 10 (.assign (tT 37))])
 (.seq (.seq (.reg false [] [oO 38 (.move (tT 10)), oO 39 (.move (tT 38)), oG 40 (.fieldAddr 63 (tT 5) 2) 39 true, oG 41 (.load 3 (tT 40)) 39 true, oG 42 (.binOp .lss 3 (tT 41) (kI 0) 3) 39 true, oG 43 (.move (tT 42)) 39 true, oG 44 (.fieldAddr 63 (tT 5) 2) 43 false, oG 45 (.load 3 (tT 44)) 43 false, oG 46 (.fieldAddr 71 (tT 4) 0) 43 false, oG 47 (.load 3 (tT 46)) 43 false, oG 48 (.binOp .geq 3 (tT 45) (tT 47) 3) 43 false, oG 49 (.pick (tT 43) (.const (.bool true)) (tT 48)) 39 true, oO 50 (.pick (tT 39) (tT 49) (.const (.bool false)))])
 (.cond (tT 50) (.seq (.reg false [] [oO 51 (.load 71 (tT 8)), oN (.store 71 (tT 6) (tT 51)), oO 7 (.assign (kI 33))])
 (.ret))
 (.skip)))
 (.seq (.seq (.reg false [] [oO 52 (.load 57 (tT 3)), oO 53 (.load 63 (tT 5)), oO 54 (cF (.func 75) #[tT 52, tT 53] #[57, 63]), oO 11 (.assign (tT 54))])
 (.seq (.reg false [] [oO 55 (.move (tT 11)), oO 56 (.binOp .neq 45 (tT 55) (kI 0) 45)])
 (.cond (tT 56) (.seq (.reg false [] [oO 57 (.load 71 (tT 8)), oO 58 (.move (tT 11)), oN (.store 71 (tT 6) (tT 57)), oO 7 (.assign (tT 58))])
 (.ret))
 (.skip))))
 (.seq (.reg false [] [oO 59 (.load 57 (tT 3)), oO 60 (.load 71 (tT 4)), oO 61 (.load 63 (tT 5)), oO 62 (cF (.func 78) #[tT 59, tT 60, tT 61] #[57, 71, 63]), oO 63 (.extract (tT 62) 0), oO 64 (.extract (tT 62) 1), oN (.store 71 (tT 6) (tT 63)), oO 7 (.assign (tT 64))])
 .ret))))))))
theorem F37 : Fun1 Try.prog 37 65 c37 [.cell 6 71, .tmp 7] := Fun1.mk' AL.Try.follows_mixed Try.func37 rfl (by decide +kernel) Try.ntmps37 rfl (by kernel_rfl) rfl

/- proviso/provisoref03.Sub -/
/- proviso/step.Apply -/
def c39 : AC :=
.seq (.reg false [] [oO 3 (.box 57 (tT 0)), oO 4 (.box 71 (tT 1)), oO 5 (.box 63 (tT 2)), oO 6 (.alloc 71), oO 7 (.assign (kI 0))])
 (.seq (.seq (.reg false [] [oO 15 (.load 57 (tT 3)), oO 16 (cF (.func 80) #[tT 15] #[57]), oO 17 (.unOp .not 4 (tT 16))])
 (.cond (tT 17) (.seq (.reg false [] [oO 18 (.build 71 #[]), oN (.store 71 (tT 6) (tT 18)), oO 7 (.assign (kI 1))])
 (.ret))
 (.skip)))
 (.seq (.reg false [] [oO 19 (.fieldAddr 57 (tT 3) 0), oO 20 (.load 52 (tT 19)), oO 21 (.load 71 (tT 4)), oO 22 (cF (.func 81) #[tT 20, tT 21] #[52, 71]), oO 8 (.assign (tT 22))])
 (.seq (.seq (.reg false [] [oO 23 (.move (tT 8)), oO 24 (.binOp .neq 45 (tT 23) (kI 0) 45)])
 (.cond (tT 24) (.seq (.reg false [] [oO 25 (.build 71 #[]), oO 26 (.move (tT 8)), oN (.store 71 (tT 6) (tT 25)), oO 7 (.assign (tT 26))])
 (.ret))
 (.skip)))
 (.seq (.reg false [] [oO 28 (.load 57 (tT 3)), oO 29 (.load 63 (tT 5)), oO 30 (cF (.func 82) #[tT 28, tT 29] #[57, 63]), oO 27 (.move (tT 30)), oO 31 (.extract (tT 27) 0), oO 32 (.extract (tT 27) 1), oO 9 (.alloc 130), oN (.store 130 (tT 9) (tT 31)), oO 8 (.assign (tT 32))])
 (.seq (.reg false [] [oO 33 (.fieldAddr 63 (tT 5) 1), oO 34 (.load 5 (tT 33)), oO 35 (.binOp .eql 5 (tT 34) (kB 4) 5), oO 36 (.move (tT 35)), oG 37 (.fieldAddr 63 (tT 5) 1) 36 false, oG 38 (.load 5 (tT 37)) 36 false, oG 39 (.binOp .eql 5 (tT 38) (kB 5) 5) 36 false, oO 40 (.pick (tT 36) (.const (.bool true)) (tT 39)), oO 10 (.assign (tT 40))])
 (.seq (.seq (.reg false [] [oO 41 (.move (tT 8)), oO 42 (.binOp .eql 45 (tT 41) (kI 0) 45), oO 43 (.move (tT 42)), oG 44 (.move (tT 10)) 43 true, oO 45 (.pick (tT 43) (tT 44) (.const (.bool false))), oO 46 (.move (tT 45)), oG 47 (.fieldAddr 63 (tT 5) 2) 46 true, oG 48 (.load 3 (tT 47)) 46 true, oG 49 (.binOp .lss 3 (tT 48) (kI 0) 3) 46 true, oG 50 (.move (tT 49)) 46 true, oG 51 (.fieldAddr 63 (tT 5) 2) 50 false, oG 52 (.load 3 (tT 51)) 50 false, oG 53 (.fieldAddr 71 (tT 4) 0) 50 false, oG 54 (.load 3 (tT 53)) 50 false, oG 55 (.binOp .geq 3 (tT 52) (tT 54) 3) 50 false, oG 56 (.pick (tT 50) (.const (.bool true)) (tT 55)) 46 true, oO 57 (.pick (tT 46) (tT 56) (.const (.bool false)))])
 (.cond (tT 57) (.reg false [] [oO 8 (.assign (kI 33))])
 (.skip)))
 (.seq (.seq (.reg false [] [oO 58 (.move (tT 8)), oO 59 (.binOp .neq 45 (tT 58) (kI 0) 45)])
 (.cond (tT 59) (.seq (.reg false [] [oO 60 (.build 71 #[]), oO 61 (.move (tT 8)), oN (.store 71 (tT 6) (tT 60)), oO 7 (.assign (tT 61))])
 (.ret))
 (.skip)))
 (.seq (.reg false [] [oO 63 (.fieldAddr 57 (tT 3) 0), oO 64 (.load 52 (tT 63)), oO 65 (.load 71 (tT 4)), oO 66 (.fieldAddr 130 (tT 9) 0), oO 67 (.load 128 (tT 66)), oO 68 (cF (.func 83) #[tT 64, tT 65, tT 67] #[52, 71, 128]), oO 62 (.move (tT 68)), oO 69 (.extract (tT 62) 0), oO 70 (.extract (tT 62) 1), oO 11 (.assign (tT 69)), oO 8 (.assign (tT 70))])
 (.seq (.seq (.reg false [] [oO 71 (.move (tT 8)), oO 72 (.binOp .neq 45 (tT 71) (kI 0) 45)])
 (.cond (tT 72) (.seq (.reg false [] [oO 73 (.build 71 #[]), oO 74 (.move (tT 8)), oN (.store 71 (tT 6) (tT 73)), oO 7 (.assign (tT 74))])
 (.ret))
 (.skip)))
 (.seq (.reg false [] [oO 75 (.fieldAddr 130 (tT 9) 1), oO 76 (.load 85 (tT 75)), oO 77 (.move (tT 11)), oO 78 (cF (tT 76) #[tT 77] #[22]), oO 12 (.assign (tT 78))])
 (.seq (.seq (.reg false [] [oO 79 (.fieldAddr 63 (tT 5) 1), oO 80 (.load 5 (tT 79)), oO 81 (.binOp .eql 5 (tT 80) (kB 4) 5)])
 (.cond (tT 81) (.seq (.reg false [] [oO 83 (.load 71 (tT 4)), oO 84 (.fieldAddr 63 (tT 5) 2), oO 85 (.load 3 (tT 84)), oO 86 (cF (.func 84) #[tT 83, tT 85] #[71, 3]), oO 82 (.move (tT 86)), oO 87 (.extract (tT 82) 0), oO 88 (.extract (tT 82) 1), oO 13 (.assign (tT 87)), oO 14 (.assign (tT 88))])
 (.seq (.seq (.reg false [] [oO 89 (.move (tT 13)), oO 90 (.binOp .eql 23 (tT 89) (kB 0) 23)])
 (.cond (tT 90) (.seq (.reg false [] [oO 91 (.build 71 #[]), oN (.store 71 (tT 6) (tT 91)), oO 7 (.assign (kI 70))])
 (.ret))
 (.skip)))
 (.reg false [] [oO 92 (.move (tT 13)), oO 93 (.buildSlice 22 1 #[(0, .tmp 92)]), oO 12 (.assign (tT 93))])))
 (.skip)))
 (.seq (.reg false [] [oO 94 (.load 71 (tT 4)), oO 95 (.load 63 (tT 5)), oO 96 (.move (tT 11)), oO 97 (.move (tT 12)), oO 98 (cF (.func 85) #[tT 94, tT 95, tT 96, tT 97] #[71, 63, 22, 22]), oO 99 (.extract (tT 98) 0), oO 100 (.extract (tT 98) 1), oN (.store 71 (tT 6) (tT 99)), oO 7 (.assign (tT 100))])
 .ret))))))))))))
theorem F39 : Fun1 Try.prog 39 101 c39 [.cell 6 71, .tmp 7] := Fun1.mk' AL.Try.follows_mixed Try.func39 rfl (by decide +kernel) Try.ntmps39 rfl (by kernel_rfl) rfl

/- proviso/provisoref03.Check -/
def c40 : AC :=
.seq (.reg false [] [oO 3 (.box 71 (tT 1)), oO 4 (.assign (kI 0))])
 (.seq (.seq (.reg false [] [oO 7 (.load 71 (tT 3)), oO 8 (cF (.func 86) #[tT 7] #[71]), oO 9 (.unOp .not 4 (tT 8))])
 (.cond (tT 9) (.seq (.reg false [] [oO 4 (.assign (kI 32))])
 (.ret))
 (.skip)))
 (.seq (.seq (.reg false [] [oO 10 (.fieldAddr 71 (tT 3) 0), oO 11 (.load 3 (tT 10)), oO 12 (.fieldAddr 71 (tT 3) 1), oO 13 (.load 3 (tT 12)), oO 14 (.binOp .add 3 (tT 11) (tT 13) 3), oO 5 (.assign (tT 14))])
 (.block 0 (.loop (.seq (.seq (.reg false [] [oO 15 (.move (tT 5)), oO 16 (.binOp .lss 3 (tT 15) (kI 24) 3)])
 (.cond (tT 16) (.skip)
 (.exit 0)))
 (.seq (.block 1 (.seq (.reg false [] [oO 19 (.move (tT 5)), oO 20 (.fieldAddr 71 (tT 3) 2), oO 21 (.indexAddr 69 (tT 20) (tT 19)), oO 22 (.load 23 (tT 21)), oO 23 (.binOp .neq 23 (tT 22) (kB 0) 23)])
 (.cond (tT 23) (.seq (.reg false [] [oO 4 (.assign (kI 32))])
 (.ret))
 (.skip))))
 (.reg false [] [oO 17 (.move (tT 5)), oO 18 (.binOp .add 3 (tT 17) (kI 1) 3), oO 5 (.assign (tT 18))]))))))
 (.seq (.seq (.reg false [] [oO 6 (.assign (kI 0))])
 (.block 2 (.loop (.seq (.seq (.reg false [] [oO 24 (.move (tT 6)), oO 25 (.fieldAddr 71 (tT 3) 0), oO 26 (.load 3 (tT 25)), oO 27 (.fieldAddr 71 (tT 3) 1), oO 28 (.load 3 (tT 27)), oO 29 (.binOp .add 3 (tT 26) (tT 28) 3), oO 30 (.binOp .lss 3 (tT 24) (tT 29) 3)])
 (.cond (tT 30) (.skip)
 (.exit 2)))
 (.seq (.block 3 (.seq (.reg false [] [oO 33 (.move (tT 0)), oO 34 (.move (tT 6)), oO 35 (.fieldAddr 71 (tT 3) 2), oO 36 (.indexAddr 69 (tT 35) (tT 34)), oO 37 (.load 23 (tT 36)), oO 38 (cF (.func 87) #[tT 33, tT 37] #[52, 23]), oO 39 (.unOp .not 4 (tT 38))])
 (.cond (tT 39) (.seq (.reg false [] [oO 4 (.assign (kI 22))])
 (.ret))
 (.skip))))
 (.reg false [] [oO 31 (.move (tT 6)), oO 32 (.binOp .add 3 (tT 31) (kI 1) 3), oO 6 (.assign (tT 32))]))))))
 (.seq (.reg false [] [oO 4 (.assign (kI 0))])
 .ret))))
theorem F40 : Fun1 Try.prog 40 40 c40 [.tmp 4] := Fun1.mk' AL.Try.follows_mixed Try.func40 rfl (by decide +kernel) Try.ntmps40 rfl (by kernel_rfl) rfl

/- proviso/provisoref07.apply -/
def c78_10 : AC :=
.seq (.seq (.reg false [] [oO 126 (.move (tT 9)), oO 127 (cB .len #[tT 126] #[22]), oO 128 (.move (kI 0))])
 (.block 3 (.loop (.seq (.reg false [] [oO 129 (.binOp .lss 3 (tT 128) (tT 127) 3)])
 (.seq (.cond (tT 129) (.skip)
 (.exit 3))
 (.seq (.block 4 (.reg false [] [oO 131 (.load 71 (tT 4)), oO 132 (cF (.func 118) #[tT 131] #[71]), oO 130 (.move (tT 132)), oO 133 (.extract (tT 130) 0), oO 134 (.extract (tT 130) 1), oO 135 (.extract (tT 130) 2), oN (.store 71 (tT 4) (tT 133))]))
 (.reg false [] [oO 136 (.binOp .add 3 (tT 128) (kI 1) 3), oO 128 (.move (tT 136))])))))))
 (.seq (.seq (.reg false [] [oO 137 (.fieldAddr 63 (tT 5) 1), oO 138 (.load 5 (tT 137)), oO 139 (.binOp .eql 5 (tT 138) (kB 22) 5), oO 140 (.move (tT 139)), oG 141 (.fieldAddr 71 (tT 4) 1) 140 true, oG 142 (.load 3 (tT 141)) 140 true, oG 143 (.binOp .gtr 3 (tT 142) (kI 0) 3) 140 true, oO 144 (.pick (tT 140) (tT 143) (.const (.bool false)))])
 (.cond (tT 144) (.seq (.reg false [] [oO 145 (.load 71 (tT 8)), oN (.store 71 (tT 6) (tT 145)), oO 7 (.assign (kI 73))])
 (.ret))
 (.skip)))
 (.seq (.seq (.reg false [] [oO 146 (.fieldAddr 63 (tT 5) 1), oO 147 (.load 5 (tT 146)), oO 148 (.binOp .eql 5 (tT 147) (kB 5) 5)])
 (.cond (tT 148) (.reg true [] [⟨⟨some 149, .fieldAddr 63 (tT 5) 2, none⟩, false, true⟩, ⟨⟨some 150, .load 3 (tT 149), none⟩, false, true⟩, ⟨⟨some 151, .move (tT 11), none⟩, false, true⟩, ⟨⟨some 152, .indexAddr 22 (tT 151) (kI 0), none⟩, false, true⟩, ⟨⟨some 153, .load 23 (tT 152), none⟩, false, true⟩, oO 154 (.fieldAddr 71 (tT 4) 2), oO 155 (.indexAddr 69 (tT 154) (tT 150)), oN (.store 23 (tT 155) (tT 153))])
 (.skip)))
 (.seq (.seq (.reg false [] [oO 156 (.move (tT 15)), oO 157 (cB .len #[tT 156] #[22]), oO 158 (.move (kI 0))])
 (.block 5 (.loop (.seq (.reg false [] [oO 159 (.binOp .lss 3 (tT 158) (tT 157) 3)])
 (.seq (.cond (tT 159) (.skip)
 (.exit 5))
 (.seq (.block 6 (.seq (.reg false [] [oO 160 (.indexAddr 22 (tT 156) (tT 158)), oO 161 (.load 23 (tT 160)), oO 17 (.assign (tT 161))])
 (.seq (.reg false [] [oO 163 (.load 71 (tT 4)), oO 164 (.move (tT 17)), oO 165 (cF (.func 119) #[tT 163, tT 164] #[71, 23]), oO 162 (.move (tT 165)), oO 166 (.extract (tT 162) 0), oO 167 (.extract (tT 162) 1), oO 18 (.alloc 71), oN (.store 71 (tT 18) (tT 166)), oO 19 (.assign (tT 167))])
 (.seq (.seq (.reg false [] [oO 168 (.move (tT 19)), oO 169 (.binOp .neq 45 (tT 168) (kI 0) 45)])
 (.cond (tT 169) (.seq (.reg false [] [oO 170 (.load 71 (tT 8)), oO 171 (.move (tT 19)), oN (.store 71 (tT 6) (tT 170)), oO 7 (.assign (tT 171))])
 (.ret))
 (.skip)))
 (.reg false [] [oO 172 (.load 71 (tT 18)), oN (.store 71 (tT 4) (tT 172))])))))
 (.reg false [] [oO 173 (.binOp .add 3 (tT 158) (kI 1) 3), oO 158 (.move (tT 173))])))))))
 (.seq (.reg false [] [oO 174 (.load 71 (tT 4)), oN (.store 71 (tT 6) (tT 174)), oO 7 (.assign (kI 0))])
 .ret))))
def c78 : AC :=
.seq (.reg false [] [oO 3 (.box 57 (tT 0)), oO 4 (.box 71 (tT 1)), oO 5 (.box 63 (tT 2)), oO 6 (.alloc 71), oO 7 (.assign (kI 0))])
 (.seq (.reg false [] [oO 20 (.build 71 #[]), oO 8 (.alloc 71), oN (.store 71 (tT 8) (tT 20))])
 (.seq (.reg false [] [oO 21 (.load 57 (tT 3)), oO 22 (.load 63 (tT 5)), oO 23 (cF (.func 76) #[tT 21, tT 22] #[57, 63]), oO 9 (.assign (tT 23))])
 (.seq (.seq (.reg false [] [oO 24 (.fieldAddr 71 (tT 4) 1), oO 25 (.load 3 (tT 24)), oO 26 (.move (tT 9)), oO 27 (cB .len #[tT 26] #[22]), oO 28 (.binOp .lss 3 (tT 25) (tT 27) 3)])
 (.cond (tT 28) (.seq (.reg false [] [oO 29 (.load 71 (tT 8)), oN (.store 71 (tT 6) (tT 29)), oO 7 (.assign (kI 30))])
 (.ret))
 (.skip)))
 (.seq (.reg false [] [oO 30 (.fieldAddr 71 (tT 4) 0), oO 31 (.load 3 (tT 30)), oO 32 (.fieldAddr 71 (tT 4) 1), oO 33 (.load 3 (tT 32)), oO 34 (.binOp .add 3 (tT 31) (tT 33) 3), oO 35 (.move (tT 9)), oO 36 (cB .len #[tT 35] #[22]), oO 37 (.binOp .sub 3 (tT 34) (tT 36) 3), oO 10 (.assign (tT 37))])
 (.seq (.reg false [] [oO 11 (.assign (.const (.slice none 0 0)))])
 (.seq (.seq (.reg false [] [oO 38 (.move (tT 9)), oO 39 (cB .len #[tT 38] #[22]), oO 40 (.move (kI 0))])
 (.block 0 (.loop (.seq (.reg false [] [oO 41 (.binOp .lss 3 (tT 40) (tT 39) 3)])
 (.seq (.cond (tT 41) (.skip)
 (.exit 0))
 (.seq (.block 1 (.seq (.reg false [] [oO 42 (.move (tT 40)), oO 43 (.indexAddr 22 (tT 38) (tT 40)), oO 44 (.load 23 (tT 43)), oO 12 (.assign (tT 42)), oO 13 (.assign (tT 44))])
 (.seq (.reg false [] [oO 45 (.move (tT 10)), oO 46 (.move (tT 12)), oO 47 (.binOp .add 3 (tT 45) (tT 46) 3), oO 48 (.fieldAddr 71 (tT 4) 2), oO 49 (.indexAddr 69 (tT 48) (tT 47)), oO 50 (.load 23 (tT 49)), oO 14 (.assign (tT 50))])
 (.seq (.seq (.reg false [] [oO 51 (.fieldAddr 57 (tT 3) 0), oO 52 (.load 52 (tT 51)), oO 53 (.move (tT 14)), oO 54 (.move (tT 13)), oO 55 (cF (.func 117) #[tT 52, tT 53, tT 54] #[52, 23, 23]), oO 56 (.unOp .not 4 (tT 55))])
 (.cond (tT 56) (.seq (.reg false [] [oO 57 (.load 71 (tT 8)), oN (.store 71 (tT 6) (tT 57)), oO 7 (.assign (kI 70))])
 (.ret))
 (.skip)))
 (.reg false [] [oO 58 (.move (tT 11)), oO 59 (.move (tT 14)), oO 60 (.buildSlice 22 1 #[(0, .tmp 59)]), oO 61 (cB .append #[tT 58, tT 60] #[22, 22]), oO 11 (.assign (tT 61))])))))
 (.reg false [] [oO 62 (.binOp .add 3 (tT 40) (kI 1) 3), oO 40 (.move (tT 62))])))))))
 (.seq (.seq (.reg true [] [oO 63 (.fieldAddr 63 (tT 5) 1), oO 64 (.load 5 (tT 63)), oO 65 (.binOp .eql 5 (tT 64) (kB 16) 5), oO 66 (.move (tT 65)), ⟨⟨some 67, .move (tT 11), some (66, true)⟩, false, true⟩, ⟨⟨some 68, .indexAddr 22 (tT 67) (kI 0), some (66, true)⟩, false, true⟩, ⟨⟨some 69, .load 23 (tT 68), some (66, true)⟩, false, true⟩, oG 70 (.move (tT 11)) 66 true, oG 71 (.indexAddr 22 (tT 70) (kI 1)) 66 true, oG 72 (.load 23 (tT 71)) 66 true, oG 73 (.binOp .neq 23 (tT 69) (tT 72) 23) 66 true, oG 74 (.move (tT 73)) 66 true, oG 75 (.move (tT 11)) 74 false, oG 76 (.indexAddr 22 (tT 75) (kI 0)) 74 false, oG 77 (.load 23 (tT 76)) 74 false, oG 78 (.binOp .neq 23 (tT 77) (kB 1) 23) 74 false, oG 79 (.move (tT 78)) 74 false, oG 80 (.move (tT 11)) 79 true, oG 81 (.indexAddr 22 (tT 80) (kI 0)) 79 true, oG 82 (.load 23 (tT 81)) 79 true, oG 83 (.binOp .neq 23 (tT 82) (kB 2) 23) 79 true, oG 84 (.pick (tT 79) (tT 83) (.const (.bool false))) 74 false, oG 85 (.pick (tT 74) (.const (.bool true)) (tT 84)) 66 true, oO 86 (.pick (tT 66) (tT 85) (.const (.bool false)))])
 (.cond (tT 86) (.seq (.reg false [] [oO 87 (.load 71 (tT 8)), oN (.store 71 (tT 6) (tT 87)), oO 7 (.assign (kI 70))])
 (.ret))
 (.skip)))
 (.seq (.reg false [] [oO 88 (.load 57 (tT 3)), oO 89 (.load 63 (tT 5)), oO 90 (cF (.func 77) #[tT 88, tT 89] #[57, 63]), oO 15 (.assign (tT 90))])
 (.seq (.seq (.reg false [] [oO 91 (.fieldAddr 63 (tT 5) 1), oO 92 (.load 5 (tT 91))])
 (.block 2 (.seq (.reg false [] [oO 94 (.binOp .eql 5 (tT 92) (kB 4) 5), oO 93 (.assign (tT 94))])
 (.cond (tT 93) (.seq (.seq (.reg false [] [oO 95 (.fieldAddr 63 (tT 5) 2), oO 96 (.load 3 (tT 95)), oO 97 (.fieldAddr 71 (tT 4) 2), oO 98 (.indexAddr 69 (tT 97) (tT 96)), oO 99 (.load 23 (tT 98)), oO 100 (.binOp .eql 23 (tT 99) (kB 0) 23)])
 (.cond (tT 100) (.seq (.reg false [] [oO 101 (.load 71 (tT 8)), oN (.store 71 (tT 6) (tT 101)), oO 7 (.assign (kI 70))])
 (.ret))
 (.skip)))
 (.reg false [] [oO 102 (.fieldAddr 63 (tT 5) 2), oO 103 (.load 3 (tT 102)), oO 104 (.fieldAddr 71 (tT 4) 2), oO 105 (.indexAddr 69 (tT 104) (tT 103)), oO 106 (.load 23 (tT 105)), oO 107 (.buildSlice 22 1 #[(0, .tmp 106)]), oO 15 (.assign (tT 107))]))
 (.seq (.reg false [] [oO 109 (.binOp .eql 5 (tT 92) (kB 7) 5), oO 108 (.assign (tT 109))])
 (.cond (tT 108) (.reg true [] [⟨⟨some 110, .move (tT 11), none⟩, false, true⟩, ⟨⟨some 111, .indexAddr 22 (tT 110) (kI 0), none⟩, false, true⟩, ⟨⟨some 112, .load 23 (tT 111), none⟩, false, true⟩, oO 113 (.move (tT 11)), oO 114 (.indexAddr 22 (tT 113) (kI 0)), oO 115 (.load 23 (tT 114)), oO 116 (.buildSlice 22 2 #[(0, .tmp 112), (1, .tmp 115)]), oO 15 (.assign (tT 116))])
 (.seq (.reg false [] [oO 118 (.binOp .eql 5 (tT 92) (kB 8) 5), oO 117 (.assign (tT 118))])
 (.cond (tT 117) (.reg true [] [⟨⟨some 119, .move (tT 11), none⟩, false, true⟩, ⟨⟨some 120, .indexAddr 22 (tT 119) (kI 1), none⟩, false, true⟩, ⟨⟨some 121, .load 23 (tT 120), none⟩, false, true⟩, oO 122 (.move (tT 11)), oO 123 (.indexAddr 22 (tT 122) (kI 0)), oO 124 (.load 23 (tT 123)), oO 125 (.buildSlice 22 2 #[(0, .tmp 121), (1, .tmp 124)]), oO 15 (.assign (tT 125))])
 (.skip)))))))))
 c78_10)))))))))
theorem F78 : Fun1 Try.prog 78 175 c78 [.cell 6 71, .tmp 7] := Fun1.mk' AL.Try.follows_mixed Try.func78 rfl (by decide +kernel) Try.ntmps78 rfl (by kernel_rfl) rfl

/- proviso/provisoref02.Sub -/
def c79 : AC :=
.seq (.reg false [] [oO 6 (.assign (.const (.bool false)))])
 (.seq (.seq (.reg false [] [oO 9 (.move (tT 0)), oO 10 (.move (tT 1)), oO 11 (cF (.func 87) #[tT 9, tT 10] #[52, 23]), oO 12 (.unOp .not 4 (tT 11)), oO 13 (.move (tT 12)), oG 14 (.move (tT 0)) 13 false, oG 15 (.move (tT 2)) 13 false, oG 16 (cF (.func 87) #[tT 14, tT 15] #[52, 23]) 13 false, oG 17 (.unOp .not 4 (tT 16)) 13 false, oO 18 (.pick (tT 13) (.const (.bool true)) (tT 17))])
 (.cond (tT 18) (.seq (.reg false [] [oO 6 (.assign (.const (.bool false)))])
 (.ret))
 (.skip)))
 (.seq (.seq (.reg false [] [oO 19 (.move (tT 1)), oO 20 (.move (tT 2)), oO 21 (.binOp .eql 23 (tT 19) (tT 20) 23), oO 22 (.move (tT 21)), oG 23 (.move (tT 2)) 22 false, oG 24 (.binOp .eql 23 (tT 23) (kB 0) 23) 22 false, oO 25 (.pick (tT 22) (.const (.bool true)) (tT 24)), oO 26 (.move (tT 25)), oG 27 (.move (tT 1)) 26 false, oG 28 (.binOp .eql 23 (tT 27) (kB 3) 23) 26 false, oG 29 (.move (tT 28)) 26 false, oG 30 (.move (tT 2)) 29 true, oG 31 (cF (.func 120) #[tT 30] #[23]) 29 true, oG 32 (.pick (tT 29) (tT 31) (.const (.bool false))) 26 false, oO 33 (.pick (tT 26) (.const (.bool true)) (tT 32)), oO 34 (.move (tT 33)), oG 35 (.move (tT 1)) 34 false, oG 36 (cF (.func 120) #[tT 35] #[23]) 34 false, oG 37 (.move (tT 36)) 34 false, oG 38 (.move (tT 2)) 37 true, oG 39 (.binOp .eql 23 (tT 38) (kB 5) 23) 37 true, oG 40 (.pick (tT 37) (tT 39) (.const (.bool false))) 34 false, oO 41 (.pick (tT 34) (.const (.bool true)) (tT 40))])
 (.cond (tT 41) (.seq (.reg false [] [oO 6 (.assign (.const (.bool true)))])
 (.ret))
 (.skip)))
 (.seq (.seq (.reg false [] [oO 42 (.move (tT 1)), oO 43 (.binOp .lss 23 (tT 42) (kB 16) 23), oO 44 (.move (tT 43)), oG 45 (.move (tT 2)) 44 false, oG 46 (.binOp .lss 23 (tT 45) (kB 16) 23) 44 false, oO 47 (.pick (tT 44) (.const (.bool true)) (tT 46))])
 (.cond (tT 47) (.seq (.reg false [] [oO 6 (.assign (.const (.bool false)))])
 (.ret))
 (.skip)))
 (.seq (.reg false [] [oO 48 (.move (tT 0)), oO 49 (.move (tT 1)), oO 50 (.binOp .sub 23 (tT 49) (kB 16) 23), oO 51 (.convert 23 3 (tT 50)), oO 52 (cF (.func 121) #[tT 48, tT 51] #[52, 3]), oO 7 (.assign (tT 52))])
 (.seq (.seq (.reg false [] [oO 8 (.assign (kI 0))])
 (.block 0 (.loop (.seq (.seq (.reg false [] [oO 53 (.move (tT 8)), oO 54 (.move (tT 7)), oO 55 (cB .len #[tT 54] #[26]), oO 56 (.binOp .lss 3 (tT 53) (tT 55) 3)])
 (.cond (tT 56) (.skip)
 (.exit 0)))
 (.seq (.block 1 (.seq (.reg false [] [oO 59 (.move (tT 7)), oO 60 (.move (tT 8)), oO 61 (.indexAddr 26 (tT 59) (tT 60)), oO 62 (.load 3 (tT 61)), oO 63 (.move (tT 2)), oO 64 (.binOp .sub 23 (tT 63) (kB 16) 23), oO 65 (.convert 23 3 (tT 64)), oO 66 (.binOp .eql 3 (tT 62) (tT 65) 3)])
 (.cond (tT 66) (.seq (.reg false [] [oO 6 (.assign (.const (.bool true)))])
 (.ret))
 (.skip))))
 (.reg false [] [oO 57 (.move (tT 8)), oO 58 (.binOp .add 3 (tT 57) (kI 1) 3), oO 8 (.assign (tT 58))]))))))
 (.seq (.reg false [] [oO 6 (.assign (.const (.bool false)))])
 .ret))))))
theorem F79 : Fun1 Try.prog 79 67 c79 [.tmp 6] := Fun1.mk' AL.Try.follows_mixed Try.func79 rfl (by decide +kernel) Try.ntmps79 rfl (by kernel_rfl) rfl

/- proviso/frames.Check -/
def c81 : AC :=
.seq (.reg false [] [oO 3 (.box 71 (tT 1)), oO 4 (.assign (kI 0))])
 (.seq (.seq (.reg true [3] [oO 7 (.load 71 (tT 3)), oO 8 (cF (.func 123) #[tT 7] #[71]), oO 9 (.unOp .not 4 (tT 8)), oO 10 (.move (tT 9)), ⟨⟨some 11, .load 71 (tT 3), some (10, false)⟩, false, true⟩, ⟨⟨some 12, cF (.func 124) #[tT 11] #[71], some (10, false)⟩, false, true⟩, ⟨⟨some 13, .load 71 (tT 3), some (10, false)⟩, true, false⟩, oG 14 (.binOp .neq 71 (tT 12) (tT 13) 71) 10 false, oO 15 (.pick (tT 10) (.const (.bool true)) (tT 14))])
 (.cond (tT 15) (.seq (.reg false [] [oO 4 (.assign (kI 32))])
 (.ret))
 (.skip)))
 (.seq (.seq (.reg false [] [oO 16 (.fieldAddr 71 (tT 3) 2), oO 17 (.load 69 (tT 16)), oO 18 (.move (kI 0))])
 (.block 0 (.loop (.seq (.reg false [] [oO 19 (.binOp .lss 3 (tT 18) (kI 24) 3)])
 (.seq (.cond (tT 19) (.skip)
 (.exit 0))
 (.seq (.block 1 (.seq (.reg false [] [oO 20 (.index 69 (tT 17) (tT 18)), oO 6 (.assign (tT 20))])
 (.seq (.reg false [] [oO 21 (.move (tT 0)), oO 22 (.move (tT 6)), oO 23 (cF (.func 105) #[tT 21, tT 22] #[52, 23]), oO 24 (.unOp .not 4 (tT 23))])
 (.cond (tT 24) (.seq (.reg false [] [oO 4 (.assign (kI 22))])
 (.ret))
 (.skip)))))
 (.reg false [] [oO 25 (.binOp .add 3 (tT 18) (kI 1) 3), oO 18 (.move (tT 25))])))))))
 (.seq (.reg false [] [oO 4 (.assign (kI 0))])
 .ret)))
theorem F81 : Fun1 Try.prog 81 26 c81 [.tmp 4] := Fun1.mk' AL.Try.follows_mixed Try.func81 rfl (by decide +kernel) Try.ntmps81 rfl (by kernel_rfl) rfl

/- proviso/step.taken -/
def c83 : AC :=
.seq (.reg false [] [oO 4 (.box 71 (tT 1)), oO 6 (.assign (.const (.slice none 0 0))), oO 7 (.assign (kI 0))])
 (.seq (.seq (.reg false [] [oO 14 (.fieldAddr 71 (tT 4) 1), oO 15 (.load 3 (tT 14)), oO 16 (.move (tT 2)), oO 17 (cB .len #[tT 16] #[128]), oO 18 (.binOp .lss 3 (tT 15) (tT 17) 3)])
 (.cond (tT 18) (.seq (.reg false [] [oO 6 (.assign (.const (.slice none 0 0))), oO 7 (.assign (kI 30))])
 (.ret))
 (.skip)))
 (.seq (.reg false [] [oO 8 (.assign (.const (.slice none 0 0)))])
 (.seq (.seq (.reg false [] [oO 19 (.move (tT 2)), oO 20 (cB .len #[tT 19] #[128]), oO 21 (.move (kI 0))])
 (.block 0 (.loop (.seq (.reg false [] [oO 22 (.binOp .lss 3 (tT 21) (tT 20) 3)])
 (.seq (.cond (tT 22) (.skip)
 (.exit 0))
 (.seq (.block 1 (.seq (.reg false [] [oO 23 (.move (tT 21)), oO 9 (.assign (tT 23))])
 (.seq (.reg false [] [oO 25 (.load 71 (tT 4)), oO 26 (.move (tT 2)), oO 27 (cB .len #[tT 26] #[128]), oO 28 (.binOp .sub 3 (tT 27) (kI 1) 3), oO 29 (.move (tT 9)), oO 30 (.binOp .sub 3 (tT 28) (tT 29) 3), oO 31 (cF (.func 127) #[tT 25, tT 30] #[71, 3]), oO 24 (.move (tT 31)), oO 32 (.extract (tT 24) 0), oO 33 (.extract (tT 24) 1), oO 10 (.assign (tT 32)), oO 11 (.assign (tT 33))])
 (.reg false [] [oO 34 (.move (tT 8)), oO 35 (.move (tT 10)), oO 36 (.buildSlice 22 1 #[(0, .tmp 35)]), oO 37 (cB .append #[tT 34, tT 36] #[22, 22]), oO 8 (.assign (tT 37))]))))
 (.reg false [] [oO 38 (.binOp .add 3 (tT 21) (kI 1) 3), oO 21 (.move (tT 38))])))))))
 (.seq (.seq (.reg false [] [oO 39 (.move (tT 8)), oO 40 (cB .len #[tT 39] #[22]), oO 41 (.move (kI 0))])
 (.block 2 (.loop (.seq (.reg false [] [oO 42 (.binOp .lss 3 (tT 41) (tT 40) 3)])
 (.seq (.cond (tT 42) (.skip)
 (.exit 2))
 (.seq (.block 3 (.seq (.reg false [] [oO 43 (.move (tT 41)), oO 44 (.indexAddr 22 (tT 39) (tT 41)), oO 45 (.load 23 (tT 44)), oO 12 (.assign (tT 43)), oO 13 (.assign (tT 45))])
 (.seq (.reg true [] [⟨⟨some 46, .move (tT 0), none⟩, false, true⟩, ⟨⟨some 47, .move (tT 2), none⟩, false, true⟩, ⟨⟨some 48, .move (tT 12), none⟩, false, true⟩, ⟨⟨some 49, .indexAddr 128 (tT 47) (tT 48), none⟩, false, true⟩, ⟨⟨some 50, .load 188 (tT 49), none⟩, false, true⟩, ⟨⟨some 51, .move (tT 13), none⟩, false, true⟩, oO 52 (.move (tT 8)), oO 53 (.indexAddr 22 (tT 52) (kI 0)), oO 54 (.load 23 (tT 53)), oO 55 (cF (.func 128) #[tT 46, tT 50, tT 51, tT 54] #[52, 188, 23, 23]), oO 56 (.unOp .not 4 (tT 55))])
 (.cond (tT 56) (.seq (.reg false [] [oO 6 (.assign (.const (.slice none 0 0))), oO 7 (.assign (kI 70))])
 (.ret))
 (.skip)))))
 (.reg false [] [oO 57 (.binOp .add 3 (tT 41) (kI 1) 3), oO 41 (.move (tT 57))])))))))
 (.seq (.reg false [] [oO 58 (.move (tT 8)), oO 6 (.assign (tT 58)), oO 7 (.assign (kI 0))])
 .ret)))))
theorem F83 : Fun1 Try.prog 83 59 c83 [.tmp 6, .tmp 7] := Fun1.mk' AL.Try.follows_mixed Try.func83 rfl (by decide +kernel) Try.ntmps83 rfl (by kernel_rfl) rfl

/- proviso/frames.Load -/
def c84 : AC :=
.seq (.reg false [] [oO 2 (.box 71 (tT 0)), oO 4 (.assign (kB 0)), oO 5 (.assign (kI 0))])
 (.seq (.block 0 (.seq (.reg false [] [oO 7 (.load 71 (tT 2)), oO 8 (cF (.func 123) #[tT 7] #[71]), oO 9 (.unOp .not 4 (tT 8)), oO 6 (.assign (tT 9))])
 (.cond (tT 6) (.seq (.reg false [] [oO 4 (.assign (kB 0)), oO 5 (.assign (kI 32))])
 (.ret))
 (.seq (.reg false [] [oO 11 (.move (tT 1)), oO 12 (.binOp .lss 3 (tT 11) (kI 0) 3), oO 13 (.move (tT 12)), oG 14 (.move (tT 1)) 13 false, oG 15 (.fieldAddr 71 (tT 2) 0) 13 false, oG 16 (.load 3 (tT 15)) 13 false, oG 17 (.binOp .geq 3 (tT 14) (tT 16) 3) 13 false, oO 18 (.pick (tT 13) (.const (.bool true)) (tT 17)), oO 10 (.assign (tT 18))])
 (.cond (tT 10) (.seq (.reg false [] [oO 4 (.assign (kB 0)), oO 5 (.assign (kI 33))])
 (.ret))
 (.skip))))))
 (.seq (.reg false [] [oO 19 (.move (tT 1)), oO 20 (.fieldAddr 71 (tT 2) 2), oO 21 (.indexAddr 69 (tT 20) (tT 19)), oO 22 (.load 23 (tT 21)), oO 4 (.assign (tT 22)), oO 5 (.assign (kI 0))])
 .ret))
theorem F84 : Fun1 Try.prog 84 23 c84 [.tmp 4, .tmp 5] := Fun1.mk' AL.Try.follows_mixed Try.func84 rfl (by decide +kernel) Try.ntmps84 rfl (by kernel_rfl) rfl

/- proviso/step.behind -/
def c85 : AC :=
.seq (.reg false [] [oO 4 (.box 71 (tT 0)), oO 5 (.box 63 (tT 1)), oO 8 (.alloc 71), oO 9 (.assign (kI 0))])
 (.seq (.seq (.reg false [] [oO 14 (.move (tT 2)), oO 15 (cB .len #[tT 14] #[22]), oO 16 (.move (kI 0))])
 (.block 0 (.loop (.seq (.reg false [] [oO 17 (.binOp .lss 3 (tT 16) (tT 15) 3)])
 (.seq (.cond (tT 17) (.skip)
 (.exit 0))
 (.seq (.block 1 (.reg false [] [oO 19 (.load 71 (tT 4)), oO 20 (cF (.func 129) #[tT 19] #[71]), oO 18 (.move (tT 20)), oO 21 (.extract (tT 18) 0), oO 22 (.extract (tT 18) 1), oO 23 (.extract (tT 18) 2), oN (.store 71 (tT 4) (tT 21))]))
 (.reg false [] [oO 24 (.binOp .add 3 (tT 16) (kI 1) 3), oO 16 (.move (tT 24))])))))))
 (.seq (.seq (.reg false [] [oO 25 (.fieldAddr 63 (tT 5) 1), oO 26 (.load 5 (tT 25)), oO 27 (.binOp .eql 5 (tT 26) (kB 22) 5), oO 28 (.move (tT 27)), oG 29 (.fieldAddr 71 (tT 4) 1) 28 true, oG 30 (.load 3 (tT 29)) 28 true, oG 31 (.binOp .gtr 3 (tT 30) (kI 0) 3) 28 true, oO 32 (.pick (tT 28) (tT 31) (.const (.bool false)))])
 (.cond (tT 32) (.seq (.reg false [] [oO 33 (.build 71 #[]), oN (.store 71 (tT 8) (tT 33)), oO 9 (.assign (kI 73))])
 (.ret))
 (.skip)))
 (.seq (.seq (.reg false [] [oO 34 (.fieldAddr 63 (tT 5) 1), oO 35 (.load 5 (tT 34)), oO 36 (.binOp .eql 5 (tT 35) (kB 5) 5)])
 (.cond (tT 36) (.reg true [] [⟨⟨some 38, .load 71 (tT 4), none⟩, false, true⟩, ⟨⟨some 39, .fieldAddr 63 (tT 5) 2, none⟩, false, true⟩, ⟨⟨some 40, .load 3 (tT 39), none⟩, false, true⟩, oO 41 (.move (tT 2)), oO 42 (.indexAddr 22 (tT 41) (kI 0)), oO 43 (.load 23 (tT 42)), oO 44 (cF (.func 130) #[tT 38, tT 40, tT 43] #[71, 3, 23]), oO 37 (.move (tT 44)), ⟨⟨some 45, .extract (tT 37) 0, none⟩, false, true⟩, ⟨⟨some 46, .extract (tT 37) 1, none⟩, true, true⟩, oN (.store 71 (tT 4) (tT 45))])
 (.skip)))
 (.seq (.seq (.reg false [] [oO 47 (.move (tT 3)), oO 48 (cB .len #[tT 47] #[22]), oO 49 (.move (kI 0))])
 (.block 2 (.loop (.seq (.reg false [] [oO 50 (.binOp .lss 3 (tT 49) (tT 48) 3)])
 (.seq (.cond (tT 50) (.skip)
 (.exit 2))
 (.seq (.block 3 (.seq (.reg false [] [oO 51 (.indexAddr 22 (tT 47) (tT 49)), oO 52 (.load 23 (tT 51)), oO 11 (.assign (tT 52))])
 (.seq (.reg false [] [oO 54 (.load 71 (tT 4)), oO 55 (.move (tT 11)), oO 56 (cF (.func 131) #[tT 54, tT 55] #[71, 23]), oO 53 (.move (tT 56)), oO 57 (.extract (tT 53) 0), oO 58 (.extract (tT 53) 1), oO 12 (.alloc 71), oN (.store 71 (tT 12) (tT 57)), oO 13 (.assign (tT 58))])
 (.seq (.seq (.reg false [] [oO 59 (.move (tT 13)), oO 60 (.binOp .neq 45 (tT 59) (kI 0) 45)])
 (.cond (tT 60) (.seq (.reg false [] [oO 61 (.build 71 #[]), oO 62 (.move (tT 13)), oN (.store 71 (tT 8) (tT 61)), oO 9 (.assign (tT 62))])
 (.ret))
 (.skip)))
 (.reg false [] [oO 63 (.load 71 (tT 12)), oN (.store 71 (tT 4) (tT 63))])))))
 (.reg false [] [oO 64 (.binOp .add 3 (tT 49) (kI 1) 3), oO 49 (.move (tT 64))])))))))
 (.seq (.reg false [] [oO 65 (.load 71 (tT 4)), oN (.store 71 (tT 8) (tT 65)), oO 9 (.assign (kI 0))])
 .ret)))))
theorem F85 : Fun1 Try.prog 85 66 c85 [.cell 8 71, .tmp 9] := Fun1.mk' AL.Try.follows_mixed Try.func85 rfl (by decide +kernel) Try.ntmps85 rfl (by kernel_rfl) rfl

/- proviso/provisoref03.Shape -/
def c86 : AC :=
.seq (.reg false [] [oO 1 (.box 71 (tT 0)), oO 2 (.assign (.const (.bool false)))])
 (.seq (.reg false [] [oO 3 (.fieldAddr 71 (tT 1) 0), oO 4 (.load 3 (tT 3)), oO 5 (.binOp .geq 3 (tT 4) (kI 0) 3), oO 6 (.move (tT 5)), oG 7 (.fieldAddr 71 (tT 1) 0) 6 true, oG 8 (.load 3 (tT 7)) 6 true, oG 9 (.binOp .leq 3 (tT 8) (kI 16) 3) 6 true, oO 10 (.pick (tT 6) (tT 9) (.const (.bool false))), oO 11 (.move (tT 10)), oG 12 (.fieldAddr 71 (tT 1) 1) 11 true, oG 13 (.load 3 (tT 12)) 11 true, oG 14 (.binOp .geq 3 (tT 13) (kI 0) 3) 11 true, oO 15 (.pick (tT 11) (tT 14) (.const (.bool false))), oO 16 (.move (tT 15)), oG 17 (.fieldAddr 71 (tT 1) 1) 16 true, oG 18 (.load 3 (tT 17)) 16 true, oG 19 (.binOp .leq 3 (tT 18) (kI 24) 3) 16 true, oO 20 (.pick (tT 16) (tT 19) (.const (.bool false))), oO 21 (.move (tT 20)), oG 22 (.fieldAddr 71 (tT 1) 0) 21 true, oG 23 (.load 3 (tT 22)) 21 true, oG 24 (.fieldAddr 71 (tT 1) 1) 21 true, oG 25 (.load 3 (tT 24)) 21 true, oG 26 (.binOp .add 3 (tT 23) (tT 25) 3) 21 true, oG 27 (.binOp .leq 3 (tT 26) (kI 24) 3) 21 true, oO 28 (.pick (tT 21) (tT 27) (.const (.bool false))), oO 2 (.assign (tT 28))])
 .ret)
theorem F86 : Fun1 Try.prog 86 29 c86 [.tmp 2] := Fun1.mk' AL.Try.follows_mixed Try.func86 rfl (by decide +kernel) Try.ntmps86 rfl (by kernel_rfl) rfl

/- proviso/provisoref07.wanted -/
def c117 : AC :=
.seq (.reg false [] [oO 6 (.assign (.const (.bool false)))])
 (.seq (.seq (.reg false [] [oO 7 (.move (tT 2))])
 (.block 0 (.seq (.reg false [] [oO 9 (.binOp .eql 23 (tT 7) (kB 255) 23), oO 8 (.assign (tT 9))])
 (.cond (tT 8) (.seq (.reg false [] [oO 6 (.assign (.const (.bool true)))])
 (.ret))
 (.seq (.reg false [] [oO 11 (.binOp .eql 23 (tT 7) (kB 254) 23), oO 10 (.assign (tT 11))])
 (.cond (tT 10) (.seq (.reg false [] [oO 12 (.move (tT 1)), oO 13 (.binOp .neq 23 (tT 12) (kB 0) 23), oO 6 (.assign (tT 13))])
 (.ret))
 (.seq (.reg false [] [oO 15 (.binOp .eql 23 (tT 7) (kB 253) 23), oO 14 (.assign (tT 15))])
 (.cond (tT 14) (.seq (.reg false [] [oO 16 (.move (tT 1)), oO 17 (cF (.func 120) #[tT 16] #[23]), oO 6 (.assign (tT 17))])
 (.ret))
 (.skip)))))))))
 (.seq (.reg false [] [oO 18 (.move (tT 0)), oO 19 (.move (tT 1)), oO 20 (.move (tT 2)), oO 21 (cF (.func 79) #[tT 18, tT 19, tT 20] #[52, 23, 23]), oO 6 (.assign (tT 21))])
 .ret))
theorem F117 : Fun1 Try.prog 117 22 c117 [.tmp 6] := Fun1.mk' AL.Try.follows_mixed Try.func117 rfl (by decide +kernel) Try.ntmps117 rfl (by kernel_rfl) rfl

/- proviso/provisoref03.Pop -/
def c118 : AC :=
.seq (.reg false [] [oO 1 (.box 71 (tT 0)), oO 2 (.alloc 71), oO 3 (.assign (kB 0)), oO 4 (.assign (kI 0))])
 (.seq (.seq (.reg false [] [oO 6 (.load 71 (tT 1)), oO 7 (cF (.func 86) #[tT 6] #[71]), oO 8 (.unOp .not 4 (tT 7))])
 (.cond (tT 8) (.seq (.reg false [] [oO 9 (.build 71 #[]), oN (.store 71 (tT 2) (tT 9)), oO 3 (.assign (kB 0)), oO 4 (.assign (kI 32))])
 (.ret))
 (.skip)))
 (.seq (.seq (.reg false [] [oO 10 (.fieldAddr 71 (tT 1) 1), oO 11 (.load 3 (tT 10)), oO 12 (.binOp .eql 3 (tT 11) (kI 0) 3)])
 (.cond (tT 12) (.seq (.reg false [] [oO 13 (.build 71 #[]), oN (.store 71 (tT 2) (tT 13)), oO 3 (.assign (kB 0)), oO 4 (.assign (kI 30))])
 (.ret))
 (.skip)))
 (.seq (.reg false [] [oO 14 (.fieldAddr 71 (tT 1) 0), oO 15 (.load 3 (tT 14)), oO 16 (.fieldAddr 71 (tT 1) 1), oO 17 (.load 3 (tT 16)), oO 18 (.binOp .add 3 (tT 15) (tT 17) 3), oO 19 (.binOp .sub 3 (tT 18) (kI 1) 3), oO 20 (.fieldAddr 71 (tT 1) 2), oO 21 (.indexAddr 69 (tT 20) (tT 19)), oO 22 (.load 23 (tT 21)), oO 5 (.assign (tT 22))])
 (.seq (.reg false [] [oO 23 (.fieldAddr 71 (tT 1) 1), oO 24 (.load 3 (tT 23)), oO 25 (.binOp .sub 3 (tT 24) (kI 1) 3), oO 26 (.fieldAddr 71 (tT 1) 1), oN (.store 3 (tT 26) (tT 25))])
 (.seq (.reg false [] [oO 27 (.load 71 (tT 1)), oO 28 (cF (.func 151) #[tT 27] #[71]), oO 29 (.move (tT 5)), oN (.store 71 (tT 2) (tT 28)), oO 3 (.assign (tT 29)), oO 4 (.assign (kI 0))])
 .ret)))))
theorem F118 : Fun1 Try.prog 118 30 c118 [.cell 2 71, .tmp 3, .tmp 4] := Fun1.mk' AL.Try.follows_mixed Try.func118 rfl (by decide +kernel) Try.ntmps118 rfl (by kernel_rfl) rfl

/- proviso/provisoref03.Push -/
def c119 : AC :=
.seq (.reg false [] [oO 2 (.box 71 (tT 0)), oO 4 (.alloc 71), oO 5 (.assign (kI 0))])
 (.seq (.seq (.reg false [] [oO 7 (.load 71 (tT 2)), oO 8 (cF (.func 86) #[tT 7] #[71]), oO 9 (.unOp .not 4 (tT 8))])
 (.cond (tT 9) (.seq (.reg false [] [oO 10 (.build 71 #[]), oN (.store 71 (tT 4) (tT 10)), oO 5 (.assign (kI 32))])
 (.ret))
 (.skip)))
 (.seq (.reg false [] [oO 11 (.fieldAddr 71 (tT 2) 0), oO 12 (.load 3 (tT 11)), oO 13 (.fieldAddr 71 (tT 2) 1), oO 14 (.load 3 (tT 13)), oO 15 (.binOp .add 3 (tT 12) (tT 14) 3), oO 6 (.assign (tT 15))])
 (.seq (.seq (.reg false [] [oO 16 (.move (tT 6)), oO 17 (.binOp .eql 3 (tT 16) (kI 24) 3)])
 (.cond (tT 17) (.seq (.reg false [] [oO 18 (.build 71 #[]), oN (.store 71 (tT 4) (tT 18)), oO 5 (.assign (kI 31))])
 (.ret))
 (.skip)))
 (.seq (.reg false [] [oO 19 (.load 71 (tT 2)), oO 20 (cF (.func 151) #[tT 19] #[71]), oN (.store 71 (tT 2) (tT 20))])
 (.seq (.reg false [] [oO 21 (.move (tT 6)), oO 22 (.move (tT 1)), oO 23 (.fieldAddr 71 (tT 2) 2), oO 24 (.indexAddr 69 (tT 23) (tT 21)), oN (.store 23 (tT 24) (tT 22))])
 (.seq (.reg false [] [oO 25 (.fieldAddr 71 (tT 2) 1), oO 26 (.load 3 (tT 25)), oO 27 (.binOp .add 3 (tT 26) (kI 1) 3), oO 28 (.fieldAddr 71 (tT 2) 1), oN (.store 3 (tT 28) (tT 27))])
 (.seq (.reg false [] [oO 29 (.load 71 (tT 2)), oN (.store 71 (tT 4) (tT 29)), oO 5 (.assign (kI 0))])
 .ret)))))))
theorem F119 : Fun1 Try.prog 119 30 c119 [.cell 4 71, .tmp 5] := Fun1.mk' AL.Try.follows_mixed Try.func119 rfl (by decide +kernel) Try.ntmps119 rfl (by kernel_rfl) rfl

/- proviso/provisoref02.IsRef -/
def c120 : AC :=
.seq (.reg false [] [oO 2 (.assign (.const (.bool false)))])
 (.seq (.reg false [] [oO 3 (.move (tT 0)), oO 4 (.binOp .eql 23 (tT 3) (kB 3) 23), oO 5 (.move (tT 4)), oG 6 (.move (tT 0)) 5 false, oG 7 (.binOp .eql 23 (tT 6) (kB 4) 23) 5 false, oO 8 (.pick (tT 5) (.const (.bool true)) (tT 7)), oO 9 (.move (tT 8)), oG 10 (.move (tT 0)) 9 false, oG 11 (.binOp .eql 23 (tT 10) (kB 5) 23) 9 false, oO 12 (.pick (tT 9) (.const (.bool true)) (tT 11)), oO 13 (.move (tT 12)), oG 14 (.move (tT 0)) 13 false, oG 15 (.binOp .geq 23 (tT 14) (kB 16) 23) 13 false, oO 16 (.pick (tT 13) (.const (.bool true)) (tT 15)), oO 2 (.assign (tT 16))])
 .ret)
theorem F120 : Fun1 Try.prog 120 17 c120 [.tmp 2] := Fun1.mk' AL.Try.follows_mixed Try.func120 rfl (by decide +kernel) Try.ntmps120 rfl (by kernel_rfl) rfl

/- proviso/frames.shaped -/
def c123 : AC :=
.seq (.reg false [] [oO 1 (.box 71 (tT 0)), oO 2 (.assign (.const (.bool false)))])
 (.seq (.reg false [] [oO 3 (.fieldAddr 71 (tT 1) 0), oO 4 (.load 3 (tT 3)), oO 5 (.binOp .geq 3 (tT 4) (kI 0) 3), oO 6 (.move (tT 5)), oG 7 (.fieldAddr 71 (tT 1) 0) 6 true, oG 8 (.load 3 (tT 7)) 6 true, oG 9 (.binOp .leq 3 (tT 8) (kI 16) 3) 6 true, oO 10 (.pick (tT 6) (tT 9) (.const (.bool false))), oO 11 (.move (tT 10)), oG 12 (.fieldAddr 71 (tT 1) 1) 11 true, oG 13 (.load 3 (tT 12)) 11 true, oG 14 (.binOp .geq 3 (tT 13) (kI 0) 3) 11 true, oO 15 (.pick (tT 11) (tT 14) (.const (.bool false))), oO 16 (.move (tT 15)), oG 17 (.fieldAddr 71 (tT 1) 1) 16 true, oG 18 (.load 3 (tT 17)) 16 true, oG 19 (.fieldAddr 71 (tT 1) 0) 16 true, oG 20 (.load 3 (tT 19)) 16 true, oG 21 (.binOp .sub 3 (kI 24) (tT 20) 3) 16 true, oG 22 (.binOp .leq 3 (tT 18) (tT 21) 3) 16 true, oO 23 (.pick (tT 16) (tT 22) (.const (.bool false))), oO 2 (.assign (tT 23))])
 .ret)
theorem F123 : Fun1 Try.prog 123 24 c123 [.tmp 2] := Fun1.mk' AL.Try.follows_mixed Try.func123 rfl (by decide +kernel) Try.ntmps123 rfl (by kernel_rfl) rfl

/- proviso/frames.bare -/
def c124 : AC :=
.seq (.reg false [] [oO 1 (.box 71 (tT 0)), oO 2 (.alloc 71)])
 (.seq (.reg false [] [oO 4 (.fieldAddr 71 (tT 1) 0), oO 5 (.load 3 (tT 4)), oO 6 (.fieldAddr 71 (tT 1) 1), oO 7 (.load 3 (tT 6)), oO 8 (.build 71 #[(0, .tmp 5), (1, .tmp 7)]), oO 3 (.alloc 71), oN (.store 71 (tT 3) (tT 8))])
 (.seq (.reg true [] [⟨⟨some 9, .fieldAddr 71 (tT 3) 2, none⟩, false, true⟩, ⟨⟨some 10, .fieldAddr 71 (tT 1) 0, none⟩, false, true⟩, ⟨⟨some 11, .load 3 (tT 10), none⟩, false, true⟩, ⟨⟨some 12, .fieldAddr 71 (tT 1) 1, none⟩, false, true⟩, ⟨⟨some 13, .load 3 (tT 12), none⟩, false, true⟩, ⟨⟨some 14, .binOp .add 3 (tT 11) (tT 13) 3, none⟩, false, true⟩, ⟨⟨some 15, .slice 69 (tT 9) none (some (tT 14)) none, none⟩, false, true⟩, oO 16 (.fieldAddr 71 (tT 1) 2), oO 17 (.slice 69 (tT 16) none none none), oO 18 (cB .copy #[tT 15, tT 17] #[22, 22])])
 (.seq (.reg false [] [oO 19 (.load 71 (tT 3)), oN (.store 71 (tT 2) (tT 19))])
 .ret)))
theorem F124 : Fun1 Try.prog 124 20 c124 [.cell 2 71] := Fun1.mk' AL.Try.follows_mixed Try.func124 rfl (by decide +kernel) Try.ntmps124 rfl (by kernel_rfl) rfl

/- proviso/frames.Top -/
def c127 : AC :=
.seq (.reg false [] [oO 2 (.box 71 (tT 0)), oO 4 (.assign (kB 0)), oO 5 (.assign (kI 0))])
 (.seq (.block 0 (.seq (.reg false [] [oO 7 (.load 71 (tT 2)), oO 8 (cF (.func 123) #[tT 7] #[71]), oO 9 (.unOp .not 4 (tT 8)), oO 6 (.assign (tT 9))])
 (.cond (tT 6) (.seq (.reg false [] [oO 4 (.assign (kB 0)), oO 5 (.assign (kI 32))])
 (.ret))
 (.seq (.reg false [] [oO 11 (.move (tT 1)), oO 12 (.binOp .lss 3 (tT 11) (kI 0) 3), oO 10 (.assign (tT 12))])
 (.cond (tT 10) (.seq (.reg false [] [oO 4 (.assign (kB 0)), oO 5 (.assign (kI 1))])
 (.ret))
 (.seq (.reg false [] [oO 14 (.move (tT 1)), oO 15 (.fieldAddr 71 (tT 2) 1), oO 16 (.load 3 (tT 15)), oO 17 (.binOp .geq 3 (tT 14) (tT 16) 3), oO 13 (.assign (tT 17))])
 (.cond (tT 13) (.seq (.reg false [] [oO 4 (.assign (kB 0)), oO 5 (.assign (kI 30))])
 (.ret))
 (.skip))))))))
 (.seq (.reg false [] [oO 18 (.fieldAddr 71 (tT 2) 0), oO 19 (.load 3 (tT 18)), oO 20 (.fieldAddr 71 (tT 2) 1), oO 21 (.load 3 (tT 20)), oO 22 (.binOp .add 3 (tT 19) (tT 21) 3), oO 23 (.binOp .sub 3 (tT 22) (kI 1) 3), oO 24 (.move (tT 1)), oO 25 (.binOp .sub 3 (tT 23) (tT 24) 3), oO 26 (.fieldAddr 71 (tT 2) 2), oO 27 (.indexAddr 69 (tT 26) (tT 25)), oO 28 (.load 23 (tT 27)), oO 4 (.assign (tT 28)), oO 5 (.assign (kI 0))])
 .ret))
theorem F127 : Fun1 Try.prog 127 29 c127 [.tmp 4, .tmp 5] := Fun1.mk' AL.Try.follows_mixed Try.func127 rfl (by decide +kernel) Try.ntmps127 rfl (by kernel_rfl) rfl

/- proviso/step.fits -/
def c128 : AC :=
.seq (.reg false [] [oO 5 (.box 188 (tT 1)), oO 8 (.assign (.const (.bool false)))])
 (.seq (.seq (.reg false [] [oO 9 (.fieldAddr 188 (tT 5) 0), oO 10 (.load 3 (tT 9))])
 (.block 0 (.seq (.reg false [] [oO 12 (.binOp .eql 3 (tT 10) (kI 1) 3), oO 11 (.assign (tT 12))])
 (.cond (tT 11) (.seq (.reg false [] [oO 13 (.move (tT 2)), oO 14 (.binOp .neq 23 (tT 13) (kB 0) 23), oO 8 (.assign (tT 14))])
 (.ret))
 (.seq (.reg false [] [oO 16 (.binOp .eql 3 (tT 10) (kI 2) 3), oO 15 (.assign (tT 16))])
 (.cond (tT 15) (.seq (.reg false [] [oO 17 (.move (tT 2)), oO 18 (cF (.func 163) #[tT 17] #[23]), oO 8 (.assign (tT 18))])
 (.ret))
 (.seq (.reg false [] [oO 20 (.binOp .eql 3 (tT 10) (kI 3) 3), oO 19 (.assign (tT 20))])
 (.cond (tT 19) (.seq (.reg false [] [oO 21 (.move (tT 2)), oO 22 (.move (tT 3)), oO 23 (.binOp .eql 23 (tT 21) (tT 22) 23), oO 24 (.move (tT 23)), oG 25 (.move (tT 2)) 24 true, oG 26 (.binOp .eql 23 (tT 25) (kB 1) 23) 24 true, oG 27 (.move (tT 26)) 24 true, oG 28 (.move (tT 2)) 27 false, oG 29 (.binOp .eql 23 (tT 28) (kB 2) 23) 27 false, oG 30 (.pick (tT 27) (.const (.bool true)) (tT 29)) 24 true, oO 31 (.pick (tT 24) (tT 30) (.const (.bool false))), oO 8 (.assign (tT 31))])
 (.ret))
 (.seq (.reg false [] [oO 33 (.binOp .eql 3 (tT 10) (kI 4) 3), oO 32 (.assign (tT 33))])
 (.cond (tT 32) (.seq (.reg false [] [oO 34 (.move (tT 0)), oO 35 (.move (tT 2)), oO 36 (.fieldAddr 188 (tT 5) 1), oO 37 (.load 23 (tT 36)), oO 38 (cF (.func 164) #[tT 34, tT 35, tT 37] #[52, 23, 23]), oO 8 (.assign (tT 38))])
 (.ret))
 (.skip)))))))))))
 (.seq (.reg false [] [oO 8 (.assign (.const (.bool true)))])
 .ret))
theorem F128 : Fun1 Try.prog 128 39 c128 [.tmp 8] := Fun1.mk' AL.Try.follows_mixed Try.func128 rfl (by decide +kernel) Try.ntmps128 rfl (by kernel_rfl) rfl

/- proviso/frames.Pop -/
def c129 : AC :=
.seq (.reg false [] [oO 1 (.box 71 (tT 0)), oO 2 (.alloc 71), oO 3 (.assign (kB 0)), oO 4 (.assign (kI 0))])
 (.seq (.reg false [] [oO 8 (.load 71 (tT 1)), oO 9 (cF (.func 127) #[tT 8, kI 0] #[71, 3]), oO 7 (.move (tT 9)), oO 10 (.extract (tT 7) 0), oO 11 (.extract (tT 7) 1), oO 5 (.assign (tT 10)), oO 6 (.assign (tT 11))])
 (.seq (.seq (.reg false [] [oO 12 (.move (tT 6)), oO 13 (.binOp .neq 45 (tT 12) (kI 0) 45)])
 (.cond (tT 13) (.seq (.reg false [] [oO 14 (.build 71 #[]), oO 15 (.move (tT 6)), oN (.store 71 (tT 2) (tT 14)), oO 3 (.assign (kB 0)), oO 4 (.assign (tT 15))])
 (.ret))
 (.skip)))
 (.seq (.reg false [] [oO 16 (.fieldAddr 71 (tT 1) 1), oO 17 (.load 3 (tT 16)), oO 18 (.binOp .sub 3 (tT 17) (kI 1) 3), oO 19 (.fieldAddr 71 (tT 1) 1), oN (.store 3 (tT 19) (tT 18))])
 (.seq (.reg false [] [oO 20 (.load 71 (tT 1)), oO 21 (cF (.func 124) #[tT 20] #[71]), oO 22 (.move (tT 5)), oN (.store 71 (tT 2) (tT 21)), oO 3 (.assign (tT 22)), oO 4 (.assign (kI 0))])
 .ret))))
theorem F129 : Fun1 Try.prog 129 23 c129 [.cell 2 71, .tmp 3, .tmp 4] := Fun1.mk' AL.Try.follows_mixed Try.func129 rfl (by decide +kernel) Try.ntmps129 rfl (by kernel_rfl) rfl

/- proviso/frames.Store -/
def c130 : AC :=
.seq (.reg false [] [oO 3 (.box 71 (tT 0)), oO 6 (.alloc 71), oO 7 (.assign (kI 0))])
 (.seq (.reg false [] [oO 11 (.load 71 (tT 3)), oO 12 (.move (tT 1)), oO 13 (cF (.func 84) #[tT 11, tT 12] #[71, 3]), oO 10 (.move (tT 13)), oO 14 (.extract (tT 10) 0), oO 15 (.extract (tT 10) 1), oO 8 (.assign (tT 14)), oO 9 (.assign (tT 15))])
 (.seq (.seq (.reg false [] [oO 16 (.move (tT 9)), oO 17 (.binOp .neq 45 (tT 16) (kI 0) 45)])
 (.cond (tT 17) (.seq (.reg false [] [oO 18 (.build 71 #[]), oO 19 (.move (tT 9)), oN (.store 71 (tT 6) (tT 18)), oO 7 (.assign (tT 19))])
 (.ret))
 (.skip)))
 (.seq (.reg false [] [oO 20 (.load 71 (tT 3)), oO 21 (cF (.func 124) #[tT 20] #[71]), oN (.store 71 (tT 3) (tT 21))])
 (.seq (.reg false [] [oO 22 (.move (tT 1)), oO 23 (.move (tT 2)), oO 24 (.fieldAddr 71 (tT 3) 2), oO 25 (.indexAddr 69 (tT 24) (tT 22)), oN (.store 23 (tT 25) (tT 23))])
 (.seq (.reg false [] [oO 26 (.load 71 (tT 3)), oN (.store 71 (tT 6) (tT 26)), oO 7 (.assign (kI 0))])
 .ret)))))
theorem F130 : Fun1 Try.prog 130 27 c130 [.cell 6 71, .tmp 7] := Fun1.mk' AL.Try.follows_mixed Try.func130 rfl (by decide +kernel) Try.ntmps130 rfl (by kernel_rfl) rfl

/- proviso/frames.Push -/
def c131 : AC :=
.seq (.reg false [] [oO 2 (.box 71 (tT 0)), oO 4 (.alloc 71), oO 5 (.assign (kI 0))])
 (.seq (.block 0 (.seq (.reg false [] [oO 7 (.load 71 (tT 2)), oO 8 (cF (.func 123) #[tT 7] #[71]), oO 9 (.unOp .not 4 (tT 8)), oO 6 (.assign (tT 9))])
 (.cond (tT 6) (.seq (.reg false [] [oO 10 (.build 71 #[]), oN (.store 71 (tT 4) (tT 10)), oO 5 (.assign (kI 32))])
 (.ret))
 (.seq (.reg false [] [oO 12 (.fieldAddr 71 (tT 2) 0), oO 13 (.load 3 (tT 12)), oO 14 (.fieldAddr 71 (tT 2) 1), oO 15 (.load 3 (tT 14)), oO 16 (.binOp .add 3 (tT 13) (tT 15) 3), oO 17 (.binOp .eql 3 (tT 16) (kI 24) 3), oO 11 (.assign (tT 17))])
 (.cond (tT 11) (.seq (.reg false [] [oO 18 (.build 71 #[]), oN (.store 71 (tT 4) (tT 18)), oO 5 (.assign (kI 31))])
 (.ret))
 (.skip))))))
 (.seq (.reg false [] [oO 19 (.load 71 (tT 2)), oO 20 (cF (.func 124) #[tT 19] #[71]), oN (.store 71 (tT 2) (tT 20))])
 (.seq (.reg false [] [oO 21 (.fieldAddr 71 (tT 2) 0), oO 22 (.load 3 (tT 21)), oO 23 (.fieldAddr 71 (tT 2) 1), oO 24 (.load 3 (tT 23)), oO 25 (.binOp .add 3 (tT 22) (tT 24) 3), oO 26 (.move (tT 1)), oO 27 (.fieldAddr 71 (tT 2) 2), oO 28 (.indexAddr 69 (tT 27) (tT 25)), oN (.store 23 (tT 28) (tT 26))])
 (.seq (.reg false [] [oO 29 (.fieldAddr 71 (tT 2) 1), oO 30 (.load 3 (tT 29)), oO 31 (.binOp .add 3 (tT 30) (kI 1) 3), oO 32 (.fieldAddr 71 (tT 2) 1), oN (.store 3 (tT 32) (tT 31))])
 (.seq (.reg false [] [oO 33 (.load 71 (tT 2)), oN (.store 71 (tT 4) (tT 33)), oO 5 (.assign (kI 0))])
 .ret)))))
theorem F131 : Fun1 Try.prog 131 34 c131 [.cell 4 71, .tmp 5] := Fun1.mk' AL.Try.follows_mixed Try.func131 rfl (by decide +kernel) Try.ntmps131 rfl (by kernel_rfl) rfl

/- proviso/provisoref03.bare -/
def c151 : AC :=
.seq (.reg false [] [oO 1 (.box 71 (tT 0)), oO 2 (.alloc 71)])
 (.seq (.seq (.reg false [] [oO 4 (.fieldAddr 71 (tT 1) 0), oO 5 (.load 3 (tT 4)), oO 6 (.fieldAddr 71 (tT 1) 1), oO 7 (.load 3 (tT 6)), oO 8 (.binOp .add 3 (tT 5) (tT 7) 3), oO 3 (.assign (tT 8))])
 (.block 0 (.loop (.seq (.seq (.reg false [] [oO 9 (.move (tT 3)), oO 10 (.binOp .lss 3 (tT 9) (kI 24) 3)])
 (.cond (tT 10) (.skip)
 (.exit 0)))
 (.seq (.block 1 (.reg false [] [oO 13 (.move (tT 3)), oO 14 (.fieldAddr 71 (tT 1) 2), oO 15 (.indexAddr 69 (tT 14) (tT 13)), oN (.store 23 (tT 15) (kB 0))]))
 (.reg false [] [oO 11 (.move (tT 3)), oO 12 (.binOp .add 3 (tT 11) (kI 1) 3), oO 3 (.assign (tT 12))]))))))
 (.seq (.reg false [] [oO 16 (.load 71 (tT 1)), oN (.store 71 (tT 2) (tT 16))])
 .ret))
theorem F151 : Fun1 Try.prog 151 17 c151 [.cell 2 71] := Fun1.mk' AL.Try.follows_mixed Try.func151 rfl (by decide +kernel) Try.ntmps151 rfl (by kernel_rfl) rfl

/- proviso/types.IsRef -/
def c163 : AC :=
.seq (.reg false [] [oO 2 (.assign (.const (.bool false)))])
 (.seq (.reg false [] [oO 3 (.move (tT 0)), oO 4 (.binOp .eql 23 (tT 3) (kB 3) 23), oO 5 (.move (tT 4)), oG 6 (.move (tT 0)) 5 false, oG 7 (.binOp .eql 23 (tT 6) (kB 4) 23) 5 false, oO 8 (.pick (tT 5) (.const (.bool true)) (tT 7)), oO 9 (.move (tT 8)), oG 10 (.move (tT 0)) 9 false, oG 11 (.binOp .eql 23 (tT 10) (kB 5) 23) 9 false, oO 12 (.pick (tT 9) (.const (.bool true)) (tT 11)), oO 13 (.move (tT 12)), oG 14 (.move (tT 0)) 13 false, oG 15 (.binOp .geq 23 (tT 14) (kB 16) 23) 13 false, oO 16 (.pick (tT 13) (.const (.bool true)) (tT 15)), oO 2 (.assign (tT 16))])
 .ret)
theorem F163 : Fun1 Try.prog 163 17 c163 [.tmp 2] := Fun1.mk' AL.Try.follows_mixed Try.func163 rfl (by decide +kernel) Try.ntmps163 rfl (by kernel_rfl) rfl

/- proviso/types.Sub -/
def c164 : AC :=
.seq (.reg false [] [oO 6 (.assign (.const (.bool false)))])
 (.seq (.seq (.reg false [] [oO 9 (.move (tT 0)), oO 10 (.move (tT 1)), oO 11 (cF (.func 105) #[tT 9, tT 10] #[52, 23]), oO 12 (.unOp .not 4 (tT 11)), oO 13 (.move (tT 12)), oG 14 (.move (tT 0)) 13 false, oG 15 (.move (tT 2)) 13 false, oG 16 (cF (.func 105) #[tT 14, tT 15] #[52, 23]) 13 false, oG 17 (.unOp .not 4 (tT 16)) 13 false, oO 18 (.pick (tT 13) (.const (.bool true)) (tT 17))])
 (.cond (tT 18) (.seq (.reg false [] [oO 6 (.assign (.const (.bool false)))])
 (.ret))
 (.skip)))
 (.seq (.block 0 (.seq (.reg false [] [oO 20 (.move (tT 1)), oO 21 (.move (tT 2)), oO 22 (.binOp .eql 23 (tT 20) (tT 21) 23), oO 23 (.move (tT 22)), oG 24 (.move (tT 2)) 23 false, oG 25 (.binOp .eql 23 (tT 24) (kB 0) 23) 23 false, oO 26 (.pick (tT 23) (.const (.bool true)) (tT 25)), oO 19 (.assign (tT 26))])
 (.cond (tT 19) (.seq (.reg false [] [oO 6 (.assign (.const (.bool true)))])
 (.ret))
 (.seq (.reg false [] [oO 28 (.move (tT 1)), oO 29 (.binOp .eql 23 (tT 28) (kB 3) 23), oO 30 (.move (tT 29)), oG 31 (.move (tT 2)) 30 false, oG 32 (.binOp .eql 23 (tT 31) (kB 5) 23) 30 false, oO 33 (.pick (tT 30) (.const (.bool true)) (tT 32)), oO 27 (.assign (tT 33))])
 (.cond (tT 27) (.seq (.reg false [] [oO 34 (.move (tT 1)), oO 35 (cF (.func 163) #[tT 34] #[23]), oO 36 (.move (tT 35)), oG 37 (.move (tT 2)) 36 true, oG 38 (cF (.func 163) #[tT 37] #[23]) 36 true, oO 39 (.pick (tT 36) (tT 38) (.const (.bool false))), oO 6 (.assign (tT 39))])
 (.ret))
 (.skip))))))
 (.seq (.reg false [] [oO 40 (.move (tT 0)), oO 41 (.move (tT 1)), oO 42 (cF (.func 147) #[tT 40, tT 41] #[52, 23]), oO 43 (.move (tT 0)), oO 44 (.move (tT 2)), oO 45 (cF (.func 147) #[tT 43, tT 44] #[52, 23]), oO 7 (.assign (tT 42)), oO 8 (.assign (tT 45))])
 (.seq (.reg false [] [oO 46 (.move (tT 7)), oO 47 (.binOp .geq 3 (tT 46) (kI 0) 3), oO 48 (.move (tT 47)), oG 49 (.move (tT 8)) 48 true, oG 50 (.binOp .geq 3 (tT 49) (kI 0) 3) 48 true, oO 51 (.pick (tT 48) (tT 50) (.const (.bool false))), oO 52 (.move (tT 51)), oG 53 (.move (tT 0)) 52 true, oG 54 (.move (tT 7)) 52 true, oG 55 (.move (tT 8)) 52 true, oG 56 (cF (.func 190) #[tT 53, tT 54, tT 55] #[52, 3, 3]) 52 true, oO 57 (.pick (tT 52) (tT 56) (.const (.bool false))), oO 6 (.assign (tT 57))])
 .ret))))
theorem F164 : Fun1 Try.prog 164 58 c164 [.tmp 6] := Fun1.mk' AL.Try.follows_mixed Try.func164 rfl (by decide +kernel) Try.ntmps164 rfl (by kernel_rfl) rfl

/- proviso/types.above -/
def c190 : AC :=
.seq (.reg false [] [oO 5 (.box 3 (tT 2)), oO 6 (.assign (.const (.bool false)))])
 (.seq (.reg false [] [oO 7 (.alloc 4), oN (.store 4 (tT 7) (.const (.bool false)))])
 (.seq (.reg false [] [oO 8 (.move (tT 0)), oO 9 (.move (tT 1)), oO 10 (.makeFunc (.func 205) #[] #[tT 5, tT 7]), oO 11 (cF (.func 144) #[tT 8, tT 9, tT 10] #[52, 3, 195])])
 (.seq (.reg false [] [oO 12 (.load 4 (tT 7)), oO 6 (.assign (tT 12))])
 .ret)))
theorem F190 : Fun1 Try.prog 190 13 c190 [.tmp 6] := Fun1.mk' AL.Try.follows_mixed Try.func190 rfl (by decide +kernel) Try.ntmps190 rfl (by kernel_rfl) rfl

/- proviso/types.above$1 -/
def c205 : AC :=
.seq (.reg false [] [oO 4 (.assign (.const (.bool false)))])
 (.seq (.reg false [] [oO 5 (.move (tT 0)), oO 6 (.load 3 (tT 1)), oO 7 (.binOp .eql 3 (tT 5) (tT 6) 3), oN (.store 4 (tT 2) (tT 7))])
 (.seq (.reg false [] [oO 8 (.load 4 (tT 2)), oO 9 (.unOp .not 4 (tT 8)), oO 4 (.assign (tT 9))])
 .ret))
theorem F205 : Fun1 Try.prog 205 10 c205 [.tmp 4] := Fun1.mk' AL.Try.follows_mixed Try.func205 rfl (by decide +kernel) Try.ntmps205 rfl (by kernel_rfl) rfl

/- proviso/provisolaw07.StepMonotone -/
/- proviso/provisolaw07.StepApplies -/
/- proviso/provisolaw07.StepHeights -/
end Go.AL
