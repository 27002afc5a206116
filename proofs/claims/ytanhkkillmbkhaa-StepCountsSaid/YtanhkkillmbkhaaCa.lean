import Derived.Test.YtanhkkillmbkhaaLc
import Derived.Test.YtanhkkillmbkhaaProg
namespace Go.AL
open Go.Proofs
theorem Try.follows_mixed : Try.prog.follows .mixedOrders = true := by kernel_rfl
/- slices.Clone[[]int,int] -/
def c12 : AC :=
.seq (.reg false [] [⟨⟨some 2, .assign (.const (.slice none 0 0)), none⟩, false, false⟩])
 (.seq (.seq (.reg false [] [⟨⟨some 3, .move (.tmp 0), none⟩, false, false⟩, ⟨⟨some 4, .binOp .eql 26 (.tmp 3) (.const (.slice none 0 0)) 26, none⟩, false, false⟩])
 (.cond (.tmp 4) (.seq (.reg false [] [⟨⟨some 2, .assign (.const (.slice none 0 0)), none⟩, false, false⟩])
 (.ret))
 (.skip)))
 (.seq (.reg false [] [⟨⟨some 5, .buildSlice 26 0 #[], none⟩, false, false⟩, ⟨⟨some 6, .move (.tmp 0), none⟩, false, false⟩, ⟨⟨some 7, .call { callee := .builtin .append, args := #[.tmp 5, .tmp 6], argTypes := #[26, 26] }, none⟩, false, false⟩, ⟨⟨some 2, .assign (.tmp 7), none⟩, false, false⟩])
 (.ret)))
theorem F12 : Fun1 Try.prog 12 8 c12 [.tmp 2] := Fun1.mk' AL.Try.follows_mixed Try.func12 rfl (by decide +kernel) Try.ntmps12 rfl (by kernel_rfl) rfl

/- proviso/meaning.Admits -/
def c13 : AC :=
.seq (.reg false [] [⟨⟨some 2, .box 25 (.tmp 0), none⟩, false, false⟩, ⟨⟨some 4, .assign (.const (.bool false)), none⟩, false, false⟩])
 (.seq (.seq (.reg false [] [⟨⟨some 8, .move (.tmp 1), none⟩, false, false⟩, ⟨⟨some 9, .call { callee := .builtin .len, args := #[.tmp 8], argTypes := #[26] }, none⟩, false, false⟩, ⟨⟨some 10, .fieldAddr 25 (.tmp 2) 0, none⟩, false, false⟩, ⟨⟨some 11, .load 22 (.tmp 10), none⟩, false, false⟩, ⟨⟨some 12, .call { callee := .builtin .len, args := #[.tmp 11], argTypes := #[22] }, none⟩, false, false⟩, ⟨⟨some 13, .binOp .neq 3 (.tmp 9) (.tmp 12) 3, none⟩, false, false⟩])
 (.cond (.tmp 13) (.seq (.reg false [] [⟨⟨some 4, .assign (.const (.bool false)), none⟩, false, false⟩])
 (.ret))
 (.skip)))
 (.seq (.seq (.reg false [] [⟨⟨some 14, .fieldAddr 25 (.tmp 2) 0, none⟩, false, false⟩, ⟨⟨some 15, .load 22 (.tmp 14), none⟩, false, false⟩, ⟨⟨some 16, .call { callee := .builtin .len, args := #[.tmp 15], argTypes := #[22] }, none⟩, false, false⟩, ⟨⟨some 17, .move (.const (.int .i64 0)), none⟩, false, false⟩])
 (.block 0 (.loop (.seq (.reg false [] [⟨⟨some 18, .binOp .lss 3 (.tmp 17) (.tmp 16) 3, none⟩, false, false⟩])
 (.seq (.cond (.tmp 18) (.skip)
 (.exit 0))
 (.seq (.block 1 (.seq (.reg false [] [⟨⟨some 19, .move (.tmp 17), none⟩, false, false⟩, ⟨⟨some 20, .indexAddr 22 (.tmp 15) (.tmp 17), none⟩, false, false⟩, ⟨⟨some 21, .load 23 (.tmp 20), none⟩, false, false⟩, ⟨⟨some 5, .assign (.tmp 19), none⟩, false, false⟩, ⟨⟨some 6, .assign (.tmp 21), none⟩, false, false⟩])
 (.seq (.reg false [] [⟨⟨some 22, .move (.tmp 1), none⟩, false, false⟩, ⟨⟨some 23, .move (.tmp 5), none⟩, false, false⟩, ⟨⟨some 24, .indexAddr 26 (.tmp 22) (.tmp 23), none⟩, false, false⟩, ⟨⟨some 25, .load 3 (.tmp 24), none⟩, false, false⟩, ⟨⟨some 7, .assign (.tmp 25), none⟩, false, false⟩])
 (.block 2 (.seq (.reg false [] [⟨⟨some 27, .move (.tmp 6), none⟩, false, false⟩, ⟨⟨some 28, .binOp .eql 23 (.tmp 27) (.const (.int .u8 1)) 23, none⟩, false, false⟩, ⟨⟨some 29, .move (.tmp 28), none⟩, false, false⟩, ⟨⟨some 30, .move (.tmp 7), some (29, true)⟩, false, false⟩, ⟨⟨some 31, .move (.tmp 7), some (29, true)⟩, false, false⟩, ⟨⟨some 32, .convert 3 21 (.tmp 31), some (29, true)⟩, false, false⟩, ⟨⟨some 33, .convert 21 3 (.tmp 32), some (29, true)⟩, false, false⟩, ⟨⟨some 34, .binOp .eql 3 (.tmp 30) (.tmp 33) 3, some (29, true)⟩, false, false⟩, ⟨⟨some 35, .pick (.tmp 29) (.tmp 34) (.const (.bool false)), none⟩, false, false⟩, ⟨⟨some 26, .assign (.tmp 35), none⟩, false, false⟩])
 (.cond (.tmp 26) (.skip)
 (.seq (.reg false [] [⟨⟨some 37, .move (.tmp 6), none⟩, false, false⟩, ⟨⟨some 38, .binOp .eql 23 (.tmp 37) (.const (.int .u8 2)) 23, none⟩, false, false⟩, ⟨⟨some 39, .move (.tmp 38), none⟩, false, false⟩, ⟨⟨some 40, .move (.tmp 7), some (39, true)⟩, false, false⟩, ⟨⟨some 41, .binOp .eql 3 (.tmp 40) (.const (.int .i64 0)) 3, some (39, true)⟩, false, false⟩, ⟨⟨some 42, .move (.tmp 41), some (39, true)⟩, false, false⟩, ⟨⟨some 43, .move (.tmp 7), some (42, false)⟩, false, false⟩, ⟨⟨some 44, .binOp .eql 3 (.tmp 43) (.const (.int .i64 1)) 3, some (42, false)⟩, false, false⟩, ⟨⟨some 45, .pick (.tmp 42) (.const (.bool true)) (.tmp 44), some (39, true)⟩, false, false⟩, ⟨⟨some 46, .pick (.tmp 39) (.tmp 45) (.const (.bool false)), none⟩, false, false⟩, ⟨⟨some 36, .assign (.tmp 46), none⟩, false, false⟩])
 (.cond (.tmp 36) (.skip)
 (.seq (.reg false [] [⟨⟨some 4, .assign (.const (.bool false)), none⟩, false, false⟩])
 (.ret))))))))))
 (.reg false [] [⟨⟨some 47, .binOp .add 3 (.tmp 17) (.const (.int .i64 1)) 3, none⟩, false, false⟩, ⟨⟨some 17, .move (.tmp 47), none⟩, false, false⟩])))))))
 (.seq (.reg false [] [⟨⟨some 4, .assign (.const (.bool true)), none⟩, false, false⟩])
 (.ret))))
theorem F13 : Fun1 Try.prog 13 48 c13 [.tmp 4] := Fun1.mk' AL.Try.follows_mixed Try.func13 rfl (by decide +kernel) Try.ntmps13 rfl (by kernel_rfl) rfl

/- proviso/provisoref15.Admits -/
def c14 : AC :=
.seq (.reg false [] [⟨⟨some 2, .box 25 (.tmp 0), none⟩, false, false⟩, ⟨⟨some 4, .assign (.const (.bool false)), none⟩, false, false⟩])
 (.seq (.seq (.reg false [] [⟨⟨some 8, .move (.tmp 1), none⟩, false, false⟩, ⟨⟨some 9, .call { callee := .builtin .len, args := #[.tmp 8], argTypes := #[26] }, none⟩, false, false⟩, ⟨⟨some 10, .fieldAddr 25 (.tmp 2) 0, none⟩, false, false⟩, ⟨⟨some 11, .load 22 (.tmp 10), none⟩, false, false⟩, ⟨⟨some 12, .call { callee := .builtin .len, args := #[.tmp 11], argTypes := #[22] }, none⟩, false, false⟩, ⟨⟨some 13, .binOp .neq 3 (.tmp 9) (.tmp 12) 3, none⟩, false, false⟩])
 (.cond (.tmp 13) (.seq (.reg false [] [⟨⟨some 4, .assign (.const (.bool false)), none⟩, false, false⟩])
 (.ret))
 (.skip)))
 (.seq (.seq (.reg false [] [⟨⟨some 14, .fieldAddr 25 (.tmp 2) 0, none⟩, false, false⟩, ⟨⟨some 15, .load 22 (.tmp 14), none⟩, false, false⟩, ⟨⟨some 16, .call { callee := .builtin .len, args := #[.tmp 15], argTypes := #[22] }, none⟩, false, false⟩, ⟨⟨some 17, .move (.const (.int .i64 0)), none⟩, false, false⟩])
 (.block 0 (.loop (.seq (.reg false [] [⟨⟨some 18, .binOp .lss 3 (.tmp 17) (.tmp 16) 3, none⟩, false, false⟩])
 (.seq (.cond (.tmp 18) (.skip)
 (.exit 0))
 (.seq (.block 1 (.seq (.reg false [] [⟨⟨some 19, .move (.tmp 17), none⟩, false, false⟩, ⟨⟨some 20, .indexAddr 22 (.tmp 15) (.tmp 17), none⟩, false, false⟩, ⟨⟨some 21, .load 23 (.tmp 20), none⟩, false, false⟩, ⟨⟨some 5, .assign (.tmp 19), none⟩, false, false⟩, ⟨⟨some 6, .assign (.tmp 21), none⟩, false, false⟩])
 (.seq (.reg false [] [⟨⟨some 22, .move (.tmp 1), none⟩, false, false⟩, ⟨⟨some 23, .move (.tmp 5), none⟩, false, false⟩, ⟨⟨some 24, .indexAddr 26 (.tmp 22) (.tmp 23), none⟩, false, false⟩, ⟨⟨some 25, .load 3 (.tmp 24), none⟩, false, false⟩, ⟨⟨some 7, .assign (.tmp 25), none⟩, false, false⟩])
 (.seq (.reg false [] [⟨⟨some 26, .move (.tmp 6), none⟩, false, false⟩])
 (.block 2 (.seq (.reg false [] [⟨⟨some 28, .binOp .eql 23 (.tmp 26) (.const (.int .u8 1)) 23, none⟩, false, false⟩, ⟨⟨some 27, .assign (.tmp 28), none⟩, false, false⟩])
 (.cond (.tmp 27) (.seq (.reg false [] [⟨⟨some 29, .move (.tmp 7), none⟩, false, false⟩, ⟨⟨some 30, .binOp .lss 3 (.tmp 29) (.const (.int .i64 (-2147483648))) 3, none⟩, false, false⟩, ⟨⟨some 31, .move (.tmp 30), none⟩, false, false⟩, ⟨⟨some 32, .move (.tmp 7), some (31, false)⟩, false, false⟩, ⟨⟨some 33, .binOp .gtr 3 (.tmp 32) (.const (.int .i64 2147483647)) 3, some (31, false)⟩, false, false⟩, ⟨⟨some 34, .pick (.tmp 31) (.const (.bool true)) (.tmp 33), none⟩, false, false⟩])
 (.cond (.tmp 34) (.seq (.reg false [] [⟨⟨some 4, .assign (.const (.bool false)), none⟩, false, false⟩])
 (.ret))
 (.skip)))
 (.seq (.reg false [] [⟨⟨some 36, .binOp .eql 23 (.tmp 26) (.const (.int .u8 2)) 23, none⟩, false, false⟩, ⟨⟨some 35, .assign (.tmp 36), none⟩, false, false⟩])
 (.cond (.tmp 35) (.seq (.reg false [] [⟨⟨some 37, .move (.tmp 7), none⟩, false, false⟩, ⟨⟨some 38, .binOp .neq 3 (.tmp 37) (.const (.int .i64 0)) 3, none⟩, false, false⟩, ⟨⟨some 39, .move (.tmp 38), none⟩, false, false⟩, ⟨⟨some 40, .move (.tmp 7), some (39, true)⟩, false, false⟩, ⟨⟨some 41, .binOp .neq 3 (.tmp 40) (.const (.int .i64 1)) 3, some (39, true)⟩, false, false⟩, ⟨⟨some 42, .pick (.tmp 39) (.tmp 41) (.const (.bool false)), none⟩, false, false⟩])
 (.cond (.tmp 42) (.seq (.reg false [] [⟨⟨some 4, .assign (.const (.bool false)), none⟩, false, false⟩])
 (.ret))
 (.skip)))
 (.seq (.reg false [] [⟨⟨some 4, .assign (.const (.bool false)), none⟩, false, false⟩])
 (.ret)))))))))))
 (.reg false [] [⟨⟨some 43, .binOp .add 3 (.tmp 17) (.const (.int .i64 1)) 3, none⟩, false, false⟩, ⟨⟨some 17, .move (.tmp 43), none⟩, false, false⟩])))))))
 (.seq (.reg false [] [⟨⟨some 4, .assign (.const (.bool true)), none⟩, false, false⟩])
 (.ret))))
theorem F14 : Fun1 Try.prog 14 44 c14 [.tmp 4] := Fun1.mk' AL.Try.follows_mixed Try.func14 rfl (by decide +kernel) Try.ntmps14 rfl (by kernel_rfl) rfl

/- proviso/provisoplain.SameSig -/
def c15 : AC :=
.seq (.reg false [] [⟨⟨some 2, .box 25 (.tmp 0), none⟩, false, false⟩, ⟨⟨some 3, .box 25 (.tmp 1), none⟩, false, false⟩, ⟨⟨some 4, .assign (.const (.bool false)), none⟩, false, false⟩])
 (.seq (.reg false [] [⟨⟨some 5, .fieldAddr 25 (.tmp 2) 1, none⟩, false, false⟩, ⟨⟨some 6, .load 23 (.tmp 5), none⟩, false, false⟩, ⟨⟨some 7, .fieldAddr 25 (.tmp 3) 1, none⟩, false, false⟩, ⟨⟨some 8, .load 23 (.tmp 7), none⟩, false, false⟩, ⟨⟨some 9, .binOp .eql 23 (.tmp 6) (.tmp 8) 23, none⟩, false, false⟩, ⟨⟨some 10, .move (.tmp 9), none⟩, false, false⟩, ⟨⟨some 11, .fieldAddr 25 (.tmp 2) 0, some (10, true)⟩, false, false⟩, ⟨⟨some 12, .load 22 (.tmp 11), some (10, true)⟩, false, false⟩, ⟨⟨some 13, .fieldAddr 25 (.tmp 3) 0, some (10, true)⟩, false, false⟩, ⟨⟨some 14, .load 22 (.tmp 13), some (10, true)⟩, false, false⟩, ⟨⟨some 15, .call { callee := .value (.func 47), args := #[.tmp 12, .tmp 14], argTypes := #[22, 22] }, some (10, true)⟩, false, false⟩, ⟨⟨some 16, .pick (.tmp 10) (.tmp 15) (.const (.bool false)), none⟩, false, false⟩, ⟨⟨some 4, .assign (.tmp 16), none⟩, false, false⟩])
 (.ret))
theorem F15 : Fun1 Try.prog 15 17 c15 [.tmp 4] := Fun1.mk' AL.Try.follows_mixed Try.func15 rfl (by decide +kernel) Try.ntmps15 rfl (by kernel_rfl) rfl

/- slices.Equal[[]int,int] -/
def c16 : AC :=
.seq (.reg false [] [⟨⟨some 4, .assign (.const (.bool false)), none⟩, false, false⟩])
 (.seq (.seq (.reg false [] [⟨⟨some 6, .move (.tmp 0), none⟩, false, false⟩, ⟨⟨some 7, .call { callee := .builtin .len, args := #[.tmp 6], argTypes := #[26] }, none⟩, false, false⟩, ⟨⟨some 8, .move (.tmp 1), none⟩, false, false⟩, ⟨⟨some 9, .call { callee := .builtin .len, args := #[.tmp 8], argTypes := #[26] }, none⟩, false, false⟩, ⟨⟨some 10, .binOp .neq 3 (.tmp 7) (.tmp 9) 3, none⟩, false, false⟩])
 (.cond (.tmp 10) (.seq (.reg false [] [⟨⟨some 4, .assign (.const (.bool false)), none⟩, false, false⟩])
 (.ret))
 (.skip)))
 (.seq (.seq (.reg false [] [⟨⟨some 11, .move (.tmp 0), none⟩, false, false⟩, ⟨⟨some 12, .call { callee := .builtin .len, args := #[.tmp 11], argTypes := #[26] }, none⟩, false, false⟩, ⟨⟨some 13, .move (.const (.int .i64 0)), none⟩, false, false⟩])
 (.block 0 (.loop (.seq (.reg false [] [⟨⟨some 14, .binOp .lss 3 (.tmp 13) (.tmp 12) 3, none⟩, false, false⟩])
 (.seq (.cond (.tmp 14) (.skip)
 (.exit 0))
 (.seq (.block 1 (.seq (.reg false [] [⟨⟨some 15, .move (.tmp 13), none⟩, false, false⟩, ⟨⟨some 5, .assign (.tmp 15), none⟩, false, false⟩])
 (.seq (.reg true [] [⟨⟨some 16, .move (.tmp 0), none⟩, false, true⟩, ⟨⟨some 17, .move (.tmp 5), none⟩, false, true⟩, ⟨⟨some 18, .indexAddr 26 (.tmp 16) (.tmp 17), none⟩, false, true⟩, ⟨⟨some 19, .load 3 (.tmp 18), none⟩, false, true⟩, ⟨⟨some 20, .move (.tmp 1), none⟩, false, true⟩, ⟨⟨some 21, .move (.tmp 5), none⟩, false, false⟩, ⟨⟨some 22, .indexAddr 26 (.tmp 20) (.tmp 21), none⟩, false, false⟩, ⟨⟨some 23, .load 3 (.tmp 22), none⟩, false, false⟩, ⟨⟨some 24, .binOp .neq 3 (.tmp 19) (.tmp 23) 3, none⟩, false, false⟩])
 (.cond (.tmp 24) (.seq (.reg false [] [⟨⟨some 4, .assign (.const (.bool false)), none⟩, false, false⟩])
 (.ret))
 (.skip)))))
 (.reg false [] [⟨⟨some 25, .binOp .add 3 (.tmp 13) (.const (.int .i64 1)) 3, none⟩, false, false⟩, ⟨⟨some 13, .move (.tmp 25), none⟩, false, false⟩])))))))
 (.seq (.reg false [] [⟨⟨some 4, .assign (.const (.bool true)), none⟩, false, false⟩])
 (.ret))))
theorem F16 : Fun1 Try.prog 16 26 c16 [.tmp 4] := Fun1.mk' AL.Try.follows_mixed Try.func16 rfl (by decide +kernel) Try.ntmps16 rfl (by kernel_rfl) rfl

/- proviso/provisoplain.Sig -/
def c11 : AC :=
.seq (.reg false [] [⟨⟨some 1, .box 25 (.tmp 0), none⟩, false, false⟩, ⟨⟨some 2, .alloc 25, none⟩, false, false⟩])
 (.seq (.reg false [] [⟨⟨some 3, .fieldAddr 25 (.tmp 1) 0, none⟩, false, false⟩, ⟨⟨some 4, .load 22 (.tmp 3), none⟩, false, false⟩, ⟨⟨some 5, .call { callee := .value (.func 46), args := #[.tmp 4], argTypes := #[22] }, none⟩, false, false⟩, ⟨⟨some 6, .fieldAddr 25 (.tmp 1) 0, none⟩, false, false⟩, ⟨⟨none, .store 22 (.tmp 6) (.tmp 5), none⟩, false, false⟩])
 (.seq (.reg false [] [⟨⟨some 7, .load 25 (.tmp 1), none⟩, false, false⟩, ⟨⟨none, .store 25 (.tmp 2) (.tmp 7), none⟩, false, false⟩])
 (.ret)))
theorem F11 : Fun1 Try.prog 11 8 c11 [.cell 2 25] := Fun1.mk' AL.Try.follows_mixed Try.func11 rfl (by decide +kernel) Try.ntmps11 rfl (by kernel_rfl) rfl

/- proviso/provisolaw15.MeaningAdmits -/
def c3 : AC :=
.seq (.reg false [] [⟨⟨some 2, .box 25 (.tmp 0), none⟩, false, false⟩, ⟨⟨some 4, .assign (.const (.bool false)), none⟩, false, false⟩])
 (.seq (.reg false [] [⟨⟨some 7, .load 25 (.tmp 2), none⟩, false, false⟩, ⟨⟨some 8, .call { callee := .value (.func 11), args := #[.tmp 7], argTypes := #[25] }, none⟩, false, false⟩, ⟨⟨some 9, .move (.tmp 1), none⟩, false, false⟩, ⟨⟨some 10, .call { callee := .value (.func 12), args := #[.tmp 9], argTypes := #[26] }, none⟩, false, false⟩, ⟨⟨some 5, .alloc 25, none⟩, false, false⟩, ⟨⟨none, .store 25 (.tmp 5) (.tmp 8), none⟩, false, false⟩, ⟨⟨some 6, .assign (.tmp 10), none⟩, false, false⟩])
 (.seq (.reg true [2] [⟨⟨some 11, .load 25 (.tmp 5), none⟩, false, true⟩, ⟨⟨some 12, .move (.tmp 6), none⟩, false, true⟩, ⟨⟨some 13, .call { callee := .value (.func 13), args := #[.tmp 11, .tmp 12], argTypes := #[25, 26] }, none⟩, false, true⟩, ⟨⟨some 14, .load 25 (.tmp 2), none⟩, true, true⟩, ⟨⟨some 15, .move (.tmp 1), none⟩, true, false⟩, ⟨⟨some 16, .call { callee := .value (.func 14), args := #[.tmp 14, .tmp 15], argTypes := #[25, 26] }, none⟩, false, false⟩, ⟨⟨some 17, .binOp .eql 4 (.tmp 13) (.tmp 16) 4, none⟩, false, false⟩, ⟨⟨some 18, .move (.tmp 17), none⟩, false, false⟩, ⟨⟨some 19, .load 25 (.tmp 5), some (18, true)⟩, false, true⟩, ⟨⟨some 20, .load 25 (.tmp 2), some (18, true)⟩, false, false⟩, ⟨⟨some 21, .call { callee := .value (.func 15), args := #[.tmp 19, .tmp 20], argTypes := #[25, 25] }, some (18, true)⟩, false, false⟩, ⟨⟨some 22, .pick (.tmp 18) (.tmp 21) (.const (.bool false)), none⟩, false, false⟩, ⟨⟨some 23, .move (.tmp 22), none⟩, false, false⟩, ⟨⟨some 24, .move (.tmp 6), some (23, true)⟩, false, true⟩, ⟨⟨some 25, .move (.tmp 1), some (23, true)⟩, false, false⟩, ⟨⟨some 26, .call { callee := .value (.func 16), args := #[.tmp 24, .tmp 25], argTypes := #[26, 26] }, some (23, true)⟩, false, false⟩, ⟨⟨some 27, .pick (.tmp 23) (.tmp 26) (.const (.bool false)), none⟩, false, false⟩, ⟨⟨some 28, .move (.tmp 27), none⟩, false, false⟩, ⟨⟨some 29, .build 25 #[], some (28, true)⟩, false, false⟩, ⟨⟨some 30, .call { callee := .value (.func 13), args := #[.tmp 29, .const (.slice none 0 0)], argTypes := #[25, 26] }, some (28, true)⟩, false, false⟩, ⟨⟨some 31, .pick (.tmp 28) (.tmp 30) (.const (.bool false)), none⟩, false, false⟩, ⟨⟨some 4, .assign (.tmp 31), none⟩, false, false⟩])
 (.ret)))
theorem F3 : Fun1 Try.prog 3 32 c3 [.tmp 4] := Fun1.mk' AL.Try.follows_mixed Try.func3 rfl (by decide +kernel) Try.ntmps3 rfl (by kernel_rfl) rfl

/- slices.Clone[[]proviso/api.Type,proviso/api.Type] -/
def c46 : AC :=
.seq (.reg false [] [⟨⟨some 2, .assign (.const (.slice none 0 0)), none⟩, false, false⟩])
 (.seq (.seq (.reg false [] [⟨⟨some 3, .move (.tmp 0), none⟩, false, false⟩, ⟨⟨some 4, .binOp .eql 22 (.tmp 3) (.const (.slice none 0 0)) 22, none⟩, false, false⟩])
 (.cond (.tmp 4) (.seq (.reg false [] [⟨⟨some 2, .assign (.const (.slice none 0 0)), none⟩, false, false⟩])
 (.ret))
 (.skip)))
 (.seq (.reg false [] [⟨⟨some 5, .buildSlice 22 0 #[], none⟩, false, false⟩, ⟨⟨some 6, .move (.tmp 0), none⟩, false, false⟩, ⟨⟨some 7, .call { callee := .builtin .append, args := #[.tmp 5, .tmp 6], argTypes := #[22, 22] }, none⟩, false, false⟩, ⟨⟨some 2, .assign (.tmp 7), none⟩, false, false⟩])
 (.ret)))
theorem F46 : Fun1 Try.prog 46 8 c46 [.tmp 2] := Fun1.mk' AL.Try.follows_mixed Try.func46 rfl (by decide +kernel) Try.ntmps46 rfl (by kernel_rfl) rfl

/- slices.Equal[[]proviso/api.Type,proviso/api.Type] -/
def c47 : AC :=
.seq (.reg false [] [⟨⟨some 4, .assign (.const (.bool false)), none⟩, false, false⟩])
 (.seq (.seq (.reg false [] [⟨⟨some 6, .move (.tmp 0), none⟩, false, false⟩, ⟨⟨some 7, .call { callee := .builtin .len, args := #[.tmp 6], argTypes := #[22] }, none⟩, false, false⟩, ⟨⟨some 8, .move (.tmp 1), none⟩, false, false⟩, ⟨⟨some 9, .call { callee := .builtin .len, args := #[.tmp 8], argTypes := #[22] }, none⟩, false, false⟩, ⟨⟨some 10, .binOp .neq 3 (.tmp 7) (.tmp 9) 3, none⟩, false, false⟩])
 (.cond (.tmp 10) (.seq (.reg false [] [⟨⟨some 4, .assign (.const (.bool false)), none⟩, false, false⟩])
 (.ret))
 (.skip)))
 (.seq (.seq (.reg false [] [⟨⟨some 11, .move (.tmp 0), none⟩, false, false⟩, ⟨⟨some 12, .call { callee := .builtin .len, args := #[.tmp 11], argTypes := #[22] }, none⟩, false, false⟩, ⟨⟨some 13, .move (.const (.int .i64 0)), none⟩, false, false⟩])
 (.block 0 (.loop (.seq (.reg false [] [⟨⟨some 14, .binOp .lss 3 (.tmp 13) (.tmp 12) 3, none⟩, false, false⟩])
 (.seq (.cond (.tmp 14) (.skip)
 (.exit 0))
 (.seq (.block 1 (.seq (.reg false [] [⟨⟨some 15, .move (.tmp 13), none⟩, false, false⟩, ⟨⟨some 5, .assign (.tmp 15), none⟩, false, false⟩])
 (.seq (.reg true [] [⟨⟨some 16, .move (.tmp 0), none⟩, false, true⟩, ⟨⟨some 17, .move (.tmp 5), none⟩, false, true⟩, ⟨⟨some 18, .indexAddr 22 (.tmp 16) (.tmp 17), none⟩, false, true⟩, ⟨⟨some 19, .load 23 (.tmp 18), none⟩, false, true⟩, ⟨⟨some 20, .move (.tmp 1), none⟩, false, true⟩, ⟨⟨some 21, .move (.tmp 5), none⟩, false, false⟩, ⟨⟨some 22, .indexAddr 22 (.tmp 20) (.tmp 21), none⟩, false, false⟩, ⟨⟨some 23, .load 23 (.tmp 22), none⟩, false, false⟩, ⟨⟨some 24, .binOp .neq 23 (.tmp 19) (.tmp 23) 23, none⟩, false, false⟩])
 (.cond (.tmp 24) (.seq (.reg false [] [⟨⟨some 4, .assign (.const (.bool false)), none⟩, false, false⟩])
 (.ret))
 (.skip)))))
 (.reg false [] [⟨⟨some 25, .binOp .add 3 (.tmp 13) (.const (.int .i64 1)) 3, none⟩, false, false⟩, ⟨⟨some 13, .move (.tmp 25), none⟩, false, false⟩])))))))
 (.seq (.reg false [] [⟨⟨some 4, .assign (.const (.bool true)), none⟩, false, false⟩])
 (.ret))))
theorem F47 : Fun1 Try.prog 47 26 c47 [.tmp 4] := Fun1.mk' AL.Try.follows_mixed Try.func47 rfl (by decide +kernel) Try.ntmps47 rfl (by kernel_rfl) rfl

end Go.AL
namespace Go.AL
open Go.Proofs
/- proviso/provisoplain.Env -/
def c30 : AC :=
.seq (.reg false [] [⟨⟨some 1, .box 57 (.tmp 0), none⟩, false, false⟩, ⟨⟨some 2, .alloc 57, none⟩, false, false⟩])
 (.seq (.seq (.reg true [1] [⟨⟨some 6, .fieldAddr 57 (.tmp 1) 0, none⟩, false, true⟩, ⟨⟨some 7, .load 52 (.tmp 6), none⟩, false, true⟩, ⟨⟨some 8, .call { callee := .value (.func 63), args := #[.tmp 7], argTypes := #[52] }, none⟩, false, true⟩, ⟨⟨some 9, .fieldAddr 57 (.tmp 1) 2, none⟩, true, true⟩, ⟨⟨some 10, .load 3 (.tmp 9), none⟩, true, true⟩, ⟨⟨some 11, .build 57 #[(0, .tmp 8), (2, .tmp 10)], none⟩, false, true⟩, ⟨⟨some 3, .alloc 57, none⟩, true, false⟩])
 (.reg false [] [⟨⟨none, .store 57 (.tmp 3) (.tmp 11), none⟩, false, false⟩]))
 (.seq (.seq (.reg false [] [⟨⟨some 12, .fieldAddr 57 (.tmp 1) 1, none⟩, false, false⟩, ⟨⟨some 13, .load 49 (.tmp 12), none⟩, false, false⟩, ⟨⟨some 14, .call { callee := .builtin .len, args := #[.tmp 13], argTypes := #[49] }, none⟩, false, false⟩, ⟨⟨some 15, .move (.const (.int .i64 0)), none⟩, false, false⟩])
 (.block 0 (.loop (.seq (.reg false [] [⟨⟨some 16, .binOp .lss 3 (.tmp 15) (.tmp 14) 3, none⟩, false, false⟩])
 (.seq (.cond (.tmp 16) (.skip)
 (.exit 0))
 (.seq (.block 1 (.seq (.reg false [] [⟨⟨some 17, .indexAddr 49 (.tmp 13) (.tmp 15), none⟩, false, false⟩, ⟨⟨some 18, .load 25 (.tmp 17), none⟩, false, false⟩, ⟨⟨some 5, .alloc 25, none⟩, false, false⟩, ⟨⟨none, .store 25 (.tmp 5) (.tmp 18), none⟩, false, false⟩])
 (.seq (.reg true [3] [⟨⟨some 19, .fieldAddr 57 (.tmp 3) 1, none⟩, true, true⟩, ⟨⟨some 20, .load 49 (.tmp 19), none⟩, true, true⟩, ⟨⟨some 21, .load 25 (.tmp 5), none⟩, false, false⟩, ⟨⟨some 22, .call { callee := .value (.func 11), args := #[.tmp 21], argTypes := #[25] }, none⟩, false, false⟩, ⟨⟨some 23, .buildSlice 49 1 #[(0, .tmp 22)], none⟩, false, false⟩])
 (.reg false [] [⟨⟨some 24, .call { callee := .builtin .append, args := #[.tmp 20, .tmp 23], argTypes := #[49, 49] }, none⟩, false, false⟩, ⟨⟨some 25, .fieldAddr 57 (.tmp 3) 1, none⟩, false, false⟩, ⟨⟨none, .store 49 (.tmp 25) (.tmp 24), none⟩, false, false⟩]))))
 (.reg false [] [⟨⟨some 26, .binOp .add 3 (.tmp 15) (.const (.int .i64 1)) 3, none⟩, false, false⟩, ⟨⟨some 15, .move (.tmp 26), none⟩, false, false⟩])))))))
 (.seq (.reg false [] [⟨⟨some 27, .load 57 (.tmp 3), none⟩, false, false⟩, ⟨⟨none, .store 57 (.tmp 2) (.tmp 27), none⟩, false, false⟩])
 (.ret))))
theorem F30 : Fun1 Try.prog 30 28 c30 [.cell 2 57] := Fun1.mk' AL.Try.follows_mixed Try.func30 rfl (by decide +kernel) Try.ntmps30 rfl (by kernel_rfl) rfl

/- proviso/infer.May -/
def c31 : AC :=
.seq (.reg false [] [⟨⟨some 2, .box 57 (.tmp 0), none⟩, false, false⟩, ⟨⟨some 4, .assign (.const (.int .i64 0)), none⟩, false, false⟩])
 (.seq (.seq (.reg false [] [⟨⟨some 13, .fieldAddr 57 (.tmp 2) 0, none⟩, false, false⟩, ⟨⟨some 14, .load 52 (.tmp 13), none⟩, false, false⟩, ⟨⟨some 15, .call { callee := .value (.func 64), args := #[.tmp 14], argTypes := #[52] }, none⟩, false, false⟩, ⟨⟨some 12, .move (.tmp 15), none⟩, false, false⟩, ⟨⟨some 16, .extract (.tmp 12) 0, none⟩, false, false⟩, ⟨⟨some 17, .extract (.tmp 12) 1, none⟩, false, false⟩, ⟨⟨some 5, .assign (.tmp 16), none⟩, false, false⟩, ⟨⟨some 6, .assign (.tmp 17), none⟩, false, false⟩])
 (.seq (.reg false [] [⟨⟨some 18, .move (.tmp 6), none⟩, false, false⟩, ⟨⟨some 19, .binOp .neq 45 (.tmp 18) (.const (.int .i64 0)) 45, none⟩, false, false⟩])
 (.cond (.tmp 19) (.seq (.reg false [] [⟨⟨some 20, .move (.tmp 6), none⟩, false, false⟩, ⟨⟨some 4, .assign (.tmp 20), none⟩, false, false⟩])
 (.ret))
 (.skip))))
 (.seq (.seq (.reg false [] [⟨⟨some 21, .fieldAddr 57 (.tmp 2) 1, none⟩, false, false⟩, ⟨⟨some 22, .load 49 (.tmp 21), none⟩, false, false⟩, ⟨⟨some 23, .call { callee := .builtin .len, args := #[.tmp 22], argTypes := #[49] }, none⟩, false, false⟩, ⟨⟨some 24, .binOp .gtr 3 (.tmp 23) (.const (.int .i64 64)) 3, none⟩, false, false⟩])
 (.cond (.tmp 24) (.seq (.reg false [] [⟨⟨some 4, .assign (.const (.int .i64 4)), none⟩, false, false⟩])
 (.ret))
 (.skip)))
 (.seq (.seq (.reg false [] [⟨⟨some 25, .fieldAddr 57 (.tmp 2) 1, none⟩, false, false⟩, ⟨⟨some 26, .load 49 (.tmp 25), none⟩, false, false⟩, ⟨⟨some 27, .call { callee := .builtin .len, args := #[.tmp 26], argTypes := #[49] }, none⟩, false, false⟩, ⟨⟨some 28, .move (.const (.int .i64 0)), none⟩, false, false⟩])
 (.block 0 (.loop (.seq (.reg false [] [⟨⟨some 29, .binOp .lss 3 (.tmp 28) (.tmp 27) 3, none⟩, false, false⟩])
 (.seq (.cond (.tmp 29) (.skip)
 (.exit 0))
 (.seq (.block 1 (.seq (.reg false [] [⟨⟨some 30, .indexAddr 49 (.tmp 26) (.tmp 28), none⟩, false, false⟩, ⟨⟨some 31, .load 25 (.tmp 30), none⟩, false, false⟩, ⟨⟨some 8, .alloc 25, none⟩, false, false⟩, ⟨⟨none, .store 25 (.tmp 8) (.tmp 31), none⟩, false, false⟩])
 (.seq (.seq (.reg false [] [⟨⟨some 32, .fieldAddr 25 (.tmp 8) 0, none⟩, false, false⟩, ⟨⟨some 33, .load 22 (.tmp 32), none⟩, false, false⟩, ⟨⟨some 34, .call { callee := .builtin .len, args := #[.tmp 33], argTypes := #[22] }, none⟩, false, false⟩, ⟨⟨some 35, .binOp .gtr 3 (.tmp 34) (.const (.int .i64 8)) 3, none⟩, false, false⟩])
 (.cond (.tmp 35) (.seq (.reg false [] [⟨⟨some 4, .assign (.const (.int .i64 4)), none⟩, false, false⟩])
 (.ret))
 (.skip)))
 (.seq (.reg false [] [⟨⟨some 36, .makeFunc (.func 65) #[] #[.tmp 2], none⟩, false, false⟩, ⟨⟨some 9, .assign (.tmp 36), none⟩, false, false⟩])
 (.seq (.reg false [] [⟨⟨some 37, .fieldAddr 25 (.tmp 8) 0, none⟩, false, false⟩, ⟨⟨some 38, .load 22 (.tmp 37), none⟩, false, false⟩, ⟨⟨some 39, .move (.tmp 9), none⟩, false, false⟩, ⟨⟨some 40, .call { callee := .value (.func 67), args := #[.tmp 38, .tmp 39], argTypes := #[22, 119] }, none⟩, false, false⟩, ⟨⟨some 41, .move (.tmp 40), none⟩, false, false⟩, ⟨⟨some 42, .fieldAddr 25 (.tmp 8) 1, some (41, false)⟩, false, false⟩, ⟨⟨some 43, .load 23 (.tmp 42), some (41, false)⟩, false, false⟩, ⟨⟨some 44, .binOp .neq 23 (.tmp 43) (.const (.int .u8 0)) 23, some (41, false)⟩, false, false⟩, ⟨⟨some 45, .move (.tmp 44), some (41, false)⟩, false, false⟩, ⟨⟨some 46, .move (.tmp 9), some (45, true)⟩, false, false⟩, ⟨⟨some 47, .fieldAddr 25 (.tmp 8) 1, some (45, true)⟩, false, false⟩, ⟨⟨some 48, .load 23 (.tmp 47), some (45, true)⟩, false, false⟩, ⟨⟨some 49, .call { callee := .value (.tmp 46), args := #[.tmp 48], argTypes := #[23] }, some (45, true)⟩, false, false⟩, ⟨⟨some 50, .pick (.tmp 45) (.tmp 49) (.const (.bool false)), some (41, false)⟩, false, false⟩, ⟨⟨some 51, .pick (.tmp 41) (.const (.bool true)) (.tmp 50), none⟩, false, false⟩])
 (.cond (.tmp 51) (.seq (.reg false [] [⟨⟨some 4, .assign (.const (.int .i64 22)), none⟩, false, false⟩])
 (.ret))
 (.skip)))))))
 (.reg false [] [⟨⟨some 52, .binOp .add 3 (.tmp 28) (.const (.int .i64 1)) 3, none⟩, false, false⟩, ⟨⟨some 28, .move (.tmp 52), none⟩, false, false⟩])))))))
 (.seq (.seq (.reg false [] [⟨⟨some 53, .fieldAddr 57 (.tmp 2) 2, none⟩, false, false⟩, ⟨⟨some 54, .load 3 (.tmp 53), none⟩, false, false⟩, ⟨⟨some 55, .binOp .lss 3 (.tmp 54) (.const (.int .i64 0)) 3, none⟩, false, false⟩, ⟨⟨some 56, .move (.tmp 55), none⟩, false, false⟩, ⟨⟨some 57, .fieldAddr 57 (.tmp 2) 2, some (56, false)⟩, false, false⟩, ⟨⟨some 58, .load 3 (.tmp 57), some (56, false)⟩, false, false⟩, ⟨⟨some 59, .fieldAddr 57 (.tmp 2) 1, some (56, false)⟩, false, false⟩, ⟨⟨some 60, .load 49 (.tmp 59), some (56, false)⟩, false, false⟩, ⟨⟨some 61, .call { callee := .builtin .len, args := #[.tmp 60], argTypes := #[49] }, some (56, false)⟩, false, false⟩, ⟨⟨some 62, .binOp .geq 3 (.tmp 58) (.tmp 61) 3, some (56, false)⟩, false, false⟩, ⟨⟨some 63, .pick (.tmp 56) (.const (.bool true)) (.tmp 62), none⟩, false, false⟩])
 (.cond (.tmp 63) (.seq (.reg false [] [⟨⟨some 4, .assign (.const (.int .i64 71)), none⟩, false, false⟩])
 (.ret))
 (.skip)))
 (.seq (.reg true [] [⟨⟨some 65, .fieldAddr 57 (.tmp 2) 0, none⟩, false, true⟩, ⟨⟨some 66, .load 52 (.tmp 65), none⟩, false, true⟩, ⟨⟨some 67, .fieldAddr 57 (.tmp 2) 1, none⟩, false, true⟩, ⟨⟨some 68, .load 49 (.tmp 67), none⟩, false, true⟩, ⟨⟨some 69, .fieldAddr 57 (.tmp 2) 2, none⟩, false, true⟩, ⟨⟨some 70, .load 3 (.tmp 69), none⟩, false, true⟩, ⟨⟨some 71, .indexAddr 49 (.tmp 68) (.tmp 70), none⟩, false, true⟩, ⟨⟨some 72, .fieldAddr 25 (.tmp 71) 0, none⟩, false, true⟩, ⟨⟨some 73, .load 22 (.tmp 72), none⟩, false, true⟩, ⟨⟨some 74, .move (.tmp 1), none⟩, false, true⟩, ⟨⟨some 75, .call { callee := .value (.func 68), args := #[.tmp 66, .tmp 73, .tmp 74], argTypes := #[52, 22, 3] }, none⟩, false, true⟩, ⟨⟨some 64, .move (.tmp 75), none⟩, false, true⟩, ⟨⟨some 76, .extract (.tmp 64) 0, none⟩, false, true⟩, ⟨⟨some 77, .extract (.tmp 64) 1, none⟩, true, true⟩, ⟨⟨some 10, .alloc 71, none⟩, true, false⟩, ⟨⟨none, .store 71 (.tmp 10) (.tmp 76), none⟩, false, false⟩, ⟨⟨some 11, .assign (.tmp 77), none⟩, false, false⟩])
 (.seq (.reg false [] [⟨⟨some 78, .move (.tmp 11), none⟩, false, false⟩, ⟨⟨some 4, .assign (.tmp 78), none⟩, false, false⟩])
 (.ret)))))))
theorem F31 : Fun1 Try.prog 31 79 c31 [.tmp 4] := Fun1.mk' AL.Try.follows_mixed Try.func31 rfl (by decide +kernel) Try.ntmps31 rfl (by kernel_rfl) rfl

/- proviso/provisoref08.May -/
def c32 : AC :=
.seq (.reg false [] [⟨⟨some 2, .box 57 (.tmp 0), none⟩, false, false⟩, ⟨⟨some 4, .assign (.const (.int .i64 0)), none⟩, false, false⟩])
 (.seq (.reg false [] [⟨⟨some 9, .fieldAddr 57 (.tmp 2) 0, none⟩, false, false⟩, ⟨⟨some 10, .load 52 (.tmp 9), none⟩, false, false⟩, ⟨⟨some 11, .call { callee := .value (.func 69), args := #[.tmp 10], argTypes := #[52] }, none⟩, false, false⟩, ⟨⟨some 8, .move (.tmp 11), none⟩, false, false⟩, ⟨⟨some 12, .extract (.tmp 8) 0, none⟩, false, false⟩, ⟨⟨some 13, .extract (.tmp 8) 1, none⟩, false, false⟩, ⟨⟨some 5, .assign (.tmp 12), none⟩, false, false⟩, ⟨⟨some 6, .assign (.tmp 13), none⟩, false, false⟩])
 (.seq (.seq (.reg false [] [⟨⟨some 14, .move (.tmp 6), none⟩, false, false⟩, ⟨⟨some 15, .binOp .neq 45 (.tmp 14) (.const (.int .i64 0)) 45, none⟩, false, false⟩])
 (.cond (.tmp 15) (.seq (.reg false [] [⟨⟨some 16, .move (.tmp 6), none⟩, false, false⟩, ⟨⟨some 4, .assign (.tmp 16), none⟩, false, false⟩])
 (.ret))
 (.skip)))
 (.seq (.seq (.reg false [] [⟨⟨some 17, .fieldAddr 57 (.tmp 2) 1, none⟩, false, false⟩, ⟨⟨some 18, .load 49 (.tmp 17), none⟩, false, false⟩, ⟨⟨some 19, .call { callee := .builtin .len, args := #[.tmp 18], argTypes := #[49] }, none⟩, false, false⟩, ⟨⟨some 20, .binOp .gtr 3 (.tmp 19) (.const (.int .i64 64)) 3, none⟩, false, false⟩])
 (.cond (.tmp 20) (.seq (.reg false [] [⟨⟨some 4, .assign (.const (.int .i64 4)), none⟩, false, false⟩])
 (.ret))
 (.skip)))
 (.seq (.seq (.reg false [] [⟨⟨some 7, .assign (.const (.int .i64 0)), none⟩, false, false⟩])
 (.block 0 (.loop (.seq (.seq (.reg false [] [⟨⟨some 21, .move (.tmp 7), none⟩, false, false⟩, ⟨⟨some 22, .fieldAddr 57 (.tmp 2) 1, none⟩, false, false⟩, ⟨⟨some 23, .load 49 (.tmp 22), none⟩, false, false⟩, ⟨⟨some 24, .call { callee := .builtin .len, args := #[.tmp 23], argTypes := #[49] }, none⟩, false, false⟩, ⟨⟨some 25, .binOp .lss 3 (.tmp 21) (.tmp 24) 3, none⟩, false, false⟩])
 (.cond (.tmp 25) (.skip)
 (.exit 0)))
 (.seq (.block 1 (.seq (.seq (.reg false [] [⟨⟨some 28, .fieldAddr 57 (.tmp 2) 1, none⟩, false, false⟩, ⟨⟨some 29, .load 49 (.tmp 28), none⟩, false, false⟩, ⟨⟨some 30, .move (.tmp 7), none⟩, false, false⟩, ⟨⟨some 31, .indexAddr 49 (.tmp 29) (.tmp 30), none⟩, false, false⟩, ⟨⟨some 32, .fieldAddr 25 (.tmp 31) 0, none⟩, false, false⟩, ⟨⟨some 33, .load 22 (.tmp 32), none⟩, false, false⟩, ⟨⟨some 34, .call { callee := .builtin .len, args := #[.tmp 33], argTypes := #[22] }, none⟩, false, false⟩, ⟨⟨some 35, .binOp .gtr 3 (.tmp 34) (.const (.int .i64 8)) 3, none⟩, false, false⟩])
 (.cond (.tmp 35) (.seq (.reg false [] [⟨⟨some 4, .assign (.const (.int .i64 4)), none⟩, false, false⟩])
 (.ret))
 (.skip)))
 (.seq (.reg true [] [⟨⟨some 36, .fieldAddr 57 (.tmp 2) 0, none⟩, false, true⟩, ⟨⟨some 37, .load 52 (.tmp 36), none⟩, false, true⟩, ⟨⟨some 38, .fieldAddr 57 (.tmp 2) 1, none⟩, false, true⟩, ⟨⟨some 39, .load 49 (.tmp 38), none⟩, false, true⟩, ⟨⟨some 40, .move (.tmp 7), none⟩, false, false⟩, ⟨⟨some 41, .indexAddr 49 (.tmp 39) (.tmp 40), none⟩, false, false⟩, ⟨⟨some 42, .load 25 (.tmp 41), none⟩, false, false⟩, ⟨⟨some 43, .call { callee := .value (.func 70), args := #[.tmp 37, .tmp 42], argTypes := #[52, 25] }, none⟩, false, false⟩, ⟨⟨some 44, .unOp .not 4 (.tmp 43), none⟩, false, false⟩])
 (.cond (.tmp 44) (.seq (.reg false [] [⟨⟨some 4, .assign (.const (.int .i64 22)), none⟩, false, false⟩])
 (.ret))
 (.skip)))))
 (.reg false [] [⟨⟨some 26, .move (.tmp 7), none⟩, false, false⟩, ⟨⟨some 27, .binOp .add 3 (.tmp 26) (.const (.int .i64 1)) 3, none⟩, false, false⟩, ⟨⟨some 7, .assign (.tmp 27), none⟩, false, false⟩]))))))
 (.seq (.seq (.reg false [] [⟨⟨some 45, .fieldAddr 57 (.tmp 2) 2, none⟩, false, false⟩, ⟨⟨some 46, .load 3 (.tmp 45), none⟩, false, false⟩, ⟨⟨some 47, .binOp .lss 3 (.tmp 46) (.const (.int .i64 0)) 3, none⟩, false, false⟩, ⟨⟨some 48, .move (.tmp 47), none⟩, false, false⟩, ⟨⟨some 49, .fieldAddr 57 (.tmp 2) 2, some (48, false)⟩, false, false⟩, ⟨⟨some 50, .load 3 (.tmp 49), some (48, false)⟩, false, false⟩, ⟨⟨some 51, .fieldAddr 57 (.tmp 2) 1, some (48, false)⟩, false, false⟩, ⟨⟨some 52, .load 49 (.tmp 51), some (48, false)⟩, false, false⟩, ⟨⟨some 53, .call { callee := .builtin .len, args := #[.tmp 52], argTypes := #[49] }, some (48, false)⟩, false, false⟩, ⟨⟨some 54, .binOp .geq 3 (.tmp 50) (.tmp 53) 3, some (48, false)⟩, false, false⟩, ⟨⟨some 55, .pick (.tmp 48) (.const (.bool true)) (.tmp 54), none⟩, false, false⟩])
 (.cond (.tmp 55) (.seq (.reg false [] [⟨⟨some 4, .assign (.const (.int .i64 71)), none⟩, false, false⟩])
 (.ret))
 (.skip)))
 (.seq (.reg true [] [⟨⟨some 57, .fieldAddr 57 (.tmp 2) 0, none⟩, false, true⟩, ⟨⟨some 58, .load 52 (.tmp 57), none⟩, false, true⟩, ⟨⟨some 59, .fieldAddr 57 (.tmp 2) 1, none⟩, false, true⟩, ⟨⟨some 60, .load 49 (.tmp 59), none⟩, false, true⟩, ⟨⟨some 61, .fieldAddr 57 (.tmp 2) 2, none⟩, false, true⟩, ⟨⟨some 62, .load 3 (.tmp 61), none⟩, false, true⟩, ⟨⟨some 63, .indexAddr 49 (.tmp 60) (.tmp 62), none⟩, false, true⟩, ⟨⟨some 64, .fieldAddr 25 (.tmp 63) 0, none⟩, false, true⟩, ⟨⟨some 65, .load 22 (.tmp 64), none⟩, false, true⟩, ⟨⟨some 66, .move (.tmp 1), none⟩, false, false⟩, ⟨⟨some 67, .call { callee := .value (.func 71), args := #[.tmp 58, .tmp 65, .tmp 66], argTypes := #[52, 22, 3] }, none⟩, false, false⟩, ⟨⟨some 56, .move (.tmp 67), none⟩, false, false⟩, ⟨⟨some 68, .extract (.tmp 56) 0, none⟩, false, true⟩, ⟨⟨some 69, .extract (.tmp 56) 1, none⟩, false, false⟩, ⟨⟨some 6, .assign (.tmp 69), none⟩, false, false⟩])
 (.seq (.reg false [] [⟨⟨some 70, .move (.tmp 6), none⟩, false, false⟩, ⟨⟨some 4, .assign (.tmp 70), none⟩, false, false⟩])
 (.ret))))))))
theorem F32 : Fun1 Try.prog 32 71 c32 [.tmp 4] := Fun1.mk' AL.Try.follows_mixed Try.func32 rfl (by decide +kernel) Try.ntmps32 rfl (by kernel_rfl) rfl

/- proviso/provisoplain.SameEnv -/
def c33 : AC :=
.seq (.reg false [] [⟨⟨some 2, .box 57 (.tmp 0), none⟩, false, false⟩, ⟨⟨some 3, .box 57 (.tmp 1), none⟩, false, false⟩, ⟨⟨some 4, .assign (.const (.bool false)), none⟩, false, false⟩])
 (.seq (.seq (.reg false [] [⟨⟨some 6, .fieldAddr 57 (.tmp 2) 2, none⟩, false, false⟩, ⟨⟨some 7, .load 3 (.tmp 6), none⟩, false, false⟩, ⟨⟨some 8, .fieldAddr 57 (.tmp 3) 2, none⟩, false, false⟩, ⟨⟨some 9, .load 3 (.tmp 8), none⟩, false, false⟩, ⟨⟨some 10, .binOp .neq 3 (.tmp 7) (.tmp 9) 3, none⟩, false, false⟩, ⟨⟨some 11, .move (.tmp 10), none⟩, false, false⟩, ⟨⟨some 12, .fieldAddr 57 (.tmp 2) 0, some (11, false)⟩, false, false⟩, ⟨⟨some 13, .load 52 (.tmp 12), some (11, false)⟩, false, false⟩, ⟨⟨some 14, .fieldAddr 57 (.tmp 3) 0, some (11, false)⟩, false, false⟩, ⟨⟨some 15, .load 52 (.tmp 14), some (11, false)⟩, false, false⟩, ⟨⟨some 16, .call { callee := .value (.func 26), args := #[.tmp 13, .tmp 15], argTypes := #[52, 52] }, some (11, false)⟩, false, false⟩, ⟨⟨some 17, .unOp .not 4 (.tmp 16), some (11, false)⟩, false, false⟩, ⟨⟨some 18, .pick (.tmp 11) (.const (.bool true)) (.tmp 17), none⟩, false, false⟩, ⟨⟨some 19, .move (.tmp 18), none⟩, false, false⟩, ⟨⟨some 20, .fieldAddr 57 (.tmp 2) 1, some (19, false)⟩, false, false⟩, ⟨⟨some 21, .load 49 (.tmp 20), some (19, false)⟩, false, false⟩, ⟨⟨some 22, .call { callee := .builtin .len, args := #[.tmp 21], argTypes := #[49] }, some (19, false)⟩, false, false⟩, ⟨⟨some 23, .fieldAddr 57 (.tmp 3) 1, some (19, false)⟩, false, false⟩, ⟨⟨some 24, .load 49 (.tmp 23), some (19, false)⟩, false, false⟩, ⟨⟨some 25, .call { callee := .builtin .len, args := #[.tmp 24], argTypes := #[49] }, some (19, false)⟩, false, false⟩, ⟨⟨some 26, .binOp .neq 3 (.tmp 22) (.tmp 25) 3, some (19, false)⟩, false, false⟩, ⟨⟨some 27, .pick (.tmp 19) (.const (.bool true)) (.tmp 26), none⟩, false, false⟩])
 (.cond (.tmp 27) (.seq (.reg false [] [⟨⟨some 4, .assign (.const (.bool false)), none⟩, false, false⟩])
 (.ret))
 (.skip)))
 (.seq (.seq (.reg false [] [⟨⟨some 28, .fieldAddr 57 (.tmp 2) 1, none⟩, false, false⟩, ⟨⟨some 29, .load 49 (.tmp 28), none⟩, false, false⟩, ⟨⟨some 30, .call { callee := .builtin .len, args := #[.tmp 29], argTypes := #[49] }, none⟩, false, false⟩, ⟨⟨some 31, .move (.const (.int .i64 0)), none⟩, false, false⟩])
 (.block 0 (.loop (.seq (.reg false [] [⟨⟨some 32, .binOp .lss 3 (.tmp 31) (.tmp 30) 3, none⟩, false, false⟩])
 (.seq (.cond (.tmp 32) (.skip)
 (.exit 0))
 (.seq (.block 1 (.seq (.reg false [] [⟨⟨some 33, .move (.tmp 31), none⟩, false, false⟩, ⟨⟨some 5, .assign (.tmp 33), none⟩, false, false⟩])
 (.seq (.reg true [] [⟨⟨some 34, .fieldAddr 57 (.tmp 2) 1, none⟩, false, true⟩, ⟨⟨some 35, .load 49 (.tmp 34), none⟩, false, true⟩, ⟨⟨some 36, .move (.tmp 5), none⟩, false, true⟩, ⟨⟨some 37, .indexAddr 49 (.tmp 35) (.tmp 36), none⟩, false, true⟩, ⟨⟨some 38, .load 25 (.tmp 37), none⟩, false, true⟩, ⟨⟨some 39, .fieldAddr 57 (.tmp 3) 1, none⟩, false, true⟩, ⟨⟨some 40, .load 49 (.tmp 39), none⟩, false, true⟩, ⟨⟨some 41, .move (.tmp 5), none⟩, false, false⟩, ⟨⟨some 42, .indexAddr 49 (.tmp 40) (.tmp 41), none⟩, false, false⟩, ⟨⟨some 43, .load 25 (.tmp 42), none⟩, false, false⟩, ⟨⟨some 44, .call { callee := .value (.func 15), args := #[.tmp 38, .tmp 43], argTypes := #[25, 25] }, none⟩, false, false⟩, ⟨⟨some 45, .unOp .not 4 (.tmp 44), none⟩, false, false⟩])
 (.cond (.tmp 45) (.seq (.reg false [] [⟨⟨some 4, .assign (.const (.bool false)), none⟩, false, false⟩])
 (.ret))
 (.skip)))))
 (.reg false [] [⟨⟨some 46, .binOp .add 3 (.tmp 31) (.const (.int .i64 1)) 3, none⟩, false, false⟩, ⟨⟨some 31, .move (.tmp 46), none⟩, false, false⟩])))))))
 (.seq (.reg false [] [⟨⟨some 4, .assign (.const (.bool true)), none⟩, false, false⟩])
 (.ret))))
theorem F33 : Fun1 Try.prog 33 47 c33 [.tmp 4] := Fun1.mk' AL.Try.follows_mixed Try.func33 rfl (by decide +kernel) Try.ntmps33 rfl (by kernel_rfl) rfl

/- proviso/provisoplain.Classes -/
def c63 : AC :=
.seq (.reg false [] [⟨⟨some 2, .assign (.const (.slice none 0 0)), none⟩, false, false⟩])
 (.seq (.reg false [] [⟨⟨some 3, .assign (.const (.slice none 0 0)), none⟩, false, false⟩])
 (.seq (.seq (.reg false [] [⟨⟨some 6, .move (.tmp 0), none⟩, false, false⟩, ⟨⟨some 7, .call { callee := .builtin .len, args := #[.tmp 6], argTypes := #[52] }, none⟩, false, false⟩, ⟨⟨some 8, .move (.const (.int .i64 0)), none⟩, false, false⟩])
 (.block 0 (.loop (.seq (.reg false [] [⟨⟨some 9, .binOp .lss 3 (.tmp 8) (.tmp 7) 3, none⟩, false, false⟩])
 (.seq (.cond (.tmp 9) (.skip)
 (.exit 0))
 (.seq (.block 1 (.seq (.reg false [] [⟨⟨some 10, .indexAddr 52 (.tmp 6) (.tmp 8), none⟩, false, false⟩, ⟨⟨some 11, .load 107 (.tmp 10), none⟩, false, false⟩, ⟨⟨some 5, .alloc 107, none⟩, false, false⟩, ⟨⟨none, .store 107 (.tmp 5) (.tmp 11), none⟩, false, false⟩])
 (.seq (.reg false [] [⟨⟨some 12, .fieldAddr 107 (.tmp 5) 2, none⟩, false, false⟩, ⟨⟨some 13, .load 105 (.tmp 12), none⟩, false, false⟩, ⟨⟨some 14, .call { callee := .value (.func 98), args := #[.tmp 13], argTypes := #[105] }, none⟩, false, false⟩, ⟨⟨some 15, .fieldAddr 107 (.tmp 5) 2, none⟩, false, false⟩, ⟨⟨none, .store 105 (.tmp 15) (.tmp 14), none⟩, false, false⟩])
 (.reg false [] [⟨⟨some 16, .move (.tmp 3), none⟩, false, false⟩, ⟨⟨some 17, .load 107 (.tmp 5), none⟩, false, false⟩, ⟨⟨some 18, .buildSlice 52 1 #[(0, .tmp 17)], none⟩, false, false⟩, ⟨⟨some 19, .call { callee := .builtin .append, args := #[.tmp 16, .tmp 18], argTypes := #[52, 52] }, none⟩, false, false⟩, ⟨⟨some 3, .assign (.tmp 19), none⟩, false, false⟩]))))
 (.reg false [] [⟨⟨some 20, .binOp .add 3 (.tmp 8) (.const (.int .i64 1)) 3, none⟩, false, false⟩, ⟨⟨some 8, .move (.tmp 20), none⟩, false, false⟩])))))))
 (.seq (.reg false [] [⟨⟨some 21, .move (.tmp 3), none⟩, false, false⟩, ⟨⟨some 2, .assign (.tmp 21), none⟩, false, false⟩])
 (.ret))))
theorem F63 : Fun1 Try.prog 63 22 c63 [.tmp 2] := Fun1.mk' AL.Try.follows_mixed Try.func63 rfl (by decide +kernel) Try.ntmps63 rfl (by kernel_rfl) rfl

/- proviso/provisoplain.SameClasses -/
def c26 : AC :=
.seq (.reg false [] [⟨⟨some 4, .assign (.const (.bool false)), none⟩, false, false⟩])
 (.seq (.seq (.reg false [] [⟨⟨some 6, .move (.tmp 0), none⟩, false, false⟩, ⟨⟨some 7, .call { callee := .builtin .len, args := #[.tmp 6], argTypes := #[52] }, none⟩, false, false⟩, ⟨⟨some 8, .move (.tmp 1), none⟩, false, false⟩, ⟨⟨some 9, .call { callee := .builtin .len, args := #[.tmp 8], argTypes := #[52] }, none⟩, false, false⟩, ⟨⟨some 10, .binOp .neq 3 (.tmp 7) (.tmp 9) 3, none⟩, false, false⟩])
 (.cond (.tmp 10) (.seq (.reg false [] [⟨⟨some 4, .assign (.const (.bool false)), none⟩, false, false⟩])
 (.ret))
 (.skip)))
 (.seq (.seq (.reg false [] [⟨⟨some 11, .move (.tmp 0), none⟩, false, false⟩, ⟨⟨some 12, .call { callee := .builtin .len, args := #[.tmp 11], argTypes := #[52] }, none⟩, false, false⟩, ⟨⟨some 13, .move (.const (.int .i64 0)), none⟩, false, false⟩])
 (.block 0 (.loop (.seq (.reg false [] [⟨⟨some 14, .binOp .lss 3 (.tmp 13) (.tmp 12) 3, none⟩, false, false⟩])
 (.seq (.cond (.tmp 14) (.skip)
 (.exit 0))
 (.seq (.block 1 (.seq (.reg false [] [⟨⟨some 15, .move (.tmp 13), none⟩, false, false⟩, ⟨⟨some 5, .assign (.tmp 15), none⟩, false, false⟩])
 (.seq (.reg true [] [⟨⟨some 16, .move (.tmp 0), none⟩, false, true⟩, ⟨⟨some 17, .move (.tmp 5), none⟩, false, true⟩, ⟨⟨some 18, .indexAddr 52 (.tmp 16) (.tmp 17), none⟩, false, true⟩, ⟨⟨some 19, .fieldAddr 107 (.tmp 18) 0, none⟩, false, true⟩, ⟨⟨some 20, .load 9 (.tmp 19), none⟩, false, true⟩, ⟨⟨some 21, .move (.tmp 1), none⟩, false, true⟩, ⟨⟨some 22, .move (.tmp 5), none⟩, false, false⟩, ⟨⟨some 23, .indexAddr 52 (.tmp 21) (.tmp 22), none⟩, false, false⟩, ⟨⟨some 24, .fieldAddr 107 (.tmp 23) 0, none⟩, false, false⟩, ⟨⟨some 25, .load 9 (.tmp 24), none⟩, false, false⟩, ⟨⟨some 26, .binOp .neq 9 (.tmp 20) (.tmp 25) 9, none⟩, false, false⟩, ⟨⟨some 27, .move (.tmp 26), none⟩, false, false⟩, ⟨⟨some 28, .move (.tmp 0), some (27, false)⟩, false, true⟩, ⟨⟨some 29, .move (.tmp 5), some (27, false)⟩, false, true⟩, ⟨⟨some 30, .indexAddr 52 (.tmp 28) (.tmp 29), some (27, false)⟩, false, true⟩, ⟨⟨some 31, .fieldAddr 107 (.tmp 30) 1, some (27, false)⟩, false, true⟩, ⟨⟨some 32, .load 3 (.tmp 31), some (27, false)⟩, false, true⟩, ⟨⟨some 33, .move (.tmp 1), some (27, false)⟩, false, true⟩, ⟨⟨some 34, .move (.tmp 5), some (27, false)⟩, false, false⟩, ⟨⟨some 35, .indexAddr 52 (.tmp 33) (.tmp 34), some (27, false)⟩, false, false⟩, ⟨⟨some 36, .fieldAddr 107 (.tmp 35) 1, some (27, false)⟩, false, false⟩, ⟨⟨some 37, .load 3 (.tmp 36), some (27, false)⟩, false, false⟩, ⟨⟨some 38, .binOp .neq 3 (.tmp 32) (.tmp 37) 3, some (27, false)⟩, false, false⟩, ⟨⟨some 39, .pick (.tmp 27) (.const (.bool true)) (.tmp 38), none⟩, false, false⟩, ⟨⟨some 40, .move (.tmp 39), none⟩, false, false⟩, ⟨⟨some 41, .move (.tmp 0), some (40, false)⟩, false, true⟩, ⟨⟨some 42, .move (.tmp 5), some (40, false)⟩, false, true⟩, ⟨⟨some 43, .indexAddr 52 (.tmp 41) (.tmp 42), some (40, false)⟩, false, true⟩, ⟨⟨some 44, .fieldAddr 107 (.tmp 43) 2, some (40, false)⟩, false, true⟩, ⟨⟨some 45, .load 105 (.tmp 44), some (40, false)⟩, false, true⟩, ⟨⟨some 46, .move (.tmp 1), some (40, false)⟩, false, true⟩, ⟨⟨some 47, .move (.tmp 5), some (40, false)⟩, false, false⟩, ⟨⟨some 48, .indexAddr 52 (.tmp 46) (.tmp 47), some (40, false)⟩, false, false⟩, ⟨⟨some 49, .fieldAddr 107 (.tmp 48) 2, some (40, false)⟩, false, false⟩, ⟨⟨some 50, .load 105 (.tmp 49), some (40, false)⟩, false, false⟩, ⟨⟨some 51, .call { callee := .value (.func 58), args := #[.tmp 45, .tmp 50], argTypes := #[105, 105] }, some (40, false)⟩, false, false⟩, ⟨⟨some 52, .unOp .not 4 (.tmp 51), some (40, false)⟩, false, false⟩, ⟨⟨some 53, .pick (.tmp 40) (.const (.bool true)) (.tmp 52), none⟩, false, false⟩])
 (.cond (.tmp 53) (.seq (.reg false [] [⟨⟨some 4, .assign (.const (.bool false)), none⟩, false, false⟩])
 (.ret))
 (.skip)))))
 (.reg false [] [⟨⟨some 54, .binOp .add 3 (.tmp 13) (.const (.int .i64 1)) 3, none⟩, false, false⟩, ⟨⟨some 13, .move (.tmp 54), none⟩, false, false⟩])))))))
 (.seq (.reg false [] [⟨⟨some 4, .assign (.const (.bool true)), none⟩, false, false⟩])
 (.ret))))
theorem F26 : Fun1 Try.prog 26 55 c26 [.tmp 4] := Fun1.mk' AL.Try.follows_mixed Try.func26 rfl (by decide +kernel) Try.ntmps26 rfl (by kernel_rfl) rfl

/- slices.Equal[[]proviso/api.Field,proviso/api.Field] -/
def c58 : AC :=
.seq (.reg false [] [⟨⟨some 4, .assign (.const (.bool false)), none⟩, false, false⟩])
 (.seq (.seq (.reg false [] [⟨⟨some 6, .move (.tmp 0), none⟩, false, false⟩, ⟨⟨some 7, .call { callee := .builtin .len, args := #[.tmp 6], argTypes := #[105] }, none⟩, false, false⟩, ⟨⟨some 8, .move (.tmp 1), none⟩, false, false⟩, ⟨⟨some 9, .call { callee := .builtin .len, args := #[.tmp 8], argTypes := #[105] }, none⟩, false, false⟩, ⟨⟨some 10, .binOp .neq 3 (.tmp 7) (.tmp 9) 3, none⟩, false, false⟩])
 (.cond (.tmp 10) (.seq (.reg false [] [⟨⟨some 4, .assign (.const (.bool false)), none⟩, false, false⟩])
 (.ret))
 (.skip)))
 (.seq (.seq (.reg false [] [⟨⟨some 11, .move (.tmp 0), none⟩, false, false⟩, ⟨⟨some 12, .call { callee := .builtin .len, args := #[.tmp 11], argTypes := #[105] }, none⟩, false, false⟩, ⟨⟨some 13, .move (.const (.int .i64 0)), none⟩, false, false⟩])
 (.block 0 (.loop (.seq (.reg false [] [⟨⟨some 14, .binOp .lss 3 (.tmp 13) (.tmp 12) 3, none⟩, false, false⟩])
 (.seq (.cond (.tmp 14) (.skip)
 (.exit 0))
 (.seq (.block 1 (.seq (.reg false [] [⟨⟨some 15, .move (.tmp 13), none⟩, false, false⟩, ⟨⟨some 5, .assign (.tmp 15), none⟩, false, false⟩])
 (.seq (.reg true [] [⟨⟨some 16, .move (.tmp 0), none⟩, false, true⟩, ⟨⟨some 17, .move (.tmp 5), none⟩, false, true⟩, ⟨⟨some 18, .indexAddr 105 (.tmp 16) (.tmp 17), none⟩, false, true⟩, ⟨⟨some 19, .load 110 (.tmp 18), none⟩, false, true⟩, ⟨⟨some 20, .move (.tmp 1), none⟩, false, true⟩, ⟨⟨some 21, .move (.tmp 5), none⟩, false, false⟩, ⟨⟨some 22, .indexAddr 105 (.tmp 20) (.tmp 21), none⟩, false, false⟩, ⟨⟨some 23, .load 110 (.tmp 22), none⟩, false, false⟩, ⟨⟨some 24, .binOp .neq 110 (.tmp 19) (.tmp 23) 110, none⟩, false, false⟩])
 (.cond (.tmp 24) (.seq (.reg false [] [⟨⟨some 4, .assign (.const (.bool false)), none⟩, false, false⟩])
 (.ret))
 (.skip)))))
 (.reg false [] [⟨⟨some 25, .binOp .add 3 (.tmp 13) (.const (.int .i64 1)) 3, none⟩, false, false⟩, ⟨⟨some 13, .move (.tmp 25), none⟩, false, false⟩])))))))
 (.seq (.reg false [] [⟨⟨some 4, .assign (.const (.bool true)), none⟩, false, false⟩])
 (.ret))))
theorem F58 : Fun1 Try.prog 58 26 c58 [.tmp 4] := Fun1.mk' AL.Try.follows_mixed Try.func58 rfl (by decide +kernel) Try.ntmps58 rfl (by kernel_rfl) rfl

/- slices.Clone[[]proviso/api.Field,proviso/api.Field] -/
def c98 : AC :=
.seq (.reg false [] [⟨⟨some 2, .assign (.const (.slice none 0 0)), none⟩, false, false⟩])
 (.seq (.seq (.reg false [] [⟨⟨some 3, .move (.tmp 0), none⟩, false, false⟩, ⟨⟨some 4, .binOp .eql 105 (.tmp 3) (.const (.slice none 0 0)) 105, none⟩, false, false⟩])
 (.cond (.tmp 4) (.seq (.reg false [] [⟨⟨some 2, .assign (.const (.slice none 0 0)), none⟩, false, false⟩])
 (.ret))
 (.skip)))
 (.seq (.reg false [] [⟨⟨some 5, .buildSlice 105 0 #[], none⟩, false, false⟩, ⟨⟨some 6, .move (.tmp 0), none⟩, false, false⟩, ⟨⟨some 7, .call { callee := .builtin .append, args := #[.tmp 5, .tmp 6], argTypes := #[105, 105] }, none⟩, false, false⟩, ⟨⟨some 2, .assign (.tmp 7), none⟩, false, false⟩])
 (.ret)))
theorem F98 : Fun1 Try.prog 98 8 c98 [.tmp 2] := Fun1.mk' AL.Try.follows_mixed Try.func98 rfl (by decide +kernel) Try.ntmps98 rfl (by kernel_rfl) rfl

/- proviso/types.Check -/
def c64 : AC :=
.seq (.reg false [] [⟨⟨some 2, .assign (.const (.int .i64 0)), none⟩, false, false⟩, ⟨⟨some 3, .assign (.const (.int .i64 0)), none⟩, false, false⟩])
 (.seq (.seq (.reg false [] [⟨⟨some 7, .move (.tmp 0), none⟩, false, false⟩, ⟨⟨some 8, .call { callee := .builtin .len, args := #[.tmp 7], argTypes := #[52] }, none⟩, false, false⟩, ⟨⟨some 9, .move (.const (.int .i64 0)), none⟩, false, false⟩])
 (.block 0 (.loop (.seq (.reg false [] [⟨⟨some 10, .binOp .lss 3 (.tmp 9) (.tmp 8) 3, none⟩, false, false⟩])
 (.seq (.cond (.tmp 10) (.skip)
 (.exit 0))
 (.seq (.block 1 (.seq (.reg false [] [⟨⟨some 11, .move (.tmp 9), none⟩, false, false⟩, ⟨⟨some 12, .indexAddr 52 (.tmp 7) (.tmp 9), none⟩, false, false⟩, ⟨⟨some 13, .load 107 (.tmp 12), none⟩, false, false⟩, ⟨⟨some 5, .alloc 107, none⟩, false, false⟩, ⟨⟨some 4, .assign (.tmp 11), none⟩, false, false⟩, ⟨⟨none, .store 107 (.tmp 5) (.tmp 13), none⟩, false, false⟩])
 (.seq (.reg false [] [⟨⟨some 6, .assign (.const (.int .i64 0)), none⟩, false, false⟩])
 (.seq (.block 2 (.seq (.reg false [] [⟨⟨some 18, .move (.tmp 4), none⟩, false, false⟩, ⟨⟨some 19, .binOp .geq 3 (.tmp 18) (.const (.int .i64 32)) 3, none⟩, false, false⟩, ⟨⟨some 17, .assign (.tmp 19), none⟩, false, false⟩])
 (.cond (.tmp 17) (.reg false [] [⟨⟨some 6, .assign (.const (.int .i64 4)), none⟩, false, false⟩])
 (.seq (.reg true [5] [⟨⟨some 21, .fieldAddr 107 (.tmp 5) 0, none⟩, false, false⟩, ⟨⟨some 22, .load 9 (.tmp 21), none⟩, false, false⟩, ⟨⟨some 23, .call { callee := .value (.func 99), args := #[.tmp 22], argTypes := #[9] }, none⟩, false, false⟩, ⟨⟨some 24, .unOp .not 4 (.tmp 23), none⟩, false, false⟩, ⟨⟨some 25, .move (.tmp 24), none⟩, false, false⟩, ⟨⟨some 26, .call { callee := .value (.func 101), args := #[], argTypes := #[] }, some (25, false)⟩, false, true⟩, ⟨⟨some 27, .fieldAddr 107 (.tmp 5) 0, some (25, false)⟩, true, false⟩, ⟨⟨some 28, .load 9 (.tmp 27), some (25, false)⟩, true, false⟩, ⟨⟨some 29, .call { callee := .value (.func 100), args := #[.tmp 26, .tmp 28], argTypes := #[166, 9] }, some (25, false)⟩, false, false⟩, ⟨⟨some 30, .pick (.tmp 25) (.const (.bool true)) (.tmp 29), none⟩, false, false⟩, ⟨⟨some 20, .assign (.tmp 30), none⟩, false, false⟩])
 (.cond (.tmp 20) (.reg false [] [⟨⟨some 6, .assign (.const (.int .i64 6)), none⟩, false, false⟩])
 (.seq (.reg false [] [⟨⟨some 32, .move (.tmp 0), none⟩, false, false⟩, ⟨⟨some 33, .move (.tmp 4), none⟩, false, false⟩, ⟨⟨some 34, .slice 52 (.tmp 32) none (some (.tmp 33)) none, none⟩, false, false⟩, ⟨⟨some 35, .makeFunc (.func 103) #[] #[.tmp 5], none⟩, false, false⟩, ⟨⟨some 36, .call { callee := .value (.func 102), args := #[.tmp 34, .tmp 35], argTypes := #[52, 169] }, none⟩, false, false⟩, ⟨⟨some 31, .assign (.tmp 36), none⟩, false, false⟩])
 (.cond (.tmp 31) (.reg false [] [⟨⟨some 6, .assign (.const (.int .i64 20)), none⟩, false, false⟩])
 (.seq (.reg false [] [⟨⟨some 38, .fieldAddr 107 (.tmp 5) 1, none⟩, false, false⟩, ⟨⟨some 39, .load 3 (.tmp 38), none⟩, false, false⟩, ⟨⟨some 40, .binOp .lss 3 (.tmp 39) (.const (.int .i64 (-1))) 3, none⟩, false, false⟩, ⟨⟨some 41, .move (.tmp 40), none⟩, false, false⟩, ⟨⟨some 42, .fieldAddr 107 (.tmp 5) 1, some (41, false)⟩, false, false⟩, ⟨⟨some 43, .load 3 (.tmp 42), some (41, false)⟩, false, false⟩, ⟨⟨some 44, .move (.tmp 4), some (41, false)⟩, false, false⟩, ⟨⟨some 45, .binOp .geq 3 (.tmp 43) (.tmp 44) 3, some (41, false)⟩, false, false⟩, ⟨⟨some 46, .pick (.tmp 41) (.const (.bool true)) (.tmp 45), none⟩, false, false⟩, ⟨⟨some 37, .assign (.tmp 46), none⟩, false, false⟩])
 (.cond (.tmp 37) (.reg false [] [⟨⟨some 6, .assign (.const (.int .i64 21)), none⟩, false, false⟩])
 (.reg false [] [⟨⟨some 14, .move (.tmp 0), none⟩, false, false⟩, ⟨⟨some 15, .move (.tmp 4), none⟩, false, false⟩, ⟨⟨some 16, .call { callee := .value (.func 104), args := #[.tmp 14, .tmp 15], argTypes := #[52, 3] }, none⟩, false, false⟩, ⟨⟨some 6, .assign (.tmp 16), none⟩, false, false⟩]))))))))))
 (.seq (.reg false [] [⟨⟨some 47, .move (.tmp 6), none⟩, false, false⟩, ⟨⟨some 48, .binOp .neq 45 (.tmp 47) (.const (.int .i64 0)) 45, none⟩, false, false⟩])
 (.cond (.tmp 48) (.seq (.reg false [] [⟨⟨some 49, .move (.tmp 4), none⟩, false, false⟩, ⟨⟨some 50, .move (.tmp 6), none⟩, false, false⟩, ⟨⟨some 2, .assign (.tmp 49), none⟩, false, false⟩, ⟨⟨some 3, .assign (.tmp 50), none⟩, false, false⟩])
 (.ret))
 (.skip)))))))
 (.reg false [] [⟨⟨some 51, .binOp .add 3 (.tmp 9) (.const (.int .i64 1)) 3, none⟩, false, false⟩, ⟨⟨some 9, .move (.tmp 51), none⟩, false, false⟩])))))))
 (.seq (.reg false [] [⟨⟨some 2, .assign (.const (.int .i64 0)), none⟩, false, false⟩, ⟨⟨some 3, .assign (.const (.int .i64 0)), none⟩, false, false⟩])
 (.ret)))
theorem F64 : Fun1 Try.prog 64 52 c64 [.tmp 2, .tmp 3] := Fun1.mk' AL.Try.follows_mixed Try.func64 rfl (by decide +kernel) Try.ntmps64 rfl (by kernel_rfl) rfl

/- proviso/types.Check$1 -/
def c103 : AC :=
.seq (.reg false [] [⟨⟨some 2, .box 107 (.tmp 0), none⟩, false, false⟩, ⟨⟨some 3, .assign (.const (.bool false)), none⟩, false, false⟩])
 (.seq (.reg false [] [⟨⟨some 4, .fieldAddr 107 (.tmp 2) 0, none⟩, false, false⟩, ⟨⟨some 5, .load 9 (.tmp 4), none⟩, false, false⟩, ⟨⟨some 6, .fieldAddr 107 (.tmp 1) 0, none⟩, false, false⟩, ⟨⟨some 7, .load 9 (.tmp 6), none⟩, false, false⟩, ⟨⟨some 8, .binOp .eql 9 (.tmp 5) (.tmp 7) 9, none⟩, false, false⟩, ⟨⟨some 3, .assign (.tmp 8), none⟩, false, false⟩])
 (.ret))
theorem F103 : Fun1 Try.prog 103 9 c103 [.tmp 3] := Fun1.mk' AL.Try.follows_mixed Try.func103 rfl (by decide +kernel) Try.ntmps103 rfl (by kernel_rfl) rfl

/- slices.ContainsFunc[[]proviso/api.Class,proviso/api.Class] -/
def c102 : AC :=
.seq (.reg false [] [⟨⟨some 4, .assign (.const (.bool false)), none⟩, false, false⟩])
 (.seq (.reg false [] [⟨⟨some 5, .move (.tmp 0), none⟩, false, false⟩, ⟨⟨some 6, .move (.tmp 1), none⟩, false, false⟩, ⟨⟨some 7, .call { callee := .value (.func 143), args := #[.tmp 5, .tmp 6], argTypes := #[52, 169] }, none⟩, false, false⟩, ⟨⟨some 8, .binOp .geq 3 (.tmp 7) (.const (.int .i64 0)) 3, none⟩, false, false⟩, ⟨⟨some 4, .assign (.tmp 8), none⟩, false, false⟩])
 (.ret))
theorem F102 : Fun1 Try.prog 102 9 c102 [.tmp 4] := Fun1.mk' AL.Try.follows_mixed Try.func102 rfl (by decide +kernel) Try.ntmps102 rfl (by kernel_rfl) rfl

/- slices.Contains[[]string,string] -/
def c100 : AC :=
.seq (.reg false [] [⟨⟨some 4, .assign (.const (.bool false)), none⟩, false, false⟩])
 (.seq (.reg false [] [⟨⟨some 5, .move (.tmp 0), none⟩, false, false⟩, ⟨⟨some 6, .move (.tmp 1), none⟩, false, false⟩, ⟨⟨some 7, .call { callee := .value (.func 142), args := #[.tmp 5, .tmp 6], argTypes := #[166, 9] }, none⟩, false, false⟩, ⟨⟨some 8, .binOp .geq 3 (.tmp 7) (.const (.int .i64 0)) 3, none⟩, false, false⟩, ⟨⟨some 4, .assign (.tmp 8), none⟩, false, false⟩])
 (.ret))
theorem F100 : Fun1 Try.prog 100 9 c100 [.tmp 4] := Fun1.mk' AL.Try.follows_mixed Try.func100 rfl (by decide +kernel) Try.ntmps100 rfl (by kernel_rfl) rfl

/- slices.Index[[]string,string] -/
def c142 : AC :=
.seq (.reg false [] [⟨⟨some 4, .assign (.const (.int .i64 0)), none⟩, false, false⟩])
 (.seq (.seq (.reg false [] [⟨⟨some 6, .move (.tmp 0), none⟩, false, false⟩, ⟨⟨some 7, .call { callee := .builtin .len, args := #[.tmp 6], argTypes := #[166] }, none⟩, false, false⟩, ⟨⟨some 8, .move (.const (.int .i64 0)), none⟩, false, false⟩])
 (.block 0 (.loop (.seq (.reg false [] [⟨⟨some 9, .binOp .lss 3 (.tmp 8) (.tmp 7) 3, none⟩, false, false⟩])
 (.seq (.cond (.tmp 9) (.skip)
 (.exit 0))
 (.seq (.block 1 (.seq (.reg false [] [⟨⟨some 10, .move (.tmp 8), none⟩, false, false⟩, ⟨⟨some 5, .assign (.tmp 10), none⟩, false, false⟩])
 (.seq (.reg false [] [⟨⟨some 11, .move (.tmp 1), none⟩, false, false⟩, ⟨⟨some 12, .move (.tmp 0), none⟩, false, false⟩, ⟨⟨some 13, .move (.tmp 5), none⟩, false, false⟩, ⟨⟨some 14, .indexAddr 166 (.tmp 12) (.tmp 13), none⟩, false, false⟩, ⟨⟨some 15, .load 9 (.tmp 14), none⟩, false, false⟩, ⟨⟨some 16, .binOp .eql 9 (.tmp 11) (.tmp 15) 9, none⟩, false, false⟩])
 (.cond (.tmp 16) (.seq (.reg false [] [⟨⟨some 17, .move (.tmp 5), none⟩, false, false⟩, ⟨⟨some 4, .assign (.tmp 17), none⟩, false, false⟩])
 (.ret))
 (.skip)))))
 (.reg false [] [⟨⟨some 18, .binOp .add 3 (.tmp 8) (.const (.int .i64 1)) 3, none⟩, false, false⟩, ⟨⟨some 8, .move (.tmp 18), none⟩, false, false⟩])))))))
 (.seq (.reg false [] [⟨⟨some 4, .assign (.const (.int .i64 (-1))), none⟩, false, false⟩])
 (.ret)))
theorem F142 : Fun1 Try.prog 142 19 c142 [.tmp 4] := Fun1.mk' AL.Try.follows_mixed Try.func142 rfl (by decide +kernel) Try.ntmps142 rfl (by kernel_rfl) rfl

/- slices.IndexFunc[[]proviso/api.Class,proviso/api.Class] -/
def c143 : AC :=
.seq (.reg false [] [⟨⟨some 4, .assign (.const (.int .i64 0)), none⟩, false, false⟩])
 (.seq (.seq (.reg false [] [⟨⟨some 6, .move (.tmp 0), none⟩, false, false⟩, ⟨⟨some 7, .call { callee := .builtin .len, args := #[.tmp 6], argTypes := #[52] }, none⟩, false, false⟩, ⟨⟨some 8, .move (.const (.int .i64 0)), none⟩, false, false⟩])
 (.block 0 (.loop (.seq (.reg false [] [⟨⟨some 9, .binOp .lss 3 (.tmp 8) (.tmp 7) 3, none⟩, false, false⟩])
 (.seq (.cond (.tmp 9) (.skip)
 (.exit 0))
 (.seq (.block 1 (.seq (.reg false [] [⟨⟨some 10, .move (.tmp 8), none⟩, false, false⟩, ⟨⟨some 5, .assign (.tmp 10), none⟩, false, false⟩])
 (.seq (.reg false [] [⟨⟨some 11, .move (.tmp 1), none⟩, false, false⟩, ⟨⟨some 12, .move (.tmp 0), none⟩, false, false⟩, ⟨⟨some 13, .move (.tmp 5), none⟩, false, false⟩, ⟨⟨some 14, .indexAddr 52 (.tmp 12) (.tmp 13), none⟩, false, false⟩, ⟨⟨some 15, .load 107 (.tmp 14), none⟩, false, false⟩, ⟨⟨some 16, .call { callee := .value (.tmp 11), args := #[.tmp 15], argTypes := #[107] }, none⟩, false, false⟩])
 (.cond (.tmp 16) (.seq (.reg false [] [⟨⟨some 17, .move (.tmp 5), none⟩, false, false⟩, ⟨⟨some 4, .assign (.tmp 17), none⟩, false, false⟩])
 (.ret))
 (.skip)))))
 (.reg false [] [⟨⟨some 18, .binOp .add 3 (.tmp 8) (.const (.int .i64 1)) 3, none⟩, false, false⟩, ⟨⟨some 8, .move (.tmp 18), none⟩, false, false⟩])))))))
 (.seq (.reg false [] [⟨⟨some 4, .assign (.const (.int .i64 (-1))), none⟩, false, false⟩])
 (.ret)))
theorem F143 : Fun1 Try.prog 143 19 c143 [.tmp 4] := Fun1.mk' AL.Try.follows_mixed Try.func143 rfl (by decide +kernel) Try.ntmps143 rfl (by kernel_rfl) rfl

/- proviso/types.words -/
def c101 : AC :=
.seq (.reg false [] [⟨⟨some 0, .assign (.const (.slice none 0 0)), none⟩, false, false⟩])
 (.seq (.reg false [] [⟨⟨some 1, .buildSlice 166 6 #[(0, .const (.string { data := #[116, 111, 112] })), (1, .const (.string { data := #[105, 110, 116] })), (2, .const (.string { data := #[98, 111, 111, 108] })), (3, .const (.string { data := #[110, 117, 108, 108] })), (4, .const (.string { data := #[105, 110, 116, 115] })), (5, .const (.string { data := #[97, 110, 121] }))], none⟩, false, false⟩, ⟨⟨some 0, .assign (.tmp 1), none⟩, false, false⟩])
 (.ret))
theorem F101 : Fun1 Try.prog 101 2 c101 [.tmp 0] := Fun1.mk' AL.Try.follows_mixed Try.func101 rfl (by decide +kernel) Try.ntmps101 rfl (by kernel_rfl) rfl

/- proviso/wire.IsName -/
def c99 : AC :=
.seq (.reg false [] [⟨⟨some 2, .assign (.const (.bool false)), none⟩, false, false⟩])
 (.seq (.seq (.reg false [] [⟨⟨some 5, .move (.tmp 0), none⟩, false, false⟩, ⟨⟨some 6, .call { callee := .builtin .len, args := #[.tmp 5], argTypes := #[9] }, none⟩, false, false⟩, ⟨⟨some 7, .binOp .eql 3 (.tmp 6) (.const (.int .i64 0)) 3, none⟩, false, false⟩, ⟨⟨some 8, .move (.tmp 7), none⟩, false, false⟩, ⟨⟨some 9, .move (.tmp 0), some (8, false)⟩, false, false⟩, ⟨⟨some 10, .call { callee := .builtin .len, args := #[.tmp 9], argTypes := #[9] }, some (8, false)⟩, false, false⟩, ⟨⟨some 11, .binOp .gtr 3 (.tmp 10) (.const (.int .i64 24)) 3, some (8, false)⟩, false, false⟩, ⟨⟨some 12, .pick (.tmp 8) (.const (.bool true)) (.tmp 11), none⟩, false, false⟩])
 (.cond (.tmp 12) (.seq (.reg false [] [⟨⟨some 2, .assign (.const (.bool false)), none⟩, false, false⟩])
 (.ret))
 (.skip)))
 (.seq (.seq (.reg false [] [⟨⟨some 13, .move (.tmp 0), none⟩, false, false⟩, ⟨⟨some 14, .call { callee := .builtin .len, args := #[.tmp 13], argTypes := #[9] }, none⟩, false, false⟩, ⟨⟨some 15, .move (.const (.int .i64 0)), none⟩, false, false⟩])
 (.block 0 (.loop (.seq (.reg false [] [⟨⟨some 16, .binOp .lss 3 (.tmp 15) (.tmp 14) 3, none⟩, false, false⟩])
 (.seq (.cond (.tmp 16) (.skip)
 (.exit 0))
 (.seq (.block 1 (.seq (.reg false [] [⟨⟨some 17, .move (.tmp 15), none⟩, false, false⟩, ⟨⟨some 3, .assign (.tmp 17), none⟩, false, false⟩])
 (.seq (.reg false [] [⟨⟨some 18, .move (.tmp 0), none⟩, false, false⟩, ⟨⟨some 19, .move (.tmp 3), none⟩, false, false⟩, ⟨⟨some 20, .index 9 (.tmp 18) (.tmp 19), none⟩, false, false⟩, ⟨⟨some 4, .assign (.tmp 20), none⟩, false, false⟩])
 (.block 2 (.seq (.seq (.reg false [] [⟨⟨some 22, .move (.tmp 4), none⟩, false, false⟩, ⟨⟨some 23, .binOp .geq 5 (.tmp 22) (.const (.int .u8 97)) 5, none⟩, false, false⟩, ⟨⟨some 24, .move (.tmp 23), none⟩, false, false⟩, ⟨⟨some 25, .move (.tmp 4), some (24, true)⟩, false, false⟩, ⟨⟨some 26, .binOp .leq 5 (.tmp 25) (.const (.int .u8 122)) 5, some (24, true)⟩, false, false⟩, ⟨⟨some 27, .pick (.tmp 24) (.tmp 26) (.const (.bool false)), none⟩, false, false⟩, ⟨⟨some 21, .assign (.tmp 27), none⟩, false, false⟩])
 (.cond (.tmp 21) (.skip)
 (.reg false [] [⟨⟨some 28, .move (.tmp 4), none⟩, false, false⟩, ⟨⟨some 29, .binOp .geq 5 (.tmp 28) (.const (.int .u8 65)) 5, none⟩, false, false⟩, ⟨⟨some 30, .move (.tmp 29), none⟩, false, false⟩, ⟨⟨some 31, .move (.tmp 4), some (30, true)⟩, false, false⟩, ⟨⟨some 32, .binOp .leq 5 (.tmp 31) (.const (.int .u8 90)) 5, some (30, true)⟩, false, false⟩, ⟨⟨some 33, .pick (.tmp 30) (.tmp 32) (.const (.bool false)), none⟩, false, false⟩, ⟨⟨some 21, .assign (.tmp 33), none⟩, false, false⟩])))
 (.cond (.tmp 21) (.skip)
 (.seq (.reg false [] [⟨⟨some 35, .move (.tmp 3), none⟩, false, false⟩, ⟨⟨some 36, .binOp .gtr 3 (.tmp 35) (.const (.int .i64 0)) 3, none⟩, false, false⟩, ⟨⟨some 37, .move (.tmp 36), none⟩, false, false⟩, ⟨⟨some 38, .move (.tmp 4), some (37, true)⟩, false, false⟩, ⟨⟨some 39, .binOp .geq 5 (.tmp 38) (.const (.int .u8 48)) 5, some (37, true)⟩, false, false⟩, ⟨⟨some 40, .move (.tmp 39), some (37, true)⟩, false, false⟩, ⟨⟨some 41, .move (.tmp 4), some (40, true)⟩, false, false⟩, ⟨⟨some 42, .binOp .leq 5 (.tmp 41) (.const (.int .u8 57)) 5, some (40, true)⟩, false, false⟩, ⟨⟨some 43, .pick (.tmp 40) (.tmp 42) (.const (.bool false)), some (37, true)⟩, false, false⟩, ⟨⟨some 44, .move (.tmp 43), some (37, true)⟩, false, false⟩, ⟨⟨some 45, .move (.tmp 4), some (44, false)⟩, false, false⟩, ⟨⟨some 46, .binOp .eql 5 (.tmp 45) (.const (.int .u8 95)) 5, some (44, false)⟩, false, false⟩, ⟨⟨some 47, .pick (.tmp 44) (.const (.bool true)) (.tmp 46), some (37, true)⟩, false, false⟩, ⟨⟨some 48, .pick (.tmp 37) (.tmp 47) (.const (.bool false)), none⟩, false, false⟩, ⟨⟨some 34, .assign (.tmp 48), none⟩, false, false⟩])
 (.cond (.tmp 34) (.skip)
 (.seq (.reg false [] [⟨⟨some 2, .assign (.const (.bool false)), none⟩, false, false⟩])
 (.ret))))))))))
 (.reg false [] [⟨⟨some 49, .binOp .add 3 (.tmp 15) (.const (.int .i64 1)) 3, none⟩, false, false⟩, ⟨⟨some 15, .move (.tmp 49), none⟩, false, false⟩])))))))
 (.seq (.reg false [] [⟨⟨some 2, .assign (.const (.bool true)), none⟩, false, false⟩])
 (.ret))))
theorem F99 : Fun1 Try.prog 99 50 c99 [.tmp 2] := Fun1.mk' AL.Try.follows_mixed Try.func99 rfl (by decide +kernel) Try.ntmps99 rfl (by kernel_rfl) rfl

/- proviso/types.fields -/
def c104 : AC :=
.seq (.reg false [] [⟨⟨some 2, .box 52 (.tmp 0), none⟩, false, false⟩, ⟨⟨some 4, .assign (.const (.int .i64 0)), none⟩, false, false⟩])
 (.seq (.reg false [] [⟨⟨some 5, .alloc 166, none⟩, false, false⟩])
 (.seq (.reg true [] [⟨⟨some 8, .load 52 (.tmp 2), none⟩, false, true⟩, ⟨⟨some 9, .load 52 (.tmp 2), none⟩, false, true⟩, ⟨⟨some 10, .move (.tmp 1), none⟩, false, true⟩, ⟨⟨some 11, .indexAddr 52 (.tmp 9) (.tmp 10), none⟩, false, true⟩, ⟨⟨some 12, .fieldAddr 107 (.tmp 11) 1, none⟩, false, true⟩, ⟨⟨some 13, .load 3 (.tmp 12), none⟩, false, true⟩, ⟨⟨some 14, .makeFunc (.func 145) #[] #[.tmp 2, .tmp 5], none⟩, false, false⟩, ⟨⟨some 15, .call { callee := .value (.func 144), args := #[.tmp 8, .tmp 13, .tmp 14], argTypes := #[52, 3, 195] }, none⟩, false, false⟩])
 (.seq (.seq (.reg false [] [⟨⟨some 16, .load 52 (.tmp 2), none⟩, false, false⟩, ⟨⟨some 17, .move (.tmp 1), none⟩, false, false⟩, ⟨⟨some 18, .indexAddr 52 (.tmp 16) (.tmp 17), none⟩, false, false⟩, ⟨⟨some 19, .fieldAddr 107 (.tmp 18) 2, none⟩, false, false⟩, ⟨⟨some 20, .load 105 (.tmp 19), none⟩, false, false⟩, ⟨⟨some 21, .call { callee := .builtin .len, args := #[.tmp 20], argTypes := #[105] }, none⟩, false, false⟩, ⟨⟨some 22, .move (.const (.int .i64 0)), none⟩, false, false⟩])
 (.block 0 (.loop (.seq (.reg false [] [⟨⟨some 23, .binOp .lss 3 (.tmp 22) (.tmp 21) 3, none⟩, false, false⟩])
 (.seq (.cond (.tmp 23) (.skip)
 (.exit 0))
 (.seq (.block 1 (.seq (.reg false [] [⟨⟨some 24, .indexAddr 105 (.tmp 20) (.tmp 22), none⟩, false, false⟩, ⟨⟨some 25, .load 110 (.tmp 24), none⟩, false, false⟩, ⟨⟨some 7, .alloc 110, none⟩, false, false⟩, ⟨⟨none, .store 110 (.tmp 7) (.tmp 25), none⟩, false, false⟩])
 (.seq (.block 2 (.seq (.reg false [] [⟨⟨some 27, .fieldAddr 110 (.tmp 7) 0, none⟩, false, false⟩, ⟨⟨some 28, .load 9 (.tmp 27), none⟩, false, false⟩, ⟨⟨some 29, .call { callee := .value (.func 99), args := #[.tmp 28], argTypes := #[9] }, none⟩, false, false⟩, ⟨⟨some 30, .unOp .not 4 (.tmp 29), none⟩, false, false⟩, ⟨⟨some 26, .assign (.tmp 30), none⟩, false, false⟩])
 (.cond (.tmp 26) (.seq (.reg false [] [⟨⟨some 4, .assign (.const (.int .i64 6)), none⟩, false, false⟩])
 (.ret))
 (.seq (.reg false [] [⟨⟨some 32, .load 166 (.tmp 5), none⟩, false, false⟩, ⟨⟨some 33, .fieldAddr 110 (.tmp 7) 0, none⟩, false, false⟩, ⟨⟨some 34, .load 9 (.tmp 33), none⟩, false, false⟩, ⟨⟨some 35, .call { callee := .value (.func 100), args := #[.tmp 32, .tmp 34], argTypes := #[166, 9] }, none⟩, false, false⟩, ⟨⟨some 31, .assign (.tmp 35), none⟩, false, false⟩])
 (.cond (.tmp 31) (.seq (.reg false [] [⟨⟨some 4, .assign (.const (.int .i64 20)), none⟩, false, false⟩])
 (.ret))
 (.seq (.reg false [] [⟨⟨some 37, .load 52 (.tmp 2), none⟩, false, false⟩, ⟨⟨some 38, .fieldAddr 110 (.tmp 7) 1, none⟩, false, false⟩, ⟨⟨some 39, .load 23 (.tmp 38), none⟩, false, false⟩, ⟨⟨some 40, .call { callee := .value (.func 146), args := #[.tmp 37, .tmp 39], argTypes := #[52, 23] }, none⟩, false, false⟩, ⟨⟨some 41, .unOp .not 4 (.tmp 40), none⟩, false, false⟩, ⟨⟨some 36, .assign (.tmp 41), none⟩, false, false⟩])
 (.cond (.tmp 36) (.seq (.reg false [] [⟨⟨some 4, .assign (.const (.int .i64 22)), none⟩, false, false⟩])
 (.ret))
 (.skip))))))))
 (.reg false [] [⟨⟨some 42, .load 166 (.tmp 5), none⟩, false, false⟩, ⟨⟨some 43, .fieldAddr 110 (.tmp 7) 0, none⟩, false, false⟩, ⟨⟨some 44, .load 9 (.tmp 43), none⟩, false, false⟩, ⟨⟨some 45, .buildSlice 166 1 #[(0, .tmp 44)], none⟩, false, false⟩, ⟨⟨some 46, .call { callee := .builtin .append, args := #[.tmp 42, .tmp 45], argTypes := #[166, 166] }, none⟩, false, false⟩, ⟨⟨none, .store 166 (.tmp 5) (.tmp 46), none⟩, false, false⟩]))))
 (.reg false [] [⟨⟨some 47, .binOp .add 3 (.tmp 22) (.const (.int .i64 1)) 3, none⟩, false, false⟩, ⟨⟨some 22, .move (.tmp 47), none⟩, false, false⟩])))))))
 (.seq (.seq (.reg false [] [⟨⟨some 48, .load 166 (.tmp 5), none⟩, false, false⟩, ⟨⟨some 49, .call { callee := .builtin .len, args := #[.tmp 48], argTypes := #[166] }, none⟩, false, false⟩, ⟨⟨some 50, .binOp .gtr 3 (.tmp 49) (.const (.int .i64 32)) 3, none⟩, false, false⟩])
 (.cond (.tmp 50) (.seq (.reg false [] [⟨⟨some 4, .assign (.const (.int .i64 4)), none⟩, false, false⟩])
 (.ret))
 (.skip)))
 (.seq (.reg false [] [⟨⟨some 4, .assign (.const (.int .i64 0)), none⟩, false, false⟩])
 (.ret))))))
theorem F104 : Fun1 Try.prog 104 51 c104 [.tmp 4] := Fun1.mk' AL.Try.follows_mixed Try.func104 rfl (by decide +kernel) Try.ntmps104 rfl (by kernel_rfl) rfl

/- proviso/types.fields$1 -/
def c145 : AC :=
.seq (.reg false [] [⟨⟨some 4, .assign (.const (.bool false)), none⟩, false, false⟩])
 (.seq (.seq (.reg false [] [⟨⟨some 7, .load 52 (.tmp 1), none⟩, false, false⟩, ⟨⟨some 8, .move (.tmp 0), none⟩, false, false⟩, ⟨⟨some 9, .indexAddr 52 (.tmp 7) (.tmp 8), none⟩, false, false⟩, ⟨⟨some 10, .fieldAddr 107 (.tmp 9) 2, none⟩, false, false⟩, ⟨⟨some 11, .load 105 (.tmp 10), none⟩, false, false⟩, ⟨⟨some 12, .call { callee := .builtin .len, args := #[.tmp 11], argTypes := #[105] }, none⟩, false, false⟩, ⟨⟨some 13, .move (.const (.int .i64 0)), none⟩, false, false⟩])
 (.block 0 (.loop (.seq (.reg false [] [⟨⟨some 14, .binOp .lss 3 (.tmp 13) (.tmp 12) 3, none⟩, false, false⟩])
 (.seq (.cond (.tmp 14) (.skip)
 (.exit 0))
 (.seq (.block 1 (.seq (.reg false [] [⟨⟨some 15, .indexAddr 105 (.tmp 11) (.tmp 13), none⟩, false, false⟩, ⟨⟨some 16, .load 110 (.tmp 15), none⟩, false, false⟩, ⟨⟨some 6, .alloc 110, none⟩, false, false⟩, ⟨⟨none, .store 110 (.tmp 6) (.tmp 16), none⟩, false, false⟩])
 (.reg false [] [⟨⟨some 17, .load 166 (.tmp 2), none⟩, false, false⟩, ⟨⟨some 18, .fieldAddr 110 (.tmp 6) 0, none⟩, false, false⟩, ⟨⟨some 19, .load 9 (.tmp 18), none⟩, false, false⟩, ⟨⟨some 20, .buildSlice 166 1 #[(0, .tmp 19)], none⟩, false, false⟩, ⟨⟨some 21, .call { callee := .builtin .append, args := #[.tmp 17, .tmp 20], argTypes := #[166, 166] }, none⟩, false, false⟩, ⟨⟨none, .store 166 (.tmp 2) (.tmp 21), none⟩, false, false⟩])))
 (.reg false [] [⟨⟨some 22, .binOp .add 3 (.tmp 13) (.const (.int .i64 1)) 3, none⟩, false, false⟩, ⟨⟨some 13, .move (.tmp 22), none⟩, false, false⟩])))))))
 (.seq (.reg false [] [⟨⟨some 4, .assign (.const (.bool true)), none⟩, false, false⟩])
 (.ret)))
theorem F145 : Fun1 Try.prog 145 23 c145 [.tmp 4] := Fun1.mk' AL.Try.follows_mixed Try.func145 rfl (by decide +kernel) Try.ntmps145 rfl (by kernel_rfl) rfl

/- proviso/types.climb -/
def c144 : AC :=
.block 0 (.loop (.seq (.seq (.reg false [] [⟨⟨some 7, .move (.tmp 1), none⟩, false, false⟩, ⟨⟨some 8, .binOp .geq 3 (.tmp 7) (.const (.int .i64 0)) 3, none⟩, false, false⟩, ⟨⟨some 9, .move (.tmp 8), none⟩, false, false⟩, ⟨⟨some 10, .move (.tmp 1), some (9, true)⟩, false, false⟩, ⟨⟨some 11, .move (.tmp 0), some (9, true)⟩, false, false⟩, ⟨⟨some 12, .call { callee := .builtin .len, args := #[.tmp 11], argTypes := #[52] }, some (9, true)⟩, false, false⟩, ⟨⟨some 13, .binOp .lss 3 (.tmp 10) (.tmp 12) 3, some (9, true)⟩, false, false⟩, ⟨⟨some 14, .pick (.tmp 9) (.tmp 13) (.const (.bool false)), none⟩, false, false⟩, ⟨⟨some 15, .move (.tmp 14), none⟩, false, false⟩, ⟨⟨some 16, .move (.tmp 2), some (15, true)⟩, false, false⟩, ⟨⟨some 17, .move (.tmp 1), some (15, true)⟩, false, false⟩, ⟨⟨some 18, .call { callee := .value (.tmp 16), args := #[.tmp 17], argTypes := #[3] }, some (15, true)⟩, false, false⟩, ⟨⟨some 19, .pick (.tmp 15) (.tmp 18) (.const (.bool false)), none⟩, false, false⟩])
 (.cond (.tmp 19) (.skip)
 (.exit 0)))
 (.block 1 (.seq (.reg false [] [⟨⟨some 20, .move (.tmp 0), none⟩, false, false⟩, ⟨⟨some 21, .move (.tmp 1), none⟩, false, false⟩, ⟨⟨some 22, .indexAddr 52 (.tmp 20) (.tmp 21), none⟩, false, false⟩, ⟨⟨some 23, .fieldAddr 107 (.tmp 22) 1, none⟩, false, false⟩, ⟨⟨some 24, .load 3 (.tmp 23), none⟩, false, false⟩, ⟨⟨some 6, .assign (.tmp 24), none⟩, false, false⟩])
 (.seq (.seq (.reg false [] [⟨⟨some 25, .move (.tmp 6), none⟩, false, false⟩, ⟨⟨some 26, .move (.tmp 1), none⟩, false, false⟩, ⟨⟨some 27, .binOp .geq 3 (.tmp 25) (.tmp 26) 3, none⟩, false, false⟩])
 (.cond (.tmp 27) (.ret)
 (.skip)))
 (.reg false [] [⟨⟨some 28, .move (.tmp 6), none⟩, false, false⟩, ⟨⟨some 1, .assign (.tmp 28), none⟩, false, false⟩]))))))
theorem F144 : Fun1 Try.prog 144 29 c144 [] := Fun1.mk' AL.Try.follows_mixed Try.func144 rfl (by decide +kernel) Try.ntmps144 rfl (by kernel_rfl) rfl

/- proviso/types.stored -/
def c146 : AC :=
.seq (.reg false [] [⟨⟨some 4, .assign (.const (.bool false)), none⟩, false, false⟩])
 (.seq (.reg false [] [⟨⟨some 5, .move (.tmp 1), none⟩, false, false⟩, ⟨⟨some 6, .binOp .eql 23 (.tmp 5) (.const (.int .u8 1)) 23, none⟩, false, false⟩, ⟨⟨some 7, .move (.tmp 6), none⟩, false, false⟩, ⟨⟨some 8, .move (.tmp 1), some (7, false)⟩, false, false⟩, ⟨⟨some 9, .binOp .eql 23 (.tmp 8) (.const (.int .u8 2)) 23, some (7, false)⟩, false, false⟩, ⟨⟨some 10, .pick (.tmp 7) (.const (.bool true)) (.tmp 9), none⟩, false, false⟩, ⟨⟨some 11, .move (.tmp 10), none⟩, false, false⟩, ⟨⟨some 12, .move (.tmp 1), some (11, false)⟩, false, false⟩, ⟨⟨some 13, .binOp .eql 23 (.tmp 12) (.const (.int .u8 4)) 23, some (11, false)⟩, false, false⟩, ⟨⟨some 14, .pick (.tmp 11) (.const (.bool true)) (.tmp 13), none⟩, false, false⟩, ⟨⟨some 15, .move (.tmp 14), none⟩, false, false⟩, ⟨⟨some 16, .move (.tmp 1), some (15, false)⟩, false, false⟩, ⟨⟨some 17, .binOp .eql 23 (.tmp 16) (.const (.int .u8 5)) 23, some (15, false)⟩, false, false⟩, ⟨⟨some 18, .pick (.tmp 15) (.const (.bool true)) (.tmp 17), none⟩, false, false⟩, ⟨⟨some 19, .move (.tmp 18), none⟩, false, false⟩, ⟨⟨some 20, .move (.tmp 0), some (19, false)⟩, false, false⟩, ⟨⟨some 21, .move (.tmp 1), some (19, false)⟩, false, false⟩, ⟨⟨some 22, .call { callee := .value (.func 147), args := #[.tmp 20, .tmp 21], argTypes := #[52, 23] }, some (19, false)⟩, false, false⟩, ⟨⟨some 23, .binOp .geq 3 (.tmp 22) (.const (.int .i64 0)) 3, some (19, false)⟩, false, false⟩, ⟨⟨some 24, .pick (.tmp 19) (.const (.bool true)) (.tmp 23), none⟩, false, false⟩, ⟨⟨some 4, .assign (.tmp 24), none⟩, false, false⟩])
 (.ret))
theorem F146 : Fun1 Try.prog 146 25 c146 [.tmp 4] := Fun1.mk' AL.Try.follows_mixed Try.func146 rfl (by decide +kernel) Try.ntmps146 rfl (by kernel_rfl) rfl

/- proviso/types.class -/
def c147 : AC :=
.seq (.reg false [] [⟨⟨some 4, .assign (.const (.int .i64 0)), none⟩, false, false⟩])
 (.seq (.seq (.reg false [] [⟨⟨some 5, .move (.tmp 1), none⟩, false, false⟩, ⟨⟨some 6, .binOp .lss 23 (.tmp 5) (.const (.int .u8 16)) 23, none⟩, false, false⟩, ⟨⟨some 7, .move (.tmp 6), none⟩, false, false⟩, ⟨⟨some 8, .move (.tmp 1), some (7, false)⟩, false, false⟩, ⟨⟨some 9, .binOp .sub 23 (.tmp 8) (.const (.int .u8 16)) 23, some (7, false)⟩, false, false⟩, ⟨⟨some 10, .convert 23 3 (.tmp 9), some (7, false)⟩, false, false⟩, ⟨⟨some 11, .move (.tmp 0), some (7, false)⟩, false, false⟩, ⟨⟨some 12, .call { callee := .builtin .len, args := #[.tmp 11], argTypes := #[52] }, some (7, false)⟩, false, false⟩, ⟨⟨some 13, .binOp .geq 3 (.tmp 10) (.tmp 12) 3, some (7, false)⟩, false, false⟩, ⟨⟨some 14, .pick (.tmp 7) (.const (.bool true)) (.tmp 13), none⟩, false, false⟩])
 (.cond (.tmp 14) (.seq (.reg false [] [⟨⟨some 4, .assign (.const (.int .i64 (-1))), none⟩, false, false⟩])
 (.ret))
 (.skip)))
 (.seq (.reg false [] [⟨⟨some 15, .move (.tmp 1), none⟩, false, false⟩, ⟨⟨some 16, .binOp .sub 23 (.tmp 15) (.const (.int .u8 16)) 23, none⟩, false, false⟩, ⟨⟨some 17, .convert 23 3 (.tmp 16), none⟩, false, false⟩, ⟨⟨some 4, .assign (.tmp 17), none⟩, false, false⟩])
 (.ret)))
theorem F147 : Fun1 Try.prog 147 18 c147 [.tmp 4] := Fun1.mk' AL.Try.follows_mixed Try.func147 rfl (by decide +kernel) Try.ntmps147 rfl (by kernel_rfl) rfl

/- proviso/infer.stored -/
def c66 : AC :=
.seq (.reg false [] [⟨⟨some 4, .assign (.const (.bool false)), none⟩, false, false⟩])
 (.seq (.reg false [] [⟨⟨some 5, .move (.tmp 0), none⟩, false, false⟩, ⟨⟨some 6, .move (.tmp 1), none⟩, false, false⟩, ⟨⟨some 7, .call { callee := .value (.func 105), args := #[.tmp 5, .tmp 6], argTypes := #[52, 23] }, none⟩, false, false⟩, ⟨⟨some 8, .move (.tmp 7), none⟩, false, false⟩, ⟨⟨some 9, .move (.tmp 1), some (8, true)⟩, false, false⟩, ⟨⟨some 10, .binOp .neq 23 (.tmp 9) (.const (.int .u8 0)) 23, some (8, true)⟩, false, false⟩, ⟨⟨some 11, .pick (.tmp 8) (.tmp 10) (.const (.bool false)), none⟩, false, false⟩, ⟨⟨some 12, .move (.tmp 11), none⟩, false, false⟩, ⟨⟨some 13, .move (.tmp 1), some (12, true)⟩, false, false⟩, ⟨⟨some 14, .binOp .neq 23 (.tmp 13) (.const (.int .u8 3)) 23, some (12, true)⟩, false, false⟩, ⟨⟨some 15, .pick (.tmp 12) (.tmp 14) (.const (.bool false)), none⟩, false, false⟩, ⟨⟨some 4, .assign (.tmp 15), none⟩, false, false⟩])
 (.ret))
theorem F66 : Fun1 Try.prog 66 16 c66 [.tmp 4] := Fun1.mk' AL.Try.follows_mixed Try.func66 rfl (by decide +kernel) Try.ntmps66 rfl (by kernel_rfl) rfl

/- proviso/infer.May$1 -/
def c65 : AC :=
.seq (.reg false [] [⟨⟨some 3, .assign (.const (.bool false)), none⟩, false, false⟩])
 (.seq (.reg false [] [⟨⟨some 4, .fieldAddr 57 (.tmp 1) 0, none⟩, false, false⟩, ⟨⟨some 5, .load 52 (.tmp 4), none⟩, false, false⟩, ⟨⟨some 6, .move (.tmp 0), none⟩, false, false⟩, ⟨⟨some 7, .call { callee := .value (.func 66), args := #[.tmp 5, .tmp 6], argTypes := #[52, 23] }, none⟩, false, false⟩, ⟨⟨some 8, .unOp .not 4 (.tmp 7), none⟩, false, false⟩, ⟨⟨some 3, .assign (.tmp 8), none⟩, false, false⟩])
 (.ret))
theorem F65 : Fun1 Try.prog 65 9 c65 [.tmp 3] := Fun1.mk' AL.Try.follows_mixed Try.func65 rfl (by decide +kernel) Try.ntmps65 rfl (by kernel_rfl) rfl

/- slices.ContainsFunc[[]proviso/api.Type,proviso/api.Type] -/
def c67 : AC :=
.seq (.reg false [] [⟨⟨some 4, .assign (.const (.bool false)), none⟩, false, false⟩])
 (.seq (.reg false [] [⟨⟨some 5, .move (.tmp 0), none⟩, false, false⟩, ⟨⟨some 6, .move (.tmp 1), none⟩, false, false⟩, ⟨⟨some 7, .call { callee := .value (.func 106), args := #[.tmp 5, .tmp 6], argTypes := #[22, 119] }, none⟩, false, false⟩, ⟨⟨some 8, .binOp .geq 3 (.tmp 7) (.const (.int .i64 0)) 3, none⟩, false, false⟩, ⟨⟨some 4, .assign (.tmp 8), none⟩, false, false⟩])
 (.ret))
theorem F67 : Fun1 Try.prog 67 9 c67 [.tmp 4] := Fun1.mk' AL.Try.follows_mixed Try.func67 rfl (by decide +kernel) Try.ntmps67 rfl (by kernel_rfl) rfl

/- slices.IndexFunc[[]proviso/api.Type,proviso/api.Type] -/
def c106 : AC :=
.seq (.reg false [] [⟨⟨some 4, .assign (.const (.int .i64 0)), none⟩, false, false⟩])
 (.seq (.seq (.reg false [] [⟨⟨some 6, .move (.tmp 0), none⟩, false, false⟩, ⟨⟨some 7, .call { callee := .builtin .len, args := #[.tmp 6], argTypes := #[22] }, none⟩, false, false⟩, ⟨⟨some 8, .move (.const (.int .i64 0)), none⟩, false, false⟩])
 (.block 0 (.loop (.seq (.reg false [] [⟨⟨some 9, .binOp .lss 3 (.tmp 8) (.tmp 7) 3, none⟩, false, false⟩])
 (.seq (.cond (.tmp 9) (.skip)
 (.exit 0))
 (.seq (.block 1 (.seq (.reg false [] [⟨⟨some 10, .move (.tmp 8), none⟩, false, false⟩, ⟨⟨some 5, .assign (.tmp 10), none⟩, false, false⟩])
 (.seq (.reg false [] [⟨⟨some 11, .move (.tmp 1), none⟩, false, false⟩, ⟨⟨some 12, .move (.tmp 0), none⟩, false, false⟩, ⟨⟨some 13, .move (.tmp 5), none⟩, false, false⟩, ⟨⟨some 14, .indexAddr 22 (.tmp 12) (.tmp 13), none⟩, false, false⟩, ⟨⟨some 15, .load 23 (.tmp 14), none⟩, false, false⟩, ⟨⟨some 16, .call { callee := .value (.tmp 11), args := #[.tmp 15], argTypes := #[23] }, none⟩, false, false⟩])
 (.cond (.tmp 16) (.seq (.reg false [] [⟨⟨some 17, .move (.tmp 5), none⟩, false, false⟩, ⟨⟨some 4, .assign (.tmp 17), none⟩, false, false⟩])
 (.ret))
 (.skip)))))
 (.reg false [] [⟨⟨some 18, .binOp .add 3 (.tmp 8) (.const (.int .i64 1)) 3, none⟩, false, false⟩, ⟨⟨some 8, .move (.tmp 18), none⟩, false, false⟩])))))))
 (.seq (.reg false [] [⟨⟨some 4, .assign (.const (.int .i64 (-1))), none⟩, false, false⟩])
 (.ret)))
theorem F106 : Fun1 Try.prog 106 19 c106 [.tmp 4] := Fun1.mk' AL.Try.follows_mixed Try.func106 rfl (by decide +kernel) Try.ntmps106 rfl (by kernel_rfl) rfl

/- proviso/types.Valid -/
def c105 : AC :=
.seq (.reg false [] [⟨⟨some 4, .assign (.const (.bool false)), none⟩, false, false⟩])
 (.seq (.reg false [] [⟨⟨some 5, .move (.tmp 1), none⟩, false, false⟩, ⟨⟨some 6, .binOp .leq 23 (.tmp 5) (.const (.int .u8 5)) 23, none⟩, false, false⟩, ⟨⟨some 7, .move (.tmp 6), none⟩, false, false⟩, ⟨⟨some 8, .move (.tmp 0), some (7, false)⟩, false, false⟩, ⟨⟨some 9, .move (.tmp 1), some (7, false)⟩, false, false⟩, ⟨⟨some 10, .call { callee := .value (.func 147), args := #[.tmp 8, .tmp 9], argTypes := #[52, 23] }, some (7, false)⟩, false, false⟩, ⟨⟨some 11, .binOp .geq 3 (.tmp 10) (.const (.int .i64 0)) 3, some (7, false)⟩, false, false⟩, ⟨⟨some 12, .pick (.tmp 7) (.const (.bool true)) (.tmp 11), none⟩, false, false⟩, ⟨⟨some 4, .assign (.tmp 12), none⟩, false, false⟩])
 (.ret))
theorem F105 : Fun1 Try.prog 105 13 c105 [.tmp 4] := Fun1.mk' AL.Try.follows_mixed Try.func105 rfl (by decide +kernel) Try.ntmps105 rfl (by kernel_rfl) rfl

/- proviso/frames.Start -/
def c68 : AC :=
.seq (.reg false [] [⟨⟨some 6, .alloc 71, none⟩, false, false⟩, ⟨⟨some 7, .assign (.const (.int .i64 0)), none⟩, false, false⟩])
 (.seq (.reg false [] [⟨⟨some 13, .move (.tmp 2), none⟩, false, false⟩, ⟨⟨some 14, .call { callee := .value (.func 107), args := #[.tmp 13], argTypes := #[3] }, none⟩, false, false⟩, ⟨⟨some 12, .move (.tmp 14), none⟩, false, false⟩, ⟨⟨some 15, .extract (.tmp 12) 0, none⟩, false, false⟩, ⟨⟨some 16, .extract (.tmp 12) 1, none⟩, false, false⟩, ⟨⟨some 8, .alloc 71, none⟩, false, false⟩, ⟨⟨none, .store 71 (.tmp 8) (.tmp 15), none⟩, false, false⟩, ⟨⟨some 9, .assign (.tmp 16), none⟩, false, false⟩])
 (.seq (.seq (.reg false [] [⟨⟨some 17, .move (.tmp 9), none⟩, false, false⟩, ⟨⟨some 18, .binOp .neq 45 (.tmp 17) (.const (.int .i64 0)) 45, none⟩, false, false⟩, ⟨⟨some 19, .move (.tmp 18), none⟩, false, false⟩, ⟨⟨some 20, .move (.tmp 1), some (19, false)⟩, false, false⟩, ⟨⟨some 21, .call { callee := .builtin .len, args := #[.tmp 20], argTypes := #[22] }, some (19, false)⟩, false, false⟩, ⟨⟨some 22, .binOp .gtr 3 (.tmp 21) (.const (.int .i64 8)) 3, some (19, false)⟩, false, false⟩, ⟨⟨some 23, .pick (.tmp 19) (.const (.bool true)) (.tmp 22), none⟩, false, false⟩, ⟨⟨some 24, .move (.tmp 23), none⟩, false, false⟩, ⟨⟨some 25, .move (.tmp 1), some (24, false)⟩, false, false⟩, ⟨⟨some 26, .call { callee := .builtin .len, args := #[.tmp 25], argTypes := #[22] }, some (24, false)⟩, false, false⟩, ⟨⟨some 27, .move (.tmp 2), some (24, false)⟩, false, false⟩, ⟨⟨some 28, .binOp .gtr 3 (.tmp 26) (.tmp 27) 3, some (24, false)⟩, false, false⟩, ⟨⟨some 29, .pick (.tmp 24) (.const (.bool true)) (.tmp 28), none⟩, false, false⟩])
 (.cond (.tmp 29) (.seq (.reg false [] [⟨⟨some 30, .build 71 #[], none⟩, false, false⟩, ⟨⟨none, .store 71 (.tmp 6) (.tmp 30), none⟩, false, false⟩, ⟨⟨some 7, .assign (.const (.int .i64 1)), none⟩, false, false⟩])
 (.ret))
 (.skip)))
 (.seq (.seq (.reg false [] [⟨⟨some 31, .move (.tmp 1), none⟩, false, false⟩, ⟨⟨some 32, .call { callee := .builtin .len, args := #[.tmp 31], argTypes := #[22] }, none⟩, false, false⟩, ⟨⟨some 33, .move (.const (.int .i64 0)), none⟩, false, false⟩])
 (.block 0 (.loop (.seq (.reg false [] [⟨⟨some 34, .binOp .lss 3 (.tmp 33) (.tmp 32) 3, none⟩, false, false⟩])
 (.seq (.cond (.tmp 34) (.skip)
 (.exit 0))
 (.seq (.block 1 (.seq (.reg false [] [⟨⟨some 35, .move (.tmp 33), none⟩, false, false⟩, ⟨⟨some 36, .indexAddr 22 (.tmp 31) (.tmp 33), none⟩, false, false⟩, ⟨⟨some 37, .load 23 (.tmp 36), none⟩, false, false⟩, ⟨⟨some 10, .assign (.tmp 35), none⟩, false, false⟩, ⟨⟨some 11, .assign (.tmp 37), none⟩, false, false⟩])
 (.seq (.seq (.reg false [] [⟨⟨some 38, .move (.tmp 0), none⟩, false, false⟩, ⟨⟨some 39, .move (.tmp 11), none⟩, false, false⟩, ⟨⟨some 40, .call { callee := .value (.func 105), args := #[.tmp 38, .tmp 39], argTypes := #[52, 23] }, none⟩, false, false⟩, ⟨⟨some 41, .unOp .not 4 (.tmp 40), none⟩, false, false⟩, ⟨⟨some 42, .move (.tmp 41), none⟩, false, false⟩, ⟨⟨some 43, .move (.tmp 11), some (42, false)⟩, false, false⟩, ⟨⟨some 44, .binOp .eql 23 (.tmp 43) (.const (.int .u8 0)) 23, some (42, false)⟩, false, false⟩, ⟨⟨some 45, .pick (.tmp 42) (.const (.bool true)) (.tmp 44), none⟩, false, false⟩, ⟨⟨some 46, .move (.tmp 45), none⟩, false, false⟩, ⟨⟨some 47, .move (.tmp 11), some (46, false)⟩, false, false⟩, ⟨⟨some 48, .binOp .eql 23 (.tmp 47) (.const (.int .u8 3)) 23, some (46, false)⟩, false, false⟩, ⟨⟨some 49, .pick (.tmp 46) (.const (.bool true)) (.tmp 48), none⟩, false, false⟩])
 (.cond (.tmp 49) (.seq (.reg false [] [⟨⟨some 50, .build 71 #[], none⟩, false, false⟩, ⟨⟨none, .store 71 (.tmp 6) (.tmp 50), none⟩, false, false⟩, ⟨⟨some 7, .assign (.const (.int .i64 1)), none⟩, false, false⟩])
 (.ret))
 (.skip)))
 (.reg false [] [⟨⟨some 51, .move (.tmp 10), none⟩, false, false⟩, ⟨⟨some 52, .move (.tmp 11), none⟩, false, false⟩, ⟨⟨some 53, .fieldAddr 71 (.tmp 8) 2, none⟩, false, false⟩, ⟨⟨some 54, .indexAddr 69 (.tmp 53) (.tmp 51), none⟩, false, false⟩, ⟨⟨none, .store 23 (.tmp 54) (.tmp 52), none⟩, false, false⟩]))))
 (.reg false [] [⟨⟨some 55, .binOp .add 3 (.tmp 33) (.const (.int .i64 1)) 3, none⟩, false, false⟩, ⟨⟨some 33, .move (.tmp 55), none⟩, false, false⟩])))))))
 (.seq (.reg false [] [⟨⟨some 56, .load 71 (.tmp 8), none⟩, false, false⟩, ⟨⟨none, .store 71 (.tmp 6) (.tmp 56), none⟩, false, false⟩, ⟨⟨some 7, .assign (.const (.int .i64 0)), none⟩, false, false⟩])
 (.ret)))))
theorem F68 : Fun1 Try.prog 68 57 c68 [.cell 6 71, .tmp 7] := Fun1.mk' AL.Try.follows_mixed Try.func68 rfl (by decide +kernel) Try.ntmps68 rfl (by kernel_rfl) rfl

/- proviso/frames.Empty -/
def c107 : AC :=
.seq (.reg false [] [⟨⟨some 2, .alloc 71, none⟩, false, false⟩, ⟨⟨some 3, .assign (.const (.int .i64 0)), none⟩, false, false⟩])
 (.seq (.seq (.reg false [] [⟨⟨some 4, .move (.tmp 0), none⟩, false, false⟩, ⟨⟨some 5, .binOp .lss 3 (.tmp 4) (.const (.int .i64 0)) 3, none⟩, false, false⟩, ⟨⟨some 6, .move (.tmp 5), none⟩, false, false⟩, ⟨⟨some 7, .move (.tmp 0), some (6, false)⟩, false, false⟩, ⟨⟨some 8, .binOp .gtr 3 (.tmp 7) (.const (.int .i64 16)) 3, some (6, false)⟩, false, false⟩, ⟨⟨some 9, .pick (.tmp 6) (.const (.bool true)) (.tmp 8), none⟩, false, false⟩])
 (.cond (.tmp 9) (.seq (.reg false [] [⟨⟨some 10, .build 71 #[], none⟩, false, false⟩, ⟨⟨none, .store 71 (.tmp 2) (.tmp 10), none⟩, false, false⟩, ⟨⟨some 3, .assign (.const (.int .i64 1)), none⟩, false, false⟩])
 (.ret))
 (.skip)))
 (.seq (.reg false [] [⟨⟨some 11, .move (.tmp 0), none⟩, false, false⟩, ⟨⟨some 12, .build 71 #[(0, .tmp 11)], none⟩, false, false⟩, ⟨⟨none, .store 71 (.tmp 2) (.tmp 12), none⟩, false, false⟩, ⟨⟨some 3, .assign (.const (.int .i64 0)), none⟩, false, false⟩])
 (.ret)))
theorem F107 : Fun1 Try.prog 107 13 c107 [.cell 2 71, .tmp 3] := Fun1.mk' AL.Try.follows_mixed Try.func107 rfl (by decide +kernel) Try.ntmps107 rfl (by kernel_rfl) rfl

/- proviso/provisoref02.Check -/
def c69 : AC :=
.seq (.reg false [] [⟨⟨some 2, .assign (.const (.int .i64 0)), none⟩, false, false⟩, ⟨⟨some 3, .assign (.const (.int .i64 0)), none⟩, false, false⟩])
 (.seq (.seq (.reg false [] [⟨⟨some 4, .assign (.const (.int .i64 0)), none⟩, false, false⟩])
 (.block 0 (.loop (.seq (.seq (.reg false [] [⟨⟨some 6, .move (.tmp 4), none⟩, false, false⟩, ⟨⟨some 7, .move (.tmp 0), none⟩, false, false⟩, ⟨⟨some 8, .call { callee := .builtin .len, args := #[.tmp 7], argTypes := #[52] }, none⟩, false, false⟩, ⟨⟨some 9, .binOp .lss 3 (.tmp 6) (.tmp 8) 3, none⟩, false, false⟩])
 (.cond (.tmp 9) (.skip)
 (.exit 0)))
 (.seq (.block 1 (.seq (.reg false [] [⟨⟨some 12, .move (.tmp 0), none⟩, false, false⟩, ⟨⟨some 13, .move (.tmp 4), none⟩, false, false⟩, ⟨⟨some 14, .call { callee := .value (.func 108), args := #[.tmp 12, .tmp 13], argTypes := #[52, 3] }, none⟩, false, false⟩, ⟨⟨some 5, .assign (.tmp 14), none⟩, false, false⟩])
 (.seq (.reg false [] [⟨⟨some 15, .move (.tmp 5), none⟩, false, false⟩, ⟨⟨some 16, .binOp .neq 45 (.tmp 15) (.const (.int .i64 0)) 45, none⟩, false, false⟩])
 (.cond (.tmp 16) (.seq (.reg false [] [⟨⟨some 17, .move (.tmp 4), none⟩, false, false⟩, ⟨⟨some 18, .move (.tmp 5), none⟩, false, false⟩, ⟨⟨some 2, .assign (.tmp 17), none⟩, false, false⟩, ⟨⟨some 3, .assign (.tmp 18), none⟩, false, false⟩])
 (.ret))
 (.skip)))))
 (.reg false [] [⟨⟨some 10, .move (.tmp 4), none⟩, false, false⟩, ⟨⟨some 11, .binOp .add 3 (.tmp 10) (.const (.int .i64 1)) 3, none⟩, false, false⟩, ⟨⟨some 4, .assign (.tmp 11), none⟩, false, false⟩]))))))
 (.seq (.reg false [] [⟨⟨some 2, .assign (.const (.int .i64 0)), none⟩, false, false⟩, ⟨⟨some 3, .assign (.const (.int .i64 0)), none⟩, false, false⟩])
 (.ret)))
theorem F69 : Fun1 Try.prog 69 19 c69 [.tmp 2, .tmp 3] := Fun1.mk' AL.Try.follows_mixed Try.func69 rfl (by decide +kernel) Try.ntmps69 rfl (by kernel_rfl) rfl

/- proviso/provisoref02.fault -/
def c108 : AC :=
.seq (.reg false [] [⟨⟨some 4, .assign (.const (.int .i64 0)), none⟩, false, false⟩])
 (.seq (.reg false [] [⟨⟨some 10, .move (.tmp 0), none⟩, false, false⟩, ⟨⟨some 11, .move (.tmp 1), none⟩, false, false⟩, ⟨⟨some 12, .indexAddr 52 (.tmp 10) (.tmp 11), none⟩, false, false⟩, ⟨⟨some 13, .load 107 (.tmp 12), none⟩, false, false⟩, ⟨⟨some 5, .alloc 107, none⟩, false, false⟩, ⟨⟨none, .store 107 (.tmp 5) (.tmp 13), none⟩, false, false⟩])
 (.seq (.seq (.reg false [] [⟨⟨some 14, .move (.tmp 1), none⟩, false, false⟩, ⟨⟨some 15, .binOp .geq 3 (.tmp 14) (.const (.int .i64 32)) 3, none⟩, false, false⟩])
 (.cond (.tmp 15) (.seq (.reg false [] [⟨⟨some 4, .assign (.const (.int .i64 4)), none⟩, false, false⟩])
 (.ret))
 (.skip)))
 (.seq (.seq (.reg false [] [⟨⟨some 16, .fieldAddr 107 (.tmp 5) 0, none⟩, false, false⟩, ⟨⟨some 17, .load 9 (.tmp 16), none⟩, false, false⟩, ⟨⟨some 18, .call { callee := .value (.func 148), args := #[.tmp 17], argTypes := #[9] }, none⟩, false, false⟩, ⟨⟨some 19, .unOp .not 4 (.tmp 18), none⟩, false, false⟩, ⟨⟨some 20, .move (.tmp 19), none⟩, false, false⟩, ⟨⟨some 21, .fieldAddr 107 (.tmp 5) 0, some (20, false)⟩, false, false⟩, ⟨⟨some 22, .load 9 (.tmp 21), some (20, false)⟩, false, false⟩, ⟨⟨some 23, .call { callee := .value (.func 149), args := #[.tmp 22], argTypes := #[9] }, some (20, false)⟩, false, false⟩, ⟨⟨some 24, .pick (.tmp 20) (.const (.bool true)) (.tmp 23), none⟩, false, false⟩])
 (.cond (.tmp 24) (.seq (.reg false [] [⟨⟨some 4, .assign (.const (.int .i64 6)), none⟩, false, false⟩])
 (.ret))
 (.skip)))
 (.seq (.seq (.reg false [] [⟨⟨some 6, .assign (.const (.int .i64 0)), none⟩, false, false⟩])
 (.block 0 (.loop (.seq (.seq (.reg false [] [⟨⟨some 25, .move (.tmp 6), none⟩, false, false⟩, ⟨⟨some 26, .move (.tmp 1), none⟩, false, false⟩, ⟨⟨some 27, .binOp .lss 3 (.tmp 25) (.tmp 26) 3, none⟩, false, false⟩])
 (.cond (.tmp 27) (.skip)
 (.exit 0)))
 (.seq (.block 1 (.seq (.reg true [] [⟨⟨some 30, .move (.tmp 0), none⟩, false, true⟩, ⟨⟨some 31, .move (.tmp 6), none⟩, false, true⟩, ⟨⟨some 32, .indexAddr 52 (.tmp 30) (.tmp 31), none⟩, false, true⟩, ⟨⟨some 33, .fieldAddr 107 (.tmp 32) 0, none⟩, false, true⟩, ⟨⟨some 34, .load 9 (.tmp 33), none⟩, false, true⟩, ⟨⟨some 35, .fieldAddr 107 (.tmp 5) 0, none⟩, false, false⟩, ⟨⟨some 36, .load 9 (.tmp 35), none⟩, false, false⟩, ⟨⟨some 37, .binOp .eql 9 (.tmp 34) (.tmp 36) 9, none⟩, false, false⟩])
 (.cond (.tmp 37) (.seq (.reg false [] [⟨⟨some 4, .assign (.const (.int .i64 20)), none⟩, false, false⟩])
 (.ret))
 (.skip))))
 (.reg false [] [⟨⟨some 28, .move (.tmp 6), none⟩, false, false⟩, ⟨⟨some 29, .binOp .add 3 (.tmp 28) (.const (.int .i64 1)) 3, none⟩, false, false⟩, ⟨⟨some 6, .assign (.tmp 29), none⟩, false, false⟩]))))))
 (.seq (.seq (.reg false [] [⟨⟨some 38, .fieldAddr 107 (.tmp 5) 1, none⟩, false, false⟩, ⟨⟨some 39, .load 3 (.tmp 38), none⟩, false, false⟩, ⟨⟨some 40, .binOp .lss 3 (.tmp 39) (.const (.int .i64 (-1))) 3, none⟩, false, false⟩, ⟨⟨some 41, .move (.tmp 40), none⟩, false, false⟩, ⟨⟨some 42, .fieldAddr 107 (.tmp 5) 1, some (41, false)⟩, false, false⟩, ⟨⟨some 43, .load 3 (.tmp 42), some (41, false)⟩, false, false⟩, ⟨⟨some 44, .move (.tmp 1), some (41, false)⟩, false, false⟩, ⟨⟨some 45, .binOp .geq 3 (.tmp 43) (.tmp 44) 3, some (41, false)⟩, false, false⟩, ⟨⟨some 46, .pick (.tmp 41) (.const (.bool true)) (.tmp 45), none⟩, false, false⟩])
 (.cond (.tmp 46) (.seq (.reg false [] [⟨⟨some 4, .assign (.const (.int .i64 21)), none⟩, false, false⟩])
 (.ret))
 (.skip)))
 (.seq (.reg false [] [⟨⟨some 47, .move (.tmp 0), none⟩, false, false⟩, ⟨⟨some 48, .fieldAddr 107 (.tmp 5) 1, none⟩, false, false⟩, ⟨⟨some 49, .load 3 (.tmp 48), none⟩, false, false⟩, ⟨⟨some 50, .call { callee := .value (.func 114), args := #[.tmp 47, .tmp 49], argTypes := #[52, 3] }, none⟩, false, false⟩, ⟨⟨some 7, .assign (.tmp 50), none⟩, false, false⟩])
 (.seq (.seq (.reg false [] [⟨⟨some 8, .assign (.const (.int .i64 0)), none⟩, false, false⟩])
 (.block 2 (.loop (.seq (.seq (.reg false [] [⟨⟨some 51, .move (.tmp 8), none⟩, false, false⟩, ⟨⟨some 52, .fieldAddr 107 (.tmp 5) 2, none⟩, false, false⟩, ⟨⟨some 53, .load 105 (.tmp 52), none⟩, false, false⟩, ⟨⟨some 54, .call { callee := .builtin .len, args := #[.tmp 53], argTypes := #[105] }, none⟩, false, false⟩, ⟨⟨some 55, .binOp .lss 3 (.tmp 51) (.tmp 54) 3, none⟩, false, false⟩])
 (.cond (.tmp 55) (.skip)
 (.exit 2)))
 (.seq (.block 3 (.seq (.reg false [] [⟨⟨some 58, .fieldAddr 107 (.tmp 5) 2, none⟩, false, false⟩, ⟨⟨some 59, .load 105 (.tmp 58), none⟩, false, false⟩, ⟨⟨some 60, .move (.tmp 8), none⟩, false, false⟩, ⟨⟨some 61, .indexAddr 105 (.tmp 59) (.tmp 60), none⟩, false, false⟩, ⟨⟨some 62, .load 110 (.tmp 61), none⟩, false, false⟩, ⟨⟨some 9, .alloc 110, none⟩, false, false⟩, ⟨⟨none, .store 110 (.tmp 9) (.tmp 62), none⟩, false, false⟩])
 (.seq (.seq (.reg false [] [⟨⟨some 63, .fieldAddr 110 (.tmp 9) 0, none⟩, false, false⟩, ⟨⟨some 64, .load 9 (.tmp 63), none⟩, false, false⟩, ⟨⟨some 65, .call { callee := .value (.func 148), args := #[.tmp 64], argTypes := #[9] }, none⟩, false, false⟩, ⟨⟨some 66, .unOp .not 4 (.tmp 65), none⟩, false, false⟩])
 (.cond (.tmp 66) (.seq (.reg false [] [⟨⟨some 4, .assign (.const (.int .i64 6)), none⟩, false, false⟩])
 (.ret))
 (.skip)))
 (.seq (.seq (.reg true [] [⟨⟨some 67, .move (.tmp 7), none⟩, false, true⟩, ⟨⟨some 68, .fieldAddr 110 (.tmp 9) 0, none⟩, false, false⟩, ⟨⟨some 69, .load 9 (.tmp 68), none⟩, false, false⟩, ⟨⟨some 70, .call { callee := .value (.func 150), args := #[.tmp 67, .tmp 69], argTypes := #[105, 9] }, none⟩, false, false⟩, ⟨⟨some 71, .move (.tmp 70), none⟩, false, false⟩, ⟨⟨some 72, .fieldAddr 107 (.tmp 5) 2, some (71, false)⟩, false, true⟩, ⟨⟨some 73, .load 105 (.tmp 72), some (71, false)⟩, false, true⟩, ⟨⟨some 74, .move (.tmp 8), some (71, false)⟩, false, true⟩, ⟨⟨some 75, .slice 105 (.tmp 73) none (some (.tmp 74)) none, some (71, false)⟩, false, true⟩, ⟨⟨some 76, .fieldAddr 110 (.tmp 9) 0, some (71, false)⟩, false, false⟩, ⟨⟨some 77, .load 9 (.tmp 76), some (71, false)⟩, false, false⟩, ⟨⟨some 78, .call { callee := .value (.func 150), args := #[.tmp 75, .tmp 77], argTypes := #[105, 9] }, some (71, false)⟩, false, false⟩, ⟨⟨some 79, .pick (.tmp 71) (.const (.bool true)) (.tmp 78), none⟩, false, false⟩])
 (.cond (.tmp 79) (.seq (.reg false [] [⟨⟨some 4, .assign (.const (.int .i64 20)), none⟩, false, false⟩])
 (.ret))
 (.skip)))
 (.seq (.reg false [] [⟨⟨some 80, .move (.tmp 0), none⟩, false, false⟩, ⟨⟨some 81, .fieldAddr 110 (.tmp 9) 1, none⟩, false, false⟩, ⟨⟨some 82, .load 23 (.tmp 81), none⟩, false, false⟩, ⟨⟨some 83, .call { callee := .value (.func 109), args := #[.tmp 80, .tmp 82], argTypes := #[52, 23] }, none⟩, false, false⟩, ⟨⟨some 84, .unOp .not 4 (.tmp 83), none⟩, false, false⟩])
 (.cond (.tmp 84) (.seq (.reg false [] [⟨⟨some 4, .assign (.const (.int .i64 22)), none⟩, false, false⟩])
 (.ret))
 (.skip)))))))
 (.reg false [] [⟨⟨some 56, .move (.tmp 8), none⟩, false, false⟩, ⟨⟨some 57, .binOp .add 3 (.tmp 56) (.const (.int .i64 1)) 3, none⟩, false, false⟩, ⟨⟨some 8, .assign (.tmp 57), none⟩, false, false⟩]))))))
 (.seq (.seq (.reg false [] [⟨⟨some 85, .fieldAddr 107 (.tmp 5) 2, none⟩, false, false⟩, ⟨⟨some 86, .load 105 (.tmp 85), none⟩, false, false⟩, ⟨⟨some 87, .call { callee := .builtin .len, args := #[.tmp 86], argTypes := #[105] }, none⟩, false, false⟩, ⟨⟨some 88, .move (.tmp 7), none⟩, false, false⟩, ⟨⟨some 89, .call { callee := .builtin .len, args := #[.tmp 88], argTypes := #[105] }, none⟩, false, false⟩, ⟨⟨some 90, .binOp .sub 3 (.const (.int .i64 32)) (.tmp 89) 3, none⟩, false, false⟩, ⟨⟨some 91, .binOp .gtr 3 (.tmp 87) (.tmp 90) 3, none⟩, false, false⟩])
 (.cond (.tmp 91) (.seq (.reg false [] [⟨⟨some 4, .assign (.const (.int .i64 4)), none⟩, false, false⟩])
 (.ret))
 (.skip)))
 (.seq (.reg false [] [⟨⟨some 4, .assign (.const (.int .i64 0)), none⟩, false, false⟩])
 (.ret))))))))))
theorem F108 : Fun1 Try.prog 108 92 c108 [.tmp 4] := Fun1.mk' AL.Try.follows_mixed Try.func108 rfl (by decide +kernel) Try.ntmps108 rfl (by kernel_rfl) rfl

/- proviso/provisoref02.IsName -/
def c148 : AC :=
.seq (.reg false [] [⟨⟨some 2, .assign (.const (.bool false)), none⟩, false, false⟩])
 (.seq (.seq (.reg false [] [⟨⟨some 6, .move (.tmp 0), none⟩, false, false⟩, ⟨⟨some 7, .call { callee := .builtin .len, args := #[.tmp 6], argTypes := #[9] }, none⟩, false, false⟩, ⟨⟨some 8, .binOp .lss 3 (.tmp 7) (.const (.int .i64 1)) 3, none⟩, false, false⟩, ⟨⟨some 9, .move (.tmp 8), none⟩, false, false⟩, ⟨⟨some 10, .move (.tmp 0), some (9, false)⟩, false, false⟩, ⟨⟨some 11, .call { callee := .builtin .len, args := #[.tmp 10], argTypes := #[9] }, some (9, false)⟩, false, false⟩, ⟨⟨some 12, .binOp .gtr 3 (.tmp 11) (.const (.int .i64 24)) 3, some (9, false)⟩, false, false⟩, ⟨⟨some 13, .pick (.tmp 9) (.const (.bool true)) (.tmp 12), none⟩, false, false⟩])
 (.cond (.tmp 13) (.seq (.reg false [] [⟨⟨some 2, .assign (.const (.bool false)), none⟩, false, false⟩])
 (.ret))
 (.skip)))
 (.seq (.seq (.reg false [] [⟨⟨some 3, .assign (.const (.int .i64 0)), none⟩, false, false⟩])
 (.block 0 (.loop (.seq (.seq (.reg false [] [⟨⟨some 14, .move (.tmp 3), none⟩, false, false⟩, ⟨⟨some 15, .move (.tmp 0), none⟩, false, false⟩, ⟨⟨some 16, .call { callee := .builtin .len, args := #[.tmp 15], argTypes := #[9] }, none⟩, false, false⟩, ⟨⟨some 17, .binOp .lss 3 (.tmp 14) (.tmp 16) 3, none⟩, false, false⟩])
 (.cond (.tmp 17) (.skip)
 (.exit 0)))
 (.seq (.block 1 (.seq (.reg false [] [⟨⟨some 20, .move (.tmp 0), none⟩, false, false⟩, ⟨⟨some 21, .move (.tmp 3), none⟩, false, false⟩, ⟨⟨some 22, .index 9 (.tmp 20) (.tmp 21), none⟩, false, false⟩, ⟨⟨some 4, .assign (.tmp 22), none⟩, false, false⟩])
 (.seq (.reg false [] [⟨⟨some 23, .move (.tmp 4), none⟩, false, false⟩, ⟨⟨some 24, .binOp .geq 5 (.tmp 23) (.const (.int .u8 97)) 5, none⟩, false, false⟩, ⟨⟨some 25, .move (.tmp 24), none⟩, false, false⟩, ⟨⟨some 26, .move (.tmp 4), some (25, true)⟩, false, false⟩, ⟨⟨some 27, .binOp .leq 5 (.tmp 26) (.const (.int .u8 122)) 5, some (25, true)⟩, false, false⟩, ⟨⟨some 28, .pick (.tmp 25) (.tmp 27) (.const (.bool false)), none⟩, false, false⟩, ⟨⟨some 29, .move (.tmp 28), none⟩, false, false⟩, ⟨⟨some 30, .move (.tmp 4), some (29, false)⟩, false, false⟩, ⟨⟨some 31, .binOp .geq 5 (.tmp 30) (.const (.int .u8 65)) 5, some (29, false)⟩, false, false⟩, ⟨⟨some 32, .move (.tmp 31), some (29, false)⟩, false, false⟩, ⟨⟨some 33, .move (.tmp 4), some (32, true)⟩, false, false⟩, ⟨⟨some 34, .binOp .leq 5 (.tmp 33) (.const (.int .u8 90)) 5, some (32, true)⟩, false, false⟩, ⟨⟨some 35, .pick (.tmp 32) (.tmp 34) (.const (.bool false)), some (29, false)⟩, false, false⟩, ⟨⟨some 36, .pick (.tmp 29) (.const (.bool true)) (.tmp 35), none⟩, false, false⟩, ⟨⟨some 5, .assign (.tmp 36), none⟩, false, false⟩])
 (.seq (.reg false [] [⟨⟨some 37, .move (.tmp 5), none⟩, false, false⟩, ⟨⟨some 38, .unOp .not 4 (.tmp 37), none⟩, false, false⟩, ⟨⟨some 39, .move (.tmp 38), none⟩, false, false⟩, ⟨⟨some 40, .move (.tmp 3), some (39, true)⟩, false, false⟩, ⟨⟨some 41, .binOp .eql 3 (.tmp 40) (.const (.int .i64 0)) 3, some (39, true)⟩, false, false⟩, ⟨⟨some 42, .move (.tmp 41), some (39, true)⟩, false, false⟩, ⟨⟨some 43, .move (.tmp 4), some (42, false)⟩, false, false⟩, ⟨⟨some 44, .binOp .neq 5 (.tmp 43) (.const (.int .u8 95)) 5, some (42, false)⟩, false, false⟩, ⟨⟨some 45, .move (.tmp 44), some (42, false)⟩, false, false⟩, ⟨⟨some 46, .move (.tmp 4), some (45, true)⟩, false, false⟩, ⟨⟨some 47, .binOp .lss 5 (.tmp 46) (.const (.int .u8 48)) 5, some (45, true)⟩, false, false⟩, ⟨⟨some 48, .move (.tmp 47), some (45, true)⟩, false, false⟩, ⟨⟨some 49, .move (.tmp 4), some (48, false)⟩, false, false⟩, ⟨⟨some 50, .binOp .gtr 5 (.tmp 49) (.const (.int .u8 57)) 5, some (48, false)⟩, false, false⟩, ⟨⟨some 51, .pick (.tmp 48) (.const (.bool true)) (.tmp 50), some (45, true)⟩, false, false⟩, ⟨⟨some 52, .pick (.tmp 45) (.tmp 51) (.const (.bool false)), some (42, false)⟩, false, false⟩, ⟨⟨some 53, .pick (.tmp 42) (.const (.bool true)) (.tmp 52), some (39, true)⟩, false, false⟩, ⟨⟨some 54, .pick (.tmp 39) (.tmp 53) (.const (.bool false)), none⟩, false, false⟩])
 (.cond (.tmp 54) (.seq (.reg false [] [⟨⟨some 2, .assign (.const (.bool false)), none⟩, false, false⟩])
 (.ret))
 (.skip))))))
 (.reg false [] [⟨⟨some 18, .move (.tmp 3), none⟩, false, false⟩, ⟨⟨some 19, .binOp .add 3 (.tmp 18) (.const (.int .i64 1)) 3, none⟩, false, false⟩, ⟨⟨some 3, .assign (.tmp 19), none⟩, false, false⟩]))))))
 (.seq (.reg false [] [⟨⟨some 2, .assign (.const (.bool true)), none⟩, false, false⟩])
 (.ret))))
theorem F148 : Fun1 Try.prog 148 55 c148 [.tmp 2] := Fun1.mk' AL.Try.follows_mixed Try.func148 rfl (by decide +kernel) Try.ntmps148 rfl (by kernel_rfl) rfl

/- proviso/provisoref02.isWord -/
def c149 : AC :=
.seq (.reg false [] [⟨⟨some 2, .assign (.const (.bool false)), none⟩, false, false⟩])
 (.seq (.seq (.reg false [] [⟨⟨some 3, .assign (.const (.int .u8 0)), none⟩, false, false⟩])
 (.block 0 (.loop (.seq (.seq (.reg false [] [⟨⟨some 4, .move (.tmp 3), none⟩, false, false⟩, ⟨⟨some 5, .binOp .leq 23 (.tmp 4) (.const (.int .u8 5)) 23, none⟩, false, false⟩])
 (.cond (.tmp 5) (.skip)
 (.exit 0)))
 (.seq (.block 1 (.seq (.reg false [] [⟨⟨some 8, .move (.tmp 3), none⟩, false, false⟩, ⟨⟨some 9, .call { callee := .value (.func 183), args := #[.tmp 8], argTypes := #[23] }, none⟩, false, false⟩, ⟨⟨some 10, .move (.tmp 0), none⟩, false, false⟩, ⟨⟨some 11, .binOp .eql 9 (.tmp 9) (.tmp 10) 9, none⟩, false, false⟩])
 (.cond (.tmp 11) (.seq (.reg false [] [⟨⟨some 2, .assign (.const (.bool true)), none⟩, false, false⟩])
 (.ret))
 (.skip))))
 (.reg false [] [⟨⟨some 6, .move (.tmp 3), none⟩, false, false⟩, ⟨⟨some 7, .binOp .add 23 (.tmp 6) (.const (.int .u8 1)) 23, none⟩, false, false⟩, ⟨⟨some 3, .assign (.tmp 7), none⟩, false, false⟩]))))))
 (.seq (.reg false [] [⟨⟨some 2, .assign (.const (.bool false)), none⟩, false, false⟩])
 (.ret)))
theorem F149 : Fun1 Try.prog 149 12 c149 [.tmp 2] := Fun1.mk' AL.Try.follows_mixed Try.func149 rfl (by decide +kernel) Try.ntmps149 rfl (by kernel_rfl) rfl

/- proviso/provisoref02.word -/
def c183 : AC :=
.seq (.reg false [] [⟨⟨some 2, .assign (.const (.string { data := #[] })), none⟩, false, false⟩])
 (.seq (.seq (.reg false [] [⟨⟨some 3, .move (.tmp 0), none⟩, false, false⟩])
 (.block 0 (.seq (.reg false [] [⟨⟨some 5, .binOp .eql 23 (.tmp 3) (.const (.int .u8 0)) 23, none⟩, false, false⟩, ⟨⟨some 4, .assign (.tmp 5), none⟩, false, false⟩])
 (.cond (.tmp 4) (.seq (.reg false [] [⟨⟨some 2, .assign (.const (.string { data := #[116, 111, 112] })), none⟩, false, false⟩])
 (.ret))
 (.seq (.reg false [] [⟨⟨some 7, .binOp .eql 23 (.tmp 3) (.const (.int .u8 1)) 23, none⟩, false, false⟩, ⟨⟨some 6, .assign (.tmp 7), none⟩, false, false⟩])
 (.cond (.tmp 6) (.seq (.reg false [] [⟨⟨some 2, .assign (.const (.string { data := #[105, 110, 116] })), none⟩, false, false⟩])
 (.ret))
 (.seq (.reg false [] [⟨⟨some 9, .binOp .eql 23 (.tmp 3) (.const (.int .u8 2)) 23, none⟩, false, false⟩, ⟨⟨some 8, .assign (.tmp 9), none⟩, false, false⟩])
 (.cond (.tmp 8) (.seq (.reg false [] [⟨⟨some 2, .assign (.const (.string { data := #[98, 111, 111, 108] })), none⟩, false, false⟩])
 (.ret))
 (.seq (.reg false [] [⟨⟨some 11, .binOp .eql 23 (.tmp 3) (.const (.int .u8 3)) 23, none⟩, false, false⟩, ⟨⟨some 10, .assign (.tmp 11), none⟩, false, false⟩])
 (.cond (.tmp 10) (.seq (.reg false [] [⟨⟨some 2, .assign (.const (.string { data := #[110, 117, 108, 108] })), none⟩, false, false⟩])
 (.ret))
 (.seq (.reg false [] [⟨⟨some 13, .binOp .eql 23 (.tmp 3) (.const (.int .u8 4)) 23, none⟩, false, false⟩, ⟨⟨some 12, .assign (.tmp 13), none⟩, false, false⟩])
 (.cond (.tmp 12) (.seq (.reg false [] [⟨⟨some 2, .assign (.const (.string { data := #[105, 110, 116, 115] })), none⟩, false, false⟩])
 (.ret))
 (.seq (.reg false [] [⟨⟨some 15, .binOp .eql 23 (.tmp 3) (.const (.int .u8 5)) 23, none⟩, false, false⟩, ⟨⟨some 14, .assign (.tmp 15), none⟩, false, false⟩])
 (.cond (.tmp 14) (.seq (.reg false [] [⟨⟨some 2, .assign (.const (.string { data := #[97, 110, 121] })), none⟩, false, false⟩])
 (.ret))
 (.skip)))))))))))))))
 (.seq (.reg false [] [⟨⟨some 2, .assign (.const (.string { data := #[] })), none⟩, false, false⟩])
 (.ret)))
theorem F183 : Fun1 Try.prog 183 16 c183 [.tmp 2] := Fun1.mk' AL.Try.follows_mixed Try.func183 rfl (by decide +kernel) Try.ntmps183 rfl (by kernel_rfl) rfl

/- proviso/provisoref02.has -/
def c150 : AC :=
.seq (.reg false [] [⟨⟨some 4, .assign (.const (.bool false)), none⟩, false, false⟩])
 (.seq (.seq (.reg false [] [⟨⟨some 5, .assign (.const (.int .i64 0)), none⟩, false, false⟩])
 (.block 0 (.loop (.seq (.seq (.reg false [] [⟨⟨some 6, .move (.tmp 5), none⟩, false, false⟩, ⟨⟨some 7, .move (.tmp 0), none⟩, false, false⟩, ⟨⟨some 8, .call { callee := .builtin .len, args := #[.tmp 7], argTypes := #[105] }, none⟩, false, false⟩, ⟨⟨some 9, .binOp .lss 3 (.tmp 6) (.tmp 8) 3, none⟩, false, false⟩])
 (.cond (.tmp 9) (.skip)
 (.exit 0)))
 (.seq (.block 1 (.seq (.reg false [] [⟨⟨some 12, .move (.tmp 0), none⟩, false, false⟩, ⟨⟨some 13, .move (.tmp 5), none⟩, false, false⟩, ⟨⟨some 14, .indexAddr 105 (.tmp 12) (.tmp 13), none⟩, false, false⟩, ⟨⟨some 15, .fieldAddr 110 (.tmp 14) 0, none⟩, false, false⟩, ⟨⟨some 16, .load 9 (.tmp 15), none⟩, false, false⟩, ⟨⟨some 17, .move (.tmp 1), none⟩, false, false⟩, ⟨⟨some 18, .binOp .eql 9 (.tmp 16) (.tmp 17) 9, none⟩, false, false⟩])
 (.cond (.tmp 18) (.seq (.reg false [] [⟨⟨some 4, .assign (.const (.bool true)), none⟩, false, false⟩])
 (.ret))
 (.skip))))
 (.reg false [] [⟨⟨some 10, .move (.tmp 5), none⟩, false, false⟩, ⟨⟨some 11, .binOp .add 3 (.tmp 10) (.const (.int .i64 1)) 3, none⟩, false, false⟩, ⟨⟨some 5, .assign (.tmp 11), none⟩, false, false⟩]))))))
 (.seq (.reg false [] [⟨⟨some 4, .assign (.const (.bool false)), none⟩, false, false⟩])
 (.ret)))
theorem F150 : Fun1 Try.prog 150 19 c150 [.tmp 4] := Fun1.mk' AL.Try.follows_mixed Try.func150 rfl (by decide +kernel) Try.ntmps150 rfl (by kernel_rfl) rfl

/- proviso/provisoref02.Fields -/
def c114 : AC :=
.seq (.reg false [] [⟨⟨some 4, .assign (.const (.slice none 0 0)), none⟩, false, false⟩])
 (.seq (.reg false [] [⟨⟨some 8, .move (.tmp 0), none⟩, false, false⟩, ⟨⟨some 9, .move (.tmp 1), none⟩, false, false⟩, ⟨⟨some 10, .call { callee := .value (.func 121), args := #[.tmp 8, .tmp 9], argTypes := #[52, 3] }, none⟩, false, false⟩, ⟨⟨some 5, .assign (.tmp 10), none⟩, false, false⟩])
 (.seq (.reg false [] [⟨⟨some 6, .assign (.const (.slice none 0 0)), none⟩, false, false⟩])
 (.seq (.seq (.reg false [] [⟨⟨some 11, .move (.tmp 5), none⟩, false, false⟩, ⟨⟨some 12, .call { callee := .builtin .len, args := #[.tmp 11], argTypes := #[26] }, none⟩, false, false⟩, ⟨⟨some 13, .binOp .sub 3 (.tmp 12) (.const (.int .i64 1)) 3, none⟩, false, false⟩, ⟨⟨some 7, .assign (.tmp 13), none⟩, false, false⟩])
 (.block 0 (.loop (.seq (.seq (.reg false [] [⟨⟨some 14, .move (.tmp 7), none⟩, false, false⟩, ⟨⟨some 15, .binOp .geq 3 (.tmp 14) (.const (.int .i64 0)) 3, none⟩, false, false⟩])
 (.cond (.tmp 15) (.skip)
 (.exit 0)))
 (.seq (.block 1 (.reg false [] [⟨⟨some 18, .move (.tmp 6), none⟩, false, false⟩, ⟨⟨some 19, .move (.tmp 0), none⟩, false, false⟩, ⟨⟨some 20, .move (.tmp 5), none⟩, false, false⟩, ⟨⟨some 21, .move (.tmp 7), none⟩, false, false⟩, ⟨⟨some 22, .indexAddr 26 (.tmp 20) (.tmp 21), none⟩, false, false⟩, ⟨⟨some 23, .load 3 (.tmp 22), none⟩, false, false⟩, ⟨⟨some 24, .indexAddr 52 (.tmp 19) (.tmp 23), none⟩, false, false⟩, ⟨⟨some 25, .fieldAddr 107 (.tmp 24) 2, none⟩, false, false⟩, ⟨⟨some 26, .load 105 (.tmp 25), none⟩, false, false⟩, ⟨⟨some 27, .call { callee := .builtin .append, args := #[.tmp 18, .tmp 26], argTypes := #[105, 105] }, none⟩, false, false⟩, ⟨⟨some 6, .assign (.tmp 27), none⟩, false, false⟩]))
 (.reg false [] [⟨⟨some 16, .move (.tmp 7), none⟩, false, false⟩, ⟨⟨some 17, .binOp .sub 3 (.tmp 16) (.const (.int .i64 1)) 3, none⟩, false, false⟩, ⟨⟨some 7, .assign (.tmp 17), none⟩, false, false⟩]))))))
 (.seq (.reg false [] [⟨⟨some 28, .move (.tmp 6), none⟩, false, false⟩, ⟨⟨some 4, .assign (.tmp 28), none⟩, false, false⟩])
 (.ret)))))
theorem F114 : Fun1 Try.prog 114 29 c114 [.tmp 4] := Fun1.mk' AL.Try.follows_mixed Try.func114 rfl (by decide +kernel) Try.ntmps114 rfl (by kernel_rfl) rfl

/- proviso/provisoref02.Line -/
def c121 : AC :=
.seq (.reg false [] [⟨⟨some 4, .assign (.const (.slice none 0 0)), none⟩, false, false⟩])
 (.seq (.reg false [] [⟨⟨some 5, .assign (.const (.slice none 0 0)), none⟩, false, false⟩])
 (.seq (.block 0 (.loop (.seq (.seq (.reg false [] [⟨⟨some 6, .move (.tmp 1), none⟩, false, false⟩, ⟨⟨some 7, .binOp .geq 3 (.tmp 6) (.const (.int .i64 0)) 3, none⟩, false, false⟩, ⟨⟨some 8, .move (.tmp 7), none⟩, false, false⟩, ⟨⟨some 9, .move (.tmp 1), some (8, true)⟩, false, false⟩, ⟨⟨some 10, .move (.tmp 0), some (8, true)⟩, false, false⟩, ⟨⟨some 11, .call { callee := .builtin .len, args := #[.tmp 10], argTypes := #[52] }, some (8, true)⟩, false, false⟩, ⟨⟨some 12, .binOp .lss 3 (.tmp 9) (.tmp 11) 3, some (8, true)⟩, false, false⟩, ⟨⟨some 13, .pick (.tmp 8) (.tmp 12) (.const (.bool false)), none⟩, false, false⟩, ⟨⟨some 14, .move (.tmp 13), none⟩, false, false⟩, ⟨⟨some 15, .move (.tmp 5), some (14, true)⟩, false, false⟩, ⟨⟨some 16, .call { callee := .builtin .len, args := #[.tmp 15], argTypes := #[26] }, some (14, true)⟩, false, false⟩, ⟨⟨some 17, .move (.tmp 0), some (14, true)⟩, false, false⟩, ⟨⟨some 18, .call { callee := .builtin .len, args := #[.tmp 17], argTypes := #[52] }, some (14, true)⟩, false, false⟩, ⟨⟨some 19, .binOp .leq 3 (.tmp 16) (.tmp 18) 3, some (14, true)⟩, false, false⟩, ⟨⟨some 20, .pick (.tmp 14) (.tmp 19) (.const (.bool false)), none⟩, false, false⟩])
 (.cond (.tmp 20) (.skip)
 (.exit 0)))
 (.block 1 (.seq (.reg false [] [⟨⟨some 21, .move (.tmp 5), none⟩, false, false⟩, ⟨⟨some 22, .move (.tmp 1), none⟩, false, false⟩, ⟨⟨some 23, .buildSlice 26 1 #[(0, .tmp 22)], none⟩, false, false⟩, ⟨⟨some 24, .call { callee := .builtin .append, args := #[.tmp 21, .tmp 23], argTypes := #[26, 26] }, none⟩, false, false⟩, ⟨⟨some 5, .assign (.tmp 24), none⟩, false, false⟩])
 (.reg false [] [⟨⟨some 25, .move (.tmp 0), none⟩, false, false⟩, ⟨⟨some 26, .move (.tmp 1), none⟩, false, false⟩, ⟨⟨some 27, .indexAddr 52 (.tmp 25) (.tmp 26), none⟩, false, false⟩, ⟨⟨some 28, .fieldAddr 107 (.tmp 27) 1, none⟩, false, false⟩, ⟨⟨some 29, .load 3 (.tmp 28), none⟩, false, false⟩, ⟨⟨some 1, .assign (.tmp 29), none⟩, false, false⟩]))))))
 (.seq (.reg false [] [⟨⟨some 30, .move (.tmp 5), none⟩, false, false⟩, ⟨⟨some 4, .assign (.tmp 30), none⟩, false, false⟩])
 (.ret))))
theorem F121 : Fun1 Try.prog 121 31 c121 [.tmp 4] := Fun1.mk' AL.Try.follows_mixed Try.func121 rfl (by decide +kernel) Try.ntmps121 rfl (by kernel_rfl) rfl

/- proviso/provisoref02.Stored -/
def c109 : AC :=
.seq (.reg false [] [⟨⟨some 4, .assign (.const (.bool false)), none⟩, false, false⟩])
 (.seq (.reg false [] [⟨⟨some 5, .move (.tmp 0), none⟩, false, false⟩, ⟨⟨some 6, .move (.tmp 1), none⟩, false, false⟩, ⟨⟨some 7, .call { callee := .value (.func 87), args := #[.tmp 5, .tmp 6], argTypes := #[52, 23] }, none⟩, false, false⟩, ⟨⟨some 8, .move (.tmp 7), none⟩, false, false⟩, ⟨⟨some 9, .move (.tmp 1), some (8, true)⟩, false, false⟩, ⟨⟨some 10, .binOp .neq 23 (.tmp 9) (.const (.int .u8 0)) 23, some (8, true)⟩, false, false⟩, ⟨⟨some 11, .pick (.tmp 8) (.tmp 10) (.const (.bool false)), none⟩, false, false⟩, ⟨⟨some 12, .move (.tmp 11), none⟩, false, false⟩, ⟨⟨some 13, .move (.tmp 1), some (12, true)⟩, false, false⟩, ⟨⟨some 14, .binOp .neq 23 (.tmp 13) (.const (.int .u8 3)) 23, some (12, true)⟩, false, false⟩, ⟨⟨some 15, .pick (.tmp 12) (.tmp 14) (.const (.bool false)), none⟩, false, false⟩, ⟨⟨some 4, .assign (.tmp 15), none⟩, false, false⟩])
 (.ret))
theorem F109 : Fun1 Try.prog 109 16 c109 [.tmp 4] := Fun1.mk' AL.Try.follows_mixed Try.func109 rfl (by decide +kernel) Try.ntmps109 rfl (by kernel_rfl) rfl

/- proviso/provisoref02.Valid -/
def c87 : AC :=
.seq (.reg false [] [⟨⟨some 4, .assign (.const (.bool false)), none⟩, false, false⟩])
 (.seq (.reg false [] [⟨⟨some 5, .move (.tmp 1), none⟩, false, false⟩, ⟨⟨some 6, .binOp .leq 23 (.tmp 5) (.const (.int .u8 5)) 23, none⟩, false, false⟩, ⟨⟨some 7, .move (.tmp 6), none⟩, false, false⟩, ⟨⟨some 8, .move (.tmp 1), some (7, false)⟩, false, false⟩, ⟨⟨some 9, .binOp .geq 23 (.tmp 8) (.const (.int .u8 16)) 23, some (7, false)⟩, false, false⟩, ⟨⟨some 10, .move (.tmp 9), some (7, false)⟩, false, false⟩, ⟨⟨some 11, .move (.tmp 1), some (10, true)⟩, false, false⟩, ⟨⟨some 12, .binOp .sub 23 (.tmp 11) (.const (.int .u8 16)) 23, some (10, true)⟩, false, false⟩, ⟨⟨some 13, .convert 23 3 (.tmp 12), some (10, true)⟩, false, false⟩, ⟨⟨some 14, .move (.tmp 0), some (10, true)⟩, false, false⟩, ⟨⟨some 15, .call { callee := .builtin .len, args := #[.tmp 14], argTypes := #[52] }, some (10, true)⟩, false, false⟩, ⟨⟨some 16, .binOp .lss 3 (.tmp 13) (.tmp 15) 3, some (10, true)⟩, false, false⟩, ⟨⟨some 17, .pick (.tmp 10) (.tmp 16) (.const (.bool false)), some (7, false)⟩, false, false⟩, ⟨⟨some 18, .pick (.tmp 7) (.const (.bool true)) (.tmp 17), none⟩, false, false⟩, ⟨⟨some 4, .assign (.tmp 18), none⟩, false, false⟩])
 (.ret))
theorem F87 : Fun1 Try.prog 87 19 c87 [.tmp 4] := Fun1.mk' AL.Try.follows_mixed Try.func87 rfl (by decide +kernel) Try.ntmps87 rfl (by kernel_rfl) rfl

/- proviso/provisoref02.SigMay -/
def c70 : AC :=
.seq (.reg false [] [⟨⟨some 3, .box 25 (.tmp 1), none⟩, false, false⟩, ⟨⟨some 4, .assign (.const (.bool false)), none⟩, false, false⟩])
 (.seq (.seq (.reg false [] [⟨⟨some 5, .assign (.const (.int .i64 0)), none⟩, false, false⟩])
 (.block 0 (.loop (.seq (.seq (.reg false [] [⟨⟨some 6, .move (.tmp 5), none⟩, false, false⟩, ⟨⟨some 7, .fieldAddr 25 (.tmp 3) 0, none⟩, false, false⟩, ⟨⟨some 8, .load 22 (.tmp 7), none⟩, false, false⟩, ⟨⟨some 9, .call { callee := .builtin .len, args := #[.tmp 8], argTypes := #[22] }, none⟩, false, false⟩, ⟨⟨some 10, .binOp .lss 3 (.tmp 6) (.tmp 9) 3, none⟩, false, false⟩])
 (.cond (.tmp 10) (.skip)
 (.exit 0)))
 (.seq (.block 1 (.seq (.reg false [] [⟨⟨some 13, .move (.tmp 0), none⟩, false, false⟩, ⟨⟨some 14, .fieldAddr 25 (.tmp 3) 0, none⟩, false, false⟩, ⟨⟨some 15, .load 22 (.tmp 14), none⟩, false, false⟩, ⟨⟨some 16, .move (.tmp 5), none⟩, false, false⟩, ⟨⟨some 17, .indexAddr 22 (.tmp 15) (.tmp 16), none⟩, false, false⟩, ⟨⟨some 18, .load 23 (.tmp 17), none⟩, false, false⟩, ⟨⟨some 19, .call { callee := .value (.func 109), args := #[.tmp 13, .tmp 18], argTypes := #[52, 23] }, none⟩, false, false⟩, ⟨⟨some 20, .unOp .not 4 (.tmp 19), none⟩, false, false⟩])
 (.cond (.tmp 20) (.seq (.reg false [] [⟨⟨some 4, .assign (.const (.bool false)), none⟩, false, false⟩])
 (.ret))
 (.skip))))
 (.reg false [] [⟨⟨some 11, .move (.tmp 5), none⟩, false, false⟩, ⟨⟨some 12, .binOp .add 3 (.tmp 11) (.const (.int .i64 1)) 3, none⟩, false, false⟩, ⟨⟨some 5, .assign (.tmp 12), none⟩, false, false⟩]))))))
 (.seq (.reg false [] [⟨⟨some 21, .fieldAddr 25 (.tmp 3) 0, none⟩, false, false⟩, ⟨⟨some 22, .load 22 (.tmp 21), none⟩, false, false⟩, ⟨⟨some 23, .call { callee := .builtin .len, args := #[.tmp 22], argTypes := #[22] }, none⟩, false, false⟩, ⟨⟨some 24, .binOp .leq 3 (.tmp 23) (.const (.int .i64 8)) 3, none⟩, false, false⟩, ⟨⟨some 25, .move (.tmp 24), none⟩, false, false⟩, ⟨⟨some 26, .fieldAddr 25 (.tmp 3) 1, some (25, true)⟩, false, false⟩, ⟨⟨some 27, .load 23 (.tmp 26), some (25, true)⟩, false, false⟩, ⟨⟨some 28, .binOp .eql 23 (.tmp 27) (.const (.int .u8 0)) 23, some (25, true)⟩, false, false⟩, ⟨⟨some 29, .move (.tmp 28), some (25, true)⟩, false, false⟩, ⟨⟨some 30, .move (.tmp 0), some (29, false)⟩, false, false⟩, ⟨⟨some 31, .fieldAddr 25 (.tmp 3) 1, some (29, false)⟩, false, false⟩, ⟨⟨some 32, .load 23 (.tmp 31), some (29, false)⟩, false, false⟩, ⟨⟨some 33, .call { callee := .value (.func 109), args := #[.tmp 30, .tmp 32], argTypes := #[52, 23] }, some (29, false)⟩, false, false⟩, ⟨⟨some 34, .pick (.tmp 29) (.const (.bool true)) (.tmp 33), some (25, true)⟩, false, false⟩, ⟨⟨some 35, .pick (.tmp 25) (.tmp 34) (.const (.bool false)), none⟩, false, false⟩, ⟨⟨some 4, .assign (.tmp 35), none⟩, false, false⟩])
 (.ret)))
theorem F70 : Fun1 Try.prog 70 36 c70 [.tmp 4] := Fun1.mk' AL.Try.follows_mixed Try.func70 rfl (by decide +kernel) Try.ntmps70 rfl (by kernel_rfl) rfl

/- proviso/provisoref03.Start -/
def c71 : AC :=
.seq (.reg false [] [⟨⟨some 6, .alloc 71, none⟩, false, false⟩, ⟨⟨some 7, .assign (.const (.int .i64 0)), none⟩, false, false⟩])
 (.seq (.reg false [] [⟨⟨some 13, .move (.tmp 2), none⟩, false, false⟩, ⟨⟨some 14, .call { callee := .value (.func 110), args := #[.tmp 13], argTypes := #[3] }, none⟩, false, false⟩, ⟨⟨some 12, .move (.tmp 14), none⟩, false, false⟩, ⟨⟨some 15, .extract (.tmp 12) 0, none⟩, false, false⟩, ⟨⟨some 16, .extract (.tmp 12) 1, none⟩, false, false⟩, ⟨⟨some 8, .alloc 71, none⟩, false, false⟩, ⟨⟨none, .store 71 (.tmp 8) (.tmp 15), none⟩, false, false⟩, ⟨⟨some 9, .assign (.tmp 16), none⟩, false, false⟩])
 (.seq (.seq (.reg false [] [⟨⟨some 17, .move (.tmp 9), none⟩, false, false⟩, ⟨⟨some 18, .binOp .neq 45 (.tmp 17) (.const (.int .i64 0)) 45, none⟩, false, false⟩, ⟨⟨some 19, .move (.tmp 18), none⟩, false, false⟩, ⟨⟨some 20, .move (.tmp 1), some (19, false)⟩, false, false⟩, ⟨⟨some 21, .call { callee := .builtin .len, args := #[.tmp 20], argTypes := #[22] }, some (19, false)⟩, false, false⟩, ⟨⟨some 22, .binOp .gtr 3 (.tmp 21) (.const (.int .i64 8)) 3, some (19, false)⟩, false, false⟩, ⟨⟨some 23, .pick (.tmp 19) (.const (.bool true)) (.tmp 22), none⟩, false, false⟩, ⟨⟨some 24, .move (.tmp 23), none⟩, false, false⟩, ⟨⟨some 25, .move (.tmp 1), some (24, false)⟩, false, false⟩, ⟨⟨some 26, .call { callee := .builtin .len, args := #[.tmp 25], argTypes := #[22] }, some (24, false)⟩, false, false⟩, ⟨⟨some 27, .move (.tmp 2), some (24, false)⟩, false, false⟩, ⟨⟨some 28, .binOp .gtr 3 (.tmp 26) (.tmp 27) 3, some (24, false)⟩, false, false⟩, ⟨⟨some 29, .pick (.tmp 24) (.const (.bool true)) (.tmp 28), none⟩, false, false⟩])
 (.cond (.tmp 29) (.seq (.reg false [] [⟨⟨some 30, .build 71 #[], none⟩, false, false⟩, ⟨⟨none, .store 71 (.tmp 6) (.tmp 30), none⟩, false, false⟩, ⟨⟨some 7, .assign (.const (.int .i64 1)), none⟩, false, false⟩])
 (.ret))
 (.skip)))
 (.seq (.seq (.reg false [] [⟨⟨some 31, .move (.tmp 1), none⟩, false, false⟩, ⟨⟨some 32, .call { callee := .builtin .len, args := #[.tmp 31], argTypes := #[22] }, none⟩, false, false⟩, ⟨⟨some 33, .move (.const (.int .i64 0)), none⟩, false, false⟩])
 (.block 0 (.loop (.seq (.reg false [] [⟨⟨some 34, .binOp .lss 3 (.tmp 33) (.tmp 32) 3, none⟩, false, false⟩])
 (.seq (.cond (.tmp 34) (.skip)
 (.exit 0))
 (.seq (.block 1 (.seq (.reg false [] [⟨⟨some 35, .move (.tmp 33), none⟩, false, false⟩, ⟨⟨some 36, .indexAddr 22 (.tmp 31) (.tmp 33), none⟩, false, false⟩, ⟨⟨some 37, .load 23 (.tmp 36), none⟩, false, false⟩, ⟨⟨some 10, .assign (.tmp 35), none⟩, false, false⟩, ⟨⟨some 11, .assign (.tmp 37), none⟩, false, false⟩])
 (.seq (.seq (.reg false [] [⟨⟨some 38, .move (.tmp 0), none⟩, false, false⟩, ⟨⟨some 39, .move (.tmp 11), none⟩, false, false⟩, ⟨⟨some 40, .call { callee := .value (.func 111), args := #[.tmp 38, .tmp 39], argTypes := #[52, 23] }, none⟩, false, false⟩, ⟨⟨some 41, .unOp .not 4 (.tmp 40), none⟩, false, false⟩])
 (.cond (.tmp 41) (.seq (.reg false [] [⟨⟨some 42, .build 71 #[], none⟩, false, false⟩, ⟨⟨none, .store 71 (.tmp 6) (.tmp 42), none⟩, false, false⟩, ⟨⟨some 7, .assign (.const (.int .i64 1)), none⟩, false, false⟩])
 (.ret))
 (.skip)))
 (.reg false [] [⟨⟨some 43, .move (.tmp 10), none⟩, false, false⟩, ⟨⟨some 44, .move (.tmp 11), none⟩, false, false⟩, ⟨⟨some 45, .fieldAddr 71 (.tmp 8) 2, none⟩, false, false⟩, ⟨⟨some 46, .indexAddr 69 (.tmp 45) (.tmp 43), none⟩, false, false⟩, ⟨⟨none, .store 23 (.tmp 46) (.tmp 44), none⟩, false, false⟩]))))
 (.reg false [] [⟨⟨some 47, .binOp .add 3 (.tmp 33) (.const (.int .i64 1)) 3, none⟩, false, false⟩, ⟨⟨some 33, .move (.tmp 47), none⟩, false, false⟩])))))))
 (.seq (.reg false [] [⟨⟨some 48, .load 71 (.tmp 8), none⟩, false, false⟩, ⟨⟨none, .store 71 (.tmp 6) (.tmp 48), none⟩, false, false⟩, ⟨⟨some 7, .assign (.const (.int .i64 0)), none⟩, false, false⟩])
 (.ret)))))
theorem F71 : Fun1 Try.prog 71 49 c71 [.cell 6 71, .tmp 7] := Fun1.mk' AL.Try.follows_mixed Try.func71 rfl (by decide +kernel) Try.ntmps71 rfl (by kernel_rfl) rfl

/- proviso/provisoref03.Empty -/
def c110 : AC :=
.seq (.reg false [] [⟨⟨some 2, .alloc 71, none⟩, false, false⟩, ⟨⟨some 3, .assign (.const (.int .i64 0)), none⟩, false, false⟩])
 (.seq (.seq (.reg false [] [⟨⟨some 4, .move (.tmp 0), none⟩, false, false⟩, ⟨⟨some 5, .binOp .lss 3 (.tmp 4) (.const (.int .i64 0)) 3, none⟩, false, false⟩, ⟨⟨some 6, .move (.tmp 5), none⟩, false, false⟩, ⟨⟨some 7, .move (.tmp 0), some (6, false)⟩, false, false⟩, ⟨⟨some 8, .binOp .gtr 3 (.tmp 7) (.const (.int .i64 16)) 3, some (6, false)⟩, false, false⟩, ⟨⟨some 9, .pick (.tmp 6) (.const (.bool true)) (.tmp 8), none⟩, false, false⟩])
 (.cond (.tmp 9) (.seq (.reg false [] [⟨⟨some 10, .build 71 #[], none⟩, false, false⟩, ⟨⟨none, .store 71 (.tmp 2) (.tmp 10), none⟩, false, false⟩, ⟨⟨some 3, .assign (.const (.int .i64 1)), none⟩, false, false⟩])
 (.ret))
 (.skip)))
 (.seq (.reg false [] [⟨⟨some 11, .move (.tmp 0), none⟩, false, false⟩, ⟨⟨some 12, .build 71 #[(0, .tmp 11)], none⟩, false, false⟩, ⟨⟨none, .store 71 (.tmp 2) (.tmp 12), none⟩, false, false⟩, ⟨⟨some 3, .assign (.const (.int .i64 0)), none⟩, false, false⟩])
 (.ret)))
theorem F110 : Fun1 Try.prog 110 13 c110 [.cell 2 71, .tmp 3] := Fun1.mk' AL.Try.follows_mixed Try.func110 rfl (by decide +kernel) Try.ntmps110 rfl (by kernel_rfl) rfl

/- proviso/provisoref03.stored -/
def c111 : AC :=
.seq (.reg false [] [⟨⟨some 4, .assign (.const (.bool false)), none⟩, false, false⟩])
 (.seq (.reg false [] [⟨⟨some 5, .move (.tmp 0), none⟩, false, false⟩, ⟨⟨some 6, .move (.tmp 1), none⟩, false, false⟩, ⟨⟨some 7, .call { callee := .value (.func 87), args := #[.tmp 5, .tmp 6], argTypes := #[52, 23] }, none⟩, false, false⟩, ⟨⟨some 8, .move (.tmp 7), none⟩, false, false⟩, ⟨⟨some 9, .move (.tmp 1), some (8, true)⟩, false, false⟩, ⟨⟨some 10, .binOp .neq 23 (.tmp 9) (.const (.int .u8 0)) 23, some (8, true)⟩, false, false⟩, ⟨⟨some 11, .pick (.tmp 8) (.tmp 10) (.const (.bool false)), none⟩, false, false⟩, ⟨⟨some 12, .move (.tmp 11), none⟩, false, false⟩, ⟨⟨some 13, .move (.tmp 1), some (12, true)⟩, false, false⟩, ⟨⟨some 14, .binOp .neq 23 (.tmp 13) (.const (.int .u8 3)) 23, some (12, true)⟩, false, false⟩, ⟨⟨some 15, .pick (.tmp 12) (.tmp 14) (.const (.bool false)), none⟩, false, false⟩, ⟨⟨some 4, .assign (.tmp 15), none⟩, false, false⟩])
 (.ret))
theorem F111 : Fun1 Try.prog 111 16 c111 [.tmp 4] := Fun1.mk' AL.Try.follows_mixed Try.func111 rfl (by decide +kernel) Try.ntmps111 rfl (by kernel_rfl) rfl

/- proviso/provisolaw08.InferMays -/
def c5 : AC :=
.seq (.reg false [] [⟨⟨some 2, .box 57 (.tmp 0), none⟩, false, false⟩, ⟨⟨some 4, .assign (.const (.bool false)), none⟩, false, false⟩])
 (.seq (.reg false [] [⟨⟨some 6, .load 57 (.tmp 2), none⟩, false, false⟩, ⟨⟨some 7, .call { callee := .value (.func 30), args := #[.tmp 6], argTypes := #[57] }, none⟩, false, false⟩, ⟨⟨some 5, .alloc 57, none⟩, false, false⟩, ⟨⟨none, .store 57 (.tmp 5) (.tmp 7), none⟩, false, false⟩])
 (.seq (.reg true [2] [⟨⟨some 8, .load 57 (.tmp 5), none⟩, false, true⟩, ⟨⟨some 9, .move (.tmp 1), none⟩, false, true⟩, ⟨⟨some 10, .call { callee := .value (.func 31), args := #[.tmp 8, .tmp 9], argTypes := #[57, 3] }, none⟩, false, true⟩, ⟨⟨some 11, .load 57 (.tmp 2), none⟩, true, true⟩, ⟨⟨some 12, .move (.tmp 1), none⟩, true, false⟩, ⟨⟨some 13, .call { callee := .value (.func 32), args := #[.tmp 11, .tmp 12], argTypes := #[57, 3] }, none⟩, false, false⟩, ⟨⟨some 14, .binOp .eql 45 (.tmp 10) (.tmp 13) 45, none⟩, false, false⟩, ⟨⟨some 15, .move (.tmp 14), none⟩, false, false⟩, ⟨⟨some 16, .load 57 (.tmp 5), some (15, true)⟩, false, true⟩, ⟨⟨some 17, .load 57 (.tmp 2), some (15, true)⟩, false, false⟩, ⟨⟨some 18, .call { callee := .value (.func 33), args := #[.tmp 16, .tmp 17], argTypes := #[57, 57] }, some (15, true)⟩, false, false⟩, ⟨⟨some 19, .pick (.tmp 15) (.tmp 18) (.const (.bool false)), none⟩, false, false⟩, ⟨⟨some 4, .assign (.tmp 19), none⟩, false, false⟩])
 (.ret)))
theorem F5 : Fun1 Try.prog 5 20 c5 [.tmp 4] := Fun1.mk' AL.Try.follows_mixed Try.func5 rfl (by decide +kernel) Try.ntmps5 rfl (by kernel_rfl) rfl

end Go.AL
namespace Go.AL
open Go.Proofs
/- proviso/step.counts -/
def c72 : AC :=
.seq (.reg false [] [⟨⟨some 2, .box 57 (.tmp 0), none⟩, false, false⟩, ⟨⟨some 3, .box 63 (.tmp 1), none⟩, false, false⟩, ⟨⟨some 4, .assign (.const (.int .i64 0)), none⟩, false, false⟩, ⟨⟨some 5, .assign (.const (.int .i64 0)), none⟩, false, false⟩, ⟨⟨some 6, .assign (.const (.int .i64 0)), none⟩, false, false⟩])
 (.seq (.seq (.reg false [] [⟨⟨some 10, .load 57 (.tmp 2), none⟩, false, false⟩, ⟨⟨some 11, .call { callee := .value (.func 80), args := #[.tmp 10], argTypes := #[57] }, none⟩, false, false⟩, ⟨⟨some 12, .unOp .not 4 (.tmp 11), none⟩, false, false⟩])
 (.cond (.tmp 12) (.seq (.reg false [] [⟨⟨some 4, .assign (.const (.int .i64 0)), none⟩, false, false⟩, ⟨⟨some 5, .assign (.const (.int .i64 0)), none⟩, false, false⟩, ⟨⟨some 6, .assign (.const (.int .i64 1)), none⟩, false, false⟩])
 (.ret))
 (.skip)))
 (.seq (.reg false [] [⟨⟨some 14, .load 57 (.tmp 2), none⟩, false, false⟩, ⟨⟨some 15, .load 63 (.tmp 3), none⟩, false, false⟩, ⟨⟨some 16, .call { callee := .value (.func 82), args := #[.tmp 14, .tmp 15], argTypes := #[57, 63] }, none⟩, false, false⟩, ⟨⟨some 13, .move (.tmp 16), none⟩, false, false⟩, ⟨⟨some 17, .extract (.tmp 13) 0, none⟩, false, false⟩, ⟨⟨some 18, .extract (.tmp 13) 1, none⟩, false, false⟩, ⟨⟨some 7, .alloc 130, none⟩, false, false⟩, ⟨⟨none, .store 130 (.tmp 7) (.tmp 17), none⟩, false, false⟩, ⟨⟨some 8, .assign (.tmp 18), none⟩, false, false⟩])
 (.seq (.seq (.reg false [] [⟨⟨some 19, .move (.tmp 8), none⟩, false, false⟩, ⟨⟨some 20, .binOp .neq 45 (.tmp 19) (.const (.int .i64 0)) 45, none⟩, false, false⟩])
 (.cond (.tmp 20) (.seq (.reg false [] [⟨⟨some 21, .move (.tmp 8), none⟩, false, false⟩, ⟨⟨some 4, .assign (.const (.int .i64 0)), none⟩, false, false⟩, ⟨⟨some 5, .assign (.const (.int .i64 0)), none⟩, false, false⟩, ⟨⟨some 6, .assign (.tmp 21), none⟩, false, false⟩])
 (.ret))
 (.skip)))
 (.seq (.reg false [] [⟨⟨some 22, .fieldAddr 130 (.tmp 7) 0, none⟩, false, false⟩, ⟨⟨some 23, .load 128 (.tmp 22), none⟩, false, false⟩, ⟨⟨some 24, .call { callee := .builtin .len, args := #[.tmp 23], argTypes := #[128] }, none⟩, false, false⟩, ⟨⟨some 25, .makeSlice 22 (.tmp 24) (.tmp 24), none⟩, false, false⟩, ⟨⟨some 9, .assign (.tmp 25), none⟩, false, false⟩])
 (.seq (.reg true [7] [⟨⟨some 26, .fieldAddr 130 (.tmp 7) 0, none⟩, true, true⟩, ⟨⟨some 27, .load 128 (.tmp 26), none⟩, true, true⟩, ⟨⟨some 28, .call { callee := .builtin .len, args := #[.tmp 27], argTypes := #[128] }, none⟩, true, true⟩, ⟨⟨some 29, .fieldAddr 130 (.tmp 7) 1, none⟩, false, true⟩, ⟨⟨some 30, .load 85 (.tmp 29), none⟩, false, true⟩, ⟨⟨some 31, .move (.tmp 9), none⟩, false, false⟩, ⟨⟨some 32, .call { callee := .value (.tmp 30), args := #[.tmp 31], argTypes := #[22] }, none⟩, false, false⟩, ⟨⟨some 33, .call { callee := .builtin .len, args := #[.tmp 32], argTypes := #[22] }, none⟩, false, true⟩, ⟨⟨some 4, .assign (.tmp 28), none⟩, false, false⟩, ⟨⟨some 5, .assign (.tmp 33), none⟩, false, false⟩, ⟨⟨some 6, .assign (.const (.int .i64 0)), none⟩, false, false⟩])
 (.ret))))))
theorem F72 : Fun1 Try.prog 72 34 c72 [.tmp 4, .tmp 5, .tmp 6] := Fun1.mk' AL.Try.follows_mixed Try.func72 rfl (by decide +kernel) Try.ntmps72 rfl (by kernel_rfl) rfl

/- proviso/step.Takes -/
def c34 : AC :=
.seq (.reg false [] [⟨⟨some 2, .box 57 (.tmp 0), none⟩, false, false⟩, ⟨⟨some 3, .box 63 (.tmp 1), none⟩, false, false⟩, ⟨⟨some 4, .assign (.const (.int .i64 0)), none⟩, false, false⟩, ⟨⟨some 5, .assign (.const (.int .i64 0)), none⟩, false, false⟩])
 (.seq (.reg false [] [⟨⟨some 10, .load 57 (.tmp 2), none⟩, false, false⟩, ⟨⟨some 11, .load 63 (.tmp 3), none⟩, false, false⟩, ⟨⟨some 12, .call { callee := .value (.func 72), args := #[.tmp 10, .tmp 11], argTypes := #[57, 63] }, none⟩, false, false⟩, ⟨⟨some 9, .move (.tmp 12), none⟩, false, false⟩, ⟨⟨some 13, .extract (.tmp 9) 0, none⟩, false, false⟩, ⟨⟨some 14, .extract (.tmp 9) 1, none⟩, false, false⟩, ⟨⟨some 15, .extract (.tmp 9) 2, none⟩, false, false⟩, ⟨⟨some 6, .assign (.tmp 13), none⟩, false, false⟩, ⟨⟨some 7, .assign (.tmp 14), none⟩, false, false⟩, ⟨⟨some 8, .assign (.tmp 15), none⟩, false, false⟩])
 (.seq (.reg false [] [⟨⟨some 16, .move (.tmp 6), none⟩, false, false⟩, ⟨⟨some 17, .move (.tmp 8), none⟩, false, false⟩, ⟨⟨some 4, .assign (.tmp 16), none⟩, false, false⟩, ⟨⟨some 5, .assign (.tmp 17), none⟩, false, false⟩])
 (.ret)))
theorem F34 : Fun1 Try.prog 34 18 c34 [.tmp 4, .tmp 5] := Fun1.mk' AL.Try.follows_mixed Try.func34 rfl (by decide +kernel) Try.ntmps34 rfl (by kernel_rfl) rfl

/- proviso/step.Gives -/
def c35 : AC :=
.seq (.reg false [] [⟨⟨some 2, .box 57 (.tmp 0), none⟩, false, false⟩, ⟨⟨some 3, .box 63 (.tmp 1), none⟩, false, false⟩, ⟨⟨some 4, .assign (.const (.int .i64 0)), none⟩, false, false⟩, ⟨⟨some 5, .assign (.const (.int .i64 0)), none⟩, false, false⟩])
 (.seq (.reg false [] [⟨⟨some 10, .load 57 (.tmp 2), none⟩, false, false⟩, ⟨⟨some 11, .load 63 (.tmp 3), none⟩, false, false⟩, ⟨⟨some 12, .call { callee := .value (.func 72), args := #[.tmp 10, .tmp 11], argTypes := #[57, 63] }, none⟩, false, false⟩, ⟨⟨some 9, .move (.tmp 12), none⟩, false, false⟩, ⟨⟨some 13, .extract (.tmp 9) 0, none⟩, false, false⟩, ⟨⟨some 14, .extract (.tmp 9) 1, none⟩, false, false⟩, ⟨⟨some 15, .extract (.tmp 9) 2, none⟩, false, false⟩, ⟨⟨some 6, .assign (.tmp 13), none⟩, false, false⟩, ⟨⟨some 7, .assign (.tmp 14), none⟩, false, false⟩, ⟨⟨some 8, .assign (.tmp 15), none⟩, false, false⟩])
 (.seq (.reg false [] [⟨⟨some 16, .move (.tmp 7), none⟩, false, false⟩, ⟨⟨some 17, .move (.tmp 8), none⟩, false, false⟩, ⟨⟨some 4, .assign (.tmp 16), none⟩, false, false⟩, ⟨⟨some 5, .assign (.tmp 17), none⟩, false, false⟩])
 (.ret)))
theorem F35 : Fun1 Try.prog 35 18 c35 [.tmp 4, .tmp 5] := Fun1.mk' AL.Try.follows_mixed Try.func35 rfl (by decide +kernel) Try.ntmps35 rfl (by kernel_rfl) rfl

/- proviso/step.environment -/
def c80 : AC :=
.seq (.reg false [] [⟨⟨some 1, .box 57 (.tmp 0), none⟩, false, false⟩, ⟨⟨some 2, .assign (.const (.bool false)), none⟩, false, false⟩])
 (.seq (.reg false [] [⟨⟨some 11, .fieldAddr 57 (.tmp 1) 0, none⟩, false, false⟩, ⟨⟨some 12, .load 52 (.tmp 11), none⟩, false, false⟩, ⟨⟨some 13, .call { callee := .value (.func 64), args := #[.tmp 12], argTypes := #[52] }, none⟩, false, false⟩, ⟨⟨some 10, .move (.tmp 13), none⟩, false, false⟩, ⟨⟨some 14, .extract (.tmp 10) 0, none⟩, false, false⟩, ⟨⟨some 15, .extract (.tmp 10) 1, none⟩, false, false⟩, ⟨⟨some 3, .assign (.tmp 14), none⟩, false, false⟩, ⟨⟨some 4, .assign (.tmp 15), none⟩, false, false⟩])
 (.seq (.seq (.reg false [] [⟨⟨some 16, .move (.tmp 4), none⟩, false, false⟩, ⟨⟨some 17, .binOp .neq 45 (.tmp 16) (.const (.int .i64 0)) 45, none⟩, false, false⟩, ⟨⟨some 18, .move (.tmp 17), none⟩, false, false⟩, ⟨⟨some 19, .fieldAddr 57 (.tmp 1) 1, some (18, false)⟩, false, false⟩, ⟨⟨some 20, .load 49 (.tmp 19), some (18, false)⟩, false, false⟩, ⟨⟨some 21, .call { callee := .builtin .len, args := #[.tmp 20], argTypes := #[49] }, some (18, false)⟩, false, false⟩, ⟨⟨some 22, .binOp .gtr 3 (.tmp 21) (.const (.int .i64 64)) 3, some (18, false)⟩, false, false⟩, ⟨⟨some 23, .pick (.tmp 18) (.const (.bool true)) (.tmp 22), none⟩, false, false⟩, ⟨⟨some 24, .move (.tmp 23), none⟩, false, false⟩, ⟨⟨some 25, .fieldAddr 57 (.tmp 1) 2, some (24, false)⟩, false, false⟩, ⟨⟨some 26, .load 3 (.tmp 25), some (24, false)⟩, false, false⟩, ⟨⟨some 27, .binOp .lss 3 (.tmp 26) (.const (.int .i64 0)) 3, some (24, false)⟩, false, false⟩, ⟨⟨some 28, .pick (.tmp 24) (.const (.bool true)) (.tmp 27), none⟩, false, false⟩, ⟨⟨some 29, .move (.tmp 28), none⟩, false, false⟩, ⟨⟨some 30, .fieldAddr 57 (.tmp 1) 2, some (29, false)⟩, false, false⟩, ⟨⟨some 31, .load 3 (.tmp 30), some (29, false)⟩, false, false⟩, ⟨⟨some 32, .fieldAddr 57 (.tmp 1) 1, some (29, false)⟩, false, false⟩, ⟨⟨some 33, .load 49 (.tmp 32), some (29, false)⟩, false, false⟩, ⟨⟨some 34, .call { callee := .builtin .len, args := #[.tmp 33], argTypes := #[49] }, some (29, false)⟩, false, false⟩, ⟨⟨some 35, .binOp .geq 3 (.tmp 31) (.tmp 34) 3, some (29, false)⟩, false, false⟩, ⟨⟨some 36, .pick (.tmp 29) (.const (.bool true)) (.tmp 35), none⟩, false, false⟩])
 (.cond (.tmp 36) (.seq (.reg false [] [⟨⟨some 2, .assign (.const (.bool false)), none⟩, false, false⟩])
 (.ret))
 (.skip)))
 (.seq (.reg false [] [⟨⟨some 37, .makeFunc (.func 122) #[] #[.tmp 1], none⟩, false, false⟩, ⟨⟨some 5, .assign (.tmp 37), none⟩, false, false⟩])
 (.seq (.seq (.reg false [] [⟨⟨some 38, .fieldAddr 57 (.tmp 1) 1, none⟩, false, false⟩, ⟨⟨some 39, .load 49 (.tmp 38), none⟩, false, false⟩, ⟨⟨some 40, .call { callee := .builtin .len, args := #[.tmp 39], argTypes := #[49] }, none⟩, false, false⟩, ⟨⟨some 41, .move (.const (.int .i64 0)), none⟩, false, false⟩])
 (.block 0 (.loop (.seq (.reg false [] [⟨⟨some 42, .binOp .lss 3 (.tmp 41) (.tmp 40) 3, none⟩, false, false⟩])
 (.seq (.cond (.tmp 42) (.skip)
 (.exit 0))
 (.seq (.block 1 (.seq (.reg false [] [⟨⟨some 43, .indexAddr 49 (.tmp 39) (.tmp 41), none⟩, false, false⟩, ⟨⟨some 44, .load 25 (.tmp 43), none⟩, false, false⟩, ⟨⟨some 7, .alloc 25, none⟩, false, false⟩, ⟨⟨none, .store 25 (.tmp 7) (.tmp 44), none⟩, false, false⟩])
 (.seq (.seq (.reg false [] [⟨⟨some 45, .fieldAddr 25 (.tmp 7) 0, none⟩, false, false⟩, ⟨⟨some 46, .load 22 (.tmp 45), none⟩, false, false⟩, ⟨⟨some 47, .call { callee := .builtin .len, args := #[.tmp 46], argTypes := #[22] }, none⟩, false, false⟩, ⟨⟨some 48, .binOp .gtr 3 (.tmp 47) (.const (.int .i64 8)) 3, none⟩, false, false⟩, ⟨⟨some 49, .move (.tmp 48), none⟩, false, false⟩, ⟨⟨some 50, .fieldAddr 25 (.tmp 7) 1, some (49, false)⟩, false, false⟩, ⟨⟨some 51, .load 23 (.tmp 50), some (49, false)⟩, false, false⟩, ⟨⟨some 52, .binOp .neq 23 (.tmp 51) (.const (.int .u8 0)) 23, some (49, false)⟩, false, false⟩, ⟨⟨some 53, .move (.tmp 52), some (49, false)⟩, false, false⟩, ⟨⟨some 54, .move (.tmp 5), some (53, true)⟩, false, false⟩, ⟨⟨some 55, .fieldAddr 25 (.tmp 7) 1, some (53, true)⟩, false, false⟩, ⟨⟨some 56, .load 23 (.tmp 55), some (53, true)⟩, false, false⟩, ⟨⟨some 57, .call { callee := .value (.tmp 54), args := #[.tmp 56], argTypes := #[23] }, some (53, true)⟩, false, false⟩, ⟨⟨some 58, .unOp .not 4 (.tmp 57), some (53, true)⟩, false, false⟩, ⟨⟨some 59, .pick (.tmp 53) (.tmp 58) (.const (.bool false)), some (49, false)⟩, false, false⟩, ⟨⟨some 60, .pick (.tmp 49) (.const (.bool true)) (.tmp 59), none⟩, false, false⟩])
 (.cond (.tmp 60) (.seq (.reg false [] [⟨⟨some 2, .assign (.const (.bool false)), none⟩, false, false⟩])
 (.ret))
 (.skip)))
 (.seq (.reg false [] [⟨⟨some 61, .fieldAddr 25 (.tmp 7) 0, none⟩, false, false⟩, ⟨⟨some 62, .load 22 (.tmp 61), none⟩, false, false⟩, ⟨⟨some 63, .call { callee := .builtin .len, args := #[.tmp 62], argTypes := #[22] }, none⟩, false, false⟩, ⟨⟨some 64, .move (.const (.int .i64 0)), none⟩, false, false⟩])
 (.block 2 (.loop (.seq (.reg false [] [⟨⟨some 65, .binOp .lss 3 (.tmp 64) (.tmp 63) 3, none⟩, false, false⟩])
 (.seq (.cond (.tmp 65) (.skip)
 (.exit 2))
 (.seq (.block 3 (.seq (.reg false [] [⟨⟨some 66, .indexAddr 22 (.tmp 62) (.tmp 64), none⟩, false, false⟩, ⟨⟨some 67, .load 23 (.tmp 66), none⟩, false, false⟩, ⟨⟨some 9, .assign (.tmp 67), none⟩, false, false⟩])
 (.seq (.reg false [] [⟨⟨some 68, .move (.tmp 5), none⟩, false, false⟩, ⟨⟨some 69, .move (.tmp 9), none⟩, false, false⟩, ⟨⟨some 70, .call { callee := .value (.tmp 68), args := #[.tmp 69], argTypes := #[23] }, none⟩, false, false⟩, ⟨⟨some 71, .unOp .not 4 (.tmp 70), none⟩, false, false⟩])
 (.cond (.tmp 71) (.seq (.reg false [] [⟨⟨some 2, .assign (.const (.bool false)), none⟩, false, false⟩])
 (.ret))
 (.skip)))))
 (.reg false [] [⟨⟨some 72, .binOp .add 3 (.tmp 64) (.const (.int .i64 1)) 3, none⟩, false, false⟩, ⟨⟨some 64, .move (.tmp 72), none⟩, false, false⟩]))))))))))
 (.reg false [] [⟨⟨some 73, .binOp .add 3 (.tmp 41) (.const (.int .i64 1)) 3, none⟩, false, false⟩, ⟨⟨some 41, .move (.tmp 73), none⟩, false, false⟩])))))))
 (.seq (.reg false [] [⟨⟨some 2, .assign (.const (.bool true)), none⟩, false, false⟩])
 (.ret))))))
theorem F80 : Fun1 Try.prog 80 74 c80 [.tmp 2] := Fun1.mk' AL.Try.follows_mixed Try.func80 rfl (by decide +kernel) Try.ntmps80 rfl (by kernel_rfl) rfl

/- proviso/step.environment$1 -/
def c122 : AC :=
.seq (.reg false [] [⟨⟨some 3, .assign (.const (.bool false)), none⟩, false, false⟩])
 (.seq (.reg false [] [⟨⟨some 4, .fieldAddr 57 (.tmp 1) 0, none⟩, false, false⟩, ⟨⟨some 5, .load 52 (.tmp 4), none⟩, false, false⟩, ⟨⟨some 6, .move (.tmp 0), none⟩, false, false⟩, ⟨⟨some 7, .call { callee := .value (.func 105), args := #[.tmp 5, .tmp 6], argTypes := #[52, 23] }, none⟩, false, false⟩, ⟨⟨some 8, .move (.tmp 7), none⟩, false, false⟩, ⟨⟨some 9, .move (.tmp 0), some (8, true)⟩, false, false⟩, ⟨⟨some 10, .binOp .neq 23 (.tmp 9) (.const (.int .u8 0)) 23, some (8, true)⟩, false, false⟩, ⟨⟨some 11, .pick (.tmp 8) (.tmp 10) (.const (.bool false)), none⟩, false, false⟩, ⟨⟨some 12, .move (.tmp 11), none⟩, false, false⟩, ⟨⟨some 13, .move (.tmp 0), some (12, true)⟩, false, false⟩, ⟨⟨some 14, .binOp .neq 23 (.tmp 13) (.const (.int .u8 3)) 23, some (12, true)⟩, false, false⟩, ⟨⟨some 15, .pick (.tmp 12) (.tmp 14) (.const (.bool false)), none⟩, false, false⟩, ⟨⟨some 3, .assign (.tmp 15), none⟩, false, false⟩])
 (.ret))
theorem F122 : Fun1 Try.prog 122 16 c122 [.tmp 3] := Fun1.mk' AL.Try.follows_mixed Try.func122 rfl (by decide +kernel) Try.ntmps122 rfl (by kernel_rfl) rfl

/- proviso/step.told -/
def c82 : AC :=
.seq (.reg false [] [⟨⟨some 2, .box 57 (.tmp 0), none⟩, false, false⟩, ⟨⟨some 3, .box 63 (.tmp 1), none⟩, false, false⟩, ⟨⟨some 4, .alloc 130, none⟩, false, false⟩, ⟨⟨some 5, .assign (.const (.int .i64 0)), none⟩, false, false⟩])
 (.seq (.seq (.reg false [] [⟨⟨some 6, .fieldAddr 63 (.tmp 3) 1, none⟩, false, false⟩, ⟨⟨some 7, .load 5 (.tmp 6), none⟩, false, false⟩, ⟨⟨some 8, .call { callee := .value (.func 125), args := #[.tmp 7], argTypes := #[5] }, none⟩, false, false⟩, ⟨⟨some 9, .binOp .eql 3 (.tmp 8) (.const (.int .i64 0)) 3, none⟩, false, false⟩])
 (.cond (.tmp 9) (.seq (.reg false [] [⟨⟨some 10, .build 130 #[], none⟩, false, false⟩, ⟨⟨none, .store 130 (.tmp 4) (.tmp 10), none⟩, false, false⟩, ⟨⟨some 5, .assign (.const (.int .i64 40)), none⟩, false, false⟩])
 (.ret))
 (.skip)))
 (.seq (.seq (.reg true [3, 2] [⟨⟨some 11, .call { callee := .value (.func 126), args := #[], argTypes := #[] }, none⟩, false, true⟩, ⟨⟨some 12, .fieldAddr 63 (.tmp 3) 1, none⟩, true, true⟩, ⟨⟨some 13, .load 5 (.tmp 12), none⟩, true, true⟩, ⟨⟨some 14, .index 184 (.tmp 11) (.tmp 13), none⟩, false, true⟩, ⟨⟨some 15, .load 57 (.tmp 2), none⟩, true, true⟩, ⟨⟨some 16, .load 63 (.tmp 3), none⟩, true, false⟩])
 (.reg false [] [⟨⟨some 17, .call { callee := .value (.tmp 14), args := #[.tmp 15, .tmp 16], argTypes := #[57, 63] }, none⟩, false, false⟩, ⟨⟨some 18, .extract (.tmp 17) 0, none⟩, false, true⟩, ⟨⟨some 19, .extract (.tmp 17) 1, none⟩, false, false⟩, ⟨⟨none, .store 130 (.tmp 4) (.tmp 18), none⟩, false, false⟩, ⟨⟨some 5, .assign (.tmp 19), none⟩, false, false⟩]))
 (.ret)))
theorem F82 : Fun1 Try.prog 82 20 c82 [.cell 4 130, .tmp 5] := Fun1.mk' AL.Try.follows_mixed Try.func82 rfl (by decide +kernel) Try.ntmps82 rfl (by kernel_rfl) rfl

/- proviso/code.Size -/
def c125 : AC :=
.seq (.reg false [] [⟨⟨some 2, .assign (.const (.int .i64 0)), none⟩, false, false⟩])
 (.seq (.seq (.reg false [] [⟨⟨some 5, .move (.tmp 0), none⟩, false, false⟩, ⟨⟨some 6, .binOp .geq 5 (.tmp 5) (.const (.int .u8 34)) 5, none⟩, false, false⟩])
 (.cond (.tmp 6) (.seq (.reg false [] [⟨⟨some 2, .assign (.const (.int .i64 0)), none⟩, false, false⟩])
 (.ret))
 (.skip)))
 (.seq (.reg false [] [⟨⟨some 8, .move (.tmp 0), none⟩, false, false⟩, ⟨⟨some 9, .call { callee := .value (.func 152), args := #[.tmp 8], argTypes := #[5] }, none⟩, false, false⟩, ⟨⟨some 7, .move (.tmp 9), none⟩, false, false⟩, ⟨⟨some 10, .extract (.tmp 7) 0, none⟩, false, false⟩, ⟨⟨some 11, .extract (.tmp 7) 1, none⟩, false, false⟩, ⟨⟨some 3, .assign (.tmp 10), none⟩, false, false⟩, ⟨⟨some 4, .assign (.tmp 11), none⟩, false, false⟩])
 (.seq (.reg false [] [⟨⟨some 12, .move (.tmp 3), none⟩, false, false⟩, ⟨⟨some 13, .binOp .add 3 (.const (.int .i64 1)) (.tmp 12) 3, none⟩, false, false⟩, ⟨⟨some 14, .move (.tmp 4), none⟩, false, false⟩, ⟨⟨some 15, .binOp .add 3 (.tmp 13) (.tmp 14) 3, none⟩, false, false⟩, ⟨⟨some 2, .assign (.tmp 15), none⟩, false, false⟩])
 (.ret))))
theorem F125 : Fun1 Try.prog 125 16 c125 [.tmp 2] := Fun1.mk' AL.Try.follows_mixed Try.func125 rfl (by decide +kernel) Try.ntmps125 rfl (by kernel_rfl) rfl

/- proviso/code.widths -/
def c152 : AC :=
.seq (.reg false [] [⟨⟨some 2, .assign (.const (.int .i64 0)), none⟩, false, false⟩, ⟨⟨some 3, .assign (.const (.int .i64 0)), none⟩, false, false⟩])
 (.seq (.seq (.reg false [] [⟨⟨some 4, .move (.tmp 0), none⟩, false, false⟩])
 (.block 0 (.seq (.block 5 (.block 4 (.seq (.block 3 (.seq (.block 2 (.seq (.block 1 (.seq (.seq (.seq (.reg false [] [⟨⟨some 6, .binOp .eql 5 (.tmp 4) (.const (.int .u8 1)) 5, none⟩, false, false⟩, ⟨⟨some 5, .assign (.tmp 6), none⟩, false, false⟩])
 (.cond (.tmp 5) (.exit 1)
 (.skip)))
 (.seq (.seq (.seq (.reg false [] [⟨⟨some 8, .binOp .eql 5 (.tmp 4) (.const (.int .u8 19)) 5, none⟩, false, false⟩, ⟨⟨some 7, .assign (.tmp 8), none⟩, false, false⟩])
 (.cond (.tmp 7) (.skip)
 (.reg false [] [⟨⟨some 9, .binOp .eql 5 (.tmp 4) (.const (.int .u8 20)) 5, none⟩, false, false⟩, ⟨⟨some 7, .assign (.tmp 9), none⟩, false, false⟩])))
 (.cond (.tmp 7) (.exit 2)
 (.skip)))
 (.seq (.seq (.seq (.reg false [] [⟨⟨some 11, .binOp .eql 5 (.tmp 4) (.const (.int .u8 24)) 5, none⟩, false, false⟩, ⟨⟨some 10, .assign (.tmp 11), none⟩, false, false⟩])
 (.cond (.tmp 10) (.skip)
 (.reg false [] [⟨⟨some 12, .binOp .eql 5 (.tmp 4) (.const (.int .u8 25)) 5, none⟩, false, false⟩, ⟨⟨some 10, .assign (.tmp 12), none⟩, false, false⟩])))
 (.cond (.tmp 10) (.exit 3)
 (.skip)))
 (.seq (.seq (.seq (.reg false [] [⟨⟨some 14, .binOp .eql 5 (.tmp 4) (.const (.int .u8 2)) 5, none⟩, false, false⟩, ⟨⟨some 13, .assign (.tmp 14), none⟩, false, false⟩])
 (.cond (.tmp 13) (.skip)
 (.seq (.reg false [] [⟨⟨some 15, .binOp .eql 5 (.tmp 4) (.const (.int .u8 4)) 5, none⟩, false, false⟩, ⟨⟨some 13, .assign (.tmp 15), none⟩, false, false⟩])
 (.cond (.tmp 13) (.skip)
 (.reg false [] [⟨⟨some 16, .binOp .eql 5 (.tmp 4) (.const (.int .u8 5)) 5, none⟩, false, false⟩, ⟨⟨some 13, .assign (.tmp 16), none⟩, false, false⟩])))))
 (.cond (.tmp 13) (.exit 4)
 (.skip)))
 (.seq (.seq (.reg false [] [⟨⟨some 18, .binOp .eql 5 (.tmp 4) (.const (.int .u8 21)) 5, none⟩, false, false⟩, ⟨⟨some 17, .assign (.tmp 18), none⟩, false, false⟩])
 (.cond (.tmp 17) (.skip)
 (.seq (.reg false [] [⟨⟨some 19, .binOp .eql 5 (.tmp 4) (.const (.int .u8 23)) 5, none⟩, false, false⟩, ⟨⟨some 17, .assign (.tmp 19), none⟩, false, false⟩])
 (.cond (.tmp 17) (.skip)
 (.seq (.reg false [] [⟨⟨some 20, .binOp .eql 5 (.tmp 4) (.const (.int .u8 30)) 5, none⟩, false, false⟩, ⟨⟨some 17, .assign (.tmp 20), none⟩, false, false⟩])
 (.cond (.tmp 17) (.skip)
 (.seq (.reg false [] [⟨⟨some 21, .binOp .eql 5 (.tmp 4) (.const (.int .u8 31)) 5, none⟩, false, false⟩, ⟨⟨some 17, .assign (.tmp 21), none⟩, false, false⟩])
 (.cond (.tmp 17) (.skip)
 (.reg false [] [⟨⟨some 22, .binOp .eql 5 (.tmp 4) (.const (.int .u8 32)) 5, none⟩, false, false⟩, ⟨⟨some 17, .assign (.tmp 22), none⟩, false, false⟩])))))))))
 (.cond (.tmp 17) (.exit 5)
 (.skip)))))))
 (.exit 0)))
 (.seq (.seq (.reg false [] [⟨⟨some 2, .assign (.const (.int .i64 4)), none⟩, false, false⟩, ⟨⟨some 3, .assign (.const (.int .i64 0)), none⟩, false, false⟩])
 (.ret))
 (.exit 0))))
 (.seq (.seq (.reg false [] [⟨⟨some 2, .assign (.const (.int .i64 2)), none⟩, false, false⟩, ⟨⟨some 3, .assign (.const (.int .i64 0)), none⟩, false, false⟩])
 (.ret))
 (.exit 0))))
 (.seq (.seq (.reg false [] [⟨⟨some 2, .assign (.const (.int .i64 1)), none⟩, false, false⟩, ⟨⟨some 3, .assign (.const (.int .i64 1)), none⟩, false, false⟩])
 (.ret))
 (.exit 0)))))
 (.seq (.seq (.reg false [] [⟨⟨some 2, .assign (.const (.int .i64 1)), none⟩, false, false⟩, ⟨⟨some 3, .assign (.const (.int .i64 0)), none⟩, false, false⟩])
 (.ret))
 (.exit 0)))))
 (.seq (.reg false [] [⟨⟨some 2, .assign (.const (.int .i64 0)), none⟩, false, false⟩, ⟨⟨some 3, .assign (.const (.int .i64 0)), none⟩, false, false⟩])
 (.ret)))
theorem F152 : Fun1 Try.prog 152 23 c152 [.tmp 2, .tmp 3] := Fun1.mk' AL.Try.follows_mixed Try.func152 rfl (by decide +kernel) Try.ntmps152 rfl (by kernel_rfl) rfl

/- proviso/step.table -/
def c126 : AC :=
.seq (.reg false [] [⟨⟨some 0, .alloc 184, none⟩, false, false⟩])
 (.seq (.reg false [] [⟨⟨some 11, .call { callee := .value (.func 153), args := #[.const (.int .u8 1)], argTypes := #[23] }, none⟩, false, false⟩, ⟨⟨some 12, .call { callee := .value (.func 153), args := #[.const (.int .u8 2)], argTypes := #[23] }, none⟩, false, false⟩, ⟨⟨some 13, .call { callee := .value (.func 153), args := #[.const (.int .u8 4)], argTypes := #[23] }, none⟩, false, false⟩, ⟨⟨some 1, .alloc 188, none⟩, false, false⟩, ⟨⟨some 2, .alloc 188, none⟩, false, false⟩, ⟨⟨some 3, .alloc 188, none⟩, false, false⟩, ⟨⟨none, .store 188 (.tmp 1) (.tmp 11), none⟩, false, false⟩, ⟨⟨none, .store 188 (.tmp 2) (.tmp 12), none⟩, false, false⟩, ⟨⟨none, .store 188 (.tmp 3) (.tmp 13), none⟩, false, false⟩])
 (.seq (.reg false [] [⟨⟨some 14, .load 188 (.tmp 1), none⟩, false, false⟩, ⟨⟨some 15, .load 188 (.tmp 1), none⟩, false, false⟩, ⟨⟨some 16, .buildSlice 128 2 #[(0, .tmp 14), (1, .tmp 15)], none⟩, false, false⟩, ⟨⟨some 4, .assign (.tmp 16), none⟩, false, false⟩])
 (.seq (.reg false [] [⟨⟨some 17, .call { callee := .value (.func 154), args := #[.const (.slice none 0 0)], argTypes := #[22] }, none⟩, false, false⟩, ⟨⟨some 5, .alloc 85, none⟩, false, false⟩, ⟨⟨none, .store 85 (.tmp 5) (.tmp 17), none⟩, false, false⟩])
 (.seq (.reg false [] [⟨⟨some 6, .alloc 184, none⟩, false, false⟩])
 (.seq (.seq (.reg false [] [⟨⟨some 18, .buildSlice 210 3 #[(0, .const (.int .u8 0)), (1, .const (.int .u8 19)), (2, .const (.int .u8 32))], none⟩, false, false⟩, ⟨⟨some 19, .call { callee := .builtin .len, args := #[.tmp 18], argTypes := #[210] }, none⟩, false, false⟩, ⟨⟨some 20, .move (.const (.int .i64 0)), none⟩, false, false⟩])
 (.block 0 (.loop (.seq (.reg false [] [⟨⟨some 21, .binOp .lss 3 (.tmp 20) (.tmp 19) 3, none⟩, false, false⟩])
 (.seq (.cond (.tmp 21) (.skip)
 (.exit 0))
 (.seq (.block 1 (.seq (.reg false [] [⟨⟨some 22, .indexAddr 210 (.tmp 18) (.tmp 20), none⟩, false, false⟩, ⟨⟨some 23, .load 5 (.tmp 22), none⟩, false, false⟩, ⟨⟨some 8, .assign (.tmp 23), none⟩, false, false⟩])
 (.reg false [] [⟨⟨some 24, .move (.tmp 8), none⟩, false, false⟩, ⟨⟨some 25, .load 85 (.tmp 5), none⟩, false, false⟩, ⟨⟨some 26, .call { callee := .value (.func 155), args := #[.const (.slice none 0 0), .tmp 25], argTypes := #[128, 85] }, none⟩, false, false⟩, ⟨⟨some 27, .indexAddr 184 (.tmp 6) (.tmp 24), none⟩, false, false⟩, ⟨⟨none, .store 183 (.tmp 27) (.tmp 26), none⟩, false, false⟩])))
 (.reg false [] [⟨⟨some 28, .binOp .add 3 (.tmp 20) (.const (.int .i64 1)) 3, none⟩, false, false⟩, ⟨⟨some 20, .move (.tmp 28), none⟩, false, false⟩])))))))
 (.seq (.reg false [] [⟨⟨some 29, .buildSlice 22 1 #[(0, .const (.int .u8 1))], none⟩, false, false⟩, ⟨⟨some 30, .call { callee := .value (.func 154), args := #[.tmp 29], argTypes := #[22] }, none⟩, false, false⟩, ⟨⟨some 31, .call { callee := .value (.func 155), args := #[.const (.slice none 0 0), .tmp 30], argTypes := #[128, 85] }, none⟩, false, false⟩, ⟨⟨some 32, .indexAddr 184 (.tmp 6) (.const (.int .u8 1)), none⟩, false, false⟩, ⟨⟨none, .store 183 (.tmp 32) (.tmp 31), none⟩, false, false⟩])
 (.seq (.reg false [] [⟨⟨some 33, .buildSlice 22 1 #[(0, .const (.int .u8 2))], none⟩, false, false⟩, ⟨⟨some 34, .call { callee := .value (.func 154), args := #[.tmp 33], argTypes := #[22] }, none⟩, false, false⟩, ⟨⟨some 35, .call { callee := .value (.func 155), args := #[.const (.slice none 0 0), .tmp 34], argTypes := #[128, 85] }, none⟩, false, false⟩, ⟨⟨some 36, .indexAddr 184 (.tmp 6) (.const (.int .u8 2)), none⟩, false, false⟩, ⟨⟨none, .store 183 (.tmp 36) (.tmp 35), none⟩, false, false⟩])
 (.seq (.reg false [] [⟨⟨some 37, .buildSlice 22 1 #[(0, .const (.int .u8 3))], none⟩, false, false⟩, ⟨⟨some 38, .call { callee := .value (.func 154), args := #[.tmp 37], argTypes := #[22] }, none⟩, false, false⟩, ⟨⟨some 39, .call { callee := .value (.func 155), args := #[.const (.slice none 0 0), .tmp 38], argTypes := #[128, 85] }, none⟩, false, false⟩, ⟨⟨some 40, .indexAddr 184 (.tmp 6) (.const (.int .u8 3)), none⟩, false, false⟩, ⟨⟨none, .store 183 (.tmp 40) (.tmp 39), none⟩, false, false⟩])
 (.seq (.reg false [] [⟨⟨some 41, .buildSlice 22 1 #[(0, .const (.int .u8 0))], none⟩, false, false⟩, ⟨⟨some 42, .call { callee := .value (.func 154), args := #[.tmp 41], argTypes := #[22] }, none⟩, false, false⟩, ⟨⟨some 43, .call { callee := .value (.func 155), args := #[.const (.slice none 0 0), .tmp 42], argTypes := #[128, 85] }, none⟩, false, false⟩, ⟨⟨some 44, .indexAddr 184 (.tmp 6) (.const (.int .u8 4)), none⟩, false, false⟩, ⟨⟨none, .store 183 (.tmp 44) (.tmp 43), none⟩, false, false⟩])
 (.seq (.reg false [] [⟨⟨some 45, .build 188 #[(0, .const (.int .i64 1))], none⟩, false, false⟩, ⟨⟨some 46, .buildSlice 128 1 #[(0, .tmp 45)], none⟩, false, false⟩, ⟨⟨some 47, .load 85 (.tmp 5), none⟩, false, false⟩, ⟨⟨some 48, .call { callee := .value (.func 155), args := #[.tmp 46, .tmp 47], argTypes := #[128, 85] }, none⟩, false, false⟩, ⟨⟨some 49, .indexAddr 184 (.tmp 6) (.const (.int .u8 5)), none⟩, false, false⟩, ⟨⟨none, .store 183 (.tmp 49) (.tmp 48), none⟩, false, false⟩])
 (.seq (.reg false [] [⟨⟨some 50, .build 188 #[(0, .const (.int .i64 0))], none⟩, false, false⟩, ⟨⟨some 51, .buildSlice 128 1 #[(0, .tmp 50)], none⟩, false, false⟩, ⟨⟨some 52, .load 85 (.tmp 5), none⟩, false, false⟩, ⟨⟨some 53, .call { callee := .value (.func 155), args := #[.tmp 51, .tmp 52], argTypes := #[128, 85] }, none⟩, false, false⟩, ⟨⟨some 54, .indexAddr 184 (.tmp 6) (.const (.int .u8 6)), none⟩, false, false⟩, ⟨⟨none, .store 183 (.tmp 54) (.tmp 53), none⟩, false, false⟩])
 (.seq (.reg false [] [⟨⟨some 55, .build 188 #[(0, .const (.int .i64 0))], none⟩, false, false⟩, ⟨⟨some 56, .buildSlice 128 1 #[(0, .tmp 55)], none⟩, false, false⟩, ⟨⟨some 57, .call { callee := .value (.func 155), args := #[.tmp 56, .func 156], argTypes := #[128, 85] }, none⟩, false, false⟩, ⟨⟨some 58, .indexAddr 184 (.tmp 6) (.const (.int .u8 7)), none⟩, false, false⟩, ⟨⟨none, .store 183 (.tmp 58) (.tmp 57), none⟩, false, false⟩])
 (.seq (.reg false [] [⟨⟨some 59, .build 188 #[(0, .const (.int .i64 0))], none⟩, false, false⟩, ⟨⟨some 60, .build 188 #[(0, .const (.int .i64 0))], none⟩, false, false⟩, ⟨⟨some 61, .buildSlice 128 2 #[(0, .tmp 59), (1, .tmp 60)], none⟩, false, false⟩, ⟨⟨some 62, .call { callee := .value (.func 155), args := #[.tmp 61, .func 157], argTypes := #[128, 85] }, none⟩, false, false⟩, ⟨⟨some 63, .indexAddr 184 (.tmp 6) (.const (.int .u8 8)), none⟩, false, false⟩, ⟨⟨none, .store 183 (.tmp 63) (.tmp 62), none⟩, false, false⟩])
 (.seq (.seq (.reg false [] [⟨⟨some 64, .buildSlice 210 5 #[(0, .const (.int .u8 9)), (1, .const (.int .u8 10)), (2, .const (.int .u8 11)), (3, .const (.int .u8 12)), (4, .const (.int .u8 13))], none⟩, false, false⟩, ⟨⟨some 65, .call { callee := .builtin .len, args := #[.tmp 64], argTypes := #[210] }, none⟩, false, false⟩, ⟨⟨some 66, .move (.const (.int .i64 0)), none⟩, false, false⟩])
 (.block 2 (.loop (.seq (.reg false [] [⟨⟨some 67, .binOp .lss 3 (.tmp 66) (.tmp 65) 3, none⟩, false, false⟩])
 (.seq (.cond (.tmp 67) (.skip)
 (.exit 2))
 (.seq (.block 3 (.seq (.reg false [] [⟨⟨some 68, .indexAddr 210 (.tmp 64) (.tmp 66), none⟩, false, false⟩, ⟨⟨some 69, .load 5 (.tmp 68), none⟩, false, false⟩, ⟨⟨some 10, .assign (.tmp 69), none⟩, false, false⟩])
 (.reg false [] [⟨⟨some 70, .move (.tmp 10), none⟩, false, false⟩, ⟨⟨some 71, .move (.tmp 4), none⟩, false, false⟩, ⟨⟨some 72, .buildSlice 22 1 #[(0, .const (.int .u8 1))], none⟩, false, false⟩, ⟨⟨some 73, .call { callee := .value (.func 154), args := #[.tmp 72], argTypes := #[22] }, none⟩, false, false⟩, ⟨⟨some 74, .call { callee := .value (.func 155), args := #[.tmp 71, .tmp 73], argTypes := #[128, 85] }, none⟩, false, false⟩, ⟨⟨some 75, .indexAddr 184 (.tmp 6) (.tmp 70), none⟩, false, false⟩, ⟨⟨none, .store 183 (.tmp 75) (.tmp 74), none⟩, false, false⟩])))
 (.reg false [] [⟨⟨some 76, .binOp .add 3 (.tmp 66) (.const (.int .i64 1)) 3, none⟩, false, false⟩, ⟨⟨some 66, .move (.tmp 76), none⟩, false, false⟩])))))))
 (.seq (.seq (.reg true [1] [⟨⟨some 77, .load 188 (.tmp 1), none⟩, true, true⟩, ⟨⟨some 78, .buildSlice 128 1 #[(0, .tmp 77)], none⟩, true, true⟩, ⟨⟨some 79, .buildSlice 22 1 #[(0, .const (.int .u8 1))], none⟩, false, false⟩, ⟨⟨some 80, .call { callee := .value (.func 154), args := #[.tmp 79], argTypes := #[22] }, none⟩, false, false⟩])
 (.reg false [] [⟨⟨some 81, .call { callee := .value (.func 155), args := #[.tmp 78, .tmp 80], argTypes := #[128, 85] }, none⟩, false, false⟩, ⟨⟨some 82, .indexAddr 184 (.tmp 6) (.const (.int .u8 14)), none⟩, false, false⟩, ⟨⟨none, .store 183 (.tmp 82) (.tmp 81), none⟩, false, false⟩]))
 (.seq (.reg false [] [⟨⟨some 83, .move (.tmp 4), none⟩, false, false⟩, ⟨⟨some 84, .buildSlice 22 1 #[(0, .const (.int .u8 2))], none⟩, false, false⟩, ⟨⟨some 85, .call { callee := .value (.func 154), args := #[.tmp 84], argTypes := #[22] }, none⟩, false, false⟩, ⟨⟨some 86, .call { callee := .value (.func 155), args := #[.tmp 83, .tmp 85], argTypes := #[128, 85] }, none⟩, false, false⟩, ⟨⟨some 87, .indexAddr 184 (.tmp 6) (.const (.int .u8 15)), none⟩, false, false⟩, ⟨⟨none, .store 183 (.tmp 87) (.tmp 86), none⟩, false, false⟩])
 (.seq (.reg false [] [⟨⟨some 88, .build 188 #[(0, .const (.int .i64 3))], none⟩, false, false⟩, ⟨⟨some 89, .build 188 #[(0, .const (.int .i64 3))], none⟩, false, false⟩, ⟨⟨some 90, .buildSlice 128 2 #[(0, .tmp 88), (1, .tmp 89)], none⟩, false, false⟩, ⟨⟨some 91, .buildSlice 22 1 #[(0, .const (.int .u8 2))], none⟩, false, false⟩, ⟨⟨some 92, .call { callee := .value (.func 154), args := #[.tmp 91], argTypes := #[22] }, none⟩, false, false⟩, ⟨⟨some 93, .call { callee := .value (.func 155), args := #[.tmp 90, .tmp 92], argTypes := #[128, 85] }, none⟩, false, false⟩, ⟨⟨some 94, .indexAddr 184 (.tmp 6) (.const (.int .u8 16)), none⟩, false, false⟩, ⟨⟨none, .store 183 (.tmp 94) (.tmp 93), none⟩, false, false⟩])
 (.seq (.seq (.reg true [2] [⟨⟨some 95, .load 188 (.tmp 2), none⟩, true, true⟩, ⟨⟨some 96, .buildSlice 128 1 #[(0, .tmp 95)], none⟩, true, true⟩, ⟨⟨some 97, .buildSlice 22 1 #[(0, .const (.int .u8 2))], none⟩, false, false⟩, ⟨⟨some 98, .call { callee := .value (.func 154), args := #[.tmp 97], argTypes := #[22] }, none⟩, false, false⟩])
 (.reg false [] [⟨⟨some 99, .call { callee := .value (.func 155), args := #[.tmp 96, .tmp 98], argTypes := #[128, 85] }, none⟩, false, false⟩, ⟨⟨some 100, .indexAddr 184 (.tmp 6) (.const (.int .u8 17)), none⟩, false, false⟩, ⟨⟨none, .store 183 (.tmp 100) (.tmp 99), none⟩, false, false⟩]))
 (.seq (.reg false [] [⟨⟨some 101, .build 188 #[(0, .const (.int .i64 2))], none⟩, false, false⟩, ⟨⟨some 102, .build 188 #[(0, .const (.int .i64 2))], none⟩, false, false⟩, ⟨⟨some 103, .buildSlice 128 2 #[(0, .tmp 101), (1, .tmp 102)], none⟩, false, false⟩, ⟨⟨some 104, .buildSlice 22 1 #[(0, .const (.int .u8 2))], none⟩, false, false⟩, ⟨⟨some 105, .call { callee := .value (.func 154), args := #[.tmp 104], argTypes := #[22] }, none⟩, false, false⟩, ⟨⟨some 106, .call { callee := .value (.func 155), args := #[.tmp 103, .tmp 105], argTypes := #[128, 85] }, none⟩, false, false⟩, ⟨⟨some 107, .indexAddr 184 (.tmp 6) (.const (.int .u8 18)), none⟩, false, false⟩, ⟨⟨none, .store 183 (.tmp 107) (.tmp 106), none⟩, false, false⟩])
 (.seq (.reg false [] [⟨⟨some 108, .load 188 (.tmp 2), none⟩, false, false⟩, ⟨⟨some 109, .buildSlice 128 1 #[(0, .tmp 108)], none⟩, false, false⟩, ⟨⟨some 110, .load 85 (.tmp 5), none⟩, false, false⟩, ⟨⟨some 111, .call { callee := .value (.func 155), args := #[.tmp 109, .tmp 110], argTypes := #[128, 85] }, none⟩, false, false⟩, ⟨⟨some 112, .indexAddr 184 (.tmp 6) (.const (.int .u8 20)), none⟩, false, false⟩, ⟨⟨none, .store 183 (.tmp 112) (.tmp 111), none⟩, false, false⟩])
 (.seq (.reg false [] [⟨⟨some 113, .indexAddr 184 (.tmp 6) (.const (.int .u8 21)), none⟩, false, false⟩, ⟨⟨none, .store 183 (.tmp 113) (.func 158), none⟩, false, false⟩])
 (.seq (.reg false [] [⟨⟨some 114, .makeFunc (.func 159) #[] #[.tmp 5], none⟩, false, false⟩, ⟨⟨some 115, .indexAddr 184 (.tmp 6) (.const (.int .u8 22)), none⟩, false, false⟩, ⟨⟨none, .store 183 (.tmp 115) (.tmp 114), none⟩, false, false⟩])
 (.seq (.reg false [] [⟨⟨some 116, .call { callee := .value (.func 161), args := #[.const (.slice none 0 0), .const (.bool true)], argTypes := #[128, 4] }, none⟩, false, false⟩, ⟨⟨some 117, .indexAddr 184 (.tmp 6) (.const (.int .u8 23)), none⟩, false, false⟩, ⟨⟨none, .store 183 (.tmp 117) (.tmp 116), none⟩, false, false⟩])
 (.seq (.reg false [] [⟨⟨some 118, .call { callee := .value (.func 162), args := #[.const (.bool false)], argTypes := #[4] }, none⟩, false, false⟩, ⟨⟨some 119, .indexAddr 184 (.tmp 6) (.const (.int .u8 24)), none⟩, false, false⟩, ⟨⟨none, .store 183 (.tmp 119) (.tmp 118), none⟩, false, false⟩])
 (.seq (.reg false [] [⟨⟨some 120, .call { callee := .value (.func 162), args := #[.const (.bool true)], argTypes := #[4] }, none⟩, false, false⟩, ⟨⟨some 121, .indexAddr 184 (.tmp 6) (.const (.int .u8 25)), none⟩, false, false⟩, ⟨⟨none, .store 183 (.tmp 121) (.tmp 120), none⟩, false, false⟩])
 (.seq (.seq (.reg true [1] [⟨⟨some 122, .load 188 (.tmp 1), none⟩, true, true⟩, ⟨⟨some 123, .buildSlice 128 1 #[(0, .tmp 122)], none⟩, true, true⟩, ⟨⟨some 124, .buildSlice 22 1 #[(0, .const (.int .u8 4))], none⟩, false, false⟩, ⟨⟨some 125, .call { callee := .value (.func 154), args := #[.tmp 124], argTypes := #[22] }, none⟩, false, false⟩])
 (.reg false [] [⟨⟨some 126, .call { callee := .value (.func 155), args := #[.tmp 123, .tmp 125], argTypes := #[128, 85] }, none⟩, false, false⟩, ⟨⟨some 127, .indexAddr 184 (.tmp 6) (.const (.int .u8 26)), none⟩, false, false⟩, ⟨⟨none, .store 183 (.tmp 127) (.tmp 126), none⟩, false, false⟩]))
 (.seq (.seq (.reg true [3] [⟨⟨some 128, .load 188 (.tmp 3), none⟩, true, true⟩, ⟨⟨some 129, .buildSlice 128 1 #[(0, .tmp 128)], none⟩, true, true⟩, ⟨⟨some 130, .buildSlice 22 1 #[(0, .const (.int .u8 1))], none⟩, false, false⟩, ⟨⟨some 131, .call { callee := .value (.func 154), args := #[.tmp 130], argTypes := #[22] }, none⟩, false, false⟩])
 (.reg false [] [⟨⟨some 132, .call { callee := .value (.func 155), args := #[.tmp 129, .tmp 131], argTypes := #[128, 85] }, none⟩, false, false⟩, ⟨⟨some 133, .indexAddr 184 (.tmp 6) (.const (.int .u8 27)), none⟩, false, false⟩, ⟨⟨none, .store 183 (.tmp 133) (.tmp 132), none⟩, false, false⟩]))
 (.seq (.seq (.reg true [3, 1] [⟨⟨some 134, .load 188 (.tmp 3), none⟩, true, true⟩, ⟨⟨some 135, .load 188 (.tmp 1), none⟩, true, true⟩, ⟨⟨some 136, .buildSlice 128 2 #[(0, .tmp 134), (1, .tmp 135)], none⟩, true, true⟩, ⟨⟨some 137, .buildSlice 22 1 #[(0, .const (.int .u8 1))], none⟩, false, false⟩, ⟨⟨some 138, .call { callee := .value (.func 154), args := #[.tmp 137], argTypes := #[22] }, none⟩, false, false⟩])
 (.reg false [] [⟨⟨some 139, .call { callee := .value (.func 155), args := #[.tmp 136, .tmp 138], argTypes := #[128, 85] }, none⟩, false, false⟩, ⟨⟨some 140, .indexAddr 184 (.tmp 6) (.const (.int .u8 28)), none⟩, false, false⟩, ⟨⟨none, .store 183 (.tmp 140) (.tmp 139), none⟩, false, false⟩]))
 (.seq (.reg false [] [⟨⟨some 141, .load 188 (.tmp 3), none⟩, false, false⟩, ⟨⟨some 142, .load 188 (.tmp 1), none⟩, false, false⟩, ⟨⟨some 143, .load 188 (.tmp 1), none⟩, false, false⟩, ⟨⟨some 144, .buildSlice 128 3 #[(0, .tmp 141), (1, .tmp 142), (2, .tmp 143)], none⟩, false, false⟩, ⟨⟨some 145, .load 85 (.tmp 5), none⟩, false, false⟩, ⟨⟨some 146, .call { callee := .value (.func 155), args := #[.tmp 144, .tmp 145], argTypes := #[128, 85] }, none⟩, false, false⟩, ⟨⟨some 147, .indexAddr 184 (.tmp 6) (.const (.int .u8 29)), none⟩, false, false⟩, ⟨⟨none, .store 183 (.tmp 147) (.tmp 146), none⟩, false, false⟩])
 (.seq (.reg false [] [⟨⟨some 148, .build 188 #[(0, .const (.int .i64 2))], none⟩, false, false⟩, ⟨⟨some 149, .buildSlice 128 1 #[(0, .tmp 148)], none⟩, false, false⟩, ⟨⟨some 150, .call { callee := .value (.func 161), args := #[.tmp 149, .const (.bool true)], argTypes := #[128, 4] }, none⟩, false, false⟩, ⟨⟨some 151, .indexAddr 184 (.tmp 6) (.const (.int .u8 30)), none⟩, false, false⟩, ⟨⟨none, .store 183 (.tmp 151) (.tmp 150), none⟩, false, false⟩])
 (.seq (.reg false [] [⟨⟨some 152, .build 188 #[(0, .const (.int .i64 2))], none⟩, false, false⟩, ⟨⟨some 153, .buildSlice 128 1 #[(0, .tmp 152)], none⟩, false, false⟩, ⟨⟨some 154, .call { callee := .value (.func 161), args := #[.tmp 153, .const (.bool false)], argTypes := #[128, 4] }, none⟩, false, false⟩, ⟨⟨some 155, .indexAddr 184 (.tmp 6) (.const (.int .u8 31)), none⟩, false, false⟩, ⟨⟨none, .store 183 (.tmp 155) (.tmp 154), none⟩, false, false⟩])
 (.seq (.reg false [] [⟨⟨some 156, .load 188 (.tmp 1), none⟩, false, false⟩, ⟨⟨some 157, .buildSlice 128 1 #[(0, .tmp 156)], none⟩, false, false⟩, ⟨⟨some 158, .load 85 (.tmp 5), none⟩, false, false⟩, ⟨⟨some 159, .call { callee := .value (.func 155), args := #[.tmp 157, .tmp 158], argTypes := #[128, 85] }, none⟩, false, false⟩, ⟨⟨some 160, .indexAddr 184 (.tmp 6) (.const (.int .u8 33)), none⟩, false, false⟩, ⟨⟨none, .store 183 (.tmp 160) (.tmp 159), none⟩, false, false⟩])
 (.seq (.reg false [] [⟨⟨some 161, .load 184 (.tmp 6), none⟩, false, false⟩, ⟨⟨none, .store 184 (.tmp 0) (.tmp 161), none⟩, false, false⟩])
 (.ret))))))))))))))))))))))))))))))))))
theorem F126 : Fun1 Try.prog 126 162 c126 [.cell 0 184] := Fun1.mk' AL.Try.follows_mixed Try.func126 rfl (by decide +kernel) Try.ntmps126 rfl (by kernel_rfl) rfl

/- proviso/step.of -/
def c153 : AC :=
.seq (.reg false [] [⟨⟨some 2, .alloc 188, none⟩, false, false⟩])
 (.seq (.reg false [] [⟨⟨some 3, .move (.tmp 0), none⟩, false, false⟩, ⟨⟨some 4, .build 188 #[(0, .const (.int .i64 4)), (1, .tmp 3)], none⟩, false, false⟩, ⟨⟨none, .store 188 (.tmp 2) (.tmp 4), none⟩, false, false⟩])
 (.ret))
theorem F153 : Fun1 Try.prog 153 5 c153 [.cell 2 188] := Fun1.mk' AL.Try.follows_mixed Try.func153 rfl (by decide +kernel) Try.ntmps153 rfl (by kernel_rfl) rfl

/- proviso/step.giving -/
def c154 : AC :=
.seq (.reg false [] [⟨⟨some 1, .box 22 (.tmp 0), none⟩, false, false⟩, ⟨⟨some 2, .assign (.const .nilFunc), none⟩, false, false⟩])
 (.seq (.reg false [] [⟨⟨some 3, .makeFunc (.func 184) #[] #[.tmp 1], none⟩, false, false⟩, ⟨⟨some 2, .assign (.tmp 3), none⟩, false, false⟩])
 (.ret))
theorem F154 : Fun1 Try.prog 154 4 c154 [.tmp 2] := Fun1.mk' AL.Try.follows_mixed Try.func154 rfl (by decide +kernel) Try.ntmps154 rfl (by kernel_rfl) rfl

/- proviso/step.fixed -/
def c155 : AC :=
.seq (.reg false [] [⟨⟨some 2, .box 128 (.tmp 0), none⟩, false, false⟩, ⟨⟨some 3, .box 85 (.tmp 1), none⟩, false, false⟩, ⟨⟨some 4, .assign (.const .nilFunc), none⟩, false, false⟩])
 (.seq (.reg false [] [⟨⟨some 5, .makeFunc (.func 185) #[] #[.tmp 2, .tmp 3], none⟩, false, false⟩, ⟨⟨some 4, .assign (.tmp 5), none⟩, false, false⟩])
 (.ret))
theorem F155 : Fun1 Try.prog 155 6 c155 [.tmp 4] := Fun1.mk' AL.Try.follows_mixed Try.func155 rfl (by decide +kernel) Try.ntmps155 rfl (by kernel_rfl) rfl

/- proviso/step.table$1 -/
def c156 : AC :=
.seq (.reg false [] [⟨⟨some 2, .assign (.const (.slice none 0 0)), none⟩, false, false⟩])
 (.seq (.reg true [] [⟨⟨some 3, .move (.tmp 0), none⟩, false, true⟩, ⟨⟨some 4, .indexAddr 22 (.tmp 3) (.const (.int .i64 0)), none⟩, false, true⟩, ⟨⟨some 5, .load 23 (.tmp 4), none⟩, false, true⟩, ⟨⟨some 6, .move (.tmp 0), none⟩, false, false⟩, ⟨⟨some 7, .indexAddr 22 (.tmp 6) (.const (.int .i64 0)), none⟩, false, false⟩, ⟨⟨some 8, .load 23 (.tmp 7), none⟩, false, false⟩, ⟨⟨some 9, .buildSlice 22 2 #[(0, .tmp 5), (1, .tmp 8)], none⟩, false, false⟩, ⟨⟨some 2, .assign (.tmp 9), none⟩, false, false⟩])
 (.ret))
theorem F156 : Fun1 Try.prog 156 10 c156 [.tmp 2] := Fun1.mk' AL.Try.follows_mixed Try.func156 rfl (by decide +kernel) Try.ntmps156 rfl (by kernel_rfl) rfl

/- proviso/step.table$2 -/
def c157 : AC :=
.seq (.reg false [] [⟨⟨some 2, .assign (.const (.slice none 0 0)), none⟩, false, false⟩])
 (.seq (.reg true [] [⟨⟨some 3, .move (.tmp 0), none⟩, false, true⟩, ⟨⟨some 4, .indexAddr 22 (.tmp 3) (.const (.int .i64 1)), none⟩, false, true⟩, ⟨⟨some 5, .load 23 (.tmp 4), none⟩, false, true⟩, ⟨⟨some 6, .move (.tmp 0), none⟩, false, false⟩, ⟨⟨some 7, .indexAddr 22 (.tmp 6) (.const (.int .i64 0)), none⟩, false, false⟩, ⟨⟨some 8, .load 23 (.tmp 7), none⟩, false, false⟩, ⟨⟨some 9, .buildSlice 22 2 #[(0, .tmp 5), (1, .tmp 8)], none⟩, false, false⟩, ⟨⟨some 2, .assign (.tmp 9), none⟩, false, false⟩])
 (.ret))
theorem F157 : Fun1 Try.prog 157 10 c157 [.tmp 2] := Fun1.mk' AL.Try.follows_mixed Try.func157 rfl (by decide +kernel) Try.ntmps157 rfl (by kernel_rfl) rfl

/- proviso/step.call -/
def c158 : AC :=
.seq (.reg false [] [⟨⟨some 2, .box 57 (.tmp 0), none⟩, false, false⟩, ⟨⟨some 3, .box 63 (.tmp 1), none⟩, false, false⟩, ⟨⟨some 4, .alloc 130, none⟩, false, false⟩, ⟨⟨some 5, .assign (.const (.int .i64 0)), none⟩, false, false⟩])
 (.seq (.seq (.reg false [] [⟨⟨some 10, .fieldAddr 63 (.tmp 3) 2, none⟩, false, false⟩, ⟨⟨some 11, .load 3 (.tmp 10), none⟩, false, false⟩, ⟨⟨some 12, .binOp .lss 3 (.tmp 11) (.const (.int .i64 0)) 3, none⟩, false, false⟩, ⟨⟨some 13, .move (.tmp 12), none⟩, false, false⟩, ⟨⟨some 14, .fieldAddr 63 (.tmp 3) 2, some (13, false)⟩, false, false⟩, ⟨⟨some 15, .load 3 (.tmp 14), some (13, false)⟩, false, false⟩, ⟨⟨some 16, .fieldAddr 57 (.tmp 2) 1, some (13, false)⟩, false, false⟩, ⟨⟨some 17, .load 49 (.tmp 16), some (13, false)⟩, false, false⟩, ⟨⟨some 18, .call { callee := .builtin .len, args := #[.tmp 17], argTypes := #[49] }, some (13, false)⟩, false, false⟩, ⟨⟨some 19, .binOp .geq 3 (.tmp 15) (.tmp 18) 3, some (13, false)⟩, false, false⟩, ⟨⟨some 20, .pick (.tmp 13) (.const (.bool true)) (.tmp 19), none⟩, false, false⟩])
 (.cond (.tmp 20) (.seq (.reg false [] [⟨⟨some 21, .build 130 #[], none⟩, false, false⟩, ⟨⟨none, .store 130 (.tmp 4) (.tmp 21), none⟩, false, false⟩, ⟨⟨some 5, .assign (.const (.int .i64 71)), none⟩, false, false⟩])
 (.ret))
 (.skip)))
 (.seq (.reg false [] [⟨⟨some 22, .fieldAddr 57 (.tmp 2) 1, none⟩, false, false⟩, ⟨⟨some 23, .load 49 (.tmp 22), none⟩, false, false⟩, ⟨⟨some 24, .fieldAddr 63 (.tmp 3) 2, none⟩, false, false⟩, ⟨⟨some 25, .load 3 (.tmp 24), none⟩, false, false⟩, ⟨⟨some 26, .indexAddr 49 (.tmp 23) (.tmp 25), none⟩, false, false⟩, ⟨⟨some 27, .load 25 (.tmp 26), none⟩, false, false⟩, ⟨⟨some 6, .alloc 25, none⟩, false, false⟩, ⟨⟨none, .store 25 (.tmp 6) (.tmp 27), none⟩, false, false⟩])
 (.seq (.reg false [] [⟨⟨some 7, .assign (.const (.slice none 0 0)), none⟩, false, false⟩])
 (.seq (.seq (.reg false [] [⟨⟨some 28, .fieldAddr 25 (.tmp 6) 0, none⟩, false, false⟩, ⟨⟨some 29, .load 22 (.tmp 28), none⟩, false, false⟩, ⟨⟨some 30, .call { callee := .builtin .len, args := #[.tmp 29], argTypes := #[22] }, none⟩, false, false⟩, ⟨⟨some 31, .move (.const (.int .i64 0)), none⟩, false, false⟩])
 (.block 0 (.loop (.seq (.reg false [] [⟨⟨some 32, .binOp .lss 3 (.tmp 31) (.tmp 30) 3, none⟩, false, false⟩])
 (.seq (.cond (.tmp 32) (.skip)
 (.exit 0))
 (.seq (.block 1 (.seq (.reg false [] [⟨⟨some 33, .indexAddr 22 (.tmp 29) (.tmp 31), none⟩, false, false⟩, ⟨⟨some 34, .load 23 (.tmp 33), none⟩, false, false⟩, ⟨⟨some 9, .assign (.tmp 34), none⟩, false, false⟩])
 (.reg false [] [⟨⟨some 35, .move (.tmp 7), none⟩, false, false⟩, ⟨⟨some 36, .move (.tmp 9), none⟩, false, false⟩, ⟨⟨some 37, .call { callee := .value (.func 153), args := #[.tmp 36], argTypes := #[23] }, none⟩, false, false⟩, ⟨⟨some 38, .buildSlice 128 1 #[(0, .tmp 37)], none⟩, false, false⟩, ⟨⟨some 39, .call { callee := .builtin .append, args := #[.tmp 35, .tmp 38], argTypes := #[128, 128] }, none⟩, false, false⟩, ⟨⟨some 7, .assign (.tmp 39), none⟩, false, false⟩])))
 (.reg false [] [⟨⟨some 40, .binOp .add 3 (.tmp 31) (.const (.int .i64 1)) 3, none⟩, false, false⟩, ⟨⟨some 31, .move (.tmp 40), none⟩, false, false⟩])))))))
 (.seq (.seq (.reg false [] [⟨⟨some 41, .fieldAddr 25 (.tmp 6) 1, none⟩, false, false⟩, ⟨⟨some 42, .load 23 (.tmp 41), none⟩, false, false⟩, ⟨⟨some 43, .binOp .eql 23 (.tmp 42) (.const (.int .u8 0)) 23, none⟩, false, false⟩])
 (.cond (.tmp 43) (.seq (.reg false [] [⟨⟨some 44, .move (.tmp 7), none⟩, false, false⟩, ⟨⟨some 45, .call { callee := .value (.func 154), args := #[.const (.slice none 0 0)], argTypes := #[22] }, none⟩, false, false⟩, ⟨⟨some 46, .build 130 #[(0, .tmp 44), (1, .tmp 45)], none⟩, false, false⟩, ⟨⟨none, .store 130 (.tmp 4) (.tmp 46), none⟩, false, false⟩, ⟨⟨some 5, .assign (.const (.int .i64 0)), none⟩, false, false⟩])
 (.ret))
 (.skip)))
 (.seq (.reg false [] [⟨⟨some 47, .move (.tmp 7), none⟩, false, false⟩, ⟨⟨some 48, .fieldAddr 25 (.tmp 6) 1, none⟩, false, false⟩, ⟨⟨some 49, .load 23 (.tmp 48), none⟩, false, false⟩, ⟨⟨some 50, .buildSlice 22 1 #[(0, .tmp 49)], none⟩, false, false⟩, ⟨⟨some 51, .call { callee := .value (.func 154), args := #[.tmp 50], argTypes := #[22] }, none⟩, false, false⟩, ⟨⟨some 52, .build 130 #[(0, .tmp 47), (1, .tmp 51)], none⟩, false, false⟩, ⟨⟨none, .store 130 (.tmp 4) (.tmp 52), none⟩, false, false⟩, ⟨⟨some 5, .assign (.const (.int .i64 0)), none⟩, false, false⟩])
 (.ret)))))))
theorem F158 : Fun1 Try.prog 158 53 c158 [.cell 4 130, .tmp 5] := Fun1.mk' AL.Try.follows_mixed Try.func158 rfl (by decide +kernel) Try.ntmps158 rfl (by kernel_rfl) rfl

/- proviso/step.table$3 -/
def c159 : AC :=
.seq (.reg false [] [⟨⟨some 3, .box 57 (.tmp 0), none⟩, false, false⟩, ⟨⟨some 4, .box 63 (.tmp 1), none⟩, false, false⟩, ⟨⟨some 5, .alloc 130, none⟩, false, false⟩, ⟨⟨some 6, .assign (.const (.int .i64 0)), none⟩, false, false⟩])
 (.seq (.seq (.reg true [2] [⟨⟨some 7, .fieldAddr 57 (.tmp 3) 1, none⟩, false, true⟩, ⟨⟨some 8, .load 49 (.tmp 7), none⟩, false, true⟩, ⟨⟨some 9, .fieldAddr 57 (.tmp 3) 2, none⟩, false, true⟩, ⟨⟨some 10, .load 3 (.tmp 9), none⟩, false, true⟩, ⟨⟨some 11, .indexAddr 49 (.tmp 8) (.tmp 10), none⟩, false, true⟩, ⟨⟨some 12, .fieldAddr 25 (.tmp 11) 1, none⟩, false, true⟩, ⟨⟨some 13, .load 23 (.tmp 12), none⟩, false, true⟩, ⟨⟨some 14, .call { callee := .value (.func 160), args := #[.tmp 13], argTypes := #[23] }, none⟩, false, true⟩, ⟨⟨some 15, .load 85 (.tmp 2), none⟩, true, false⟩])
 (.reg false [] [⟨⟨some 16, .build 130 #[(0, .tmp 14), (1, .tmp 15)], none⟩, false, false⟩, ⟨⟨none, .store 130 (.tmp 5) (.tmp 16), none⟩, false, false⟩, ⟨⟨some 6, .assign (.const (.int .i64 0)), none⟩, false, false⟩]))
 (.ret))
theorem F159 : Fun1 Try.prog 159 17 c159 [.cell 5 130, .tmp 6] := Fun1.mk' AL.Try.follows_mixed Try.func159 rfl (by decide +kernel) Try.ntmps159 rfl (by kernel_rfl) rfl

/- proviso/step.results -/
def c160 : AC :=
.seq (.reg false [] [⟨⟨some 2, .assign (.const (.slice none 0 0)), none⟩, false, false⟩])
 (.seq (.seq (.reg false [] [⟨⟨some 3, .move (.tmp 0), none⟩, false, false⟩, ⟨⟨some 4, .binOp .eql 23 (.tmp 3) (.const (.int .u8 0)) 23, none⟩, false, false⟩])
 (.cond (.tmp 4) (.seq (.reg false [] [⟨⟨some 2, .assign (.const (.slice none 0 0)), none⟩, false, false⟩])
 (.ret))
 (.skip)))
 (.seq (.reg false [] [⟨⟨some 5, .move (.tmp 0), none⟩, false, false⟩, ⟨⟨some 6, .call { callee := .value (.func 153), args := #[.tmp 5], argTypes := #[23] }, none⟩, false, false⟩, ⟨⟨some 7, .buildSlice 128 1 #[(0, .tmp 6)], none⟩, false, false⟩, ⟨⟨some 2, .assign (.tmp 7), none⟩, false, false⟩])
 (.ret)))
theorem F160 : Fun1 Try.prog 160 8 c160 [.tmp 2] := Fun1.mk' AL.Try.follows_mixed Try.func160 rfl (by decide +kernel) Try.ntmps160 rfl (by kernel_rfl) rfl

/- proviso/step.classed -/
def c161 : AC :=
.seq (.reg false [] [⟨⟨some 2, .box 128 (.tmp 0), none⟩, false, false⟩, ⟨⟨some 3, .box 4 (.tmp 1), none⟩, false, false⟩, ⟨⟨some 4, .assign (.const .nilFunc), none⟩, false, false⟩])
 (.seq (.reg false [] [⟨⟨some 5, .makeFunc (.func 186) #[] #[.tmp 3, .tmp 2], none⟩, false, false⟩, ⟨⟨some 4, .assign (.tmp 5), none⟩, false, false⟩])
 (.ret))
theorem F161 : Fun1 Try.prog 161 6 c161 [.tmp 4] := Fun1.mk' AL.Try.follows_mixed Try.func161 rfl (by decide +kernel) Try.ntmps161 rfl (by kernel_rfl) rfl

/- proviso/step.field -/
def c162 : AC :=
.seq (.reg false [] [⟨⟨some 1, .box 4 (.tmp 0), none⟩, false, false⟩, ⟨⟨some 2, .assign (.const .nilFunc), none⟩, false, false⟩])
 (.seq (.reg false [] [⟨⟨some 3, .makeFunc (.func 188) #[] #[.tmp 1], none⟩, false, false⟩, ⟨⟨some 2, .assign (.tmp 3), none⟩, false, false⟩])
 (.ret))
theorem F162 : Fun1 Try.prog 162 4 c162 [.tmp 2] := Fun1.mk' AL.Try.follows_mixed Try.func162 rfl (by decide +kernel) Try.ntmps162 rfl (by kernel_rfl) rfl

/- proviso/step.giving$1 -/
def c184 : AC :=
.seq (.reg false [] [⟨⟨some 3, .assign (.const (.slice none 0 0)), none⟩, false, false⟩])
 (.seq (.reg false [] [⟨⟨some 4, .load 22 (.tmp 1), none⟩, false, false⟩, ⟨⟨some 3, .assign (.tmp 4), none⟩, false, false⟩])
 (.ret))
theorem F184 : Fun1 Try.prog 184 5 c184 [.tmp 3] := Fun1.mk' AL.Try.follows_mixed Try.func184 rfl (by decide +kernel) Try.ntmps184 rfl (by kernel_rfl) rfl

/- proviso/step.fixed$1 -/
def c185 : AC :=
.seq (.reg false [] [⟨⟨some 4, .box 57 (.tmp 0), none⟩, false, false⟩, ⟨⟨some 5, .box 63 (.tmp 1), none⟩, false, false⟩, ⟨⟨some 6, .alloc 130, none⟩, false, false⟩, ⟨⟨some 7, .assign (.const (.int .i64 0)), none⟩, false, false⟩])
 (.seq (.reg false [] [⟨⟨some 8, .load 128 (.tmp 2), none⟩, false, false⟩, ⟨⟨some 9, .load 85 (.tmp 3), none⟩, false, false⟩, ⟨⟨some 10, .build 130 #[(0, .tmp 8), (1, .tmp 9)], none⟩, false, false⟩, ⟨⟨none, .store 130 (.tmp 6) (.tmp 10), none⟩, false, false⟩, ⟨⟨some 7, .assign (.const (.int .i64 0)), none⟩, false, false⟩])
 (.ret))
theorem F185 : Fun1 Try.prog 185 11 c185 [.cell 6 130, .tmp 7] := Fun1.mk' AL.Try.follows_mixed Try.func185 rfl (by decide +kernel) Try.ntmps185 rfl (by kernel_rfl) rfl

/- proviso/step.classed$1 -/
def c186 : AC :=
.seq (.reg false [] [⟨⟨some 4, .box 57 (.tmp 0), none⟩, false, false⟩, ⟨⟨some 5, .box 63 (.tmp 1), none⟩, false, false⟩, ⟨⟨some 6, .alloc 130, none⟩, false, false⟩, ⟨⟨some 7, .assign (.const (.int .i64 0)), none⟩, false, false⟩])
 (.seq (.seq (.reg false [] [⟨⟨some 8, .fieldAddr 63 (.tmp 5) 2, none⟩, false, false⟩, ⟨⟨some 9, .load 3 (.tmp 8), none⟩, false, false⟩, ⟨⟨some 10, .binOp .lss 3 (.tmp 9) (.const (.int .i64 0)) 3, none⟩, false, false⟩, ⟨⟨some 11, .move (.tmp 10), none⟩, false, false⟩, ⟨⟨some 12, .fieldAddr 63 (.tmp 5) 2, some (11, false)⟩, false, false⟩, ⟨⟨some 13, .load 3 (.tmp 12), some (11, false)⟩, false, false⟩, ⟨⟨some 14, .fieldAddr 57 (.tmp 4) 0, some (11, false)⟩, false, false⟩, ⟨⟨some 15, .load 52 (.tmp 14), some (11, false)⟩, false, false⟩, ⟨⟨some 16, .call { callee := .builtin .len, args := #[.tmp 15], argTypes := #[52] }, some (11, false)⟩, false, false⟩, ⟨⟨some 17, .binOp .geq 3 (.tmp 13) (.tmp 16) 3, some (11, false)⟩, false, false⟩, ⟨⟨some 18, .pick (.tmp 11) (.const (.bool true)) (.tmp 17), none⟩, false, false⟩])
 (.cond (.tmp 18) (.seq (.reg false [] [⟨⟨some 19, .build 130 #[], none⟩, false, false⟩, ⟨⟨none, .store 130 (.tmp 6) (.tmp 19), none⟩, false, false⟩, ⟨⟨some 7, .assign (.const (.int .i64 72)), none⟩, false, false⟩])
 (.ret))
 (.skip)))
 (.seq (.seq (.reg false [] [⟨⟨some 20, .load 4 (.tmp 2), none⟩, false, false⟩, ⟨⟨some 21, .unOp .not 4 (.tmp 20), none⟩, false, false⟩])
 (.cond (.tmp 21) (.seq (.seq (.reg true [3] [⟨⟨some 22, .load 128 (.tmp 3), none⟩, true, true⟩, ⟨⟨some 23, .buildSlice 22 1 #[(0, .const (.int .u8 2))], none⟩, false, false⟩, ⟨⟨some 24, .call { callee := .value (.func 154), args := #[.tmp 23], argTypes := #[22] }, none⟩, false, false⟩])
 (.reg false [] [⟨⟨some 25, .build 130 #[(0, .tmp 22), (1, .tmp 24)], none⟩, false, false⟩, ⟨⟨none, .store 130 (.tmp 6) (.tmp 25), none⟩, false, false⟩, ⟨⟨some 7, .assign (.const (.int .i64 0)), none⟩, false, false⟩]))
 (.ret))
 (.skip)))
 (.seq (.seq (.reg true [3] [⟨⟨some 26, .load 128 (.tmp 3), none⟩, true, true⟩, ⟨⟨some 27, .fieldAddr 63 (.tmp 5) 2, none⟩, false, false⟩, ⟨⟨some 28, .load 3 (.tmp 27), none⟩, false, false⟩, ⟨⟨some 29, .call { callee := .value (.func 187), args := #[.tmp 28], argTypes := #[3] }, none⟩, false, false⟩, ⟨⟨some 30, .buildSlice 22 1 #[(0, .tmp 29)], none⟩, false, false⟩, ⟨⟨some 31, .call { callee := .value (.func 154), args := #[.tmp 30], argTypes := #[22] }, none⟩, false, false⟩])
 (.reg false [] [⟨⟨some 32, .build 130 #[(0, .tmp 26), (1, .tmp 31)], none⟩, false, false⟩, ⟨⟨none, .store 130 (.tmp 6) (.tmp 32), none⟩, false, false⟩, ⟨⟨some 7, .assign (.const (.int .i64 0)), none⟩, false, false⟩]))
 (.ret))))
theorem F186 : Fun1 Try.prog 186 33 c186 [.cell 6 130, .tmp 7] := Fun1.mk' AL.Try.follows_mixed Try.func186 rfl (by decide +kernel) Try.ntmps186 rfl (by kernel_rfl) rfl

/- proviso/step.class -/
def c187 : AC :=
.seq (.reg false [] [⟨⟨some 2, .assign (.const (.int .u8 0)), none⟩, false, false⟩])
 (.seq (.reg false [] [⟨⟨some 3, .move (.tmp 0), none⟩, false, false⟩, ⟨⟨some 4, .convert 3 23 (.tmp 3), none⟩, false, false⟩, ⟨⟨some 5, .binOp .add 23 (.const (.int .u8 16)) (.tmp 4) 23, none⟩, false, false⟩, ⟨⟨some 2, .assign (.tmp 5), none⟩, false, false⟩])
 (.ret))
theorem F187 : Fun1 Try.prog 187 6 c187 [.tmp 2] := Fun1.mk' AL.Try.follows_mixed Try.func187 rfl (by decide +kernel) Try.ntmps187 rfl (by kernel_rfl) rfl

/- proviso/step.field$1 -/
def c188 : AC :=
.seq (.reg false [] [⟨⟨some 3, .box 57 (.tmp 0), none⟩, false, false⟩, ⟨⟨some 4, .box 63 (.tmp 1), none⟩, false, false⟩, ⟨⟨some 5, .alloc 130, none⟩, false, false⟩, ⟨⟨some 6, .assign (.const (.int .i64 0)), none⟩, false, false⟩])
 (.seq (.reg false [] [⟨⟨some 9, .fieldAddr 57 (.tmp 3) 0, none⟩, false, false⟩, ⟨⟨some 10, .load 52 (.tmp 9), none⟩, false, false⟩, ⟨⟨some 11, .fieldAddr 63 (.tmp 4) 2, none⟩, false, false⟩, ⟨⟨some 12, .load 3 (.tmp 11), none⟩, false, false⟩, ⟨⟨some 13, .call { callee := .value (.func 189), args := #[.tmp 10, .tmp 12], argTypes := #[52, 3] }, none⟩, false, false⟩, ⟨⟨some 7, .assign (.tmp 13), none⟩, false, false⟩])
 (.seq (.seq (.reg false [] [⟨⟨some 14, .fieldAddr 63 (.tmp 4) 2, none⟩, false, false⟩, ⟨⟨some 15, .load 3 (.tmp 14), none⟩, false, false⟩, ⟨⟨some 16, .binOp .lss 3 (.tmp 15) (.const (.int .i64 0)) 3, none⟩, false, false⟩, ⟨⟨some 17, .move (.tmp 16), none⟩, false, false⟩, ⟨⟨some 18, .fieldAddr 63 (.tmp 4) 2, some (17, false)⟩, false, false⟩, ⟨⟨some 19, .load 3 (.tmp 18), some (17, false)⟩, false, false⟩, ⟨⟨some 20, .fieldAddr 57 (.tmp 3) 0, some (17, false)⟩, false, false⟩, ⟨⟨some 21, .load 52 (.tmp 20), some (17, false)⟩, false, false⟩, ⟨⟨some 22, .call { callee := .builtin .len, args := #[.tmp 21], argTypes := #[52] }, some (17, false)⟩, false, false⟩, ⟨⟨some 23, .binOp .geq 3 (.tmp 19) (.tmp 22) 3, some (17, false)⟩, false, false⟩, ⟨⟨some 24, .pick (.tmp 17) (.const (.bool true)) (.tmp 23), none⟩, false, false⟩, ⟨⟨some 25, .move (.tmp 24), none⟩, false, false⟩, ⟨⟨some 26, .fieldAddr 63 (.tmp 4) 3, some (25, false)⟩, false, false⟩, ⟨⟨some 27, .load 3 (.tmp 26), some (25, false)⟩, false, false⟩, ⟨⟨some 28, .binOp .lss 3 (.tmp 27) (.const (.int .i64 0)) 3, some (25, false)⟩, false, false⟩, ⟨⟨some 29, .pick (.tmp 25) (.const (.bool true)) (.tmp 28), none⟩, false, false⟩, ⟨⟨some 30, .move (.tmp 29), none⟩, false, false⟩, ⟨⟨some 31, .fieldAddr 63 (.tmp 4) 3, some (30, false)⟩, false, false⟩, ⟨⟨some 32, .load 3 (.tmp 31), some (30, false)⟩, false, false⟩, ⟨⟨some 33, .move (.tmp 7), some (30, false)⟩, false, false⟩, ⟨⟨some 34, .call { callee := .builtin .len, args := #[.tmp 33], argTypes := #[105] }, some (30, false)⟩, false, false⟩, ⟨⟨some 35, .binOp .geq 3 (.tmp 32) (.tmp 34) 3, some (30, false)⟩, false, false⟩, ⟨⟨some 36, .pick (.tmp 30) (.const (.bool true)) (.tmp 35), none⟩, false, false⟩])
 (.cond (.tmp 36) (.seq (.reg false [] [⟨⟨some 37, .build 130 #[], none⟩, false, false⟩, ⟨⟨none, .store 130 (.tmp 5) (.tmp 37), none⟩, false, false⟩, ⟨⟨some 6, .assign (.const (.int .i64 72)), none⟩, false, false⟩])
 (.ret))
 (.skip)))
 (.seq (.reg false [] [⟨⟨some 38, .move (.tmp 7), none⟩, false, false⟩, ⟨⟨some 39, .fieldAddr 63 (.tmp 4) 3, none⟩, false, false⟩, ⟨⟨some 40, .load 3 (.tmp 39), none⟩, false, false⟩, ⟨⟨some 41, .indexAddr 105 (.tmp 38) (.tmp 40), none⟩, false, false⟩, ⟨⟨some 42, .fieldAddr 110 (.tmp 41) 1, none⟩, false, false⟩, ⟨⟨some 43, .load 23 (.tmp 42), none⟩, false, false⟩, ⟨⟨some 8, .assign (.tmp 43), none⟩, false, false⟩])
 (.seq (.seq (.reg false [] [⟨⟨some 44, .load 4 (.tmp 2), none⟩, false, false⟩])
 (.cond (.tmp 44) (.seq (.reg false [] [⟨⟨some 45, .fieldAddr 63 (.tmp 4) 2, none⟩, false, false⟩, ⟨⟨some 46, .load 3 (.tmp 45), none⟩, false, false⟩, ⟨⟨some 47, .call { callee := .value (.func 187), args := #[.tmp 46], argTypes := #[3] }, none⟩, false, false⟩, ⟨⟨some 48, .call { callee := .value (.func 153), args := #[.tmp 47], argTypes := #[23] }, none⟩, false, false⟩, ⟨⟨some 49, .move (.tmp 8), none⟩, false, false⟩, ⟨⟨some 50, .call { callee := .value (.func 153), args := #[.tmp 49], argTypes := #[23] }, none⟩, false, false⟩, ⟨⟨some 51, .buildSlice 128 2 #[(0, .tmp 48), (1, .tmp 50)], none⟩, false, false⟩, ⟨⟨some 52, .call { callee := .value (.func 154), args := #[.const (.slice none 0 0)], argTypes := #[22] }, none⟩, false, false⟩, ⟨⟨some 53, .build 130 #[(0, .tmp 51), (1, .tmp 52)], none⟩, false, false⟩, ⟨⟨none, .store 130 (.tmp 5) (.tmp 53), none⟩, false, false⟩, ⟨⟨some 6, .assign (.const (.int .i64 0)), none⟩, false, false⟩])
 (.ret))
 (.skip)))
 (.seq (.reg false [] [⟨⟨some 54, .fieldAddr 63 (.tmp 4) 2, none⟩, false, false⟩, ⟨⟨some 55, .load 3 (.tmp 54), none⟩, false, false⟩, ⟨⟨some 56, .call { callee := .value (.func 187), args := #[.tmp 55], argTypes := #[3] }, none⟩, false, false⟩, ⟨⟨some 57, .call { callee := .value (.func 153), args := #[.tmp 56], argTypes := #[23] }, none⟩, false, false⟩, ⟨⟨some 58, .buildSlice 128 1 #[(0, .tmp 57)], none⟩, false, false⟩, ⟨⟨some 59, .move (.tmp 8), none⟩, false, false⟩, ⟨⟨some 60, .buildSlice 22 1 #[(0, .tmp 59)], none⟩, false, false⟩, ⟨⟨some 61, .call { callee := .value (.func 154), args := #[.tmp 60], argTypes := #[22] }, none⟩, false, false⟩, ⟨⟨some 62, .build 130 #[(0, .tmp 58), (1, .tmp 61)], none⟩, false, false⟩, ⟨⟨none, .store 130 (.tmp 5) (.tmp 62), none⟩, false, false⟩, ⟨⟨some 6, .assign (.const (.int .i64 0)), none⟩, false, false⟩])
 (.ret))))))
theorem F188 : Fun1 Try.prog 188 63 c188 [.cell 5 130, .tmp 6] := Fun1.mk' AL.Try.follows_mixed Try.func188 rfl (by decide +kernel) Try.ntmps188 rfl (by kernel_rfl) rfl

/- proviso/types.Fields -/
def c189 : AC :=
.seq (.reg false [] [⟨⟨some 4, .assign (.const (.slice none 0 0)), none⟩, false, false⟩])
 (.seq (.reg false [] [⟨⟨some 5, .alloc 26, none⟩, false, false⟩])
 (.seq (.reg false [] [⟨⟨some 8, .move (.tmp 0), none⟩, false, false⟩, ⟨⟨some 9, .move (.tmp 1), none⟩, false, false⟩, ⟨⟨some 10, .makeFunc (.func 204) #[] #[.tmp 5], none⟩, false, false⟩, ⟨⟨some 11, .call { callee := .value (.func 144), args := #[.tmp 8, .tmp 9, .tmp 10], argTypes := #[52, 3, 195] }, none⟩, false, false⟩])
 (.seq (.reg false [] [⟨⟨some 6, .assign (.const (.slice none 0 0)), none⟩, false, false⟩])
 (.seq (.seq (.reg false [] [⟨⟨some 12, .load 26 (.tmp 5), none⟩, false, false⟩, ⟨⟨some 13, .call { callee := .builtin .len, args := #[.tmp 12], argTypes := #[26] }, none⟩, false, false⟩, ⟨⟨some 14, .binOp .sub 3 (.tmp 13) (.const (.int .i64 1)) 3, none⟩, false, false⟩, ⟨⟨some 7, .assign (.tmp 14), none⟩, false, false⟩])
 (.block 0 (.loop (.seq (.seq (.reg false [] [⟨⟨some 15, .move (.tmp 7), none⟩, false, false⟩, ⟨⟨some 16, .binOp .geq 3 (.tmp 15) (.const (.int .i64 0)) 3, none⟩, false, false⟩])
 (.cond (.tmp 16) (.skip)
 (.exit 0)))
 (.seq (.block 1 (.reg false [] [⟨⟨some 19, .move (.tmp 6), none⟩, false, false⟩, ⟨⟨some 20, .move (.tmp 0), none⟩, false, false⟩, ⟨⟨some 21, .load 26 (.tmp 5), none⟩, false, false⟩, ⟨⟨some 22, .move (.tmp 7), none⟩, false, false⟩, ⟨⟨some 23, .indexAddr 26 (.tmp 21) (.tmp 22), none⟩, false, false⟩, ⟨⟨some 24, .load 3 (.tmp 23), none⟩, false, false⟩, ⟨⟨some 25, .indexAddr 52 (.tmp 20) (.tmp 24), none⟩, false, false⟩, ⟨⟨some 26, .fieldAddr 107 (.tmp 25) 2, none⟩, false, false⟩, ⟨⟨some 27, .load 105 (.tmp 26), none⟩, false, false⟩, ⟨⟨some 28, .call { callee := .builtin .append, args := #[.tmp 19, .tmp 27], argTypes := #[105, 105] }, none⟩, false, false⟩, ⟨⟨some 6, .assign (.tmp 28), none⟩, false, false⟩]))
 (.reg false [] [⟨⟨some 17, .move (.tmp 7), none⟩, false, false⟩, ⟨⟨some 18, .binOp .sub 3 (.tmp 17) (.const (.int .i64 1)) 3, none⟩, false, false⟩, ⟨⟨some 7, .assign (.tmp 18), none⟩, false, false⟩]))))))
 (.seq (.reg false [] [⟨⟨some 29, .move (.tmp 6), none⟩, false, false⟩, ⟨⟨some 4, .assign (.tmp 29), none⟩, false, false⟩])
 (.ret))))))
theorem F189 : Fun1 Try.prog 189 30 c189 [.tmp 4] := Fun1.mk' AL.Try.follows_mixed Try.func189 rfl (by decide +kernel) Try.ntmps189 rfl (by kernel_rfl) rfl

/- proviso/types.Fields$1 -/
def c204 : AC :=
.seq (.reg false [] [⟨⟨some 3, .assign (.const (.bool false)), none⟩, false, false⟩])
 (.seq (.reg false [] [⟨⟨some 4, .load 26 (.tmp 1), none⟩, false, false⟩, ⟨⟨some 5, .move (.tmp 0), none⟩, false, false⟩, ⟨⟨some 6, .buildSlice 26 1 #[(0, .tmp 5)], none⟩, false, false⟩, ⟨⟨some 7, .call { callee := .builtin .append, args := #[.tmp 4, .tmp 6], argTypes := #[26, 26] }, none⟩, false, false⟩, ⟨⟨none, .store 26 (.tmp 1) (.tmp 7), none⟩, false, false⟩])
 (.seq (.reg false [] [⟨⟨some 3, .assign (.const (.bool true)), none⟩, false, false⟩])
 (.ret)))
theorem F204 : Fun1 Try.prog 204 8 c204 [.tmp 3] := Fun1.mk' AL.Try.follows_mixed Try.func204 rfl (by decide +kernel) Try.ntmps204 rfl (by kernel_rfl) rfl

/- proviso/provisolaw07.StepCounts -/
def c6 : AC :=
.seq (.reg false [] [⟨⟨some 2, .box 57 (.tmp 0), none⟩, false, false⟩, ⟨⟨some 3, .box 63 (.tmp 1), none⟩, false, false⟩, ⟨⟨some 4, .assign (.const (.bool false)), none⟩, false, false⟩])
 (.seq (.reg false [] [⟨⟨some 13, .load 57 (.tmp 2), none⟩, false, false⟩, ⟨⟨some 14, .call { callee := .value (.func 30), args := #[.tmp 13], argTypes := #[57] }, none⟩, false, false⟩, ⟨⟨some 5, .alloc 57, none⟩, false, false⟩, ⟨⟨none, .store 57 (.tmp 5) (.tmp 14), none⟩, false, false⟩])
 (.seq (.reg false [] [⟨⟨some 16, .load 57 (.tmp 5), none⟩, false, false⟩, ⟨⟨some 17, .load 63 (.tmp 3), none⟩, false, false⟩, ⟨⟨some 18, .call { callee := .value (.func 34), args := #[.tmp 16, .tmp 17], argTypes := #[57, 63] }, none⟩, false, false⟩, ⟨⟨some 15, .move (.tmp 18), none⟩, false, false⟩, ⟨⟨some 19, .extract (.tmp 15) 0, none⟩, false, false⟩, ⟨⟨some 20, .extract (.tmp 15) 1, none⟩, false, false⟩, ⟨⟨some 6, .assign (.tmp 19), none⟩, false, false⟩, ⟨⟨some 7, .assign (.tmp 20), none⟩, false, false⟩])
 (.seq (.reg false [] [⟨⟨some 22, .load 57 (.tmp 5), none⟩, false, false⟩, ⟨⟨some 23, .load 63 (.tmp 3), none⟩, false, false⟩, ⟨⟨some 24, .call { callee := .value (.func 35), args := #[.tmp 22, .tmp 23], argTypes := #[57, 63] }, none⟩, false, false⟩, ⟨⟨some 21, .move (.tmp 24), none⟩, false, false⟩, ⟨⟨some 25, .extract (.tmp 21) 0, none⟩, false, false⟩, ⟨⟨some 26, .extract (.tmp 21) 1, none⟩, false, false⟩, ⟨⟨some 8, .assign (.tmp 25), none⟩, false, false⟩, ⟨⟨some 9, .assign (.tmp 26), none⟩, false, false⟩])
 (.seq (.reg false [] [⟨⟨some 28, .load 57 (.tmp 2), none⟩, false, false⟩, ⟨⟨some 29, .load 63 (.tmp 3), none⟩, false, false⟩, ⟨⟨some 30, .call { callee := .value (.func 36), args := #[.tmp 28, .tmp 29], argTypes := #[57, 63] }, none⟩, false, false⟩, ⟨⟨some 27, .move (.tmp 30), none⟩, false, false⟩, ⟨⟨some 31, .extract (.tmp 27) 0, none⟩, false, false⟩, ⟨⟨some 32, .extract (.tmp 27) 1, none⟩, false, false⟩, ⟨⟨some 33, .extract (.tmp 27) 2, none⟩, false, false⟩, ⟨⟨some 10, .assign (.tmp 31), none⟩, false, false⟩, ⟨⟨some 11, .assign (.tmp 32), none⟩, false, false⟩, ⟨⟨some 12, .assign (.tmp 33), none⟩, false, false⟩])
 (.seq (.reg false [] [⟨⟨some 34, .move (.tmp 6), none⟩, false, false⟩, ⟨⟨some 35, .move (.tmp 10), none⟩, false, false⟩, ⟨⟨some 36, .binOp .eql 3 (.tmp 34) (.tmp 35) 3, none⟩, false, false⟩, ⟨⟨some 37, .move (.tmp 36), none⟩, false, false⟩, ⟨⟨some 38, .move (.tmp 8), some (37, true)⟩, false, false⟩, ⟨⟨some 39, .move (.tmp 11), some (37, true)⟩, false, false⟩, ⟨⟨some 40, .binOp .eql 3 (.tmp 38) (.tmp 39) 3, some (37, true)⟩, false, false⟩, ⟨⟨some 41, .pick (.tmp 37) (.tmp 40) (.const (.bool false)), none⟩, false, false⟩, ⟨⟨some 42, .move (.tmp 41), none⟩, false, false⟩, ⟨⟨some 43, .move (.tmp 7), some (42, true)⟩, false, false⟩, ⟨⟨some 44, .move (.tmp 12), some (42, true)⟩, false, false⟩, ⟨⟨some 45, .binOp .eql 45 (.tmp 43) (.tmp 44) 45, some (42, true)⟩, false, false⟩, ⟨⟨some 46, .pick (.tmp 42) (.tmp 45) (.const (.bool false)), none⟩, false, false⟩, ⟨⟨some 47, .move (.tmp 46), none⟩, false, false⟩, ⟨⟨some 48, .move (.tmp 9), some (47, true)⟩, false, false⟩, ⟨⟨some 49, .move (.tmp 12), some (47, true)⟩, false, false⟩, ⟨⟨some 50, .binOp .eql 45 (.tmp 48) (.tmp 49) 45, some (47, true)⟩, false, false⟩, ⟨⟨some 51, .pick (.tmp 47) (.tmp 50) (.const (.bool false)), none⟩, false, false⟩, ⟨⟨some 52, .move (.tmp 51), none⟩, false, false⟩, ⟨⟨some 53, .load 57 (.tmp 5), some (52, true)⟩, false, false⟩, ⟨⟨some 54, .load 57 (.tmp 2), some (52, true)⟩, false, false⟩, ⟨⟨some 55, .call { callee := .value (.func 33), args := #[.tmp 53, .tmp 54], argTypes := #[57, 57] }, some (52, true)⟩, false, false⟩, ⟨⟨some 56, .pick (.tmp 52) (.tmp 55) (.const (.bool false)), none⟩, false, false⟩, ⟨⟨some 4, .assign (.tmp 56), none⟩, false, false⟩])
 (.ret))))))
theorem F6 : Fun1 Try.prog 6 57 c6 [.tmp 4] := Fun1.mk' AL.Try.follows_mixed Try.func6 rfl (by decide +kernel) Try.ntmps6 rfl (by kernel_rfl) rfl

/- proviso/provisoref07.Counts -/
def c36 : AC :=
.seq (.reg false [] [⟨⟨some 2, .box 57 (.tmp 0), none⟩, false, false⟩, ⟨⟨some 3, .box 63 (.tmp 1), none⟩, false, false⟩, ⟨⟨some 4, .assign (.const (.int .i64 0)), none⟩, false, false⟩, ⟨⟨some 5, .assign (.const (.int .i64 0)), none⟩, false, false⟩, ⟨⟨some 6, .assign (.const (.int .i64 0)), none⟩, false, false⟩])
 (.seq (.seq (.reg false [] [⟨⟨some 8, .load 57 (.tmp 2), none⟩, false, false⟩, ⟨⟨some 9, .call { callee := .value (.func 73), args := #[.tmp 8], argTypes := #[57] }, none⟩, false, false⟩, ⟨⟨some 10, .unOp .not 4 (.tmp 9), none⟩, false, false⟩])
 (.cond (.tmp 10) (.seq (.reg false [] [⟨⟨some 4, .assign (.const (.int .i64 0)), none⟩, false, false⟩, ⟨⟨some 5, .assign (.const (.int .i64 0)), none⟩, false, false⟩, ⟨⟨some 6, .assign (.const (.int .i64 1)), none⟩, false, false⟩])
 (.ret))
 (.skip)))
 (.seq (.seq (.reg false [] [⟨⟨some 11, .fieldAddr 63 (.tmp 3) 1, none⟩, false, false⟩, ⟨⟨some 12, .load 5 (.tmp 11), none⟩, false, false⟩, ⟨⟨some 13, .call { callee := .value (.func 74), args := #[.tmp 12], argTypes := #[5] }, none⟩, false, false⟩, ⟨⟨some 14, .binOp .eql 3 (.tmp 13) (.const (.int .i64 0)) 3, none⟩, false, false⟩])
 (.cond (.tmp 14) (.seq (.reg false [] [⟨⟨some 4, .assign (.const (.int .i64 0)), none⟩, false, false⟩, ⟨⟨some 5, .assign (.const (.int .i64 0)), none⟩, false, false⟩, ⟨⟨some 6, .assign (.const (.int .i64 40)), none⟩, false, false⟩])
 (.ret))
 (.skip)))
 (.seq (.seq (.reg false [] [⟨⟨some 15, .load 57 (.tmp 2), none⟩, false, false⟩, ⟨⟨some 16, .load 63 (.tmp 3), none⟩, false, false⟩, ⟨⟨some 17, .call { callee := .value (.func 75), args := #[.tmp 15, .tmp 16], argTypes := #[57, 63] }, none⟩, false, false⟩, ⟨⟨some 7, .assign (.tmp 17), none⟩, false, false⟩])
 (.seq (.reg false [] [⟨⟨some 18, .move (.tmp 7), none⟩, false, false⟩, ⟨⟨some 19, .binOp .neq 45 (.tmp 18) (.const (.int .i64 0)) 45, none⟩, false, false⟩])
 (.cond (.tmp 19) (.seq (.reg false [] [⟨⟨some 20, .move (.tmp 7), none⟩, false, false⟩, ⟨⟨some 4, .assign (.const (.int .i64 0)), none⟩, false, false⟩, ⟨⟨some 5, .assign (.const (.int .i64 0)), none⟩, false, false⟩, ⟨⟨some 6, .assign (.tmp 20), none⟩, false, false⟩])
 (.ret))
 (.skip))))
 (.seq (.reg true [2, 3] [⟨⟨some 21, .load 57 (.tmp 2), none⟩, false, true⟩, ⟨⟨some 22, .load 63 (.tmp 3), none⟩, false, true⟩, ⟨⟨some 23, .call { callee := .value (.func 76), args := #[.tmp 21, .tmp 22], argTypes := #[57, 63] }, none⟩, false, true⟩, ⟨⟨some 24, .call { callee := .builtin .len, args := #[.tmp 23], argTypes := #[22] }, none⟩, true, true⟩, ⟨⟨some 25, .load 57 (.tmp 2), none⟩, true, true⟩, ⟨⟨some 26, .load 63 (.tmp 3), none⟩, true, false⟩, ⟨⟨some 27, .call { callee := .value (.func 77), args := #[.tmp 25, .tmp 26], argTypes := #[57, 63] }, none⟩, false, false⟩, ⟨⟨some 28, .call { callee := .builtin .len, args := #[.tmp 27], argTypes := #[22] }, none⟩, false, true⟩, ⟨⟨some 4, .assign (.tmp 24), none⟩, false, false⟩, ⟨⟨some 5, .assign (.tmp 28), none⟩, false, false⟩, ⟨⟨some 6, .assign (.const (.int .i64 0)), none⟩, false, false⟩])
 (.ret)))))
theorem F36 : Fun1 Try.prog 36 29 c36 [.tmp 4, .tmp 5, .tmp 6] := Fun1.mk' AL.Try.follows_mixed Try.func36 rfl (by decide +kernel) Try.ntmps36 rfl (by kernel_rfl) rfl

/- proviso/provisoref07.Can -/
def c73 : AC :=
.seq (.reg false [] [⟨⟨some 1, .box 57 (.tmp 0), none⟩, false, false⟩, ⟨⟨some 2, .assign (.const (.bool false)), none⟩, false, false⟩])
 (.seq (.seq (.reg false [] [⟨⟨some 10, .fieldAddr 57 (.tmp 1) 0, none⟩, false, false⟩, ⟨⟨some 11, .load 52 (.tmp 10), none⟩, false, false⟩, ⟨⟨some 12, .call { callee := .value (.func 69), args := #[.tmp 11], argTypes := #[52] }, none⟩, false, false⟩, ⟨⟨some 9, .move (.tmp 12), none⟩, false, false⟩, ⟨⟨some 13, .extract (.tmp 9) 0, none⟩, false, false⟩, ⟨⟨some 14, .extract (.tmp 9) 1, none⟩, false, false⟩, ⟨⟨some 3, .assign (.tmp 13), none⟩, false, false⟩, ⟨⟨some 4, .assign (.tmp 14), none⟩, false, false⟩])
 (.seq (.reg false [] [⟨⟨some 15, .move (.tmp 4), none⟩, false, false⟩, ⟨⟨some 16, .binOp .neq 45 (.tmp 15) (.const (.int .i64 0)) 45, none⟩, false, false⟩])
 (.cond (.tmp 16) (.seq (.reg false [] [⟨⟨some 2, .assign (.const (.bool false)), none⟩, false, false⟩])
 (.ret))
 (.skip))))
 (.seq (.seq (.reg false [] [⟨⟨some 17, .fieldAddr 57 (.tmp 1) 1, none⟩, false, false⟩, ⟨⟨some 18, .load 49 (.tmp 17), none⟩, false, false⟩, ⟨⟨some 19, .call { callee := .builtin .len, args := #[.tmp 18], argTypes := #[49] }, none⟩, false, false⟩, ⟨⟨some 20, .binOp .gtr 3 (.tmp 19) (.const (.int .i64 64)) 3, none⟩, false, false⟩, ⟨⟨some 21, .move (.tmp 20), none⟩, false, false⟩, ⟨⟨some 22, .fieldAddr 57 (.tmp 1) 2, some (21, false)⟩, false, false⟩, ⟨⟨some 23, .load 3 (.tmp 22), some (21, false)⟩, false, false⟩, ⟨⟨some 24, .binOp .lss 3 (.tmp 23) (.const (.int .i64 0)) 3, some (21, false)⟩, false, false⟩, ⟨⟨some 25, .pick (.tmp 21) (.const (.bool true)) (.tmp 24), none⟩, false, false⟩, ⟨⟨some 26, .move (.tmp 25), none⟩, false, false⟩, ⟨⟨some 27, .fieldAddr 57 (.tmp 1) 2, some (26, false)⟩, false, false⟩, ⟨⟨some 28, .load 3 (.tmp 27), some (26, false)⟩, false, false⟩, ⟨⟨some 29, .fieldAddr 57 (.tmp 1) 1, some (26, false)⟩, false, false⟩, ⟨⟨some 30, .load 49 (.tmp 29), some (26, false)⟩, false, false⟩, ⟨⟨some 31, .call { callee := .builtin .len, args := #[.tmp 30], argTypes := #[49] }, some (26, false)⟩, false, false⟩, ⟨⟨some 32, .binOp .geq 3 (.tmp 28) (.tmp 31) 3, some (26, false)⟩, false, false⟩, ⟨⟨some 33, .pick (.tmp 26) (.const (.bool true)) (.tmp 32), none⟩, false, false⟩])
 (.cond (.tmp 33) (.seq (.reg false [] [⟨⟨some 2, .assign (.const (.bool false)), none⟩, false, false⟩])
 (.ret))
 (.skip)))
 (.seq (.seq (.reg false [] [⟨⟨some 34, .fieldAddr 57 (.tmp 1) 1, none⟩, false, false⟩, ⟨⟨some 35, .load 49 (.tmp 34), none⟩, false, false⟩, ⟨⟨some 36, .call { callee := .builtin .len, args := #[.tmp 35], argTypes := #[49] }, none⟩, false, false⟩, ⟨⟨some 37, .move (.const (.int .i64 0)), none⟩, false, false⟩])
 (.block 0 (.loop (.seq (.reg false [] [⟨⟨some 38, .binOp .lss 3 (.tmp 37) (.tmp 36) 3, none⟩, false, false⟩])
 (.seq (.cond (.tmp 38) (.skip)
 (.exit 0))
 (.seq (.block 1 (.seq (.reg false [] [⟨⟨some 39, .indexAddr 49 (.tmp 35) (.tmp 37), none⟩, false, false⟩, ⟨⟨some 40, .load 25 (.tmp 39), none⟩, false, false⟩, ⟨⟨some 6, .alloc 25, none⟩, false, false⟩, ⟨⟨none, .store 25 (.tmp 6) (.tmp 40), none⟩, false, false⟩])
 (.seq (.seq (.reg false [] [⟨⟨some 41, .fieldAddr 25 (.tmp 6) 0, none⟩, false, false⟩, ⟨⟨some 42, .load 22 (.tmp 41), none⟩, false, false⟩, ⟨⟨some 43, .call { callee := .builtin .len, args := #[.tmp 42], argTypes := #[22] }, none⟩, false, false⟩, ⟨⟨some 44, .binOp .gtr 3 (.tmp 43) (.const (.int .i64 8)) 3, none⟩, false, false⟩, ⟨⟨some 45, .move (.tmp 44), none⟩, false, false⟩, ⟨⟨some 46, .fieldAddr 25 (.tmp 6) 1, some (45, false)⟩, false, false⟩, ⟨⟨some 47, .load 23 (.tmp 46), some (45, false)⟩, false, false⟩, ⟨⟨some 48, .binOp .neq 23 (.tmp 47) (.const (.int .u8 0)) 23, some (45, false)⟩, false, false⟩, ⟨⟨some 49, .move (.tmp 48), some (45, false)⟩, false, false⟩, ⟨⟨some 50, .fieldAddr 57 (.tmp 1) 0, some (49, true)⟩, false, false⟩, ⟨⟨some 51, .load 52 (.tmp 50), some (49, true)⟩, false, false⟩, ⟨⟨some 52, .fieldAddr 25 (.tmp 6) 1, some (49, true)⟩, false, false⟩, ⟨⟨some 53, .load 23 (.tmp 52), some (49, true)⟩, false, false⟩, ⟨⟨some 54, .call { callee := .value (.func 112), args := #[.tmp 51, .tmp 53], argTypes := #[52, 23] }, some (49, true)⟩, false, false⟩, ⟨⟨some 55, .unOp .not 4 (.tmp 54), some (49, true)⟩, false, false⟩, ⟨⟨some 56, .pick (.tmp 49) (.tmp 55) (.const (.bool false)), some (45, false)⟩, false, false⟩, ⟨⟨some 57, .pick (.tmp 45) (.const (.bool true)) (.tmp 56), none⟩, false, false⟩])
 (.cond (.tmp 57) (.seq (.reg false [] [⟨⟨some 2, .assign (.const (.bool false)), none⟩, false, false⟩])
 (.ret))
 (.skip)))
 (.seq (.reg false [] [⟨⟨some 58, .fieldAddr 25 (.tmp 6) 0, none⟩, false, false⟩, ⟨⟨some 59, .load 22 (.tmp 58), none⟩, false, false⟩, ⟨⟨some 60, .call { callee := .builtin .len, args := #[.tmp 59], argTypes := #[22] }, none⟩, false, false⟩, ⟨⟨some 61, .move (.const (.int .i64 0)), none⟩, false, false⟩])
 (.block 2 (.loop (.seq (.reg false [] [⟨⟨some 62, .binOp .lss 3 (.tmp 61) (.tmp 60) 3, none⟩, false, false⟩])
 (.seq (.cond (.tmp 62) (.skip)
 (.exit 2))
 (.seq (.block 3 (.seq (.reg false [] [⟨⟨some 63, .indexAddr 22 (.tmp 59) (.tmp 61), none⟩, false, false⟩, ⟨⟨some 64, .load 23 (.tmp 63), none⟩, false, false⟩, ⟨⟨some 8, .assign (.tmp 64), none⟩, false, false⟩])
 (.seq (.reg false [] [⟨⟨some 65, .fieldAddr 57 (.tmp 1) 0, none⟩, false, false⟩, ⟨⟨some 66, .load 52 (.tmp 65), none⟩, false, false⟩, ⟨⟨some 67, .move (.tmp 8), none⟩, false, false⟩, ⟨⟨some 68, .call { callee := .value (.func 112), args := #[.tmp 66, .tmp 67], argTypes := #[52, 23] }, none⟩, false, false⟩, ⟨⟨some 69, .unOp .not 4 (.tmp 68), none⟩, false, false⟩])
 (.cond (.tmp 69) (.seq (.reg false [] [⟨⟨some 2, .assign (.const (.bool false)), none⟩, false, false⟩])
 (.ret))
 (.skip)))))
 (.reg false [] [⟨⟨some 70, .binOp .add 3 (.tmp 61) (.const (.int .i64 1)) 3, none⟩, false, false⟩, ⟨⟨some 61, .move (.tmp 70), none⟩, false, false⟩]))))))))))
 (.reg false [] [⟨⟨some 71, .binOp .add 3 (.tmp 37) (.const (.int .i64 1)) 3, none⟩, false, false⟩, ⟨⟨some 37, .move (.tmp 71), none⟩, false, false⟩])))))))
 (.seq (.reg false [] [⟨⟨some 2, .assign (.const (.bool true)), none⟩, false, false⟩])
 (.ret)))))
theorem F73 : Fun1 Try.prog 73 72 c73 [.tmp 2] := Fun1.mk' AL.Try.follows_mixed Try.func73 rfl (by decide +kernel) Try.ntmps73 rfl (by kernel_rfl) rfl

/- proviso/provisoref04.Size -/
def c74 : AC :=
.seq (.reg false [] [⟨⟨some 2, .assign (.const (.int .i64 0)), none⟩, false, false⟩])
 (.seq (.seq (.reg false [] [⟨⟨some 5, .move (.tmp 0), none⟩, false, false⟩, ⟨⟨some 6, .binOp .geq 5 (.tmp 5) (.const (.int .u8 34)) 5, none⟩, false, false⟩])
 (.cond (.tmp 6) (.seq (.reg false [] [⟨⟨some 2, .assign (.const (.int .i64 0)), none⟩, false, false⟩])
 (.ret))
 (.skip)))
 (.seq (.reg false [] [⟨⟨some 8, .move (.tmp 0), none⟩, false, false⟩, ⟨⟨some 9, .call { callee := .value (.func 113), args := #[.tmp 8], argTypes := #[5] }, none⟩, false, false⟩, ⟨⟨some 7, .move (.tmp 9), none⟩, false, false⟩, ⟨⟨some 10, .extract (.tmp 7) 0, none⟩, false, false⟩, ⟨⟨some 11, .extract (.tmp 7) 1, none⟩, false, false⟩, ⟨⟨some 3, .assign (.tmp 10), none⟩, false, false⟩, ⟨⟨some 4, .assign (.tmp 11), none⟩, false, false⟩])
 (.seq (.reg false [] [⟨⟨some 12, .move (.tmp 3), none⟩, false, false⟩, ⟨⟨some 13, .binOp .add 3 (.const (.int .i64 1)) (.tmp 12) 3, none⟩, false, false⟩, ⟨⟨some 14, .move (.tmp 4), none⟩, false, false⟩, ⟨⟨some 15, .binOp .add 3 (.tmp 13) (.tmp 14) 3, none⟩, false, false⟩, ⟨⟨some 2, .assign (.tmp 15), none⟩, false, false⟩])
 (.ret))))
theorem F74 : Fun1 Try.prog 74 16 c74 [.tmp 2] := Fun1.mk' AL.Try.follows_mixed Try.func74 rfl (by decide +kernel) Try.ntmps74 rfl (by kernel_rfl) rfl

/- proviso/provisoref04.wide -/
def c113 : AC :=
.seq (.reg false [] [⟨⟨some 2, .assign (.const (.int .i64 0)), none⟩, false, false⟩, ⟨⟨some 3, .assign (.const (.int .i64 0)), none⟩, false, false⟩])
 (.seq (.seq (.reg false [] [⟨⟨some 4, .move (.tmp 0), none⟩, false, false⟩])
 (.block 0 (.seq (.reg false [] [⟨⟨some 6, .binOp .eql 5 (.tmp 4) (.const (.int .u8 1)) 5, none⟩, false, false⟩, ⟨⟨some 5, .assign (.tmp 6), none⟩, false, false⟩])
 (.cond (.tmp 5) (.seq (.reg false [] [⟨⟨some 2, .assign (.const (.int .i64 4)), none⟩, false, false⟩, ⟨⟨some 3, .assign (.const (.int .i64 0)), none⟩, false, false⟩])
 (.ret))
 (.seq (.seq (.reg false [] [⟨⟨some 8, .binOp .eql 5 (.tmp 4) (.const (.int .u8 19)) 5, none⟩, false, false⟩, ⟨⟨some 7, .assign (.tmp 8), none⟩, false, false⟩])
 (.cond (.tmp 7) (.skip)
 (.reg false [] [⟨⟨some 9, .binOp .eql 5 (.tmp 4) (.const (.int .u8 20)) 5, none⟩, false, false⟩, ⟨⟨some 7, .assign (.tmp 9), none⟩, false, false⟩])))
 (.cond (.tmp 7) (.seq (.reg false [] [⟨⟨some 2, .assign (.const (.int .i64 2)), none⟩, false, false⟩, ⟨⟨some 3, .assign (.const (.int .i64 0)), none⟩, false, false⟩])
 (.ret))
 (.seq (.seq (.reg false [] [⟨⟨some 11, .binOp .eql 5 (.tmp 4) (.const (.int .u8 24)) 5, none⟩, false, false⟩, ⟨⟨some 10, .assign (.tmp 11), none⟩, false, false⟩])
 (.cond (.tmp 10) (.skip)
 (.reg false [] [⟨⟨some 12, .binOp .eql 5 (.tmp 4) (.const (.int .u8 25)) 5, none⟩, false, false⟩, ⟨⟨some 10, .assign (.tmp 12), none⟩, false, false⟩])))
 (.cond (.tmp 10) (.seq (.reg false [] [⟨⟨some 2, .assign (.const (.int .i64 1)), none⟩, false, false⟩, ⟨⟨some 3, .assign (.const (.int .i64 1)), none⟩, false, false⟩])
 (.ret))
 (.seq (.seq (.reg false [] [⟨⟨some 14, .binOp .eql 5 (.tmp 4) (.const (.int .u8 2)) 5, none⟩, false, false⟩, ⟨⟨some 13, .assign (.tmp 14), none⟩, false, false⟩])
 (.cond (.tmp 13) (.skip)
 (.seq (.reg false [] [⟨⟨some 15, .binOp .eql 5 (.tmp 4) (.const (.int .u8 4)) 5, none⟩, false, false⟩, ⟨⟨some 13, .assign (.tmp 15), none⟩, false, false⟩])
 (.cond (.tmp 13) (.skip)
 (.seq (.reg false [] [⟨⟨some 16, .binOp .eql 5 (.tmp 4) (.const (.int .u8 5)) 5, none⟩, false, false⟩, ⟨⟨some 13, .assign (.tmp 16), none⟩, false, false⟩])
 (.cond (.tmp 13) (.skip)
 (.seq (.reg false [] [⟨⟨some 17, .binOp .eql 5 (.tmp 4) (.const (.int .u8 21)) 5, none⟩, false, false⟩, ⟨⟨some 13, .assign (.tmp 17), none⟩, false, false⟩])
 (.cond (.tmp 13) (.skip)
 (.seq (.reg false [] [⟨⟨some 18, .binOp .eql 5 (.tmp 4) (.const (.int .u8 23)) 5, none⟩, false, false⟩, ⟨⟨some 13, .assign (.tmp 18), none⟩, false, false⟩])
 (.cond (.tmp 13) (.skip)
 (.seq (.reg false [] [⟨⟨some 19, .binOp .eql 5 (.tmp 4) (.const (.int .u8 30)) 5, none⟩, false, false⟩, ⟨⟨some 13, .assign (.tmp 19), none⟩, false, false⟩])
 (.cond (.tmp 13) (.skip)
 (.seq (.reg false [] [⟨⟨some 20, .binOp .eql 5 (.tmp 4) (.const (.int .u8 31)) 5, none⟩, false, false⟩, ⟨⟨some 13, .assign (.tmp 20), none⟩, false, false⟩])
 (.cond (.tmp 13) (.skip)
 (.reg false [] [⟨⟨some 21, .binOp .eql 5 (.tmp 4) (.const (.int .u8 32)) 5, none⟩, false, false⟩, ⟨⟨some 13, .assign (.tmp 21), none⟩, false, false⟩])))))))))))))))
 (.cond (.tmp 13) (.seq (.reg false [] [⟨⟨some 2, .assign (.const (.int .i64 1)), none⟩, false, false⟩, ⟨⟨some 3, .assign (.const (.int .i64 0)), none⟩, false, false⟩])
 (.ret))
 (.skip)))))))))))
 (.seq (.reg false [] [⟨⟨some 2, .assign (.const (.int .i64 0)), none⟩, false, false⟩, ⟨⟨some 3, .assign (.const (.int .i64 0)), none⟩, false, false⟩])
 (.ret)))
theorem F113 : Fun1 Try.prog 113 22 c113 [.tmp 2, .tmp 3] := Fun1.mk' AL.Try.follows_mixed Try.func113 rfl (by decide +kernel) Try.ntmps113 rfl (by kernel_rfl) rfl

/- proviso/provisoref07.Operands -/
def c75 : AC :=
.seq (.reg false [] [⟨⟨some 2, .box 57 (.tmp 0), none⟩, false, false⟩, ⟨⟨some 3, .box 63 (.tmp 1), none⟩, false, false⟩, ⟨⟨some 4, .assign (.const (.int .i64 0)), none⟩, false, false⟩])
 (.seq (.seq (.reg false [] [⟨⟨some 5, .fieldAddr 63 (.tmp 3) 1, none⟩, false, false⟩, ⟨⟨some 6, .load 5 (.tmp 5), none⟩, false, false⟩])
 (.block 0 (.seq (.reg false [] [⟨⟨some 8, .binOp .eql 5 (.tmp 6) (.const (.int .u8 21)) 5, none⟩, false, false⟩, ⟨⟨some 7, .assign (.tmp 8), none⟩, false, false⟩])
 (.cond (.tmp 7) (.seq (.reg false [] [⟨⟨some 9, .fieldAddr 63 (.tmp 3) 2, none⟩, false, false⟩, ⟨⟨some 10, .load 3 (.tmp 9), none⟩, false, false⟩, ⟨⟨some 11, .binOp .lss 3 (.tmp 10) (.const (.int .i64 0)) 3, none⟩, false, false⟩, ⟨⟨some 12, .move (.tmp 11), none⟩, false, false⟩, ⟨⟨some 13, .fieldAddr 63 (.tmp 3) 2, some (12, false)⟩, false, false⟩, ⟨⟨some 14, .load 3 (.tmp 13), some (12, false)⟩, false, false⟩, ⟨⟨some 15, .fieldAddr 57 (.tmp 2) 1, some (12, false)⟩, false, false⟩, ⟨⟨some 16, .load 49 (.tmp 15), some (12, false)⟩, false, false⟩, ⟨⟨some 17, .call { callee := .builtin .len, args := #[.tmp 16], argTypes := #[49] }, some (12, false)⟩, false, false⟩, ⟨⟨some 18, .binOp .geq 3 (.tmp 14) (.tmp 17) 3, some (12, false)⟩, false, false⟩, ⟨⟨some 19, .pick (.tmp 12) (.const (.bool true)) (.tmp 18), none⟩, false, false⟩])
 (.cond (.tmp 19) (.seq (.reg false [] [⟨⟨some 4, .assign (.const (.int .i64 71)), none⟩, false, false⟩])
 (.ret))
 (.skip)))
 (.seq (.seq (.reg false [] [⟨⟨some 21, .binOp .eql 5 (.tmp 6) (.const (.int .u8 23)) 5, none⟩, false, false⟩, ⟨⟨some 20, .assign (.tmp 21), none⟩, false, false⟩])
 (.cond (.tmp 20) (.skip)
 (.seq (.reg false [] [⟨⟨some 22, .binOp .eql 5 (.tmp 6) (.const (.int .u8 30)) 5, none⟩, false, false⟩, ⟨⟨some 20, .assign (.tmp 22), none⟩, false, false⟩])
 (.cond (.tmp 20) (.skip)
 (.seq (.reg false [] [⟨⟨some 23, .binOp .eql 5 (.tmp 6) (.const (.int .u8 31)) 5, none⟩, false, false⟩, ⟨⟨some 20, .assign (.tmp 23), none⟩, false, false⟩])
 (.cond (.tmp 20) (.skip)
 (.seq (.reg false [] [⟨⟨some 24, .binOp .eql 5 (.tmp 6) (.const (.int .u8 24)) 5, none⟩, false, false⟩, ⟨⟨some 20, .assign (.tmp 24), none⟩, false, false⟩])
 (.cond (.tmp 20) (.skip)
 (.reg false [] [⟨⟨some 25, .binOp .eql 5 (.tmp 6) (.const (.int .u8 25)) 5, none⟩, false, false⟩, ⟨⟨some 20, .assign (.tmp 25), none⟩, false, false⟩])))))))))
 (.cond (.tmp 20) (.seq (.reg false [] [⟨⟨some 26, .fieldAddr 63 (.tmp 3) 2, none⟩, false, false⟩, ⟨⟨some 27, .load 3 (.tmp 26), none⟩, false, false⟩, ⟨⟨some 28, .binOp .lss 3 (.tmp 27) (.const (.int .i64 0)) 3, none⟩, false, false⟩, ⟨⟨some 29, .move (.tmp 28), none⟩, false, false⟩, ⟨⟨some 30, .fieldAddr 63 (.tmp 3) 2, some (29, false)⟩, false, false⟩, ⟨⟨some 31, .load 3 (.tmp 30), some (29, false)⟩, false, false⟩, ⟨⟨some 32, .fieldAddr 57 (.tmp 2) 0, some (29, false)⟩, false, false⟩, ⟨⟨some 33, .load 52 (.tmp 32), some (29, false)⟩, false, false⟩, ⟨⟨some 34, .call { callee := .builtin .len, args := #[.tmp 33], argTypes := #[52] }, some (29, false)⟩, false, false⟩, ⟨⟨some 35, .binOp .geq 3 (.tmp 31) (.tmp 34) 3, some (29, false)⟩, false, false⟩, ⟨⟨some 36, .pick (.tmp 29) (.const (.bool true)) (.tmp 35), none⟩, false, false⟩])
 (.cond (.tmp 36) (.seq (.reg false [] [⟨⟨some 4, .assign (.const (.int .i64 72)), none⟩, false, false⟩])
 (.ret))
 (.skip)))
 (.skip)))))))
 (.seq (.seq (.reg false [] [⟨⟨some 37, .fieldAddr 63 (.tmp 3) 1, none⟩, false, false⟩, ⟨⟨some 38, .load 5 (.tmp 37), none⟩, false, false⟩, ⟨⟨some 39, .binOp .eql 5 (.tmp 38) (.const (.int .u8 24)) 5, none⟩, false, false⟩, ⟨⟨some 40, .move (.tmp 39), none⟩, false, false⟩, ⟨⟨some 41, .fieldAddr 63 (.tmp 3) 1, some (40, false)⟩, false, false⟩, ⟨⟨some 42, .load 5 (.tmp 41), some (40, false)⟩, false, false⟩, ⟨⟨some 43, .binOp .eql 5 (.tmp 42) (.const (.int .u8 25)) 5, some (40, false)⟩, false, false⟩, ⟨⟨some 44, .pick (.tmp 40) (.const (.bool true)) (.tmp 43), none⟩, false, false⟩])
 (.cond (.tmp 44) (.seq (.reg true [3] [⟨⟨some 45, .fieldAddr 63 (.tmp 3) 3, none⟩, false, false⟩, ⟨⟨some 46, .load 3 (.tmp 45), none⟩, false, false⟩, ⟨⟨some 47, .binOp .lss 3 (.tmp 46) (.const (.int .i64 0)) 3, none⟩, false, false⟩, ⟨⟨some 48, .move (.tmp 47), none⟩, false, false⟩, ⟨⟨some 49, .fieldAddr 63 (.tmp 3) 3, some (48, false)⟩, true, true⟩, ⟨⟨some 50, .load 3 (.tmp 49), some (48, false)⟩, true, true⟩, ⟨⟨some 51, .fieldAddr 57 (.tmp 2) 0, some (48, false)⟩, false, true⟩, ⟨⟨some 52, .load 52 (.tmp 51), some (48, false)⟩, false, true⟩, ⟨⟨some 53, .fieldAddr 63 (.tmp 3) 2, some (48, false)⟩, false, false⟩, ⟨⟨some 54, .load 3 (.tmp 53), some (48, false)⟩, false, false⟩, ⟨⟨some 55, .call { callee := .value (.func 114), args := #[.tmp 52, .tmp 54], argTypes := #[52, 3] }, some (48, false)⟩, false, false⟩, ⟨⟨some 56, .call { callee := .builtin .len, args := #[.tmp 55], argTypes := #[105] }, some (48, false)⟩, false, false⟩, ⟨⟨some 57, .binOp .geq 3 (.tmp 50) (.tmp 56) 3, some (48, false)⟩, false, false⟩, ⟨⟨some 58, .pick (.tmp 48) (.const (.bool true)) (.tmp 57), none⟩, false, false⟩])
 (.cond (.tmp 58) (.seq (.reg false [] [⟨⟨some 4, .assign (.const (.int .i64 72)), none⟩, false, false⟩])
 (.ret))
 (.skip)))
 (.skip)))
 (.seq (.reg false [] [⟨⟨some 4, .assign (.const (.int .i64 0)), none⟩, false, false⟩])
 (.ret))))
theorem F75 : Fun1 Try.prog 75 59 c75 [.tmp 4] := Fun1.mk' AL.Try.follows_mixed Try.func75 rfl (by decide +kernel) Try.ntmps75 rfl (by kernel_rfl) rfl

/- proviso/provisoref07.Takes -/
def c76 : AC :=
.seq (.reg false [] [⟨⟨some 2, .box 57 (.tmp 0), none⟩, false, false⟩, ⟨⟨some 3, .box 63 (.tmp 1), none⟩, false, false⟩, ⟨⟨some 4, .assign (.const (.slice none 0 0)), none⟩, false, false⟩])
 (.seq (.seq (.reg false [] [⟨⟨some 5, .fieldAddr 63 (.tmp 3) 1, none⟩, false, false⟩, ⟨⟨some 6, .load 5 (.tmp 5), none⟩, false, false⟩])
 (.block 0 (.seq (.reg false [] [⟨⟨some 8, .binOp .eql 5 (.tmp 6) (.const (.int .u8 5)) 5, none⟩, false, false⟩, ⟨⟨some 7, .assign (.tmp 8), none⟩, false, false⟩])
 (.cond (.tmp 7) (.seq (.reg false [] [⟨⟨some 9, .buildSlice 22 1 #[(0, .const (.int .u8 254))], none⟩, false, false⟩, ⟨⟨some 4, .assign (.tmp 9), none⟩, false, false⟩])
 (.ret))
 (.seq (.seq (.reg false [] [⟨⟨some 11, .binOp .eql 5 (.tmp 6) (.const (.int .u8 6)) 5, none⟩, false, false⟩, ⟨⟨some 10, .assign (.tmp 11), none⟩, false, false⟩])
 (.cond (.tmp 10) (.skip)
 (.reg false [] [⟨⟨some 12, .binOp .eql 5 (.tmp 6) (.const (.int .u8 7)) 5, none⟩, false, false⟩, ⟨⟨some 10, .assign (.tmp 12), none⟩, false, false⟩])))
 (.cond (.tmp 10) (.seq (.reg false [] [⟨⟨some 13, .buildSlice 22 1 #[(0, .const (.int .u8 255))], none⟩, false, false⟩, ⟨⟨some 4, .assign (.tmp 13), none⟩, false, false⟩])
 (.ret))
 (.seq (.reg false [] [⟨⟨some 15, .binOp .eql 5 (.tmp 6) (.const (.int .u8 8)) 5, none⟩, false, false⟩, ⟨⟨some 14, .assign (.tmp 15), none⟩, false, false⟩])
 (.cond (.tmp 14) (.seq (.reg false [] [⟨⟨some 16, .buildSlice 22 2 #[(0, .const (.int .u8 255)), (1, .const (.int .u8 255))], none⟩, false, false⟩, ⟨⟨some 4, .assign (.tmp 16), none⟩, false, false⟩])
 (.ret))
 (.seq (.seq (.reg false [] [⟨⟨some 18, .binOp .eql 5 (.tmp 6) (.const (.int .u8 9)) 5, none⟩, false, false⟩, ⟨⟨some 17, .assign (.tmp 18), none⟩, false, false⟩])
 (.cond (.tmp 17) (.skip)
 (.seq (.reg false [] [⟨⟨some 19, .binOp .eql 5 (.tmp 6) (.const (.int .u8 10)) 5, none⟩, false, false⟩, ⟨⟨some 17, .assign (.tmp 19), none⟩, false, false⟩])
 (.cond (.tmp 17) (.skip)
 (.seq (.reg false [] [⟨⟨some 20, .binOp .eql 5 (.tmp 6) (.const (.int .u8 11)) 5, none⟩, false, false⟩, ⟨⟨some 17, .assign (.tmp 20), none⟩, false, false⟩])
 (.cond (.tmp 17) (.skip)
 (.seq (.reg false [] [⟨⟨some 21, .binOp .eql 5 (.tmp 6) (.const (.int .u8 12)) 5, none⟩, false, false⟩, ⟨⟨some 17, .assign (.tmp 21), none⟩, false, false⟩])
 (.cond (.tmp 17) (.skip)
 (.seq (.reg false [] [⟨⟨some 22, .binOp .eql 5 (.tmp 6) (.const (.int .u8 13)) 5, none⟩, false, false⟩, ⟨⟨some 17, .assign (.tmp 22), none⟩, false, false⟩])
 (.cond (.tmp 17) (.skip)
 (.reg false [] [⟨⟨some 23, .binOp .eql 5 (.tmp 6) (.const (.int .u8 15)) 5, none⟩, false, false⟩, ⟨⟨some 17, .assign (.tmp 23), none⟩, false, false⟩])))))))))))
 (.cond (.tmp 17) (.seq (.reg false [] [⟨⟨some 24, .buildSlice 22 2 #[(0, .const (.int .u8 1)), (1, .const (.int .u8 1))], none⟩, false, false⟩, ⟨⟨some 4, .assign (.tmp 24), none⟩, false, false⟩])
 (.ret))
 (.seq (.seq (.reg false [] [⟨⟨some 26, .binOp .eql 5 (.tmp 6) (.const (.int .u8 14)) 5, none⟩, false, false⟩, ⟨⟨some 25, .assign (.tmp 26), none⟩, false, false⟩])
 (.cond (.tmp 25) (.skip)
 (.seq (.reg false [] [⟨⟨some 27, .binOp .eql 5 (.tmp 6) (.const (.int .u8 26)) 5, none⟩, false, false⟩, ⟨⟨some 25, .assign (.tmp 27), none⟩, false, false⟩])
 (.cond (.tmp 25) (.skip)
 (.reg false [] [⟨⟨some 28, .binOp .eql 5 (.tmp 6) (.const (.int .u8 33)) 5, none⟩, false, false⟩, ⟨⟨some 25, .assign (.tmp 28), none⟩, false, false⟩])))))
 (.cond (.tmp 25) (.seq (.reg false [] [⟨⟨some 29, .buildSlice 22 1 #[(0, .const (.int .u8 1))], none⟩, false, false⟩, ⟨⟨some 4, .assign (.tmp 29), none⟩, false, false⟩])
 (.ret))
 (.seq (.reg false [] [⟨⟨some 31, .binOp .eql 5 (.tmp 6) (.const (.int .u8 16)) 5, none⟩, false, false⟩, ⟨⟨some 30, .assign (.tmp 31), none⟩, false, false⟩])
 (.cond (.tmp 30) (.seq (.reg false [] [⟨⟨some 32, .buildSlice 22 2 #[(0, .const (.int .u8 255)), (1, .const (.int .u8 255))], none⟩, false, false⟩, ⟨⟨some 4, .assign (.tmp 32), none⟩, false, false⟩])
 (.ret))
 (.seq (.seq (.reg false [] [⟨⟨some 34, .binOp .eql 5 (.tmp 6) (.const (.int .u8 17)) 5, none⟩, false, false⟩, ⟨⟨some 33, .assign (.tmp 34), none⟩, false, false⟩])
 (.cond (.tmp 33) (.skip)
 (.reg false [] [⟨⟨some 35, .binOp .eql 5 (.tmp 6) (.const (.int .u8 20)) 5, none⟩, false, false⟩, ⟨⟨some 33, .assign (.tmp 35), none⟩, false, false⟩])))
 (.cond (.tmp 33) (.seq (.reg false [] [⟨⟨some 36, .buildSlice 22 1 #[(0, .const (.int .u8 2))], none⟩, false, false⟩, ⟨⟨some 4, .assign (.tmp 36), none⟩, false, false⟩])
 (.ret))
 (.seq (.reg false [] [⟨⟨some 38, .binOp .eql 5 (.tmp 6) (.const (.int .u8 18)) 5, none⟩, false, false⟩, ⟨⟨some 37, .assign (.tmp 38), none⟩, false, false⟩])
 (.cond (.tmp 37) (.seq (.reg false [] [⟨⟨some 39, .buildSlice 22 2 #[(0, .const (.int .u8 253)), (1, .const (.int .u8 253))], none⟩, false, false⟩, ⟨⟨some 4, .assign (.tmp 39), none⟩, false, false⟩])
 (.ret))
 (.seq (.reg false [] [⟨⟨some 41, .binOp .eql 5 (.tmp 6) (.const (.int .u8 21)) 5, none⟩, false, false⟩, ⟨⟨some 40, .assign (.tmp 41), none⟩, false, false⟩])
 (.cond (.tmp 40) (.seq (.reg false [] [⟨⟨some 42, .fieldAddr 57 (.tmp 2) 1, none⟩, false, false⟩, ⟨⟨some 43, .load 49 (.tmp 42), none⟩, false, false⟩, ⟨⟨some 44, .fieldAddr 63 (.tmp 3) 2, none⟩, false, false⟩, ⟨⟨some 45, .load 3 (.tmp 44), none⟩, false, false⟩, ⟨⟨some 46, .indexAddr 49 (.tmp 43) (.tmp 45), none⟩, false, false⟩, ⟨⟨some 47, .fieldAddr 25 (.tmp 46) 0, none⟩, false, false⟩, ⟨⟨some 48, .load 22 (.tmp 47), none⟩, false, false⟩, ⟨⟨some 4, .assign (.tmp 48), none⟩, false, false⟩])
 (.ret))
 (.seq (.reg false [] [⟨⟨some 50, .binOp .eql 5 (.tmp 6) (.const (.int .u8 22)) 5, none⟩, false, false⟩, ⟨⟨some 49, .assign (.tmp 50), none⟩, false, false⟩])
 (.cond (.tmp 49) (.seq (.reg false [] [⟨⟨some 51, .fieldAddr 57 (.tmp 2) 1, none⟩, false, false⟩, ⟨⟨some 52, .load 49 (.tmp 51), none⟩, false, false⟩, ⟨⟨some 53, .fieldAddr 57 (.tmp 2) 2, none⟩, false, false⟩, ⟨⟨some 54, .load 3 (.tmp 53), none⟩, false, false⟩, ⟨⟨some 55, .indexAddr 49 (.tmp 52) (.tmp 54), none⟩, false, false⟩, ⟨⟨some 56, .fieldAddr 25 (.tmp 55) 1, none⟩, false, false⟩, ⟨⟨some 57, .load 23 (.tmp 56), none⟩, false, false⟩, ⟨⟨some 58, .call { callee := .value (.func 115), args := #[.tmp 57], argTypes := #[23] }, none⟩, false, false⟩, ⟨⟨some 4, .assign (.tmp 58), none⟩, false, false⟩])
 (.ret))
 (.seq (.reg false [] [⟨⟨some 60, .binOp .eql 5 (.tmp 6) (.const (.int .u8 24)) 5, none⟩, false, false⟩, ⟨⟨some 59, .assign (.tmp 60), none⟩, false, false⟩])
 (.cond (.tmp 59) (.seq (.reg false [] [⟨⟨some 61, .fieldAddr 63 (.tmp 3) 2, none⟩, false, false⟩, ⟨⟨some 62, .load 3 (.tmp 61), none⟩, false, false⟩, ⟨⟨some 63, .call { callee := .value (.func 116), args := #[.tmp 62], argTypes := #[3] }, none⟩, false, false⟩, ⟨⟨some 64, .buildSlice 22 1 #[(0, .tmp 63)], none⟩, false, false⟩, ⟨⟨some 4, .assign (.tmp 64), none⟩, false, false⟩])
 (.ret))
 (.seq (.reg false [] [⟨⟨some 66, .binOp .eql 5 (.tmp 6) (.const (.int .u8 25)) 5, none⟩, false, false⟩, ⟨⟨some 65, .assign (.tmp 66), none⟩, false, false⟩])
 (.cond (.tmp 65) (.seq (.reg true [2, 3] [⟨⟨some 67, .fieldAddr 63 (.tmp 3) 2, none⟩, false, true⟩, ⟨⟨some 68, .load 3 (.tmp 67), none⟩, false, true⟩, ⟨⟨some 69, .call { callee := .value (.func 116), args := #[.tmp 68], argTypes := #[3] }, none⟩, false, true⟩, ⟨⟨some 70, .fieldAddr 57 (.tmp 2) 0, none⟩, true, true⟩, ⟨⟨some 71, .load 52 (.tmp 70), none⟩, true, true⟩, ⟨⟨some 72, .fieldAddr 63 (.tmp 3) 2, none⟩, true, true⟩, ⟨⟨some 73, .load 3 (.tmp 72), none⟩, true, true⟩, ⟨⟨some 74, .call { callee := .value (.func 114), args := #[.tmp 71, .tmp 73], argTypes := #[52, 3] }, none⟩, false, true⟩, ⟨⟨some 75, .fieldAddr 63 (.tmp 3) 3, none⟩, true, false⟩, ⟨⟨some 76, .load 3 (.tmp 75), none⟩, true, false⟩, ⟨⟨some 77, .indexAddr 105 (.tmp 74) (.tmp 76), none⟩, false, false⟩, ⟨⟨some 78, .fieldAddr 110 (.tmp 77) 1, none⟩, false, false⟩, ⟨⟨some 79, .load 23 (.tmp 78), none⟩, false, false⟩, ⟨⟨some 80, .buildSlice 22 2 #[(0, .tmp 69), (1, .tmp 79)], none⟩, false, false⟩, ⟨⟨some 4, .assign (.tmp 80), none⟩, false, false⟩])
 (.ret))
 (.seq (.reg false [] [⟨⟨some 82, .binOp .eql 5 (.tmp 6) (.const (.int .u8 27)) 5, none⟩, false, false⟩, ⟨⟨some 81, .assign (.tmp 82), none⟩, false, false⟩])
 (.cond (.tmp 81) (.seq (.reg false [] [⟨⟨some 83, .buildSlice 22 1 #[(0, .const (.int .u8 4))], none⟩, false, false⟩, ⟨⟨some 4, .assign (.tmp 83), none⟩, false, false⟩])
 (.ret))
 (.seq (.reg false [] [⟨⟨some 85, .binOp .eql 5 (.tmp 6) (.const (.int .u8 28)) 5, none⟩, false, false⟩, ⟨⟨some 84, .assign (.tmp 85), none⟩, false, false⟩])
 (.cond (.tmp 84) (.seq (.reg false [] [⟨⟨some 86, .buildSlice 22 2 #[(0, .const (.int .u8 4)), (1, .const (.int .u8 1))], none⟩, false, false⟩, ⟨⟨some 4, .assign (.tmp 86), none⟩, false, false⟩])
 (.ret))
 (.seq (.reg false [] [⟨⟨some 88, .binOp .eql 5 (.tmp 6) (.const (.int .u8 29)) 5, none⟩, false, false⟩, ⟨⟨some 87, .assign (.tmp 88), none⟩, false, false⟩])
 (.cond (.tmp 87) (.seq (.reg false [] [⟨⟨some 89, .buildSlice 22 3 #[(0, .const (.int .u8 4)), (1, .const (.int .u8 1)), (2, .const (.int .u8 1))], none⟩, false, false⟩, ⟨⟨some 4, .assign (.tmp 89), none⟩, false, false⟩])
 (.ret))
 (.seq (.seq (.reg false [] [⟨⟨some 91, .binOp .eql 5 (.tmp 6) (.const (.int .u8 30)) 5, none⟩, false, false⟩, ⟨⟨some 90, .assign (.tmp 91), none⟩, false, false⟩])
 (.cond (.tmp 90) (.skip)
 (.reg false [] [⟨⟨some 92, .binOp .eql 5 (.tmp 6) (.const (.int .u8 31)) 5, none⟩, false, false⟩, ⟨⟨some 90, .assign (.tmp 92), none⟩, false, false⟩])))
 (.cond (.tmp 90) (.seq (.reg false [] [⟨⟨some 93, .buildSlice 22 1 #[(0, .const (.int .u8 253))], none⟩, false, false⟩, ⟨⟨some 4, .assign (.tmp 93), none⟩, false, false⟩])
 (.ret))
 (.skip)))))))))))))))))))))))))))))))))))
 (.seq (.reg false [] [⟨⟨some 4, .assign (.const (.slice none 0 0)), none⟩, false, false⟩])
 (.ret)))
theorem F76 : Fun1 Try.prog 76 94 c76 [.tmp 4] := Fun1.mk' AL.Try.follows_mixed Try.func76 rfl (by decide +kernel) Try.ntmps76 rfl (by kernel_rfl) rfl

/- proviso/provisoref07.Gives -/
def c77 : AC :=
.seq (.reg false [] [⟨⟨some 2, .box 57 (.tmp 0), none⟩, false, false⟩, ⟨⟨some 3, .box 63 (.tmp 1), none⟩, false, false⟩, ⟨⟨some 4, .assign (.const (.slice none 0 0)), none⟩, false, false⟩])
 (.seq (.seq (.reg false [] [⟨⟨some 5, .fieldAddr 63 (.tmp 3) 1, none⟩, false, false⟩, ⟨⟨some 6, .load 5 (.tmp 5), none⟩, false, false⟩])
 (.block 0 (.seq (.seq (.reg false [] [⟨⟨some 8, .binOp .eql 5 (.tmp 6) (.const (.int .u8 1)) 5, none⟩, false, false⟩, ⟨⟨some 7, .assign (.tmp 8), none⟩, false, false⟩])
 (.cond (.tmp 7) (.skip)
 (.seq (.reg false [] [⟨⟨some 9, .binOp .eql 5 (.tmp 6) (.const (.int .u8 9)) 5, none⟩, false, false⟩, ⟨⟨some 7, .assign (.tmp 9), none⟩, false, false⟩])
 (.cond (.tmp 7) (.skip)
 (.seq (.reg false [] [⟨⟨some 10, .binOp .eql 5 (.tmp 6) (.const (.int .u8 10)) 5, none⟩, false, false⟩, ⟨⟨some 7, .assign (.tmp 10), none⟩, false, false⟩])
 (.cond (.tmp 7) (.skip)
 (.seq (.reg false [] [⟨⟨some 11, .binOp .eql 5 (.tmp 6) (.const (.int .u8 11)) 5, none⟩, false, false⟩, ⟨⟨some 7, .assign (.tmp 11), none⟩, false, false⟩])
 (.cond (.tmp 7) (.skip)
 (.seq (.reg false [] [⟨⟨some 12, .binOp .eql 5 (.tmp 6) (.const (.int .u8 12)) 5, none⟩, false, false⟩, ⟨⟨some 7, .assign (.tmp 12), none⟩, false, false⟩])
 (.cond (.tmp 7) (.skip)
 (.seq (.reg false [] [⟨⟨some 13, .binOp .eql 5 (.tmp 6) (.const (.int .u8 13)) 5, none⟩, false, false⟩, ⟨⟨some 7, .assign (.tmp 13), none⟩, false, false⟩])
 (.cond (.tmp 7) (.skip)
 (.seq (.reg false [] [⟨⟨some 14, .binOp .eql 5 (.tmp 6) (.const (.int .u8 14)) 5, none⟩, false, false⟩, ⟨⟨some 7, .assign (.tmp 14), none⟩, false, false⟩])
 (.cond (.tmp 7) (.skip)
 (.seq (.reg false [] [⟨⟨some 15, .binOp .eql 5 (.tmp 6) (.const (.int .u8 27)) 5, none⟩, false, false⟩, ⟨⟨some 7, .assign (.tmp 15), none⟩, false, false⟩])
 (.cond (.tmp 7) (.skip)
 (.reg false [] [⟨⟨some 16, .binOp .eql 5 (.tmp 6) (.const (.int .u8 28)) 5, none⟩, false, false⟩, ⟨⟨some 7, .assign (.tmp 16), none⟩, false, false⟩])))))))))))))))))
 (.cond (.tmp 7) (.seq (.reg false [] [⟨⟨some 17, .buildSlice 22 1 #[(0, .const (.int .u8 1))], none⟩, false, false⟩, ⟨⟨some 4, .assign (.tmp 17), none⟩, false, false⟩])
 (.ret))
 (.seq (.seq (.reg false [] [⟨⟨some 19, .binOp .eql 5 (.tmp 6) (.const (.int .u8 2)) 5, none⟩, false, false⟩, ⟨⟨some 18, .assign (.tmp 19), none⟩, false, false⟩])
 (.cond (.tmp 18) (.skip)
 (.seq (.reg false [] [⟨⟨some 20, .binOp .eql 5 (.tmp 6) (.const (.int .u8 15)) 5, none⟩, false, false⟩, ⟨⟨some 18, .assign (.tmp 20), none⟩, false, false⟩])
 (.cond (.tmp 18) (.skip)
 (.seq (.reg false [] [⟨⟨some 21, .binOp .eql 5 (.tmp 6) (.const (.int .u8 16)) 5, none⟩, false, false⟩, ⟨⟨some 18, .assign (.tmp 21), none⟩, false, false⟩])
 (.cond (.tmp 18) (.skip)
 (.seq (.reg false [] [⟨⟨some 22, .binOp .eql 5 (.tmp 6) (.const (.int .u8 17)) 5, none⟩, false, false⟩, ⟨⟨some 18, .assign (.tmp 22), none⟩, false, false⟩])
 (.cond (.tmp 18) (.skip)
 (.seq (.reg false [] [⟨⟨some 23, .binOp .eql 5 (.tmp 6) (.const (.int .u8 18)) 5, none⟩, false, false⟩, ⟨⟨some 18, .assign (.tmp 23), none⟩, false, false⟩])
 (.cond (.tmp 18) (.skip)
 (.reg false [] [⟨⟨some 24, .binOp .eql 5 (.tmp 6) (.const (.int .u8 31)) 5, none⟩, false, false⟩, ⟨⟨some 18, .assign (.tmp 24), none⟩, false, false⟩])))))))))))
 (.cond (.tmp 18) (.seq (.reg false [] [⟨⟨some 25, .buildSlice 22 1 #[(0, .const (.int .u8 2))], none⟩, false, false⟩, ⟨⟨some 4, .assign (.tmp 25), none⟩, false, false⟩])
 (.ret))
 (.seq (.reg false [] [⟨⟨some 27, .binOp .eql 5 (.tmp 6) (.const (.int .u8 3)) 5, none⟩, false, false⟩, ⟨⟨some 26, .assign (.tmp 27), none⟩, false, false⟩])
 (.cond (.tmp 26) (.seq (.reg false [] [⟨⟨some 28, .buildSlice 22 1 #[(0, .const (.int .u8 3))], none⟩, false, false⟩, ⟨⟨some 4, .assign (.tmp 28), none⟩, false, false⟩])
 (.ret))
 (.seq (.reg false [] [⟨⟨some 30, .binOp .eql 5 (.tmp 6) (.const (.int .u8 4)) 5, none⟩, false, false⟩, ⟨⟨some 29, .assign (.tmp 30), none⟩, false, false⟩])
 (.cond (.tmp 29) (.seq (.reg false [] [⟨⟨some 31, .buildSlice 22 1 #[(0, .const (.int .u8 255))], none⟩, false, false⟩, ⟨⟨some 4, .assign (.tmp 31), none⟩, false, false⟩])
 (.ret))
 (.seq (.seq (.reg false [] [⟨⟨some 33, .binOp .eql 5 (.tmp 6) (.const (.int .u8 7)) 5, none⟩, false, false⟩, ⟨⟨some 32, .assign (.tmp 33), none⟩, false, false⟩])
 (.cond (.tmp 32) (.skip)
 (.reg false [] [⟨⟨some 34, .binOp .eql 5 (.tmp 6) (.const (.int .u8 8)) 5, none⟩, false, false⟩, ⟨⟨some 32, .assign (.tmp 34), none⟩, false, false⟩])))
 (.cond (.tmp 32) (.seq (.reg false [] [⟨⟨some 35, .buildSlice 22 2 #[(0, .const (.int .u8 255)), (1, .const (.int .u8 255))], none⟩, false, false⟩, ⟨⟨some 4, .assign (.tmp 35), none⟩, false, false⟩])
 (.ret))
 (.seq (.reg false [] [⟨⟨some 37, .binOp .eql 5 (.tmp 6) (.const (.int .u8 21)) 5, none⟩, false, false⟩, ⟨⟨some 36, .assign (.tmp 37), none⟩, false, false⟩])
 (.cond (.tmp 36) (.seq (.reg false [] [⟨⟨some 38, .fieldAddr 57 (.tmp 2) 1, none⟩, false, false⟩, ⟨⟨some 39, .load 49 (.tmp 38), none⟩, false, false⟩, ⟨⟨some 40, .fieldAddr 63 (.tmp 3) 2, none⟩, false, false⟩, ⟨⟨some 41, .load 3 (.tmp 40), none⟩, false, false⟩, ⟨⟨some 42, .indexAddr 49 (.tmp 39) (.tmp 41), none⟩, false, false⟩, ⟨⟨some 43, .fieldAddr 25 (.tmp 42) 1, none⟩, false, false⟩, ⟨⟨some 44, .load 23 (.tmp 43), none⟩, false, false⟩, ⟨⟨some 45, .call { callee := .value (.func 115), args := #[.tmp 44], argTypes := #[23] }, none⟩, false, false⟩, ⟨⟨some 4, .assign (.tmp 45), none⟩, false, false⟩])
 (.ret))
 (.seq (.seq (.reg false [] [⟨⟨some 47, .binOp .eql 5 (.tmp 6) (.const (.int .u8 23)) 5, none⟩, false, false⟩, ⟨⟨some 46, .assign (.tmp 47), none⟩, false, false⟩])
 (.cond (.tmp 46) (.skip)
 (.reg false [] [⟨⟨some 48, .binOp .eql 5 (.tmp 6) (.const (.int .u8 30)) 5, none⟩, false, false⟩, ⟨⟨some 46, .assign (.tmp 48), none⟩, false, false⟩])))
 (.cond (.tmp 46) (.seq (.reg false [] [⟨⟨some 49, .fieldAddr 63 (.tmp 3) 2, none⟩, false, false⟩, ⟨⟨some 50, .load 3 (.tmp 49), none⟩, false, false⟩, ⟨⟨some 51, .call { callee := .value (.func 116), args := #[.tmp 50], argTypes := #[3] }, none⟩, false, false⟩, ⟨⟨some 52, .buildSlice 22 1 #[(0, .tmp 51)], none⟩, false, false⟩, ⟨⟨some 4, .assign (.tmp 52), none⟩, false, false⟩])
 (.ret))
 (.seq (.reg false [] [⟨⟨some 54, .binOp .eql 5 (.tmp 6) (.const (.int .u8 24)) 5, none⟩, false, false⟩, ⟨⟨some 53, .assign (.tmp 54), none⟩, false, false⟩])
 (.cond (.tmp 53) (.seq (.reg true [3] [⟨⟨some 55, .fieldAddr 57 (.tmp 2) 0, none⟩, false, true⟩, ⟨⟨some 56, .load 52 (.tmp 55), none⟩, false, true⟩, ⟨⟨some 57, .fieldAddr 63 (.tmp 3) 2, none⟩, false, true⟩, ⟨⟨some 58, .load 3 (.tmp 57), none⟩, false, true⟩, ⟨⟨some 59, .call { callee := .value (.func 114), args := #[.tmp 56, .tmp 58], argTypes := #[52, 3] }, none⟩, false, true⟩, ⟨⟨some 60, .fieldAddr 63 (.tmp 3) 3, none⟩, true, false⟩, ⟨⟨some 61, .load 3 (.tmp 60), none⟩, true, false⟩, ⟨⟨some 62, .indexAddr 105 (.tmp 59) (.tmp 61), none⟩, false, false⟩, ⟨⟨some 63, .fieldAddr 110 (.tmp 62) 1, none⟩, false, false⟩, ⟨⟨some 64, .load 23 (.tmp 63), none⟩, false, false⟩, ⟨⟨some 65, .call { callee := .value (.func 115), args := #[.tmp 64], argTypes := #[23] }, none⟩, false, false⟩, ⟨⟨some 4, .assign (.tmp 65), none⟩, false, false⟩])
 (.ret))
 (.seq (.reg false [] [⟨⟨some 67, .binOp .eql 5 (.tmp 6) (.const (.int .u8 26)) 5, none⟩, false, false⟩, ⟨⟨some 66, .assign (.tmp 67), none⟩, false, false⟩])
 (.cond (.tmp 66) (.seq (.reg false [] [⟨⟨some 68, .buildSlice 22 1 #[(0, .const (.int .u8 4))], none⟩, false, false⟩, ⟨⟨some 4, .assign (.tmp 68), none⟩, false, false⟩])
 (.ret))
 (.skip)))))))))))))))))))))
 (.seq (.reg false [] [⟨⟨some 4, .assign (.const (.slice none 0 0)), none⟩, false, false⟩])
 (.ret)))
theorem F77 : Fun1 Try.prog 77 69 c77 [.tmp 4] := Fun1.mk' AL.Try.follows_mixed Try.func77 rfl (by decide +kernel) Try.ntmps77 rfl (by kernel_rfl) rfl

/- proviso/provisoref07.some -/
def c115 : AC :=
.seq (.reg false [] [⟨⟨some 2, .assign (.const (.slice none 0 0)), none⟩, false, false⟩])
 (.seq (.seq (.reg false [] [⟨⟨some 3, .move (.tmp 0), none⟩, false, false⟩, ⟨⟨some 4, .binOp .eql 23 (.tmp 3) (.const (.int .u8 0)) 23, none⟩, false, false⟩])
 (.cond (.tmp 4) (.seq (.reg false [] [⟨⟨some 2, .assign (.const (.slice none 0 0)), none⟩, false, false⟩])
 (.ret))
 (.skip)))
 (.seq (.reg false [] [⟨⟨some 5, .move (.tmp 0), none⟩, false, false⟩, ⟨⟨some 6, .buildSlice 22 1 #[(0, .tmp 5)], none⟩, false, false⟩, ⟨⟨some 2, .assign (.tmp 6), none⟩, false, false⟩])
 (.ret)))
theorem F115 : Fun1 Try.prog 115 7 c115 [.tmp 2] := Fun1.mk' AL.Try.follows_mixed Try.func115 rfl (by decide +kernel) Try.ntmps115 rfl (by kernel_rfl) rfl

/- proviso/provisoref07.class -/
def c116 : AC :=
.seq (.reg false [] [⟨⟨some 2, .assign (.const (.int .u8 0)), none⟩, false, false⟩])
 (.seq (.reg false [] [⟨⟨some 3, .move (.tmp 0), none⟩, false, false⟩, ⟨⟨some 4, .convert 3 23 (.tmp 3), none⟩, false, false⟩, ⟨⟨some 5, .binOp .add 23 (.const (.int .u8 16)) (.tmp 4) 23, none⟩, false, false⟩, ⟨⟨some 2, .assign (.tmp 5), none⟩, false, false⟩])
 (.ret))
theorem F116 : Fun1 Try.prog 116 6 c116 [.tmp 2] := Fun1.mk' AL.Try.follows_mixed Try.func116 rfl (by decide +kernel) Try.ntmps116 rfl (by kernel_rfl) rfl

/- proviso/provisoref07.stored -/
def c112 : AC :=
.seq (.reg false [] [⟨⟨some 4, .assign (.const (.bool false)), none⟩, false, false⟩])
 (.seq (.reg false [] [⟨⟨some 5, .move (.tmp 0), none⟩, false, false⟩, ⟨⟨some 6, .move (.tmp 1), none⟩, false, false⟩, ⟨⟨some 7, .call { callee := .value (.func 87), args := #[.tmp 5, .tmp 6], argTypes := #[52, 23] }, none⟩, false, false⟩, ⟨⟨some 8, .move (.tmp 7), none⟩, false, false⟩, ⟨⟨some 9, .move (.tmp 1), some (8, true)⟩, false, false⟩, ⟨⟨some 10, .binOp .neq 23 (.tmp 9) (.const (.int .u8 0)) 23, some (8, true)⟩, false, false⟩, ⟨⟨some 11, .pick (.tmp 8) (.tmp 10) (.const (.bool false)), none⟩, false, false⟩, ⟨⟨some 12, .move (.tmp 11), none⟩, false, false⟩, ⟨⟨some 13, .move (.tmp 1), some (12, true)⟩, false, false⟩, ⟨⟨some 14, .binOp .neq 23 (.tmp 13) (.const (.int .u8 3)) 23, some (12, true)⟩, false, false⟩, ⟨⟨some 15, .pick (.tmp 12) (.tmp 14) (.const (.bool false)), none⟩, false, false⟩, ⟨⟨some 4, .assign (.tmp 15), none⟩, false, false⟩])
 (.ret))
theorem F112 : Fun1 Try.prog 112 16 c112 [.tmp 4] := Fun1.mk' AL.Try.follows_mixed Try.func112 rfl (by decide +kernel) Try.ntmps112 rfl (by kernel_rfl) rfl

end Go.AL
