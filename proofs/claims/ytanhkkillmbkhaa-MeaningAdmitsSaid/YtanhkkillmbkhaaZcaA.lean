import Derived.Test.YtanhkkillmbkhaaZbaH
import Derived.Test.YtanhkkillmbkhaaProg
namespace Go.AL
open Go.Proofs
theorem Try.follows_mixed : Try.prog.follows .mixedOrders = true := by kernel_rfl
/- slices.Clone[[]int,int] -/
def c12 : AC :=
.seq (.reg false [] [⟨⟨some 2, .assign (.const (.slice none 0 0)), none⟩, false, false⟩])
 (.seq (.seq (.reg false [] [⟨⟨some 3, .move (.tmp 0), none⟩, false, false⟩, ⟨⟨some 4, .binOp .eql 26 (.tmp 3) (.const (.slice none 0 0)) 26, none⟩, false, false⟩])
 (.cond (.tmp 4) (.seq (.reg false [] [⟨⟨some 2, .assign (.const (.slice none 0 0)), none⟩, false, false⟩])
 (.ret))
 (.skip)))
 (.seq (.reg false [] [⟨⟨some 5, .buildSlice 26 0 #[], none⟩, false, false⟩, ⟨⟨some 6, .move (.tmp 0), none⟩, false, false⟩, ⟨⟨some 7, .call { callee := .builtin .append, args := #[.tmp 5, .tmp 6], argTypes := #[26, 26] }, none⟩, false, false⟩, ⟨⟨some 2, .assign (.tmp 7), none⟩, false, false⟩])
 (.ret)))
theorem F12 : Fun1 Try.prog 12 8 c12 [.tmp 2] := Fun1.mk' AL.Try.follows_mixed Try.func12 rfl (by decide +kernel) Try.ntmps12 rfl (by kernel_rfl) rfl

/- proviso/meaning.Admits -/
def c13 : AC :=
.seq (.reg false [] [⟨⟨some 2, .box 25 (.tmp 0), none⟩, false, false⟩, ⟨⟨some 4, .assign (.const (.bool false)), none⟩, false, false⟩])
 (.seq (.seq (.reg false [] [⟨⟨some 8, .move (.tmp 1), none⟩, false, false⟩, ⟨⟨some 9, .call { callee := .builtin .len, args := #[.tmp 8], argTypes := #[26] }, none⟩, false, false⟩, ⟨⟨some 10, .fieldAddr 25 (.tmp 2) 0, none⟩, false, false⟩, ⟨⟨some 11, .load 22 (.tmp 10), none⟩, false, false⟩, ⟨⟨some 12, .call { callee := .builtin .len, args := #[.tmp 11], argTypes := #[22] }, none⟩, false, false⟩, ⟨⟨some 13, .binOp .neq 3 (.tmp 9) (.tmp 12) 3, none⟩, false, false⟩])
 (.cond (.tmp 13) (.seq (.reg false [] [⟨⟨some 4, .assign (.const (.bool false)), none⟩, false, false⟩])
 (.ret))
 (.skip)))
 (.seq (.seq (.reg false [] [⟨⟨some 14, .fieldAddr 25 (.tmp 2) 0, none⟩, false, false⟩, ⟨⟨some 15, .load 22 (.tmp 14), none⟩, false, false⟩, ⟨⟨some 16, .call { callee := .builtin .len, args := #[.tmp 15], argTypes := #[22] }, none⟩, false, false⟩, ⟨⟨some 17, .move (.const (.int .i64 0)), none⟩, false, false⟩])
 (.block 0 (.loop (.seq (.reg false [] [⟨⟨some 18, .binOp .lss 3 (.tmp 17) (.tmp 16) 3, none⟩, false, false⟩])
 (.seq (.cond (.tmp 18) (.skip)
 (.exit 0))
 (.seq (.block 1 (.seq (.reg false [] [⟨⟨some 19, .move (.tmp 17), none⟩, false, false⟩, ⟨⟨some 20, .indexAddr 22 (.tmp 15) (.tmp 17), none⟩, false, false⟩, ⟨⟨some 21, .load 23 (.tmp 20), none⟩, false, false⟩, ⟨⟨some 5, .assign (.tmp 19), none⟩, false, false⟩, ⟨⟨some 6, .assign (.tmp 21), none⟩, false, false⟩])
 (.seq (.reg false [] [⟨⟨some 22, .move (.tmp 1), none⟩, false, false⟩, ⟨⟨some 23, .move (.tmp 5), none⟩, false, false⟩, ⟨⟨some 24, .indexAddr 26 (.tmp 22) (.tmp 23), none⟩, false, false⟩, ⟨⟨some 25, .load 3 (.tmp 24), none⟩, false, false⟩, ⟨⟨some 7, .assign (.tmp 25), none⟩, false, false⟩])
 (.block 2 (.seq (.reg false [] [⟨⟨some 27, .move (.tmp 6), none⟩, false, false⟩, ⟨⟨some 28, .binOp .eql 23 (.tmp 27) (.const (.int .u8 1)) 23, none⟩, false, false⟩, ⟨⟨some 29, .move (.tmp 28), none⟩, false, false⟩, ⟨⟨some 30, .move (.tmp 7), some (29, true)⟩, false, false⟩, ⟨⟨some 31, .move (.tmp 7), some (29, true)⟩, false, false⟩, ⟨⟨some 32, .convert 3 21 (.tmp 31), some (29, true)⟩, false, false⟩, ⟨⟨some 33, .convert 21 3 (.tmp 32), some (29, true)⟩, false, false⟩, ⟨⟨some 34, .binOp .eql 3 (.tmp 30) (.tmp 33) 3, some (29, true)⟩, false, false⟩, ⟨⟨some 35, .pick (.tmp 29) (.tmp 34) (.const (.bool false)), none⟩, false, false⟩, ⟨⟨some 26, .assign (.tmp 35), none⟩, false, false⟩])
 (.cond (.tmp 26) (.skip)
 (.seq (.reg false [] [⟨⟨some 37, .move (.tmp 6), none⟩, false, false⟩, ⟨⟨some 38, .binOp .eql 23 (.tmp 37) (.const (.int .u8 2)) 23, none⟩, false, false⟩, ⟨⟨some 39, .move (.tmp 38), none⟩, false, false⟩, ⟨⟨some 40, .move (.tmp 7), some (39, true)⟩, false, false⟩, ⟨⟨some 41, .binOp .eql 3 (.tmp 40) (.const (.int .i64 0)) 3, some (39, true)⟩, false, false⟩, ⟨⟨some 42, .move (.tmp 41), some (39, true)⟩, false, false⟩, ⟨⟨some 43, .move (.tmp 7), some (42, false)⟩, false, false⟩, ⟨⟨some 44, .binOp .eql 3 (.tmp 43) (.const (.int .i64 1)) 3, some (42, false)⟩, false, false⟩, ⟨⟨some 45, .pick (.tmp 42) (.const (.bool true)) (.tmp 44), some (39, true)⟩, false, false⟩, ⟨⟨some 46, .pick (.tmp 39) (.tmp 45) (.const (.bool false)), none⟩, false, false⟩, ⟨⟨some 36, .assign (.tmp 46), none⟩, false, false⟩])
 (.cond (.tmp 36) (.skip)
 (.seq (.reg false [] [⟨⟨some 4, .assign (.const (.bool false)), none⟩, false, false⟩])
 (.ret))))))))))
 (.reg false [] [⟨⟨some 47, .binOp .add 3 (.tmp 17) (.const (.int .i64 1)) 3, none⟩, false, false⟩, ⟨⟨some 17, .move (.tmp 47), none⟩, false, false⟩])))))))
 (.seq (.reg false [] [⟨⟨some 4, .assign (.const (.bool true)), none⟩, false, false⟩])
 (.ret))))
theorem F13 : Fun1 Try.prog 13 48 c13 [.tmp 4] := Fun1.mk' AL.Try.follows_mixed Try.func13 rfl (by decide +kernel) Try.ntmps13 rfl (by kernel_rfl) rfl

/- proviso/provisoref15.Admits -/
def c14 : AC :=
.seq (.reg false [] [⟨⟨some 2, .box 25 (.tmp 0), none⟩, false, false⟩, ⟨⟨some 4, .assign (.const (.bool false)), none⟩, false, false⟩])
 (.seq (.seq (.reg false [] [⟨⟨some 8, .move (.tmp 1), none⟩, false, false⟩, ⟨⟨some 9, .call { callee := .builtin .len, args := #[.tmp 8], argTypes := #[26] }, none⟩, false, false⟩, ⟨⟨some 10, .fieldAddr 25 (.tmp 2) 0, none⟩, false, false⟩, ⟨⟨some 11, .load 22 (.tmp 10), none⟩, false, false⟩, ⟨⟨some 12, .call { callee := .builtin .len, args := #[.tmp 11], argTypes := #[22] }, none⟩, false, false⟩, ⟨⟨some 13, .binOp .neq 3 (.tmp 9) (.tmp 12) 3, none⟩, false, false⟩])
 (.cond (.tmp 13) (.seq (.reg false [] [⟨⟨some 4, .assign (.const (.bool false)), none⟩, false, false⟩])
 (.ret))
 (.skip)))
 (.seq (.seq (.reg false [] [⟨⟨some 14, .fieldAddr 25 (.tmp 2) 0, none⟩, false, false⟩, ⟨⟨some 15, .load 22 (.tmp 14), none⟩, false, false⟩, ⟨⟨some 16, .call { callee := .builtin .len, args := #[.tmp 15], argTypes := #[22] }, none⟩, false, false⟩, ⟨⟨some 17, .move (.const (.int .i64 0)), none⟩, false, false⟩])
 (.block 0 (.loop (.seq (.reg false [] [⟨⟨some 18, .binOp .lss 3 (.tmp 17) (.tmp 16) 3, none⟩, false, false⟩])
 (.seq (.cond (.tmp 18) (.skip)
 (.exit 0))
 (.seq (.block 1 (.seq (.reg false [] [⟨⟨some 19, .move (.tmp 17), none⟩, false, false⟩, ⟨⟨some 20, .indexAddr 22 (.tmp 15) (.tmp 17), none⟩, false, false⟩, ⟨⟨some 21, .load 23 (.tmp 20), none⟩, false, false⟩, ⟨⟨some 5, .assign (.tmp 19), none⟩, false, false⟩, ⟨⟨some 6, .assign (.tmp 21), none⟩, false, false⟩])
 (.seq (.reg false [] [⟨⟨some 22, .move (.tmp 1), none⟩, false, false⟩, ⟨⟨some 23, .move (.tmp 5), none⟩, false, false⟩, ⟨⟨some 24, .indexAddr 26 (.tmp 22) (.tmp 23), none⟩, false, false⟩, ⟨⟨some 25, .load 3 (.tmp 24), none⟩, false, false⟩, ⟨⟨some 7, .assign (.tmp 25), none⟩, false, false⟩])
 (.seq (.reg false [] [⟨⟨some 26, .move (.tmp 6), none⟩, false, false⟩])
 (.block 2 (.seq (.reg false [] [⟨⟨some 28, .binOp .eql 23 (.tmp 26) (.const (.int .u8 1)) 23, none⟩, false, false⟩, ⟨⟨some 27, .assign (.tmp 28), none⟩, false, false⟩])
 (.cond (.tmp 27) (.seq (.reg false [] [⟨⟨some 29, .move (.tmp 7), none⟩, false, false⟩, ⟨⟨some 30, .binOp .lss 3 (.tmp 29) (.const (.int .i64 (-2147483648))) 3, none⟩, false, false⟩, ⟨⟨some 31, .move (.tmp 30), none⟩, false, false⟩, ⟨⟨some 32, .move (.tmp 7), some (31, false)⟩, false, false⟩, ⟨⟨some 33, .binOp .gtr 3 (.tmp 32) (.const (.int .i64 2147483647)) 3, some (31, false)⟩, false, false⟩, ⟨⟨some 34, .pick (.tmp 31) (.const (.bool true)) (.tmp 33), none⟩, false, false⟩])
 (.cond (.tmp 34) (.seq (.reg false [] [⟨⟨some 4, .assign (.const (.bool false)), none⟩, false, false⟩])
 (.ret))
 (.skip)))
 (.seq (.reg false [] [⟨⟨some 36, .binOp .eql 23 (.tmp 26) (.const (.int .u8 2)) 23, none⟩, false, false⟩, ⟨⟨some 35, .assign (.tmp 36), none⟩, false, false⟩])
 (.cond (.tmp 35) (.seq (.reg false [] [⟨⟨some 37, .move (.tmp 7), none⟩, false, false⟩, ⟨⟨some 38, .binOp .neq 3 (.tmp 37) (.const (.int .i64 0)) 3, none⟩, false, false⟩, ⟨⟨some 39, .move (.tmp 38), none⟩, false, false⟩, ⟨⟨some 40, .move (.tmp 7), some (39, true)⟩, false, false⟩, ⟨⟨some 41, .binOp .neq 3 (.tmp 40) (.const (.int .i64 1)) 3, some (39, true)⟩, false, false⟩, ⟨⟨some 42, .pick (.tmp 39) (.tmp 41) (.const (.bool false)), none⟩, false, false⟩])
 (.cond (.tmp 42) (.seq (.reg false [] [⟨⟨some 4, .assign (.const (.bool false)), none⟩, false, false⟩])
 (.ret))
 (.skip)))
 (.seq (.reg false [] [⟨⟨some 4, .assign (.const (.bool false)), none⟩, false, false⟩])
 (.ret)))))))))))
 (.reg false [] [⟨⟨some 43, .binOp .add 3 (.tmp 17) (.const (.int .i64 1)) 3, none⟩, false, false⟩, ⟨⟨some 17, .move (.tmp 43), none⟩, false, false⟩])))))))
 (.seq (.reg false [] [⟨⟨some 4, .assign (.const (.bool true)), none⟩, false, false⟩])
 (.ret))))
theorem F14 : Fun1 Try.prog 14 44 c14 [.tmp 4] := Fun1.mk' AL.Try.follows_mixed Try.func14 rfl (by decide +kernel) Try.ntmps14 rfl (by kernel_rfl) rfl

/- proviso/provisoplain.SameSig -/
def c15 : AC :=
.seq (.reg false [] [⟨⟨some 2, .box 25 (.tmp 0), none⟩, false, false⟩, ⟨⟨some 3, .box 25 (.tmp 1), none⟩, false, false⟩, ⟨⟨some 4, .assign (.const (.bool false)), none⟩, false, false⟩])
 (.seq (.reg false [] [⟨⟨some 5, .fieldAddr 25 (.tmp 2) 1, none⟩, false, false⟩, ⟨⟨some 6, .load 23 (.tmp 5), none⟩, false, false⟩, ⟨⟨some 7, .fieldAddr 25 (.tmp 3) 1, none⟩, false, false⟩, ⟨⟨some 8, .load 23 (.tmp 7), none⟩, false, false⟩, ⟨⟨some 9, .binOp .eql 23 (.tmp 6) (.tmp 8) 23, none⟩, false, false⟩, ⟨⟨some 10, .move (.tmp 9), none⟩, false, false⟩, ⟨⟨some 11, .fieldAddr 25 (.tmp 2) 0, some (10, true)⟩, false, false⟩, ⟨⟨some 12, .load 22 (.tmp 11), some (10, true)⟩, false, false⟩, ⟨⟨some 13, .fieldAddr 25 (.tmp 3) 0, some (10, true)⟩, false, false⟩, ⟨⟨some 14, .load 22 (.tmp 13), some (10, true)⟩, false, false⟩, ⟨⟨some 15, .call { callee := .value (.func 47), args := #[.tmp 12, .tmp 14], argTypes := #[22, 22] }, some (10, true)⟩, false, false⟩, ⟨⟨some 16, .pick (.tmp 10) (.tmp 15) (.const (.bool false)), none⟩, false, false⟩, ⟨⟨some 4, .assign (.tmp 16), none⟩, false, false⟩])
 (.ret))
theorem F15 : Fun1 Try.prog 15 17 c15 [.tmp 4] := Fun1.mk' AL.Try.follows_mixed Try.func15 rfl (by decide +kernel) Try.ntmps15 rfl (by kernel_rfl) rfl

/- slices.Equal[[]int,int] -/
def c16 : AC :=
.seq (.reg false [] [⟨⟨some 4, .assign (.const (.bool false)), none⟩, false, false⟩])
 (.seq (.seq (.reg false [] [⟨⟨some 6, .move (.tmp 0), none⟩, false, false⟩, ⟨⟨some 7, .call { callee := .builtin .len, args := #[.tmp 6], argTypes := #[26] }, none⟩, false, false⟩, ⟨⟨some 8, .move (.tmp 1), none⟩, false, false⟩, ⟨⟨some 9, .call { callee := .builtin .len, args := #[.tmp 8], argTypes := #[26] }, none⟩, false, false⟩, ⟨⟨some 10, .binOp .neq 3 (.tmp 7) (.tmp 9) 3, none⟩, false, false⟩])
 (.cond (.tmp 10) (.seq (.reg false [] [⟨⟨some 4, .assign (.const (.bool false)), none⟩, false, false⟩])
 (.ret))
 (.skip)))
 (.seq (.seq (.reg false [] [⟨⟨some 11, .move (.tmp 0), none⟩, false, false⟩, ⟨⟨some 12, .call { callee := .builtin .len, args := #[.tmp 11], argTypes := #[26] }, none⟩, false, false⟩, ⟨⟨some 13, .move (.const (.int .i64 0)), none⟩, false, false⟩])
 (.block 0 (.loop (.seq (.reg false [] [⟨⟨some 14, .binOp .lss 3 (.tmp 13) (.tmp 12) 3, none⟩, false, false⟩])
 (.seq (.cond (.tmp 14) (.skip)
 (.exit 0))
 (.seq (.block 1 (.seq (.reg false [] [⟨⟨some 15, .move (.tmp 13), none⟩, false, false⟩, ⟨⟨some 5, .assign (.tmp 15), none⟩, false, false⟩])
 (.seq (.reg true [] [⟨⟨some 16, .move (.tmp 0), none⟩, false, true⟩, ⟨⟨some 17, .move (.tmp 5), none⟩, false, true⟩, ⟨⟨some 18, .indexAddr 26 (.tmp 16) (.tmp 17), none⟩, false, true⟩, ⟨⟨some 19, .load 3 (.tmp 18), none⟩, false, true⟩, ⟨⟨some 20, .move (.tmp 1), none⟩, false, true⟩, ⟨⟨some 21, .move (.tmp 5), none⟩, false, false⟩, ⟨⟨some 22, .indexAddr 26 (.tmp 20) (.tmp 21), none⟩, false, false⟩, ⟨⟨some 23, .load 3 (.tmp 22), none⟩, false, false⟩, ⟨⟨some 24, .binOp .neq 3 (.tmp 19) (.tmp 23) 3, none⟩, false, false⟩])
 (.cond (.tmp 24) (.seq (.reg false [] [⟨⟨some 4, .assign (.const (.bool false)), none⟩, false, false⟩])
 (.ret))
 (.skip)))))
 (.reg false [] [⟨⟨some 25, .binOp .add 3 (.tmp 13) (.const (.int .i64 1)) 3, none⟩, false, false⟩, ⟨⟨some 13, .move (.tmp 25), none⟩, false, false⟩])))))))
 (.seq (.reg false [] [⟨⟨some 4, .assign (.const (.bool true)), none⟩, false, false⟩])
 (.ret))))
theorem F16 : Fun1 Try.prog 16 26 c16 [.tmp 4] := Fun1.mk' AL.Try.follows_mixed Try.func16 rfl (by decide +kernel) Try.ntmps16 rfl (by kernel_rfl) rfl

/- proviso/provisoplain.Sig -/
def c11 : AC :=
.seq (.reg false [] [⟨⟨some 1, .box 25 (.tmp 0), none⟩, false, false⟩, ⟨⟨some 2, .alloc 25, none⟩, false, false⟩])
 (.seq (.reg false [] [⟨⟨some 3, .fieldAddr 25 (.tmp 1) 0, none⟩, false, false⟩, ⟨⟨some 4, .load 22 (.tmp 3), none⟩, false, false⟩, ⟨⟨some 5, .call { callee := .value (.func 46), args := #[.tmp 4], argTypes := #[22] }, none⟩, false, false⟩, ⟨⟨some 6, .fieldAddr 25 (.tmp 1) 0, none⟩, false, false⟩, ⟨⟨none, .store 22 (.tmp 6) (.tmp 5), none⟩, false, false⟩])
 (.seq (.reg false [] [⟨⟨some 7, .load 25 (.tmp 1), none⟩, false, false⟩, ⟨⟨none, .store 25 (.tmp 2) (.tmp 7), none⟩, false, false⟩])
 (.ret)))
theorem F11 : Fun1 Try.prog 11 8 c11 [.cell 2 25] := Fun1.mk' AL.Try.follows_mixed Try.func11 rfl (by decide +kernel) Try.ntmps11 rfl (by kernel_rfl) rfl

/- proviso/provisolaw15.MeaningAdmits -/
def c3 : AC :=
.seq (.reg false [] [⟨⟨some 2, .box 25 (.tmp 0), none⟩, false, false⟩, ⟨⟨some 4, .assign (.const (.bool false)), none⟩, false, false⟩])
 (.seq (.reg false [] [⟨⟨some 7, .load 25 (.tmp 2), none⟩, false, false⟩, ⟨⟨some 8, .call { callee := .value (.func 11), args := #[.tmp 7], argTypes := #[25] }, none⟩, false, false⟩, ⟨⟨some 9, .move (.tmp 1), none⟩, false, false⟩, ⟨⟨some 10, .call { callee := .value (.func 12), args := #[.tmp 9], argTypes := #[26] }, none⟩, false, false⟩, ⟨⟨some 5, .alloc 25, none⟩, false, false⟩, ⟨⟨none, .store 25 (.tmp 5) (.tmp 8), none⟩, false, false⟩, ⟨⟨some 6, .assign (.tmp 10), none⟩, false, false⟩])
 (.seq (.reg true [2] [⟨⟨some 11, .load 25 (.tmp 5), none⟩, false, true⟩, ⟨⟨some 12, .move (.tmp 6), none⟩, false, true⟩, ⟨⟨some 13, .call { callee := .value (.func 13), args := #[.tmp 11, .tmp 12], argTypes := #[25, 26] }, none⟩, false, true⟩, ⟨⟨some 14, .load 25 (.tmp 2), none⟩, true, true⟩, ⟨⟨some 15, .move (.tmp 1), none⟩, true, false⟩, ⟨⟨some 16, .call { callee := .value (.func 14), args := #[.tmp 14, .tmp 15], argTypes := #[25, 26] }, none⟩, false, false⟩, ⟨⟨some 17, .binOp .eql 4 (.tmp 13) (.tmp 16) 4, none⟩, false, false⟩, ⟨⟨some 18, .move (.tmp 17), none⟩, false, false⟩, ⟨⟨some 19, .load 25 (.tmp 5), some (18, true)⟩, false, true⟩, ⟨⟨some 20, .load 25 (.tmp 2), some (18, true)⟩, false, false⟩, ⟨⟨some 21, .call { callee := .value (.func 15), args := #[.tmp 19, .tmp 20], argTypes := #[25, 25] }, some (18, true)⟩, false, false⟩, ⟨⟨some 22, .pick (.tmp 18) (.tmp 21) (.const (.bool false)), none⟩, false, false⟩, ⟨⟨some 23, .move (.tmp 22), none⟩, false, false⟩, ⟨⟨some 24, .move (.tmp 6), some (23, true)⟩, false, true⟩, ⟨⟨some 25, .move (.tmp 1), some (23, true)⟩, false, false⟩, ⟨⟨some 26, .call { callee := .value (.func 16), args := #[.tmp 24, .tmp 25], argTypes := #[26, 26] }, some (23, true)⟩, false, false⟩, ⟨⟨some 27, .pick (.tmp 23) (.tmp 26) (.const (.bool false)), none⟩, false, false⟩, ⟨⟨some 28, .move (.tmp 27), none⟩, false, false⟩, ⟨⟨some 29, .build 25 #[], some (28, true)⟩, false, false⟩, ⟨⟨some 30, .call { callee := .value (.func 13), args := #[.tmp 29, .const (.slice none 0 0)], argTypes := #[25, 26] }, some (28, true)⟩, false, false⟩, ⟨⟨some 31, .pick (.tmp 28) (.tmp 30) (.const (.bool false)), none⟩, false, false⟩, ⟨⟨some 4, .assign (.tmp 31), none⟩, false, false⟩])
 (.ret)))
theorem F3 : Fun1 Try.prog 3 32 c3 [.tmp 4] := Fun1.mk' AL.Try.follows_mixed Try.func3 rfl (by decide +kernel) Try.ntmps3 rfl (by kernel_rfl) rfl

/- slices.Clone[[]proviso/api.Type,proviso/api.Type] -/
def c46 : AC :=
.seq (.reg false [] [⟨⟨some 2, .assign (.const (.slice none 0 0)), none⟩, false, false⟩])
 (.seq (.seq (.reg false [] [⟨⟨some 3, .move (.tmp 0), none⟩, false, false⟩, ⟨⟨some 4, .binOp .eql 22 (.tmp 3) (.const (.slice none 0 0)) 22, none⟩, false, false⟩])
 (.cond (.tmp 4) (.seq (.reg false [] [⟨⟨some 2, .assign (.const (.slice none 0 0)), none⟩, false, false⟩])
 (.ret))
 (.skip)))
 (.seq (.reg false [] [⟨⟨some 5, .buildSlice 22 0 #[], none⟩, false, false⟩, ⟨⟨some 6, .move (.tmp 0), none⟩, false, false⟩, ⟨⟨some 7, .call { callee := .builtin .append, args := #[.tmp 5, .tmp 6], argTypes := #[22, 22] }, none⟩, false, false⟩, ⟨⟨some 2, .assign (.tmp 7), none⟩, false, false⟩])
 (.ret)))
theorem F46 : Fun1 Try.prog 46 8 c46 [.tmp 2] := Fun1.mk' AL.Try.follows_mixed Try.func46 rfl (by decide +kernel) Try.ntmps46 rfl (by kernel_rfl) rfl

/- slices.Equal[[]proviso/api.Type,proviso/api.Type] -/
def c47 : AC :=
.seq (.reg false [] [⟨⟨some 4, .assign (.const (.bool false)), none⟩, false, false⟩])
 (.seq (.seq (.reg false [] [⟨⟨some 6, .move (.tmp 0), none⟩, false, false⟩, ⟨⟨some 7, .call { callee := .builtin .len, args := #[.tmp 6], argTypes := #[22] }, none⟩, false, false⟩, ⟨⟨some 8, .move (.tmp 1), none⟩, false, false⟩, ⟨⟨some 9, .call { callee := .builtin .len, args := #[.tmp 8], argTypes := #[22] }, none⟩, false, false⟩, ⟨⟨some 10, .binOp .neq 3 (.tmp 7) (.tmp 9) 3, none⟩, false, false⟩])
 (.cond (.tmp 10) (.seq (.reg false [] [⟨⟨some 4, .assign (.const (.bool false)), none⟩, false, false⟩])
 (.ret))
 (.skip)))
 (.seq (.seq (.reg false [] [⟨⟨some 11, .move (.tmp 0), none⟩, false, false⟩, ⟨⟨some 12, .call { callee := .builtin .len, args := #[.tmp 11], argTypes := #[22] }, none⟩, false, false⟩, ⟨⟨some 13, .move (.const (.int .i64 0)), none⟩, false, false⟩])
 (.block 0 (.loop (.seq (.reg false [] [⟨⟨some 14, .binOp .lss 3 (.tmp 13) (.tmp 12) 3, none⟩, false, false⟩])
 (.seq (.cond (.tmp 14) (.skip)
 (.exit 0))
 (.seq (.block 1 (.seq (.reg false [] [⟨⟨some 15, .move (.tmp 13), none⟩, false, false⟩, ⟨⟨some 5, .assign (.tmp 15), none⟩, false, false⟩])
 (.seq (.reg true [] [⟨⟨some 16, .move (.tmp 0), none⟩, false, true⟩, ⟨⟨some 17, .move (.tmp 5), none⟩, false, true⟩, ⟨⟨some 18, .indexAddr 22 (.tmp 16) (.tmp 17), none⟩, false, true⟩, ⟨⟨some 19, .load 23 (.tmp 18), none⟩, false, true⟩, ⟨⟨some 20, .move (.tmp 1), none⟩, false, true⟩, ⟨⟨some 21, .move (.tmp 5), none⟩, false, false⟩, ⟨⟨some 22, .indexAddr 22 (.tmp 20) (.tmp 21), none⟩, false, false⟩, ⟨⟨some 23, .load 23 (.tmp 22), none⟩, false, false⟩, ⟨⟨some 24, .binOp .neq 23 (.tmp 19) (.tmp 23) 23, none⟩, false, false⟩])
 (.cond (.tmp 24) (.seq (.reg false [] [⟨⟨some 4, .assign (.const (.bool false)), none⟩, false, false⟩])
 (.ret))
 (.skip)))))
 (.reg false [] [⟨⟨some 25, .binOp .add 3 (.tmp 13) (.const (.int .i64 1)) 3, none⟩, false, false⟩, ⟨⟨some 13, .move (.tmp 25), none⟩, false, false⟩])))))))
 (.seq (.reg false [] [⟨⟨some 4, .assign (.const (.bool true)), none⟩, false, false⟩])
 (.ret))))
theorem F47 : Fun1 Try.prog 47 26 c47 [.tmp 4] := Fun1.mk' AL.Try.follows_mixed Try.func47 rfl (by decide +kernel) Try.ntmps47 rfl (by kernel_rfl) rfl

end Go.AL
