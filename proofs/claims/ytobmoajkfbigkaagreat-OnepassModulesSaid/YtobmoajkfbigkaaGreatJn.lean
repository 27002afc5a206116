import Derived.Test.YtobmoajkfbigkaaGreatJm
import Derived.Test.YtobmoajkfbigkaaGreatJd
set_option linter.unusedSimpArgs false
set_option linter.unusedVariables false
set_option maxRecDepth 100000
set_option maxHeartbeats 4000000
set_option linter.defProp false
namespace Go.AL
open Go.Proofs
theorem eIn_drop4 (i : Ins) : (eIn i).drop 4 = [] := rfl
def bYfaE0 := aI @eIn_len (aI @eIn_take (aI @eIn_drop4 (aI @anD (aI @set_set (aI @resM_cell @eIn_zero)))))
def bYfaE1 := aI @eIn_len (aI @eIn_take (aI @eIn_drop4 (aI @anD (aI @set_set (aI @resM_cell @eT_len)))))
def bYfaE2 := aI @eIn_len (aI @eIn_take (aI @eIn_drop4 (aI @anD (aI @set_set (aI @resM_cell @gdD)))))
theorem decode82 (b : List Ty) (o : Own) (at' : Nat) (hl : b.length ≤ 140737488355328) (ha : at' ≤ 140737488355328) : PCall Tryz.prog 82 [.slice o (rws eT b), .int .i64 at'] (.tup [.agg (eIn (decF b at').1), .int .i64 (decF b at').2]) := by
  have g0 : ((at' : Int) < 0) = False := by simp
  refine F82.pcall' rfl fun T hT => ?_
  simp -implicitDefEqProofs only [go_sem, c82, hT, bYfaE0]
  intro b4 b6 n1 n2
  by_cases h1 : b.length < at'
  · have q1 : ((b.length : Int) < at') = True := by simp; omega
    rw [decF, if_pos h1]
    simp -implicitDefEqProofs only [go_sem, hT, n1, n2, g0, q1, bYfaE0]
    all_goals exact DLe.refl _
  have q1 : ((b.length : Int) < at') = False := by simp; omega
  by_cases h2 : b.length = at'
  · have q2 : ((at' : Int) = b.length) = True := by simp; omega
    rw [decF, if_neg h1, if_pos h2]
    simp -implicitDefEqProofs only [go_sem, hT, n1, n2, g0, q1, q2, bYfaE0]
    all_goals exact DLe.refl _
  have q2 : ((at' : Int) = b.length) = False := by simp; omega
  have hlt : at' < b.length := by omega
  have hR : (rws eT b)[at']?.getD [] = eT b[at'] := rws_at hlt
  have hget : (b[at']?).getD 0 = b[at'] := by rw [List.getElem?_eq_getElem hlt]; rfl
  have hd : decF b at' = if sizeOp b[at'].val = 0 then (ins0, 40) else if b.length - at' < sizeOp b[at'].val then (ins0, 2) else if b[at'].val = 2 ∧ 1 < (decIn b at' b[at']).a then (ins0, 5) else (decIn b at' b[at'], 0) := by
    rw [decF, if_neg h1, if_neg h2, hget]
  rw [hd]
  clear hd hget
  generalize b[at'] = op at *
  have hsz := sizeOp_le op.val
  have hso : sizeOp op.val ≠ 0 → sizeOp op.val = 1 + (wid op.val).1 + (wid op.val).2 := fun h => by
    unfold sizeOp at h ⊢; split
    · rename_i h'; rw [if_pos h'] at h; exact absurd rfl h
    · rfl
  have hwl := wid_le op.val
  have wS : IntKind.wrap .i64 ((b.length : Int) - at') = (b.length : Int) - at' := wrap_i64 (by omega) (by omega)
  have b0 : (0 : Int) ≤ at' ∧ (at' : Int) < b.length := by omega
  simp -implicitDefEqProofs only [go_sem, hT, n1, n2, g0, q1, q2, hR, eT, bYfaE1]
  refine ⟨b0, ?_⟩
  refine callB_pure (size125 op) ?_
  by_cases h3 : sizeOp op.val = 0
  · have q3 : ((sizeOp op.val : Int) = 0) = True := by simp; omega
    rw [if_pos h3]
    simp -implicitDefEqProofs only [go_sem, hT, n1, n2, q3, bYfaE0]
    all_goals exact DLe.refl _
  have q3 : ((sizeOp op.val : Int) = 0) = False := by simp; omega
  rw [if_neg h3]
  by_cases h4 : b.length - at' < sizeOp op.val
  · have q4 : ((b.length : Int) - at' < sizeOp op.val) = True := by simp; omega
    rw [if_pos h4]
    simp -implicitDefEqProofs only [go_sem, hT, n1, n2, q3, wS, hR, eT, bYfaE1]
    refine ⟨b0, callB_pure (size125 op) ?_⟩
    simp -implicitDefEqProofs only [go_sem, hT, n1, n2, q4, bYfaE0]
    all_goals exact DLe.refl _
  have q4 : ((b.length : Int) - at' < sizeOp op.val) = False := by simp; omega
  rw [if_neg h4]
  have hs := hso h3
  have w1 : IntKind.wrap .i64 ((at' : Int) + 1) = ((at' + 1 : Nat) : Int) := by rw [wrap_i64 (by omega) (by omega)]; simp
  have b1 : (0 : Int) ≤ ((at' + 1 : Nat) : Int) ∧ ((at' + 1 : Nat) : Int) ≤ b.length := by omega
  obtain ⟨A, hA⟩ : ∃ A, opdB ((b.drop (at' + 1)).take (wid op.val).1) = A := ⟨_, rfl⟩
  obtain ⟨B, hB⟩ : ∃ B, opdB ((b.drop (at' + 1 + (wid op.val).1)).take (wid op.val).2) = B := ⟨_, rfl⟩
  have hdi : decIn b at' op = ⟨at', op, A, B⟩ := by rw [decIn, hA, hB]
  rw [hdi]
  have t1 := fun bb o => take127 (b.drop (at' + 1)) o (wid op.val).1 bb (wid_vals op.val).1 (by rw [List.length_drop]; omega)
  have t2 := fun bb o => take127 (b.drop (at' + 1 + (wid op.val).1)) o (wid op.val).2 bb (by have := (wid_vals op.val).2; omega) (by rw [List.length_drop]; omega)
  rw [List.drop_drop] at t1
  rw [hA] at t1
  rw [hB] at t2
  simp -implicitDefEqProofs only [go_sem, hT, n1, n2, q3, wS, hR, eT, bYfaE1]
  refine ⟨b0, callB_pure (size125 op) ?_⟩
  simp -implicitDefEqProofs only [go_sem, hT, n1, n2, q4, hR, eT, bYfaE1]
  refine ⟨b0, fun b7 m1 m2 m3 m4 => ?_⟩
  simp -implicitDefEqProofs only [go_sem, hT, eIn_len, eIn_take, eIn_drop4, anD, set_set, resM_cell, n1, n2, m1, m2, m3, m4, w1, rws_take, rws_drop, List.take_length]
  refine ⟨⟨by omega, rows_len eT_len b⟩, fun b8 k1 k2 k3 k4 k5 k6 => ?_⟩
  simp -implicitDefEqProofs only [go_sem, hT, n1, n2, m1, m2, m3, m4, k1, k2, k3, k4, k5, k6, bYfaE2]
  refine callB_pure (widths152 op) ?_
  simp -implicitDefEqProofs only [go_sem, hT, eIn_len, eIn_take, eIn_drop4, anD, set_set, resM_cell, n1, n2, m1, m2, m3, m4, k1, k2, k3, k4, k5, k6]
  refine callB_box (b := b8) (by simp [St.set]) rfl (t1 b8 .no) ?_
  simp -implicitDefEqProofs only [go_sem, hT, n1, n2, m1, m2, m3, m4, k1, k2, k3, k4, k5, k6, bYfaE2]
  refine callB_box (b := b8) (by simp [St.set, k1]) rfl (t2 b8 .no) ?_
  simp -implicitDefEqProofs only [go_sem, hT, n1, n2, m1, m2, m3, m4, k1, k2, k3, k4, k5, k6, bYfaE2]
  by_cases h5 : op.val = 2
  · have q5 : ((op.val : Int) = 2) = True := by simp; omega
    by_cases h6 : 1 < A
    · have q6 : (1 < A) = True := by simp [h6]
      rw [if_pos ⟨h5, h6⟩]
      simp -implicitDefEqProofs only [go_sem, hT, n1, n2, m1, m2, m3, m4, k1, k2, k3, k4, k5, k6, q5, q6, bYfaE2]
      all_goals exact DLe.refl _
    · have q6 : (1 < A) = False := by simp; omega
      rw [if_neg (fun h => h6 h.2)]
      simp -implicitDefEqProofs only [go_sem, hT, n1, n2, m1, m2, m3, m4, k1, k2, k3, k4, k5, k6, q5, q6, bYfaE2]
      all_goals exact DLe.refl _
  · have q5 : ((op.val : Int) = 2) = False := by simp; omega
    rw [if_neg (fun h => h5 h.1)]
    simp -implicitDefEqProofs only [go_sem, hT, n1, n2, m1, m2, m3, m4, k1, k2, k3, k4, k5, k6, q5, bYfaE2]
    all_goals exact DLe.refl _
def c31 : AC :=
.seq (rg [oO 2 (.alloc 52), oO 3 (.assign (kI 0)), oO 4 (.assign (kI 0))])
 (.seq (rg [oO 10 (.move (tT 0)), oO 11 (cF (.func 72) #[tT 10] #[26]), oO 9 (.move (tT 11)), oO 12 (.extract (tT 9) 0), oO 13 (.extract (tT 9) 1), oO 14 (.extract (tT 9) 2), oO 15 (.extract (tT 9) 3), oO 5 (.assign (tT 12)), oO 6 (.assign (tT 13)), oO 7 (.assign (tT 14)), oO 8 (.assign (tT 15))])
 (.seq (.seq (rg [oO 16 (.move (tT 8)), oO 17 (.binOp .neq 32 (tT 16) (kI 0) 32)])
 (.cond (tT 17) (.seq (rg [oO 18 (.build 52 #[]), oO 19 (.move (tT 7)), oO 20 (.move (tT 8)), oN (.store 52 (tT 2) (tT 18)), oO 3 (.assign (tT 19)), oO 4 (.assign (tT 20))])
 (.ret))
 (.skip)))
 (.seq (rg [oO 21 (.move (tT 0)), oO 22 (.indexAddr 26 (tT 21) (kI 3)), oO 23 (.load 5 (tT 22)), oO 24 (.convert 5 3 (tT 23)), oO 25 (.move (tT 5)), oO 26 (.build 52 #[(0, .tmp 24), (1, .tmp 25)]), oN (.store 52 (tT 2) (tT 26)), oO 3 (.assign (kI 0)), oO 4 (.assign (kI 0))])
 .ret)))
theorem F31 : Fun1 Tryz.prog 31 27 c31 [.cell 2 52, .tmp 3, .tmp 4] := mkT Tryz.func31 rfl (by decide +kernel) Tryz.ntmps31 rfl (by kernel_rfl) rfl
def c72 : AC :=
.seq (rg [oO 2 (.assign (.const (.slice none 0 0))), oO 3 (.assign (.const (.slice none 0 0))), oO 4 (.assign (kI 0)), oO 5 (.assign (kI 0))])
 (.seq (rg [oO 18 (.move (tT 0)), oO 19 (cF (.func 116) #[tT 18] #[26]), oO 17 (.move (tT 19)), oO 20 (.extract (tT 17) 0), oO 21 (.extract (tT 17) 1), oO 22 (.extract (tT 17) 2), oO 23 (.extract (tT 17) 3), oO 6 (.assign (tT 20)), oO 7 (.assign (tT 21)), oO 8 (.assign (tT 22)), oO 9 (.assign (tT 23))])
 (.seq (.seq (rg [oO 24 (.move (tT 9)), oO 25 (.binOp .neq 32 (tT 24) (kI 0) 32)])
 (.cond (tT 25) (.seq (rg [oO 26 (.move (tT 8)), oO 27 (.move (tT 9)), oO 2 (.assign (.const (.slice none 0 0))), oO 3 (.assign (.const (.slice none 0 0))), oO 4 (.assign (tT 26)), oO 5 (.assign (tT 27))])
 (.ret))
 (.skip)))
 (.seq (rg [oO 10 (.assign (.const (.slice none 0 0)))])
 (.seq (rg [oO 11 (.assign (.const (.slice none 0 0)))])
 (.seq (rg [oO 8 (.assign (kI 6))])
 (.seq (rg [oO 12 (.assign (kI (-1)))])
 (.seq (.seq (rg [oO 13 (.assign (kI 0))])
 (.block 0 (.loop (.seq (.seq (rg [oO 28 (.move (tT 13)), oO 29 (.move (tT 7)), oO 30 (.binOp .lss 3 (tT 28) (tT 29) 3)])
 (.cond (tT 30) (.skip)
 (.exit 0)))
 (.seq (.block 1 (.seq (rg [oO 34 (.move (tT 0)), oO 35 (.move (tT 6)), oO 36 (.move (tT 8)), oO 37 (.move (tT 12)), oO 38 (cF (.func 117) #[tT 34, tT 35, tT 36, tT 37] #[26, 3, 3, 3]), oO 33 (.move (tT 38)), oO 39 (.extract (tT 33) 0), oO 40 (.extract (tT 33) 1), oO 41 (.extract (tT 33) 2), oO 14 (.alloc 86), oN (.store 86 (tT 14) (tT 39)), oO 15 (.assign (tT 40)), oO 16 (.assign (tT 41))])
 (.seq (.seq (rg [oO 42 (.move (tT 16)), oO 43 (.binOp .neq 32 (tT 42) (kI 0) 32)])
 (.cond (tT 43) (.seq (rg [oO 44 (.move (tT 10)), oO 45 (.move (tT 11)), oO 46 (.move (tT 15)), oO 47 (.move (tT 16)), oO 2 (.assign (tT 44)), oO 3 (.assign (tT 45)), oO 4 (.assign (tT 46)), oO 5 (.assign (tT 47))])
 (.ret))
 (.skip)))
 (.seq (rg [oO 48 (.move (tT 10)), oO 49 (.load 86 (tT 14)), oO 50 (.buildSlice 50 1 #[(0, .tmp 49)]), oO 51 (cB .append #[tT 48, tT 50] #[50, 50]), oO 10 (.assign (tT 51))])
 (.seq (rg [oO 52 (.move (tT 11)), oO 53 (.move (tT 15)), oO 54 (.buildSlice 29 1 #[(0, .tmp 53)]), oO 55 (cB .append #[tT 52, tT 54] #[29, 29]), oO 11 (.assign (tT 55))])
 (.seq (rg [oO 56 (.move (tT 15)), oO 8 (.assign (tT 56))])
 (rg [oO 57 (.fieldAddr 86 (tT 14) 0), oO 58 (.load 3 (tT 57)), oO 12 (.assign (tT 58))])))))))
 (rg [oO 31 (.move (tT 13)), oO 32 (.binOp .add 3 (tT 31) (kI 1) 3), oO 13 (.assign (tT 32))]))))))
 (.seq (.seq (rg [oO 59 (.move (tT 8)), oO 60 (.move (tT 0)), oO 61 (cB .len #[tT 60] #[26]), oO 62 (.binOp .lss 3 (tT 59) (tT 61) 3)])
 (.cond (tT 62) (.seq (rg [oO 63 (.move (tT 10)), oO 64 (.move (tT 11)), oO 65 (.move (tT 8)), oO 2 (.assign (tT 63)), oO 3 (.assign (tT 64)), oO 4 (.assign (tT 65)), oO 5 (.assign (kI 3))])
 (.ret))
 (.skip)))
 (.seq (rg [oO 66 (.move (tT 10)), oO 67 (.move (tT 11)), oO 2 (.assign (tT 66)), oO 3 (.assign (tT 67)), oO 4 (.assign (kI 0)), oO 5 (.assign (kI 0))])
 .ret)))))))))
theorem F72 : Fun1 Tryz.prog 72 68 c72 [.tmp 2, .tmp 3, .tmp 4, .tmp 5] := mkT Tryz.func72 rfl (by decide +kernel) Tryz.ntmps72 rfl (by kernel_rfl) rfl
def c116 : AC :=
.seq (rg [oO 2 (.assign (kI 0)), oO 3 (.assign (kI 0)), oO 4 (.assign (kI 0)), oO 5 (.assign (kI 0))])
 (.seq (rg [oO 9 (.buildSlice 26 3 #[(0, kB 112), (1, kB 118), (2, kB 1)]), oO 6 (.assign (tT 9))])
 (.seq (.seq (rg [oO 7 (.assign (kI 0))])
 (.block 0 (.loop (.seq (.seq (rg [oO 10 (.move (tT 7)), oO 11 (.binOp .lss 3 (tT 10) (kI 3) 3)])
 (.cond (tT 11) (.skip)
 (.exit 0)))
 (.seq (.block 1 (.seq (.seq (rg [oO 14 (.move (tT 7)), oO 15 (.move (tT 0)), oO 16 (cB .len #[tT 15] #[26]), oO 17 (.binOp .geq 3 (tT 14) (tT 16) 3)])
 (.cond (tT 17) (.seq (rg [oO 18 (.move (tT 0)), oO 19 (cB .len #[tT 18] #[26]), oO 2 (.assign (kI 0)), oO 3 (.assign (kI 0)), oO 4 (.assign (tT 19)), oO 5 (.assign (kI 2))])
 (.ret))
 (.skip)))
 (.seq (.reg true [] [⟨⟨some 20, .move (tT 0), none⟩, false, true⟩, ⟨⟨some 21, .move (tT 7), none⟩, false, true⟩, ⟨⟨some 22, .indexAddr 26 (tT 20) (tT 21), none⟩, false, true⟩, ⟨⟨some 23, .load 5 (tT 22), none⟩, false, true⟩, ⟨⟨some 24, .move (tT 6), none⟩, false, true⟩, oO 25 (.move (tT 7)), oO 26 (.indexAddr 26 (tT 24) (tT 25)), oO 27 (.load 5 (tT 26)), oO 28 (.binOp .neq 5 (tT 23) (tT 27) 5)])
 (.cond (tT 28) (.seq (rg [oO 29 (.move (tT 7)), oO 2 (.assign (kI 0)), oO 3 (.assign (kI 0)), oO 4 (.assign (tT 29)), oO 5 (.assign (kI 64))])
 (.ret))
 (.skip)))))
 (rg [oO 12 (.move (tT 7)), oO 13 (.binOp .add 3 (tT 12) (kI 1) 3), oO 7 (.assign (tT 13))]))))))
 (.seq (.seq (rg [oO 30 (.move (tT 0)), oO 31 (cB .len #[tT 30] #[26]), oO 32 (.binOp .lss 3 (tT 31) (kI 6) 3)])
 (.cond (tT 32) (.seq (rg [oO 33 (.move (tT 0)), oO 34 (cB .len #[tT 33] #[26]), oO 2 (.assign (kI 0)), oO 3 (.assign (kI 0)), oO 4 (.assign (tT 34)), oO 5 (.assign (kI 2))])
 (.ret))
 (.skip)))
 (.seq (.seq (rg [oO 35 (.move (tT 0)), oO 36 (.indexAddr 26 (tT 35) (kI 3)), oO 37 (.load 5 (tT 36)), oO 38 (.binOp .gtr 5 (tT 37) (kB 16) 5)])
 (.cond (tT 38) (.seq (rg [oO 2 (.assign (kI 0)), oO 3 (.assign (kI 0)), oO 4 (.assign (kI 3)), oO 5 (.assign (kI 5))])
 (.ret))
 (.skip)))
 (.seq (.reg true [] [⟨⟨some 39, .move (tT 0), none⟩, false, true⟩, ⟨⟨some 40, .indexAddr 26 (tT 39) (kI 4), none⟩, false, true⟩, ⟨⟨some 41, .load 5 (tT 40), none⟩, false, true⟩, ⟨⟨some 42, .convert 5 3 (tT 41), none⟩, false, true⟩, ⟨⟨some 43, .binOp .mul 3 (kI 256) (tT 42) 3, none⟩, false, true⟩, oO 44 (.move (tT 0)), oO 45 (.indexAddr 26 (tT 44) (kI 5)), oO 46 (.load 5 (tT 45)), oO 47 (.convert 5 3 (tT 46)), oO 48 (.binOp .add 3 (tT 43) (tT 47) 3), oO 8 (.assign (tT 48))])
 (.seq (.seq (rg [oO 49 (.move (tT 8)), oO 50 (.binOp .gtr 3 (tT 49) (kI 4096) 3)])
 (.cond (tT 50) (.seq (rg [oO 2 (.assign (kI 0)), oO 3 (.assign (kI 0)), oO 4 (.assign (kI 4)), oO 5 (.assign (kI 4))])
 (.ret))
 (.skip)))
 (.seq (rg [oO 51 (.move (tT 0)), oO 52 (.indexAddr 26 (tT 51) (kI 3)), oO 53 (.load 5 (tT 52)), oO 54 (.convert 5 3 (tT 53)), oO 55 (.move (tT 8)), oO 2 (.assign (tT 54)), oO 3 (.assign (tT 55)), oO 4 (.assign (kI 0)), oO 5 (.assign (kI 0))])
 .ret)))))))
theorem F116 : Fun1 Tryz.prog 116 56 c116 [.tmp 2, .tmp 3, .tmp 4, .tmp 5] := mkT Tryz.func116 rfl (by decide +kernel) Tryz.ntmps116 rfl (by kernel_rfl) rfl
def c117 : AC :=
.seq (rg [oO 8 (.alloc 86), oO 9 (.assign (kI 0)), oO 10 (.assign (kI 0))])
 (.seq (rg [oO 11 (.alloc 86)])
 (.seq (.seq (rg [oO 18 (.move (tT 2)), oO 19 (.binOp .add 3 (tT 18) (kI 1) 3), oO 20 (.move (tT 0)), oO 21 (cB .len #[tT 20] #[26]), oO 22 (.binOp .geq 3 (tT 19) (tT 21) 3)])
 (.cond (tT 22) (.seq (rg [oO 23 (.load 86 (tT 11)), oO 24 (.move (tT 0)), oO 25 (cB .len #[tT 24] #[26]), oN (.store 86 (tT 8) (tT 23)), oO 9 (.assign (tT 25)), oO 10 (.assign (kI 2))])
 (.ret))
 (.skip)))
 (.seq (.reg true [] [⟨⟨some 26, .move (tT 0), none⟩, false, true⟩, ⟨⟨some 27, .move (tT 2), none⟩, false, true⟩, ⟨⟨some 28, .indexAddr 26 (tT 26) (tT 27), none⟩, false, true⟩, ⟨⟨some 29, .load 5 (tT 28), none⟩, false, true⟩, ⟨⟨some 30, .convert 5 3 (tT 29), none⟩, false, true⟩, ⟨⟨some 31, .binOp .mul 3 (kI 256) (tT 30) 3, none⟩, false, true⟩, ⟨⟨some 32, .move (tT 0), none⟩, false, true⟩, oO 33 (.move (tT 2)), oO 34 (.binOp .add 3 (tT 33) (kI 1) 3), oO 35 (.indexAddr 26 (tT 32) (tT 34)), oO 36 (.load 5 (tT 35)), oO 37 (.convert 5 3 (tT 36)), oO 38 (.binOp .add 3 (tT 31) (tT 37) 3), oO 12 (.assign (tT 38))])
 (.seq (rg [oO 39 (.move (tT 12)), oO 40 (.move (tT 3)), oO 41 (cF (.func 108) #[tT 39, tT 40] #[3, 3]), oO 13 (.assign (tT 41))])
 (.seq (.seq (rg [oO 42 (.move (tT 13)), oO 43 (.binOp .neq 32 (tT 42) (kI 0) 32)])
 (.cond (tT 43) (.seq (rg [oO 44 (.load 86 (tT 11)), oO 45 (.move (tT 2)), oO 46 (.move (tT 13)), oN (.store 86 (tT 8) (tT 44)), oO 9 (.assign (tT 45)), oO 10 (.assign (tT 46))])
 (.ret))
 (.skip)))
 (.seq (.seq (rg [oO 47 (.move (tT 2)), oO 48 (.binOp .add 3 (tT 47) (kI 2) 3), oO 49 (.move (tT 0)), oO 50 (cB .len #[tT 49] #[26]), oO 51 (.binOp .geq 3 (tT 48) (tT 50) 3)])
 (.cond (tT 51) (.seq (rg [oO 52 (.load 86 (tT 11)), oO 53 (.move (tT 0)), oO 54 (cB .len #[tT 53] #[26]), oN (.store 86 (tT 8) (tT 52)), oO 9 (.assign (tT 54)), oO 10 (.assign (kI 2))])
 (.ret))
 (.skip)))
 (.seq (.seq (rg [oO 55 (.move (tT 0)), oO 56 (.move (tT 2)), oO 57 (.binOp .add 3 (tT 56) (kI 2) 3), oO 58 (.indexAddr 26 (tT 55) (tT 57)), oO 59 (.load 5 (tT 58)), oO 60 (.binOp .gtr 5 (tT 59) (kB 1) 5)])
 (.cond (tT 60) (.seq (rg [oO 61 (.load 86 (tT 11)), oO 62 (.move (tT 2)), oO 63 (.binOp .add 3 (tT 62) (kI 2) 3), oN (.store 86 (tT 8) (tT 61)), oO 9 (.assign (tT 63)), oO 10 (.assign (kI 63))])
 (.ret))
 (.skip)))
 (.seq (.seq (rg [oO 64 (.move (tT 0)), oO 65 (.move (tT 2)), oO 66 (.binOp .add 3 (tT 65) (kI 2) 3), oO 67 (.indexAddr 26 (tT 64) (tT 66)), oO 68 (.load 5 (tT 67)), oO 69 (.binOp .eql 5 (tT 68) (kB 0) 5)])
 (.cond (tT 69) (.seq (rg [oO 70 (.move (tT 12)), oO 71 (.build 86 #[(0, .tmp 70), (1, .const (.bool true))]), oO 72 (.move (tT 2)), oO 73 (.binOp .add 3 (tT 72) (kI 3) 3), oN (.store 86 (tT 8) (tT 71)), oO 9 (.assign (tT 73)), oO 10 (.assign (kI 0))])
 (.ret))
 (.skip)))
 (.seq (.seq (rg [oO 74 (.move (tT 2)), oO 75 (.binOp .add 3 (tT 74) (kI 3) 3), oO 76 (.move (tT 0)), oO 77 (cB .len #[tT 76] #[26]), oO 78 (.binOp .geq 3 (tT 75) (tT 77) 3)])
 (.cond (tT 78) (.seq (rg [oO 79 (.load 86 (tT 11)), oO 80 (.move (tT 0)), oO 81 (cB .len #[tT 80] #[26]), oN (.store 86 (tT 8) (tT 79)), oO 9 (.assign (tT 81)), oO 10 (.assign (kI 2))])
 (.ret))
 (.skip)))
 (.seq (rg [oO 82 (.move (tT 0)), oO 83 (.move (tT 2)), oO 84 (.binOp .add 3 (tT 83) (kI 3) 3), oO 85 (.indexAddr 26 (tT 82) (tT 84)), oO 86 (.load 5 (tT 85)), oO 87 (.convert 5 3 (tT 86)), oO 14 (.assign (tT 87))])
 (.seq (.seq (rg [oO 88 (.move (tT 14)), oO 89 (.move (tT 1)), oO 90 (.binOp .sub 3 (kI 24) (tT 89) 3), oO 91 (.binOp .gtr 3 (tT 88) (tT 90) 3)])
 (.cond (tT 91) (.seq (rg [oO 92 (.load 86 (tT 11)), oO 93 (.move (tT 2)), oO 94 (.binOp .add 3 (tT 93) (kI 3) 3), oN (.store 86 (tT 8) (tT 92)), oO 9 (.assign (tT 94)), oO 10 (.assign (kI 65))])
 (.ret))
 (.skip)))
 (.seq (rg [oO 95 (.move (tT 1)), oO 96 (.move (tT 14)), oO 97 (.build 84 #[(0, .tmp 95), (1, .tmp 96)]), oO 15 (.alloc 84), oN (.store 84 (tT 15) (tT 97))])
 (.seq (.seq (rg [oO 16 (.assign (kI 0))])
 (.block 0 (.loop (.seq (.seq (rg [oO 98 (.move (tT 16)), oO 99 (.move (tT 1)), oO 100 (.move (tT 14)), oO 101 (.binOp .add 3 (tT 99) (tT 100) 3), oO 102 (.binOp .lss 3 (tT 98) (tT 101) 3)])
 (.cond (tT 102) (.skip)
 (.exit 0)))
 (.seq (.block 1 (.seq (rg [oO 105 (.move (tT 2)), oO 106 (.binOp .add 3 (tT 105) (kI 4) 3), oO 107 (.move (tT 16)), oO 108 (.binOp .add 3 (tT 106) (tT 107) 3), oO 17 (.assign (tT 108))])
 (.seq (.seq (rg [oO 109 (.move (tT 17)), oO 110 (.move (tT 0)), oO 111 (cB .len #[tT 110] #[26]), oO 112 (.binOp .geq 3 (tT 109) (tT 111) 3)])
 (.cond (tT 112) (.seq (rg [oO 113 (.load 86 (tT 11)), oO 114 (.move (tT 0)), oO 115 (cB .len #[tT 114] #[26]), oN (.store 86 (tT 8) (tT 113)), oO 9 (.assign (tT 115)), oO 10 (.assign (kI 2))])
 (.ret))
 (.skip)))
 (.seq (.seq (rg [oO 116 (.move (tT 0)), oO 117 (.move (tT 17)), oO 118 (.indexAddr 26 (tT 116) (tT 117)), oO 119 (.load 5 (tT 118)), oO 120 (cF (.func 149) #[tT 119] #[81]), oO 121 (.unOp .not 4 (tT 120))])
 (.cond (tT 121) (.seq (rg [oO 122 (.load 86 (tT 11)), oO 123 (.move (tT 17)), oN (.store 86 (tT 8) (tT 122)), oO 9 (.assign (tT 123)), oO 10 (.assign (kI 62))])
 (.ret))
 (.skip)))
 (rg [oO 124 (.move (tT 16)), oO 125 (.move (tT 0)), oO 126 (.move (tT 17)), oO 127 (.indexAddr 26 (tT 125) (tT 126)), oO 128 (.load 5 (tT 127)), oO 129 (.fieldAddr 84 (tT 15) 2), oO 130 (.indexAddr 82 (tT 129) (tT 124)), oN (.store 81 (tT 130) (tT 128))])))))
 (rg [oO 103 (.move (tT 16)), oO 104 (.binOp .add 3 (tT 103) (kI 1) 3), oO 16 (.assign (tT 104))]))))))
 (.seq (rg [oO 131 (.move (tT 12)), oO 132 (.load 84 (tT 15)), oO 133 (.build 86 #[(0, .tmp 131), (2, .tmp 132)]), oO 134 (.move (tT 2)), oO 135 (.binOp .add 3 (tT 134) (kI 4) 3), oO 136 (.move (tT 1)), oO 137 (.binOp .add 3 (tT 135) (tT 136) 3), oO 138 (.move (tT 14)), oO 139 (.binOp .add 3 (tT 137) (tT 138) 3), oN (.store 86 (tT 8) (tT 133)), oO 9 (.assign (tT 139)), oO 10 (.assign (kI 0))])
 .ret))))))))))))))
theorem F117 : Fun1 Tryz.prog 117 140 c117 [.cell 8 86, .tmp 9, .tmp 10] := mkT Tryz.func117 rfl (by decide +kernel) Tryz.ntmps117 rfl (by kernel_rfl) rfl
def c108 : AC :=
.seq (rg [oO 4 (.assign (kI 0))])
 (.seq (.seq (rg [oO 5 (.move (tT 0)), oO 6 (.binOp .lss 3 (tT 5) (kI 0) 3), oO 7 (.move (tT 6)), oG 8 (.move (tT 0)) 7 false, oG 9 (.binOp .gtr 3 (tT 8) (kI 4095) 3) 7 false, oO 10 (.pick (tT 7) (.const (.bool true)) (tT 9))])
 (.cond (tT 10) (.seq (rg [oO 4 (.assign (kI 5))])
 (.ret))
 (.skip)))
 (.seq (.seq (rg [oO 11 (.move (tT 0)), oO 12 (.move (tT 1)), oO 13 (.binOp .eql 3 (tT 11) (tT 12) 3)])
 (.cond (tT 13) (.seq (rg [oO 4 (.assign (kI 61))])
 (.ret))
 (.skip)))
 (.seq (.seq (rg [oO 14 (.move (tT 0)), oO 15 (.move (tT 1)), oO 16 (.binOp .lss 3 (tT 14) (tT 15) 3)])
 (.cond (tT 16) (.seq (rg [oO 4 (.assign (kI 60))])
 (.ret))
 (.skip)))
 (.seq (rg [oO 4 (.assign (kI 0))])
 .ret))))
theorem F108 : Fun1 Tryz.prog 108 17 c108 [.tmp 4] := mkT Tryz.func108 rfl (by decide +kernel) Tryz.ntmps108 rfl (by kernel_rfl) rfl
def c149 : AC :=
.seq (rg [oO 2 (.assign (.const (.bool false)))])
 (.seq (rg [oO 3 (.move (tT 0)), oO 4 (.binOp .leq 81 (tT 3) (kB 5) 81), oO 5 (.move (tT 4)), oG 6 (.move (tT 0)) 5 false, oG 7 (.binOp .geq 81 (tT 6) (kB 16) 81) 5 false, oG 8 (.move (tT 7)) 5 false, oG 9 (.move (tT 0)) 8 true, oG 10 (.binOp .leq 81 (tT 9) (kB 47) 81) 8 true, oG 11 (.pick (tT 8) (tT 10) (.const (.bool false))) 5 false, oO 12 (.pick (tT 5) (.const (.bool true)) (tT 11)), oO 2 (.assign (tT 12))])
 .ret)
theorem F149 : Fun1 Tryz.prog 149 13 c149 [.tmp 2] := mkT Tryz.func149 rfl (by decide +kernel) Tryz.ntmps149 rfl (by kernel_rfl) rfl
def c134 : AC :=
.seq (rg [oO 2 (.assign (.const (.pointer none))), oO 3 (.assign (kI 0)), oO 4 (.assign (kI 0))])
 (.seq (.seq (rg [oO 8 (.buildSlice 26 3 #[(0, kB 112), (1, kB 118), (2, kB 1)]), oO 9 (cB .len #[tT 8] #[26]), oO 10 (.move (kI 0))])
 (.block 0 (.loop (.seq (rg [oO 11 (.binOp .lss 3 (tT 10) (tT 9) 3)])
 (.seq (.cond (tT 11) (.skip)
 (.exit 0))
 (.seq (.block 1 (.seq (rg [oO 12 (.move (tT 10)), oO 13 (.indexAddr 26 (tT 8) (tT 10)), oO 14 (.load 5 (tT 13)), oO 5 (.assign (tT 12)), oO 6 (.assign (tT 14))])
 (.seq (.seq (rg [oO 15 (.move (tT 5)), oO 16 (.move (tT 0)), oO 17 (cB .len #[tT 16] #[26]), oO 18 (.binOp .eql 3 (tT 15) (tT 17) 3)])
 (.cond (tT 18) (.seq (rg [oO 19 (.move (tT 5)), oO 2 (.assign (.const (.pointer none))), oO 3 (.assign (tT 19)), oO 4 (.assign (kI 2))])
 (.ret))
 (.skip)))
 (.seq (rg [oO 20 (.move (tT 0)), oO 21 (.move (tT 5)), oO 22 (.indexAddr 26 (tT 20) (tT 21)), oO 23 (.load 5 (tT 22)), oO 24 (.move (tT 6)), oO 25 (.binOp .neq 5 (tT 23) (tT 24) 5)])
 (.cond (tT 25) (.seq (rg [oO 26 (.move (tT 5)), oO 2 (.assign (.const (.pointer none))), oO 3 (.assign (tT 26)), oO 4 (.assign (kI 64))])
 (.ret))
 (.skip))))))
 (rg [oO 27 (.binOp .add 3 (tT 10) (kI 1) 3), oO 10 (.move (tT 27))])))))))
 (.seq (.block 2 (.seq (rg [oO 29 (.move (tT 0)), oO 30 (cB .len #[tT 29] #[26]), oO 31 (.binOp .lss 3 (tT 30) (kI 6) 3), oO 28 (.assign (tT 31))])
 (.cond (tT 28) (.seq (rg [oO 32 (.move (tT 0)), oO 33 (cB .len #[tT 32] #[26]), oO 2 (.assign (.const (.pointer none))), oO 3 (.assign (tT 33)), oO 4 (.assign (kI 2))])
 (.ret))
 (.seq (rg [oO 35 (.move (tT 0)), oO 36 (.indexAddr 26 (tT 35) (kI 3)), oO 37 (.load 5 (tT 36)), oO 38 (.binOp .gtr 5 (tT 37) (kB 16) 5), oO 34 (.assign (tT 38))])
 (.cond (tT 34) (.seq (rg [oO 2 (.assign (.const (.pointer none))), oO 3 (.assign (kI 3)), oO 4 (.assign (kI 5))])
 (.ret))
 (.seq (rg [oO 40 (.move (tT 0)), oO 41 (.slice 26 (tT 40) (some (kI 4)) none none), oO 42 (cF (.func 167) #[tT 41] #[26]), oO 43 (.binOp .gtr 3 (tT 42) (kI 4096) 3), oO 39 (.assign (tT 43))])
 (.cond (tT 39) (.seq (rg [oO 2 (.assign (.const (.pointer none))), oO 3 (.assign (kI 4)), oO 4 (.assign (kI 4))])
 (.ret))
 (.skip))))))))
 (.seq (rg [oO 44 (.move (tT 0)), oO 45 (.slice 26 (tT 44) (some (kI 4)) none none), oO 46 (cF (.func 167) #[tT 45] #[26]), oO 7 (.assign (tT 46))])
 (.seq (rg [oO 47 (.move (tT 0)), oO 48 (.move (tT 7)), oO 49 (.move (tT 7)), oO 50 (.build 199 #[(0, .tmp 47), (1, kI 6), (2, kI (-1)), (3, .tmp 48), (4, .tmp 49), (7, .const (.bool true))]), oO 51 (.box 199 (tT 50)), oO 2 (.assign (tT 51)), oO 3 (.assign (kI 0)), oO 4 (.assign (kI 0))])
 .ret))))
theorem F134 : Fun1 Tryz.prog 134 52 c134 [.tmp 2, .tmp 3, .tmp 4] := mkT Tryz.func134 rfl (by decide +kernel) Tryz.ntmps134 rfl (by kernel_rfl) rfl
def c167 : AC :=
.seq (rg [oO 2 (.assign (kI 0))])
 (.seq (.reg true [] [⟨⟨some 3, .move (tT 0), none⟩, false, true⟩, ⟨⟨some 4, .indexAddr 26 (tT 3) (kI 0), none⟩, false, true⟩, ⟨⟨some 5, .load 5 (tT 4), none⟩, false, true⟩, ⟨⟨some 6, .convert 5 3 (tT 5), none⟩, false, true⟩, ⟨⟨some 7, .binOp .shl 3 (tT 6) (.const (.int .u64 8)) 67, none⟩, false, true⟩, oO 8 (.move (tT 0)), oO 9 (.indexAddr 26 (tT 8) (kI 1)), oO 10 (.load 5 (tT 9)), oO 11 (.convert 5 3 (tT 10)), oO 12 (.binOp .or 3 (tT 7) (tT 11) 3), oO 2 (.assign (tT 12))])
 .ret)
theorem F167 : Fun1 Tryz.prog 167 13 c167 [.tmp 2] := mkT Tryz.func167 rfl (by decide +kernel) Tryz.ntmps167 rfl (by kernel_rfl) rfl
def c135 : AC :=
.seq (rg [oO 2 (.assign (kI 0))])
 (.seq (.seq (rg [oO 3 (.move (tT 0)), oO 4 (.binOp .eql 192 (tT 3) (.const (.pointer none)) 192), oO 5 (.move (tT 4)), oG 6 (.move (tT 0)) 5 false, oG 7 (.nilCheck (tT 6)) 5 false, oG 8 (.fieldAddr 199 (tT 7) 7) 5 false, oG 9 (.load 4 (tT 8)) 5 false, oG 10 (.unOp .not 4 (tT 9)) 5 false, oO 11 (.pick (tT 5) (.const (.bool true)) (tT 10))])
 (.cond (tT 11) (.seq (rg [oO 2 (.assign (kI 0))])
 (.ret))
 (.skip)))
 (.seq (rg [oO 12 (.move (tT 0)), oO 13 (.nilCheck (tT 12)), oO 14 (.fieldAddr 199 (tT 13) 0), oO 15 (.load 26 (tT 14)), oO 16 (.indexAddr 26 (tT 15) (kI 3)), oO 17 (.load 5 (tT 16)), oO 18 (.convert 5 3 (tT 17)), oO 2 (.assign (tT 18))])
 .ret))
theorem F135 : Fun1 Tryz.prog 135 19 c135 [.tmp 2] := mkT Tryz.func135 rfl (by decide +kernel) Tryz.ntmps135 rfl (by kernel_rfl) rfl
def c165 : AC :=
.seq (rg [oO 4 (.assign (kI 0))])
 (.seq (.block 0 (.seq (rg [oO 6 (.move (tT 1)), oO 7 (.binOp .lss 3 (tT 6) (kI 0) 3), oO 8 (.move (tT 7)), oG 9 (.move (tT 1)) 8 false, oG 10 (.binOp .geq 3 (tT 9) (kI 4096) 3) 8 false, oO 11 (.pick (tT 8) (.const (.bool true)) (tT 10)), oO 5 (.assign (tT 11))])
 (.cond (tT 5) (.seq (rg [oO 4 (.assign (kI 5))])
 (.ret))
 (.seq (rg [oO 13 (.move (tT 1)), oO 14 (.move (tT 0)), oO 15 (.binOp .eql 3 (tT 13) (tT 14) 3), oO 12 (.assign (tT 15))])
 (.cond (tT 12) (.seq (rg [oO 4 (.assign (kI 61))])
 (.ret))
 (.seq (rg [oO 17 (.move (tT 1)), oO 18 (.move (tT 0)), oO 19 (.binOp .lss 3 (tT 17) (tT 18) 3), oO 16 (.assign (tT 19))])
 (.cond (tT 16) (.seq (rg [oO 4 (.assign (kI 60))])
 (.ret))
 (.skip))))))))
 (.seq (rg [oO 4 (.assign (kI 0))])
 .ret))
theorem F165 : Fun1 Tryz.prog 165 20 c165 [.tmp 4] := mkT Tryz.func165 rfl (by decide +kernel) Tryz.ntmps165 rfl (by kernel_rfl) rfl
def c204 : AC :=
.seq (rg [oO 2 (.assign (.const (.bool false)))])
 (.seq (rg [oO 3 (.move (tT 0)), oO 4 (.binOp .leq 81 (tT 3) (kB 5) 81), oO 5 (.move (tT 4)), oG 6 (.move (tT 0)) 5 false, oG 7 (.binOp .geq 81 (tT 6) (kB 16) 81) 5 false, oG 8 (.move (tT 7)) 5 false, oG 9 (.move (tT 0)) 8 true, oG 10 (.binOp .lss 81 (tT 9) (kB 48) 81) 8 true, oG 11 (.pick (tT 8) (tT 10) (.const (.bool false))) 5 false, oO 12 (.pick (tT 5) (.const (.bool true)) (tT 11)), oO 2 (.assign (tT 12))])
 .ret)
theorem F204 : Fun1 Tryz.prog 204 13 c204 [.tmp 2] := mkT Tryz.func204 rfl (by decide +kernel) Tryz.ntmps204 rfl (by kernel_rfl) rfl
def c205 : AC :=
.seq (rg [oO 2 (.alloc 86), oO 3 (.assign (kI 0)), oO 4 (.assign (kI 0))])
 (.seq (.reg true [0] [⟨⟨some 12, .build 86 #[], none⟩, false, true⟩, ⟨⟨some 13, .move (tT 0), none⟩, true, true⟩, ⟨⟨some 14, .nilCheck (tT 13), none⟩, true, true⟩, ⟨⟨some 15, .fieldAddr 199 (tT 14) 0, none⟩, true, true⟩, ⟨⟨some 16, .load 26 (tT 15), none⟩, true, true⟩, ⟨⟨some 17, .move (tT 0), none⟩, true, true⟩, ⟨⟨some 18, .nilCheck (tT 17), none⟩, true, true⟩, ⟨⟨some 19, .fieldAddr 199 (tT 18) 1, none⟩, true, true⟩, ⟨⟨some 20, .load 3 (tT 19), none⟩, true, true⟩, oO 5 (.alloc 86), oN (.store 86 (tT 5) (tT 12)), oO 6 (.assign (tT 16)), oO 7 (.assign (tT 20))])
 (.seq (.seq (rg [oO 21 (.move (tT 6)), oO 22 (cB .len #[tT 21] #[26]), oO 23 (.move (tT 7)), oO 24 (.binOp .sub 3 (tT 22) (tT 23) 3), oO 25 (.binOp .lss 3 (tT 24) (kI 2) 3)])
 (.cond (tT 25) (.seq (rg [oO 26 (.load 86 (tT 5)), oO 27 (.move (tT 6)), oO 28 (cB .len #[tT 27] #[26]), oN (.store 86 (tT 2) (tT 26)), oO 3 (.assign (tT 28)), oO 4 (.assign (kI 2))])
 (.ret))
 (.skip)))
 (.seq (rg [oO 29 (.move (tT 6)), oO 30 (.move (tT 7)), oO 31 (.slice 26 (tT 29) (some (tT 30)) none none), oO 32 (cF (.func 167) #[tT 31] #[26]), oO 33 (.build 86 #[(0, .tmp 32)]), oO 8 (.alloc 86), oN (.store 86 (tT 8) (tT 33))])
 (.seq (.seq (.reg true [] [⟨⟨some 34, .move (tT 0), none⟩, false, true⟩, ⟨⟨some 35, .nilCheck (tT 34), none⟩, false, true⟩, ⟨⟨some 36, .fieldAddr 199 (tT 35) 2, none⟩, false, true⟩, ⟨⟨some 37, .load 3 (tT 36), none⟩, false, true⟩, oO 38 (.fieldAddr 86 (tT 8) 0), oO 39 (.load 3 (tT 38)), oO 40 (cF (.func 165) #[tT 37, tT 39] #[3, 3]), oO 9 (.assign (tT 40))])
 (.seq (rg [oO 41 (.move (tT 9)), oO 42 (.binOp .neq 32 (tT 41) (kI 0) 32)])
 (.cond (tT 42) (.seq (rg [oO 43 (.load 86 (tT 5)), oO 44 (.move (tT 7)), oO 45 (.move (tT 9)), oN (.store 86 (tT 2) (tT 43)), oO 3 (.assign (tT 44)), oO 4 (.assign (tT 45))])
 (.ret))
 (.skip))))
 (.seq (rg [oO 46 (.move (tT 7)), oO 47 (.binOp .add 3 (tT 46) (kI 2) 3), oO 7 (.assign (tT 47))])
 (.seq (.seq (rg [oO 48 (.move (tT 7)), oO 49 (.move (tT 6)), oO 50 (cB .len #[tT 49] #[26]), oO 51 (.binOp .eql 3 (tT 48) (tT 50) 3)])
 (.cond (tT 51) (.seq (rg [oO 52 (.load 86 (tT 5)), oO 53 (.move (tT 7)), oN (.store 86 (tT 2) (tT 52)), oO 3 (.assign (tT 53)), oO 4 (.assign (kI 2))])
 (.ret))
 (.skip)))
 (.seq (.seq (rg [oO 54 (.move (tT 6)), oO 55 (.move (tT 7)), oO 56 (.indexAddr 26 (tT 54) (tT 55)), oO 57 (.load 5 (tT 56)), oO 58 (.binOp .gtr 5 (tT 57) (kB 1) 5)])
 (.cond (tT 58) (.seq (rg [oO 59 (.load 86 (tT 5)), oO 60 (.move (tT 7)), oN (.store 86 (tT 2) (tT 59)), oO 3 (.assign (tT 60)), oO 4 (.assign (kI 63))])
 (.ret))
 (.skip)))
 (.seq (.seq (rg [oO 61 (.move (tT 6)), oO 62 (.move (tT 7)), oO 63 (.indexAddr 26 (tT 61) (tT 62)), oO 64 (.load 5 (tT 63)), oO 65 (.binOp .eql 5 (tT 64) (kB 0) 5)])
 (.cond (tT 65) (.seq (rg [oO 66 (.fieldAddr 86 (tT 8) 1), oN (.store 4 (tT 66) (.const (.bool true)))])
 (.seq (rg [oO 67 (.load 86 (tT 8)), oO 68 (.move (tT 7)), oO 69 (.binOp .add 3 (tT 68) (kI 1) 3), oN (.store 86 (tT 2) (tT 67)), oO 3 (.assign (tT 69)), oO 4 (.assign (kI 0))])
 (.ret)))
 (.skip)))
 (.seq (rg [oO 70 (.move (tT 7)), oO 71 (.binOp .add 3 (tT 70) (kI 1) 3), oO 7 (.assign (tT 71))])
 (.seq (.seq (rg [oO 72 (.move (tT 7)), oO 73 (.move (tT 6)), oO 74 (cB .len #[tT 73] #[26]), oO 75 (.binOp .eql 3 (tT 72) (tT 74) 3)])
 (.cond (tT 75) (.seq (rg [oO 76 (.load 86 (tT 5)), oO 77 (.move (tT 7)), oN (.store 86 (tT 2) (tT 76)), oO 3 (.assign (tT 77)), oO 4 (.assign (kI 2))])
 (.ret))
 (.skip)))
 (.seq (.seq (.reg true [6] [⟨⟨some 78, .move (tT 6), none⟩, false, true⟩, ⟨⟨some 79, .indexAddr 26 (tT 78) (kI 3), none⟩, false, true⟩, ⟨⟨some 80, .load 5 (tT 79), none⟩, false, true⟩, ⟨⟨some 81, .convert 5 3 (tT 80), none⟩, false, true⟩, ⟨⟨some 82, .move (tT 6), none⟩, true, true⟩, ⟨⟨some 83, .move (tT 7), none⟩, true, true⟩, ⟨⟨some 84, .indexAddr 26 (tT 82) (tT 83), none⟩, true, true⟩, ⟨⟨some 85, .load 5 (tT 84), none⟩, true, true⟩, ⟨⟨some 86, .convert 5 3 (tT 85), none⟩, true, true⟩, oO 87 (.fieldAddr 86 (tT 8) 2), oO 88 (.fieldAddr 84 (tT 87) 0), oN (.store 3 (tT 88) (tT 81))])
 (rg [oO 89 (.fieldAddr 86 (tT 8) 2), oO 90 (.fieldAddr 84 (tT 89) 1), oN (.store 3 (tT 90) (tT 86))]))
 (.seq (rg [oO 91 (.fieldAddr 86 (tT 8) 2), oO 92 (.fieldAddr 84 (tT 91) 0), oO 93 (.load 3 (tT 92)), oO 94 (.fieldAddr 86 (tT 8) 2), oO 95 (.fieldAddr 84 (tT 94) 1), oO 96 (.load 3 (tT 95)), oO 97 (.binOp .add 3 (tT 93) (tT 96) 3), oO 10 (.assign (tT 97))])
 (.seq (.seq (rg [oO 98 (.move (tT 10)), oO 99 (.binOp .gtr 3 (tT 98) (kI 24) 3)])
 (.cond (tT 99) (.seq (rg [oO 100 (.load 86 (tT 5)), oO 101 (.move (tT 7)), oN (.store 86 (tT 2) (tT 100)), oO 3 (.assign (tT 101)), oO 4 (.assign (kI 65))])
 (.ret))
 (.skip)))
 (.seq (rg [oO 102 (.move (tT 7)), oO 103 (.binOp .add 3 (tT 102) (kI 1) 3), oO 7 (.assign (tT 103))])
 (.seq (.seq (rg [oO 104 (.move (tT 10)), oO 105 (.move (kI 0))])
 (.block 0 (.loop (.seq (rg [oO 106 (.binOp .lss 3 (tT 105) (tT 104) 3)])
 (.seq (.cond (tT 106) (.skip)
 (.exit 0))
 (.seq (.block 1 (.seq (rg [oO 107 (.move (tT 105)), oO 11 (.assign (tT 107))])
 (.seq (.seq (rg [oO 108 (.move (tT 7)), oO 109 (.move (tT 6)), oO 110 (cB .len #[tT 109] #[26]), oO 111 (.binOp .eql 3 (tT 108) (tT 110) 3)])
 (.cond (tT 111) (.seq (rg [oO 112 (.load 86 (tT 5)), oO 113 (.move (tT 7)), oN (.store 86 (tT 2) (tT 112)), oO 3 (.assign (tT 113)), oO 4 (.assign (kI 2))])
 (.ret))
 (.skip)))
 (.seq (.seq (rg [oO 114 (.move (tT 6)), oO 115 (.move (tT 7)), oO 116 (.indexAddr 26 (tT 114) (tT 115)), oO 117 (.load 5 (tT 116)), oO 118 (cF (.func 204) #[tT 117] #[81]), oO 119 (.unOp .not 4 (tT 118))])
 (.cond (tT 119) (.seq (rg [oO 120 (.load 86 (tT 5)), oO 121 (.move (tT 7)), oN (.store 86 (tT 2) (tT 120)), oO 3 (.assign (tT 121)), oO 4 (.assign (kI 62))])
 (.ret))
 (.skip)))
 (.seq (rg [oO 122 (.move (tT 11)), oO 123 (.move (tT 6)), oO 124 (.move (tT 7)), oO 125 (.indexAddr 26 (tT 123) (tT 124)), oO 126 (.load 5 (tT 125)), oO 127 (.fieldAddr 86 (tT 8) 2), oO 128 (.fieldAddr 84 (tT 127) 2), oO 129 (.indexAddr 82 (tT 128) (tT 122)), oN (.store 81 (tT 129) (tT 126))])
 (rg [oO 130 (.move (tT 7)), oO 131 (.binOp .add 3 (tT 130) (kI 1) 3), oO 7 (.assign (tT 131))]))))))
 (rg [oO 132 (.binOp .add 3 (tT 105) (kI 1) 3), oO 105 (.move (tT 132))])))))))
 (.seq (rg [oO 133 (.load 86 (tT 8)), oO 134 (.move (tT 7)), oN (.store 86 (tT 2) (tT 133)), oO 3 (.assign (tT 134)), oO 4 (.assign (kI 0))])
 .ret))))))))))))))))
theorem F205 : Fun1 Tryz.prog 205 135 c205 [.cell 2 86, .tmp 3, .tmp 4] := mkT Tryz.func205 rfl (by decide +kernel) Tryz.ntmps205 rfl (by kernel_rfl) rfl
def c169 : AC :=
.seq (rg [oO 2 (.alloc 86), oO 3 (.assign (.const (.bool false))), oO 4 (.assign (kI 0))])
 (.seq (rg [oO 9 (.build 86 #[]), oO 5 (.alloc 86), oN (.store 86 (tT 5) (tT 9))])
 (.seq (.block 0 (.seq (rg [oO 11 (.move (tT 0)), oO 12 (.binOp .eql 192 (tT 11) (.const (.pointer none)) 192), oO 13 (.move (tT 12)), oG 14 (.move (tT 0)) 13 false, oG 15 (.nilCheck (tT 14)) 13 false, oG 16 (.fieldAddr 199 (tT 15) 7) 13 false, oG 17 (.load 4 (tT 16)) 13 false, oG 18 (.unOp .not 4 (tT 17)) 13 false, oO 19 (.pick (tT 13) (.const (.bool true)) (tT 18)), oO 10 (.assign (tT 19))])
 (.cond (tT 10) (.seq (rg [oO 20 (.load 86 (tT 5)), oN (.store 86 (tT 2) (tT 20)), oO 3 (.assign (.const (.bool false))), oO 4 (.assign (kI 8))])
 (.ret))
 (.seq (rg [oO 22 (.move (tT 0)), oO 23 (.nilCheck (tT 22)), oO 24 (.fieldAddr 199 (tT 23) 6), oO 25 (.load 32 (tT 24)), oO 26 (.binOp .neq 32 (tT 25) (kI 0) 32), oO 21 (.assign (tT 26))])
 (.cond (tT 21) (.seq (.reg true [0] [⟨⟨some 27, .load 86 (tT 5), none⟩, false, true⟩, ⟨⟨some 28, .move (tT 0), none⟩, true, true⟩, ⟨⟨some 29, .nilCheck (tT 28), none⟩, true, true⟩, ⟨⟨some 30, .fieldAddr 199 (tT 29) 6, none⟩, true, true⟩, ⟨⟨some 31, .load 32 (tT 30), none⟩, true, true⟩, oN (.store 86 (tT 2) (tT 27)), oO 3 (.assign (.const (.bool false))), oO 4 (.assign (tT 31))])
 (.ret))
 (.seq (.reg true [] [oO 33 (.move (tT 0)), oO 34 (.nilCheck (tT 33)), oO 35 (.fieldAddr 199 (tT 34) 3), oO 36 (.load 3 (tT 35)), oO 37 (.binOp .eql 3 (tT 36) (kI 0) 3), oO 38 (.move (tT 37)), ⟨⟨some 39, .move (tT 0), some (38, true)⟩, false, true⟩, ⟨⟨some 40, .nilCheck (tT 39), some (38, true)⟩, false, true⟩, ⟨⟨some 41, .fieldAddr 199 (tT 40) 1, some (38, true)⟩, false, true⟩, ⟨⟨some 42, .load 3 (tT 41), some (38, true)⟩, false, true⟩, oG 43 (.move (tT 0)) 38 true, oG 44 (.nilCheck (tT 43)) 38 true, oG 45 (.fieldAddr 199 (tT 44) 0) 38 true, oG 46 (.load 26 (tT 45)) 38 true, oG 47 (cB .len #[tT 46] #[26]) 38 true, oG 48 (.binOp .lss 3 (tT 42) (tT 47) 3) 38 true, oO 49 (.pick (tT 38) (tT 48) (.const (.bool false))), oO 32 (.assign (tT 49))])
 (.cond (tT 32) (.seq (rg [oO 50 (.move (tT 0)), oO 51 (.move (tT 0)), oO 52 (.move (tT 0)), oO 53 (.nilCheck (tT 52)), oO 54 (.fieldAddr 199 (tT 53) 1), oO 55 (.load 3 (tT 54)), oO 56 (.nilCheck (tT 50)), oO 57 (.fieldAddr 199 (tT 56) 5), oN (.store 3 (tT 57) (tT 55)), oO 58 (.nilCheck (tT 51)), oO 59 (.fieldAddr 199 (tT 58) 6), oN (.store 32 (tT 59) (kI 3))])
 (.seq (.reg true [0] [⟨⟨some 60, .load 86 (tT 5), none⟩, false, true⟩, ⟨⟨some 61, .move (tT 0), none⟩, true, true⟩, ⟨⟨some 62, .nilCheck (tT 61), none⟩, true, true⟩, ⟨⟨some 63, .fieldAddr 199 (tT 62) 6, none⟩, true, true⟩, ⟨⟨some 64, .load 32 (tT 63), none⟩, true, true⟩, oN (.store 86 (tT 2) (tT 60)), oO 3 (.assign (.const (.bool false))), oO 4 (.assign (tT 64))])
 (.ret)))
 (.seq (rg [oO 66 (.move (tT 0)), oO 67 (.nilCheck (tT 66)), oO 68 (.fieldAddr 199 (tT 67) 3), oO 69 (.load 3 (tT 68)), oO 70 (.binOp .eql 3 (tT 69) (kI 0) 3), oO 65 (.assign (tT 70))])
 (.cond (tT 65) (.seq (rg [oO 71 (.load 86 (tT 5)), oN (.store 86 (tT 2) (tT 71)), oO 3 (.assign (.const (.bool false))), oO 4 (.assign (kI 0))])
 (.ret))
 (.skip))))))))))
 (.seq (rg [oO 73 (.move (tT 0)), oO 74 (cF (.func 205) #[tT 73] #[192]), oO 72 (.move (tT 74)), oO 75 (.extract (tT 72) 0), oO 76 (.extract (tT 72) 1), oO 77 (.extract (tT 72) 2), oO 6 (.alloc 86), oN (.store 86 (tT 6) (tT 75)), oO 7 (.assign (tT 76)), oO 8 (.assign (tT 77))])
 (.seq (.seq (rg [oO 78 (.move (tT 8)), oO 79 (.binOp .neq 32 (tT 78) (kI 0) 32)])
 (.cond (tT 79) (.seq (rg [oO 80 (.move (tT 0)), oO 81 (.move (tT 0)), oO 82 (.move (tT 7)), oO 83 (.move (tT 8)), oO 84 (.nilCheck (tT 80)), oO 85 (.fieldAddr 199 (tT 84) 5), oN (.store 3 (tT 85) (tT 82)), oO 86 (.nilCheck (tT 81)), oO 87 (.fieldAddr 199 (tT 86) 6), oN (.store 32 (tT 87) (tT 83))])
 (.seq (rg [oO 88 (.load 86 (tT 5)), oO 89 (.move (tT 8)), oN (.store 86 (tT 2) (tT 88)), oO 3 (.assign (.const (.bool false))), oO 4 (.assign (tT 89))])
 (.ret)))
 (.skip)))
 (.seq (.seq (.reg true [6] [⟨⟨some 90, .move (tT 0), none⟩, false, true⟩, ⟨⟨some 91, .move (tT 0), none⟩, true, true⟩, ⟨⟨some 92, .move (tT 7), none⟩, false, true⟩, ⟨⟨some 93, .fieldAddr 86 (tT 6) 0, none⟩, true, true⟩, ⟨⟨some 94, .load 3 (tT 93), none⟩, true, true⟩, oO 95 (.nilCheck (tT 90)), oO 96 (.fieldAddr 199 (tT 95) 1), oN (.store 3 (tT 96) (tT 92))])
 (rg [oO 97 (.nilCheck (tT 91)), oO 98 (.fieldAddr 199 (tT 97) 2), oN (.store 3 (tT 98) (tT 94))]))
 (.seq (rg [oO 99 (.move (tT 0)), oO 100 (.nilCheck (tT 99)), oO 101 (.fieldAddr 199 (tT 100) 3), oO 102 (.load 3 (tT 101)), oO 103 (.binOp .sub 3 (tT 102) (kI 1) 3), oO 104 (.nilCheck (tT 99)), oO 105 (.fieldAddr 199 (tT 104) 3), oN (.store 3 (tT 105) (tT 103))])
 (.seq (rg [oO 106 (.load 86 (tT 6)), oN (.store 86 (tT 2) (tT 106)), oO 3 (.assign (.const (.bool true))), oO 4 (.assign (kI 0))])
 .ret)))))))
theorem F169 : Fun1 Tryz.prog 169 107 c169 [.cell 2 86, .tmp 3, .tmp 4] := mkT Tryz.func169 rfl (by decide +kernel) Tryz.ntmps169 rfl (by kernel_rfl) rfl
def c136 : AC :=
.seq (rg [oO 1 (.box 192 (tT 0)), oO 2 (.assign (.const .nilFunc))])
 (.seq (rg [oO 3 (.makeFunc (.func 168) #[] #[tT 1]), oO 2 (.assign (tT 3))])
 .ret)
theorem F136 : Fun1 Tryz.prog 136 4 c136 [.tmp 2] := mkT Tryz.func136 rfl (by decide +kernel) Tryz.ntmps136 rfl (by kernel_rfl) rfl
structure Ey where
  pos : Int
  dead : Bool
  fr : Fr
def eEy (e : Ey) : List D := .int .i64 e.pos :: .bool e.dead :: eFr e.fr
theorem eEy_len (e : Ey) : (eEy e).length = 28 := by simp [eEy, eFr_len]
theorem eEy_take (e : Ey) : (eEy e).take 28 = eEy e := List.take_of_length_le (by rw [eEy_len]; exact Nat.le_refl _)
theorem eEy_drop (e : Ey) : (eEy e).drop 28 = [] := List.drop_eq_nil_of_le (by rw [eEy_len]; exact Nat.le_refl _)
theorem ey_0 (e : Ey) : (eEy e)[0]? = some (.int .i64 e.pos) := rfl
theorem ey_1 (e : Ey) : (eEy e)[1]? = some (.bool e.dead) := rfl
def ey0 : Ey := ⟨0, false, fr0 0⟩
def bt (b : List Ty) (i : Nat) : Nat := ((b[i]?).getD 0).val
theorem bt_lt (b : List Ty) (i : Nat) : bt b i < 256 := ((b[i]?).getD 0).isLt
def word2 (b : List Ty) (p : Nat) : Nat := 256 * bt b p + bt b (p + 1)
def afterE (a last : Int) : Nat := if a < 0 ∨ 4095 < a then 5 else if a = last then 61 else if a < last then 60 else 0
def knownT (t : Ty) : Bool := decide (t.val ≤ 5 ∨ 16 ≤ t.val ∧ t.val ≤ 47)
def scanT (b : List Ty) : Nat → Nat → Nat × Nat
  | q, 0 => (q, 0)
  | q, n + 1 => if b.length ≤ q then (b.length, 2) else if knownT ((b[q]?).getD 0) then scanT b (q + 1) n else (q, 62)
def entD (b : List Ty) (loc p : Nat) (last : Int) : Ey × Nat × Nat :=
  if b.length < p + 2 then (ey0, b.length, 2)
  else if afterE (word2 b p) last ≠ 0 then (ey0, p, afterE (word2 b p) last)
  else if b.length = p + 2 then (ey0, p + 2, 2)
  else if 1 < bt b (p + 2) then (ey0, p + 2, 63)
  else if bt b (p + 2) = 0 then (⟨word2 b p, true, fr0 0⟩, p + 3, 0)
  else if b.length = p + 3 then (ey0, p + 3, 2)
  else if 24 < loc + bt b (p + 3) then (ey0, p + 3, 65)
  else if (scanT b (p + 4) (loc + bt b (p + 3))).2 ≠ 0 then (ey0, scanT b (p + 4) (loc + bt b (p + 3)))
  else (⟨word2 b p, false, ⟨loc, bt b (p + 3), slOf ((b.drop (p + 4)).take (loc + bt b (p + 3)))⟩⟩, p + 4 + (loc + bt b (p + 3)), 0)
def decP (b : List Ty) (loc : Nat) : Nat → Nat → Int → List (Ey × Nat) × Nat × Nat
  | 0, p, _ => ([], p, 0)
  | n + 1, p, last =>
    if (entD b loc p last).2.2 ≠ 0 then ([], (entD b loc p last).2)
    else (((entD b loc p last).1, (entD b loc p last).2.1) :: (decP b loc n (entD b loc p last).2.1 (entD b loc p last).1.pos).1, (decP b loc n (entD b loc p last).2.1 (entD b loc p last).1.pos).2)
def headD (b : List Ty) : Nat × Nat :=
  if b.length = 0 ∨ bt b 0 = 112 ∧ b.length = 1 ∨ bt b 0 = 112 ∧ bt b 1 = 118 ∧ b.length = 2 then (b.length, 2)
  else if bt b 0 ≠ 112 then (0, 64)
  else if bt b 1 ≠ 118 then (1, 64)
  else if bt b 2 ≠ 1 then (2, 64)
  else if b.length < 6 then (b.length, 2)
  else if 16 < bt b 3 then (3, 5)
  else if 4096 < word2 b 4 then (4, 4)
  else (0, 0)
structure Ct where
  loc : Nat
  es : List Ey
def eCt (c : Ct) : List D := [.int .i64 c.loc, .slice .no (rws eEy c.es)]
def ct0 : Ct := ⟨0, []⟩
def toldD (b : List Ty) : List (Ey × Nat) × Nat × Nat :=
  if (headD b).2 ≠ 0 then ([], headD b)
  else if (decP b (bt b 3) (word2 b 4) 6 (-1)).2.2 ≠ 0 then decP b (bt b 3) (word2 b 4) 6 (-1)
  else if (decP b (bt b 3) (word2 b 4) 6 (-1)).2.1 < b.length then ((decP b (bt b 3) (word2 b 4) 6 (-1)).1, (decP b (bt b 3) (word2 b 4) 6 (-1)).2.1, 3)
  else ((decP b (bt b 3) (word2 b 4) 6 (-1)).1, 0, 0)
def esOf (l : List (Ey × Nat)) : List Ey := l.map Prod.fst
def endsOf (l : List (Ey × Nat)) : List Int := l.map fun x => (x.2 : Int)
def decC (b : List Ty) : Ct × Nat × Nat := if (toldD b).2.2 ≠ 0 then (ct0, (toldD b).2) else (⟨bt b 3, esOf (toldD b).1⟩, 0, 0)
theorem known204 (t : Ty) : PCall Tryz.prog 204 [.int .u8 t.val] (.bool (knownT t)) := by
  refine F204.pcall' rfl fun T hT => ?_
  by_cases h1 : t.val ≤ 5
  · have q1 : ((t.val : Int) ≤ 5) = True := by simp; omega
    simp -implicitDefEqProofs only [go_sem, c204, hT, q1]
    exact DLe_bool (by simp [knownT, h1])
  have q1 : ((t.val : Int) ≤ 5) = False := by simp; omega
  by_cases h2 : 16 ≤ t.val
  · have q2 : ((16 : Int) ≤ t.val) = True := by simp; omega
    simp -implicitDefEqProofs only [go_sem, c204, hT, q1, q2]
    exact DLe_bool (by simp only [knownT, decide_eq_decide]; omega)
  · have q2 : ((16 : Int) ≤ t.val) = False := by simp; omega
    simp -implicitDefEqProofs only [go_sem, c204, hT, q1, q2]
    exact DLe_bool (by simp only [knownT]; rw [decide_eq_false (by omega)])
theorem isCode149 (t : Ty) : PCall Tryz.prog 149 [.int .u8 t.val] (.bool (knownT t)) := by
  refine F149.pcall' rfl fun T hT => ?_
  by_cases h1 : t.val ≤ 5
  · have q1 : ((t.val : Int) ≤ 5) = True := by simp; omega
    simp -implicitDefEqProofs only [go_sem, c149, hT, q1]
    exact DLe_bool (by simp [knownT, h1])
  have q1 : ((t.val : Int) ≤ 5) = False := by simp; omega
  by_cases h2 : 16 ≤ t.val
  · have q2 : ((16 : Int) ≤ t.val) = True := by simp; omega
    simp -implicitDefEqProofs only [go_sem, c149, hT, q1, q2]
    exact DLe_bool (by simp only [knownT, decide_eq_decide]; omega)
  · have q2 : ((16 : Int) ≤ t.val) = False := by simp; omega
    simp -implicitDefEqProofs only [go_sem, c149, hT, q1, q2]
    exact DLe_bool (by simp only [knownT]; rw [decide_eq_false (by omega)])
theorem rises165 (last a : Int) : PCall Tryz.prog 165 [.int .i64 last, .int .i64 a] (.int .i64 (afterE a last)) := by
  refine F165.pcall' rfl fun T hT => ?_
  by_cases h1 : a < 0
  · rw [afterE, if_pos (Or.inl h1)]
    simp -implicitDefEqProofs only [go_sem, c165, hT, h1]
    all_goals exact DLe.refl _
  by_cases h2 : 4095 < a
  · have q2 : ((4096 : Int) ≤ a) = True := by simp; omega
    rw [afterE, if_pos (Or.inr h2)]
    simp -implicitDefEqProofs only [go_sem, c165, hT, h1, q2]
    all_goals exact DLe.refl _
  have q2 : ((4096 : Int) ≤ a) = False := by simp; omega
  rw [afterE, if_neg (by omega)]
  by_cases h3 : a = last
  · rw [if_pos h3]
    subst h3
    simp -implicitDefEqProofs only [go_sem, c165, hT, h1, q2]
    all_goals exact DLe.refl _
  rw [if_neg h3]
  by_cases h4 : a < last
  · rw [if_pos h4]
    simp -implicitDefEqProofs only [go_sem, c165, hT, h1, q2, h3, h4]
    all_goals exact DLe.refl _
  · rw [if_neg h4]
    simp -implicitDefEqProofs only [go_sem, c165, hT, h1, q2, h3, h4]
    all_goals exact DLe.refl _
theorem after108 (last a : Int) : PCall Tryz.prog 108 [.int .i64 a, .int .i64 last] (.int .i64 (afterE a last)) := by
  refine F108.pcall' rfl fun T hT => ?_
  by_cases h1 : a < 0
  · rw [afterE, if_pos (Or.inl h1)]
    simp -implicitDefEqProofs only [go_sem, c108, hT, h1]
    all_goals exact DLe.refl _
  by_cases h2 : 4095 < a
  · have q2 : ((4095 : Int) < a) = True := by simp; omega
    rw [afterE, if_pos (Or.inr h2)]
    simp -implicitDefEqProofs only [go_sem, c108, hT, h1, q2]
    all_goals exact DLe.refl _
  have q2 : ((4095 : Int) < a) = False := by simp; omega
  rw [afterE, if_neg (by omega)]
  by_cases h3 : a = last
  · rw [if_pos h3]
    subst h3
    simp -implicitDefEqProofs only [go_sem, c108, hT, h1, q2]
    all_goals exact DLe.refl _
  rw [if_neg h3]
  by_cases h4 : a < last
  · rw [if_pos h4]
    simp -implicitDefEqProofs only [go_sem, c108, hT, h1, q2, h3, h4]
    all_goals exact DLe.refl _
  · rw [if_neg h4]
    simp -implicitDefEqProofs only [go_sem, c108, hT, h1, q2, h3, h4]
    all_goals exact DLe.refl _
theorem word167 (b : List Ty) (o : Own) (h : 2 ≤ b.length) : PCall Tryz.prog 167 [.slice o (rws eT b)] (.int .i64 (word2 b 0)) := by
  have b0 : (0 : Int) < b.length := by omega
  have b1 : (1 : Int) < b.length := by omega
  have hR0 : (rws eT b)[0]?.getD [] = eT ((b[0]?).getD 0) := by rw [rws_at (by omega), List.getElem?_eq_getElem (by omega)]; rfl
  have hR1 : (rws eT b)[1]?.getD [] = eT ((b[1]?).getD 0) := by rw [rws_at (by omega), List.getElem?_eq_getElem (by omega)]; rfl
  have hw : word2 b 0 = 256 * ((b[0]?).getD 0).val + ((b[1]?).getD 0).val := rfl
  rw [hw]
  generalize (b[0]?).getD 0 = x at *
  generalize (b[1]?).getD 0 = y at *
  have hx := x.isLt
  have hy := y.isLt
  have w0 : IntKind.wrap .i64 (x.val : Int) = x.val := wrap_ty_i64 x
  have w1 : IntKind.wrap .i64 (y.val : Int) = y.val := wrap_ty_i64 y
  have w2 : IntKind.wrap .i64 ((x.val : Int) * 256) = 256 * (x.val : Int) := by rw [wrap_i64 (by omega) (by omega)]; omega
  have hor := or_byte x.val y.val (by omega) hy
  have h28 : (2 : Int) ^ min 8 64 = 256 := by decide
  refine F167.pcall' rfl fun T hT => ?_
  simp -implicitDefEqProofs only [go_sem, c167, hT, hR0, hR1, eT, eT_len]
  refine ⟨b0, b1, ?_⟩
  simp only [w0, w1, w2, h28]
  exact (congrArg (fun z => DLe (D.int .i64 z) (D.int .i64 ((256 * x.val + y.val : Nat) : Int))) hor).mpr (DLe.refl _)
def mg : Nat → Nat | 0 => 112 | 1 => 118 | _ => 1
theorem bt_at {b : List Ty} {i : Nat} (h : i < b.length) : (rws eT b)[i]?.getD [] = [.int .u8 (bt b i : Nat)] := by rw [rws_at h, bt, List.getElem?_eq_getElem h]; rfl
def okTo (b : List Ty) (i : Nat) : Prop := i ≤ b.length ∧ ∀ j < i, bt b j = mg j
theorem headD_short {b : List Ty} {i : Nat} (hi : i < 3) (h : okTo b i) (hl : b.length = i) : headD b = (i, 2) := by
  obtain ⟨h1, h2⟩ := h
  have : i = 0 ∨ i = 1 ∨ i = 2 := by omega
  rcases this with rfl | rfl | rfl
  · simp [headD, hl]
  · have := h2 0 (by omega); simp [mg] at this; simp [headD, hl, this]
  · have q := h2 0 (by omega); have r := h2 1 (by omega); simp [mg] at q r; simp [headD, hl, q, r]
theorem headD_bad {b : List Ty} {i : Nat} (hi : i < 3) (h : okTo b i) (hl : i < b.length) (hb : bt b i ≠ mg i) : headD b = (i, 64) := by
  obtain ⟨h1, h2⟩ := h
  have : i = 0 ∨ i = 1 ∨ i = 2 := by omega
  rcases this with rfl | rfl | rfl
  · simp [mg] at hb
    rw [headD, if_neg (by omega), if_pos hb]
  · have q := h2 0 (by omega); simp [mg] at q hb
    rw [headD, if_neg (by omega), if_neg (by omega), if_pos hb]
  · have q := h2 0 (by omega); have r := h2 1 (by omega); simp [mg] at q r hb
    rw [headD, if_neg (by omega), if_neg (by omega), if_neg (by omega), if_pos hb]
theorem headD_ok {b : List Ty} (h : okTo b 3) : headD b = if b.length < 6 then (b.length, 2)
  else if 16 < bt b 3 then (3, 5)
  else if 4096 < word2 b 4 then (4, 4)
  else (0, 0) := by
  obtain ⟨h1, h2⟩ := h
  have q := h2 0 (by omega); have r := h2 1 (by omega); have s := h2 2 (by omega); simp [mg] at q r s
  rw [headD, if_neg (by omega), if_neg (by omega), if_neg (by omega), if_neg (by omega)]
def headR (b : List Ty) : Nat × Nat := if (headD b).2 = 0 then (bt b 3, word2 b 4) else (0, 0)
theorem refHead116 (b : List Ty) (o : Own) (hl : b.length ≤ 140737488355328) : PCall Tryz.prog 116 [.slice o (rws eT b)] (.tup [.int .i64 (headR b).1, .int .i64 (headR b).2, .int .i64 (headD b).1, .int .i64 (headD b).2]) := by
  refine F116.pcall' rfl fun T hT => ?_
  simp -implicitDefEqProofs only [go_sem, c116, hT]
  refine loopL F116 (fun i : Nat => [(0, .slice o (rws eT b)), (6, .slice .exact [[.int .u8 112], [.int .u8 118], [.int .u8 1]]), (7, .int .i64 i)]) (fun _ => {}) (fun i => i ≤ 3 ∧ okTo b i) (fun i => 3 - i) 0 ⟨by omega, by simp [okTo]⟩ ?_ (St.le.nil _) ?_
  · simp -implicitDefEqProofs only [go_sem, hT, Int.ofNat_zero]
    all_goals rfl
  clear hT T
  rintro i ⟨hi, hok⟩ T hT
  by_cases h : i < 3
  · have h1 : ((i : Int) < 3) = True := by simp; omega
    have hM : ([[.int .u8 112], [.int .u8 118], [.int .u8 1]] : List (List D))[i]?.getD [] = [.int .u8 (mg i)] := by
      have : i = 0 ∨ i = 1 ∨ i = 2 := by omega
      rcases this with rfl | rfl | rfl <;> rfl
    by_cases hs : b.length = i
    · have q1 : ((b.length : Int) ≤ i) = True := by simp; omega
      have hd := headD_short h hok hs
      have hr : headR b = (0, 0) := by rw [headR, hd]; rfl
      rw [hd, hr]
      simp -implicitDefEqProofs only [go_sem, hT, h1, q1]
      rw [hs]
      exact DLe.refl _
    have q1 : ((b.length : Int) ≤ i) = False := by have := hok.1; simp; omega
    have hlt : i < b.length := by have := hok.1; omega
    have hR := bt_at hlt
    have hmg : mg i < 256 := by unfold mg; split <;> omega
    have w4 : IntKind.wrap .i64 ((i : Int) + 1) = ((i + 1 : Nat) : Int) := by rw [wrap_i64 (by omega) (by omega)]; simp
    by_cases hb : bt b i = mg i
    · have q2 : ((bt b i : Int) = mg i) = True := by simp [hb]
      simp -implicitDefEqProofs only [go_sem, hT, h1, q1, hM, hR, q2, rws_one eT_len]
      refine ⟨by omega, by omega, i + 1, ⟨by omega, by omega, fun j hj => ?_⟩, by omega, ?_, St.le.refl _⟩
      · by_cases hji : j < i
        · exact hok.2 j hji
        · rw [show j = i by omega]; exact hb
      · rw [w4]
    · have q2 : ((bt b i : Int) = mg i) = False := by simp; omega
      have hd := headD_bad h hok hlt hb
      have hr : headR b = (0, 0) := by rw [headR, hd]; rfl
      rw [hd, hr]
      simp -implicitDefEqProofs only [go_sem, hT, h1, q1, hM, hR, q2, rws_one eT_len]
      exact ⟨by omega, by omega, DLe.refl _⟩
  · have h1 : ((i : Int) < 3) = False := by simp; omega
    have hi3 : i = 3 := by omega
    subst hi3
    have hd := headD_ok hok
    have hlen := hok.1
    by_cases h6 : b.length < 6
    · have q6 : ((b.length : Int) < 6) = True := by simp; omega
      have hd : headD b = (b.length, 2) := by rw [hd, if_pos h6]
      have hr : headR b = (0, 0) := by rw [headR, hd]; rfl
      rw [hd, hr]
      simp -implicitDefEqProofs only [go_sem, hT, h1, q6]
      exact DLe.refl _
    have q6 : ((b.length : Int) < 6) = False := by simp; omega
    have g3 : (0 : Int) ≤ 3 ∧ (3 : Int) < b.length := by omega
    have g4 : (0 : Int) ≤ 4 ∧ (4 : Int) < b.length := by omega
    have g5 : (0 : Int) ≤ 5 ∧ (5 : Int) < b.length := by omega
    have hR3 := bt_at (b := b) (i := 3) (by omega)
    have hR4 := bt_at (b := b) (i := 4) (by omega)
    have hR5 := bt_at (b := b) (i := 5) (by omega)
    have hb3 := bt_lt b 3
    have hb4 := bt_lt b 4
    have hb5 := bt_lt b 5
    have hrl : ∀ r ∈ rws eT b, r.length = 1 := rows_len eT_len b
    by_cases h16 : 16 < bt b 3
    · have q16 : ((16 : Int) < bt b 3) = True := by simp; omega
      have hd : headD b = (3, 5) := by rw [hd, if_neg h6, if_pos h16]
      have hr : headR b = (0, 0) := by rw [headR, hd]; rfl
      rw [hd, hr]
      simp -implicitDefEqProofs only [go_sem, hT, h1, q6, hR3, q16, rws_one eT_len]
      exact ⟨by omega, DLe.refl _⟩
    have q16 : ((16 : Int) < bt b 3) = False := by simp; omega
    have w4 : IntKind.wrap .i64 (bt b 4 : Int) = bt b 4 := wrap_i64 (by omega) (by omega)
    have w5 : IntKind.wrap .i64 (bt b 5 : Int) = bt b 5 := wrap_i64 (by omega) (by omega)
    have w3 : IntKind.wrap .i64 (bt b 3 : Int) = bt b 3 := wrap_i64 (by omega) (by omega)
    have wm : IntKind.wrap .i64 (256 * (bt b 4 : Int)) = 256 * (bt b 4 : Int) := wrap_i64 (by omega) (by omega)
    have wa : IntKind.wrap .i64 (256 * (bt b 4 : Int) + bt b 5) = (word2 b 4 : Nat) := by rw [wrap_i64 (by omega) (by omega), word2]; simp
    by_cases h40 : 4096 < word2 b 4
    · have q40 : ((4096 : Int) < word2 b 4) = True := by simp; omega
      have hd : headD b = (4, 4) := by rw [hd, if_neg h6, if_neg h16, if_pos h40]
      have hr : headR b = (0, 0) := by rw [headR, hd]; rfl
      rw [hd, hr]
      simp -implicitDefEqProofs only [go_sem, hT, h1, q6, hR3, hR4, hR5, q16, rws_one eT_len, w4, w5, wm, wa, q40]
      exact ⟨by omega, by omega, by omega, DLe.refl _⟩
    · have q40 : ((4096 : Int) < word2 b 4) = False := by simp; omega
      have hd : headD b = (0, 0) := by rw [hd, if_neg h6, if_neg h16, if_neg h40]
      have hr : headR b = (bt b 3, word2 b 4) := by rw [headR, hd]; rfl
      rw [hd, hr]
      simp -implicitDefEqProofs only [go_sem, hT, h1, q6, hR3, hR4, hR5, q16, rws_one eT_len, w3, w4, w5, wm, wa, q40]
      exact ⟨by omega, by omega, by omega, by omega, DLe.refl _⟩
def eRd (b : List Ty) (p : Nat) (last : Int) (left n : Nat) (bad err : Nat) : List D := [.slice .no (rws eT b), .int .i64 p, .int .i64 last, .int .i64 left, .int .i64 n, .int .i64 bad, .int .i64 err, .bool true]
def openR (b : List Ty) (d : D) (s : St) : Prop :=
  if (headD b).2 = 0 then ∃ r, d = .tup [.ptr r 0, .int .i64 0, .int .i64 0] ∧ s = ({} : St).set r (eRd b 6 (-1) (word2 b 4) (word2 b 4) 0 0)
  else d = .tup [.nilptr, .int .i64 (headD b).1, .int .i64 (headD b).2] ∧ s = {}
theorem openR_no {b : List Ty} (h : (headD b).2 ≠ 0) : openR b = fun d s => d = .tup [.nilptr, .int .i64 (headD b).1, .int .i64 (headD b).2] ∧ s = {} := by funext d s; rw [openR, if_neg h]
theorem openR_yes {b : List Ty} (h : (headD b).2 = 0) : openR b = fun d s => ∃ r, d = .tup [.ptr r 0, .int .i64 0, .int .i64 0] ∧ s = ({} : St).set r (eRd b 6 (-1) (word2 b 4) (word2 b 4) 0 0) := by funext d s; rw [openR, if_pos h]
theorem open134 (b : List Ty) (hl : b.length ≤ 140737488355328) : RCall Tryz.prog 134 [.slice .no (rws eT b)] {} (openR b) := by
  refine F134.rcall rfl fun T hT => ?_
  simp -implicitDefEqProofs only [go_sem, c134, hT]
  refine loopL F134 (fun i : Nat => [(0, .slice .no (rws eT b)), (8, .slice .exact [[.int .u8 112], [.int .u8 118], [.int .u8 1]]), (9, .int .i64 3), (10, .int .i64 i)]) (fun _ => {}) (fun i => i ≤ 3 ∧ okTo b i) (fun i => 3 - i) 0 ⟨by omega, by simp [okTo]⟩ ?_ (St.le.nil _) ?_
  · simp -implicitDefEqProofs only [go_sem, hT, Int.ofNat_zero]
    all_goals exact ⟨rfl, rfl⟩
  clear hT T
  rintro i ⟨hi, hok⟩ T hT
  by_cases h : i < 3
  · have h1 : ((i : Int) < 3) = True := by simp; omega
    have hM : ([[.int .u8 112], [.int .u8 118], [.int .u8 1]] : List (List D))[i]?.getD [] = [.int .u8 (mg i)] := by
      have : i = 0 ∨ i = 1 ∨ i = 2 := by omega
      rcases this with rfl | rfl | rfl <;> rfl
    by_cases hs : b.length = i
    · have q1 : ((i : Int) = b.length) = True := by simp; omega
      have hd := headD_short h hok hs
      rw [openR_no (by rw [hd]; simp), hd]
      simp -implicitDefEqProofs only [go_sem, hT, h1, q1, hM]
      rw [← hs]
      exact ⟨by omega, ⟨_, _, DLe.refl _, St.le.refl _, rfl, rfl⟩⟩
    have q1 : ((i : Int) = b.length) = False := by have := hok.1; simp; omega
    have hlt : i < b.length := by have := hok.1; omega
    have hR := bt_at hlt
    have hmg : mg i < 256 := by unfold mg; split <;> omega
    have w4 : IntKind.wrap .i64 ((i : Int) + 1) = ((i + 1 : Nat) : Int) := by rw [wrap_i64 (by omega) (by omega)]; simp
    by_cases hb : bt b i = mg i
    · have q2 : ((bt b i : Int) = mg i) = True := by simp [hb]
      simp -implicitDefEqProofs only [go_sem, hT, h1, q1, hM, hR, q2, rws_one eT_len]
      refine ⟨by omega, by omega, i + 1, ⟨by omega, by omega, fun j hj => ?_⟩, by omega, ?_, St.le.refl _⟩
      · by_cases hji : j < i
        · exact hok.2 j hji
        · rw [show j = i by omega]; exact hb
      · rw [w4]
    · have q2 : ((bt b i : Int) = mg i) = False := by simp; omega
      have hd := headD_bad h hok hlt hb
      rw [openR_no (by rw [hd]; simp), hd]
      simp -implicitDefEqProofs only [go_sem, hT, h1, q1, hM, hR, q2, rws_one eT_len]
      exact ⟨by omega, by omega, ⟨_, _, DLe.refl _, St.le.refl _, rfl, rfl⟩⟩
  · have h1 : ((i : Int) < 3) = False := by simp; omega
    have hi3 : i = 3 := by omega
    subst hi3
    have hd := headD_ok hok
    have hlen := hok.1
    by_cases h6 : b.length < 6
    · have q6 : ((b.length : Int) < 6) = True := by simp; omega
      have hd : headD b = (b.length, 2) := by rw [hd, if_pos h6]
      rw [openR_no (by rw [hd]; simp), hd]
      simp -implicitDefEqProofs only [go_sem, hT, h1, q6]
      exact ⟨_, _, DLe.refl _, St.le.refl _, rfl, rfl⟩
    have q6 : ((b.length : Int) < 6) = False := by simp; omega
    have hR3 := bt_at (b := b) (i := 3) (by omega)
    have hb3 := bt_lt b 3
    have hb4 := bt_lt b 4
    have hb5 := bt_lt b 5
    by_cases h16 : 16 < bt b 3
    · have q16 : ((16 : Int) < bt b 3) = True := by simp; omega
      have hd : headD b = (3, 5) := by rw [hd, if_neg h6, if_pos h16]
      rw [openR_no (by rw [hd]; simp), hd]
      simp -implicitDefEqProofs only [go_sem, hT, h1, q6, hR3, q16, rws_one eT_len]
      exact ⟨by omega, ⟨_, _, DLe.refl _, St.le.refl _, rfl, rfl⟩⟩
    have q16 : ((16 : Int) < bt b 3) = False := by simp; omega
    have hw4 : word2 (b.drop 4) 0 = word2 b 4 := by simp [word2, bt, List.getElem?_drop]
    have hw : PCall Tryz.prog 167 [.slice .no (rws eT (b.drop 4))] (.int .i64 (word2 b 4)) := by rw [← hw4]; exact word167 _ _ (by rw [List.length_drop]; omega)
    simp -implicitDefEqProofs only [go_sem, hT, h1, q6, hR3, q16, rws_one eT_len, rws_take, rws_drop, List.take_length]
    refine ⟨by omega, by omega, callB_pure hw ?_⟩
    by_cases h40 : 4096 < word2 b 4
    · have q40 : ((4096 : Int) < word2 b 4) = True := by simp; omega
      have hd : headD b = (4, 4) := by rw [hd, if_neg h6, if_neg h16, if_pos h40]
      rw [openR_no (by rw [hd]; simp), hd]
      simp -implicitDefEqProofs only [go_sem, hT, h1, q6, hR3, q16, q40, rws_one eT_len, rws_take, rws_drop, List.take_length]
      exact ⟨_, _, DLe.refl _, St.le.refl _, rfl, rfl⟩
    have q40 : ((4096 : Int) < word2 b 4) = False := by simp; omega
    have hd : headD b = (0, 0) := by rw [hd, if_neg h6, if_neg h16, if_neg h40]
    rw [openR_yes (by rw [hd])]
    simp -implicitDefEqProofs only [go_sem, hT, h1, q6, hR3, q16, q40, rws_one eT_len, rws_take, rws_drop, List.take_length]
    refine ⟨by omega, callB_pure hw ?_⟩
    simp -implicitDefEqProofs only [go_sem, hT, h1, q6, hR3, q16, q40, rws_one eT_len, rws_take, rws_drop, List.take_length]
    intro r
    exact ⟨_, _, DLe.refl _, St.le.refl _, r, rfl, rfl⟩
theorem scanT_pass (b : List Ty) : ∀ n q, (scanT b q n).2 = 0 → q + n ≤ b.length ∨ n = 0 := by
  intro n
  induction n with
  | zero => intro q _; right; rfl
  | succ n ih =>
    intro q h
    rw [scanT] at h
    split at h
    · exact absurd h (by simp)
    · split at h
      · have := ih _ h; omega
      · exact absurd h (by simp)
theorem wrapN {a : Int} {n : Nat} (h : a = n) (hn : n ≤ 9223372036854775807) : IntKind.wrap .i64 a = (n : Int) := by rw [h]; exact wrap_i64 (by omega) (by omega)
theorem ey_zero : [D.int .i64 0, D.bool false, D.int .i64 0, D.int .i64 0, D.int .u8 0, D.int .u8 0, D.int .u8 0, D.int .u8 0, D.int .u8 0, D.int .u8 0, D.int .u8 0, D.int .u8 0, D.int .u8 0, D.int .u8 0, D.int .u8 0, D.int .u8 0, D.int .u8 0, D.int .u8 0, D.int .u8 0, D.int .u8 0, D.int .u8 0, D.int .u8 0, D.int .u8 0, D.int .u8 0, D.int .u8 0, D.int .u8 0, D.int .u8 0, D.int .u8 0] = eEy ey0 := rfl
theorem ey_dead (z : Int) : [D.int .i64 z, D.bool true, D.int .i64 0, D.int .i64 0, D.int .u8 0, D.int .u8 0, D.int .u8 0, D.int .u8 0, D.int .u8 0, D.int .u8 0, D.int .u8 0, D.int .u8 0, D.int .u8 0, D.int .u8 0, D.int .u8 0, D.int .u8 0, D.int .u8 0, D.int .u8 0, D.int .u8 0, D.int .u8 0, D.int .u8 0, D.int .u8 0, D.int .u8 0, D.int .u8 0, D.int .u8 0, D.int .u8 0, D.int .u8 0, D.int .u8 0] = eEy ⟨z, true, fr0 0⟩ := rfl
theorem fr_new (y z : Int) : [D.int .i64 y, D.int .i64 z, D.int .u8 0, D.int .u8 0, D.int .u8 0, D.int .u8 0, D.int .u8 0, D.int .u8 0, D.int .u8 0, D.int .u8 0, D.int .u8 0, D.int .u8 0, D.int .u8 0, D.int .u8 0, D.int .u8 0, D.int .u8 0, D.int .u8 0, D.int .u8 0, D.int .u8 0, D.int .u8 0, D.int .u8 0, D.int .u8 0, D.int .u8 0, D.int .u8 0, D.int .u8 0, D.int .u8 0] = eFr ⟨y, z, slOf []⟩ := by rw [slOf_nil]; rfl
def bYfbD0 := aI @eEy_len (aI @eEy_take (aI @eEy_drop (aI @eFr_len (aI @eFr_take (aI @eFr_drop (aI @anD (aI @set_set (aI @resM_cell @ey_zero))))))))
def bYfbD1 := aI @eEy_len (aI @eEy_take (aI @eEy_drop (aI @eFr_len (aI @eFr_take (aI @eFr_drop (aI @anD (aI @set_set @resM_cell)))))))
def bYfbD2 := aI @eEy_len (aI @eEy_take (aI @eEy_drop (aI @eFr_len (aI @eFr_take (aI @eFr_drop (aI @anD (aI @set_set (aI @resM_cell @eT_len))))))))
theorem one117 (b : List Ty) (o : Own) (loc p : Nat) (last : Int) (hl : b.length ≤ 140737488355328) (hp : p ≤ b.length) (hloc : loc ≤ 16) :
    PCall Tryz.prog 117 [.slice o (rws eT b), .int .i64 loc, .int .i64 p, .int .i64 last] (.tup [.agg (eEy (entD b loc p last).1), .int .i64 (entD b loc p last).2.1, .int .i64 (entD b loc p last).2.2]) := by
  have v1 : IntKind.wrap .i64 ((p : Int) + 1) = ((p + 1 : Nat) : Int) := wrapN (by simp) (by omega)
  have v2 : IntKind.wrap .i64 ((p : Int) + 2) = ((p + 2 : Nat) : Int) := wrapN (by simp) (by omega)
  have v3 : IntKind.wrap .i64 ((p : Int) + 3) = ((p + 3 : Nat) : Int) := wrapN (by simp) (by omega)
  have v4 : IntKind.wrap .i64 ((p : Int) + 4) = ((p + 4 : Nat) : Int) := wrapN (by simp) (by omega)
  refine F117.pcall' rfl fun T hT => ?_
  simp -implicitDefEqProofs only [go_sem, c117, hT, bYfbD0]
  intro b8 b11 n1 n2
  by_cases h1 : b.length < p + 2
  · have q1 : ((b.length : Int) ≤ (p + 1 : Nat)) = True := by simp; omega
    rw [entD, if_pos h1]
    simp -implicitDefEqProofs only [go_sem, hT, v1, q1, n1, n2, bYfbD0]
    exact DLe.refl _
  have q1 : ((b.length : Int) ≤ (p + 1 : Nat)) = False := by simp; omega
  have hb0 := bt_lt b p
  have hb1 := bt_lt b (p + 1)
  have u0 : IntKind.wrap .i64 (bt b p : Int) = bt b p := wrap_i64 (by omega) (by omega)
  have u1 : IntKind.wrap .i64 (bt b (p + 1) : Int) = bt b (p + 1) := wrap_i64 (by omega) (by omega)
  have um : IntKind.wrap .i64 (256 * (bt b p : Int)) = 256 * (bt b p : Int) := wrap_i64 (by omega) (by omega)
  have ua : IntKind.wrap .i64 (256 * (bt b p : Int) + bt b (p + 1)) = (word2 b p : Nat) := by rw [wrap_i64 (by omega) (by omega), word2]; simp
  have hR0 := bt_at (b := b) (i := p) (by omega)
  have hR1 := bt_at (b := b) (i := p + 1) (by omega)
  have hw2 : word2 b p < 65536 := by rw [word2]; omega
  simp -implicitDefEqProofs only [go_sem, hT, v1, q1, n1, n2, hR0, hR1, u0, u1, um, ua, rws_one eT_len, bYfbD1]
  refine ⟨by omega, by omega, callB_pure (after108 last (word2 b p)) ?_⟩
  obtain ⟨ae, hae⟩ : ∃ ae, afterE (word2 b p) last = ae := ⟨_, rfl⟩
  obtain ⟨z, hz⟩ : ∃ z, word2 b p = z := ⟨_, rfl⟩
  have hd : entD b loc p last = if ae ≠ 0 then (ey0, p, ae)
      else if b.length = p + 2 then (ey0, p + 2, 2)
      else if 1 < bt b (p + 2) then (ey0, p + 2, 63)
      else if bt b (p + 2) = 0 then (⟨z, true, fr0 0⟩, p + 3, 0)
      else if b.length = p + 3 then (ey0, p + 3, 2)
      else if 24 < loc + bt b (p + 3) then (ey0, p + 3, 65)
      else if (scanT b (p + 4) (loc + bt b (p + 3))).2 ≠ 0 then (ey0, scanT b (p + 4) (loc + bt b (p + 3)))
      else (⟨z, false, ⟨loc, bt b (p + 3), slOf ((b.drop (p + 4)).take (loc + bt b (p + 3)))⟩⟩, p + 4 + (loc + bt b (p + 3)), 0) := by
    rw [entD, if_neg h1, hae, hz]
  rw [hd, hae, hz]
  clear hd hae
  rw [hz] at ua hw2
  clear hz
  by_cases h2 : ae = 0
  case neg =>
    have q2 : ((ae : Int) = 0) = False := by simp; omega
    rw [if_pos h2]
    simp -implicitDefEqProofs only [go_sem, hT, n1, n2, q2, bYfbD0]
  have q2 : ((ae : Int) = 0) = True := by simp; omega
  rw [if_neg (by simp [h2])]
  by_cases h3 : b.length = p + 2
  · have q3 : ((b.length : Int) ≤ (p + 2 : Nat)) = True := by simp; omega
    rw [if_pos h3]
    simp -implicitDefEqProofs only [go_sem, hT, n1, n2, v2, q2, q3, bYfbD0]
    rw [h3]
    exact DLe.refl _
  have q3 : ((b.length : Int) ≤ (p + 2 : Nat)) = False := by simp; omega
  have hR2 := bt_at (b := b) (i := p + 2) (by omega)
  have hb2 := bt_lt b (p + 2)
  rw [if_neg h3]
  by_cases h4 : 1 < bt b (p + 2)
  · have q4 : ((1 : Int) < bt b (p + 2)) = True := by simp; omega
    rw [if_pos h4]
    simp -implicitDefEqProofs only [go_sem, hT, n1, n2, v2, q2, q3, q4, hR2, rws_one eT_len, bYfbD0]
    exact ⟨by omega, DLe.refl _⟩
  have q4 : ((1 : Int) < bt b (p + 2)) = False := by simp; omega
  rw [if_neg h4]
  by_cases h5 : bt b (p + 2) = 0
  · have q5 : ((bt b (p + 2) : Int) = 0) = True := by simp; omega
    rw [if_pos h5]
    simp -implicitDefEqProofs only [go_sem, hT, eEy_len, eEy_take, eEy_drop, eFr_len, eFr_take, eFr_drop, anD, set_set, resM_cell, n1, n2, v2, v3, q2, q3, q4, q5, hR2, ey_dead, rws_one eT_len]
    exact ⟨by omega, by omega, DLe.refl _⟩
  have q5 : ((bt b (p + 2) : Int) = 0) = False := by simp; omega
  rw [if_neg h5]
  by_cases h6 : b.length = p + 3
  · have q6 : ((b.length : Int) ≤ (p + 3 : Nat)) = True := by simp; omega
    rw [if_pos h6]
    simp -implicitDefEqProofs only [go_sem, hT, n1, n2, v2, v3, q2, q3, q4, q5, q6, hR2, rws_one eT_len, bYfbD0]
    rw [h6]
    exact ⟨by omega, by omega, DLe.refl _⟩
  have q6 : ((b.length : Int) ≤ (p + 3 : Nat)) = False := by simp; omega
  have hR3 := bt_at (b := b) (i := p + 3) (by omega)
  have hb3 := bt_lt b (p + 3)
  rw [if_neg h6]
  obtain ⟨dp, hdp⟩ : ∃ dp, bt b (p + 3) = dp := ⟨_, rfl⟩
  rw [hdp] at hR3 hb3 ⊢
  clear hdp
  have u3 : IntKind.wrap .i64 (dp : Int) = dp := wrap_i64 (by omega) (by omega)
  have uL : IntKind.wrap .i64 ((24 : Int) - loc) = ((24 - loc : Nat) : Int) := wrapN (by omega) (by omega)
  by_cases h7 : 24 < loc + dp
  · have q7 : (((24 - loc : Nat) : Int) < dp) = True := by simp; omega
    rw [if_pos h7]
    simp -implicitDefEqProofs only [go_sem, hT, n1, n2, v2, v3, q2, q3, q4, q5, q6, hR2, hR3, u3, uL, q7, rws_one eT_len, bYfbD0]
    exact ⟨by omega, by omega, by omega, DLe.refl _⟩
  have q7 : (((24 - loc : Nat) : Int) < dp) = False := by simp; omega
  rw [if_neg h7]
  simp -implicitDefEqProofs only [go_sem, hT, n1, n2, v2, v3, q2, q3, q4, q5, q6, hR2, hR3, u3, uL, q7, rws_one eT_len, bYfbD1]
  refine ⟨by omega, by omega, by omega, fun b15 m1 m2 m3 m4 => ?_⟩
  obtain ⟨n, hn⟩ : ∃ n, loc + dp = n := ⟨_, rfl⟩
  have hn24 : n ≤ 24 := by omega
  rw [hn]
  have uN : IntKind.wrap .i64 ((loc : Int) + dp) = (n : Int) := wrapN (by omega) (by omega)
  simp -implicitDefEqProofs only [go_sem, hT, eEy_len, eEy_take, eEy_drop, eFr_len, eFr_take, eFr_drop, anD, set_set, resM_cell, n1, n2, m1, m2, m3, m4, fr_new]
  refine loopL F117 (fun i : Nat => [(0, .slice o (rws eT b)), (1, .int .i64 loc), (2, .int .i64 p), (8, .ptr b8 0), (11, .ptr b11 0), (12, .int .i64 z), (14, .int .i64 dp), (15, .ptr b15 0), (16, .int .i64 i)]) (fun i => ((({} : St).set b8 (eEy ey0)).set b11 (eEy ey0)).set b15 (eFr ⟨loc, dp, slOf ((b.drop (p + 4)).take i)⟩)) (fun i => i ≤ n ∧ scanT b (p + 4) n = scanT b (p + 4 + i) (n - i)) (fun i => n - i) 0 ⟨by omega, rfl⟩ ?_ (St.le.refl _) ?_
  · simp -implicitDefEqProofs only [go_sem, hT, Int.ofNat_zero]
  clear hT T
  rintro i ⟨hi, hsc⟩ T hT
  by_cases h : i < n
  · have p1 : ((i : Int) < n) = True := by simp; omega
    have w4 : IntKind.wrap .i64 ((i : Int) + 1) = ((i + 1 : Nat) : Int) := wrapN (by simp) (by omega)
    have wp : IntKind.wrap .i64 (((p + 4 : Nat) : Int) + i) = ((p + 4 + i : Nat) : Int) := wrapN (by simp) (by omega)
    have hsn : n - i = (n - (i + 1)) + 1 := by omega
    rw [hsn, scanT] at hsc
    by_cases h8 : b.length ≤ p + 4 + i
    · have q8 : ((b.length : Int) ≤ (p + 4 + i : Nat)) = True := by simp; omega
      rw [if_pos h8] at hsc
      rw [hsc, if_pos (by simp)]
      simp -implicitDefEqProofs only [go_sem, hT, n1, n2, m1, m2, m3, m4, v4, uN, p1, wp, q8, bYfbD1]
      exact DLe.refl _
    have q8 : ((b.length : Int) ≤ (p + 4 + i : Nat)) = False := by simp; omega
    rw [if_neg h8] at hsc
    have hR4 := rws_at (enc := eT) (xs := b) (i := p + 4 + i) (by omega)
    have hg : (b[p + 4 + i]?).getD 0 = b[p + 4 + i] := by rw [List.getElem?_eq_getElem (by omega)]; rfl
    rw [hg] at hsc
    simp -implicitDefEqProofs only [go_sem, hT, n1, n2, m1, m2, m3, m4, v4, uN, p1, wp, q8, hR4, eT, bYfbD2]
    refine ⟨by omega, callB_pure (isCode149 _) ?_⟩
    have hset := slOf_set (ts := b.drop (p + 4)) (i := i) (by rw [List.length_drop]; omega) (by omega)
    have hdg : (b.drop (p + 4))[i]'(by rw [List.length_drop]; omega) = b[p + 4 + i] := by simp
    rw [hdg] at hset
    generalize b[p + 4 + i] = x at *
    by_cases h9 : knownT x = true
    · rw [if_pos h9] at hsc
      simp -implicitDefEqProofs only [go_sem, hT, n1, n2, m1, m2, m3, m4, v4, uN, p1, wp, q8, hR4, eT, h9, bYfbD2]
      rw [Nat.mul_one, fr_set (by omega)]
      dsimp only
      rw [hset]
      refine ⟨by omega, by omega, by omega, i + 1, ⟨by omega, ?_⟩, by omega, by rw [w4], St.le.refl _⟩
      rw [hsc]; rfl
    · have h9 : knownT x = false := by simpa using h9
      rw [if_neg (by simp [h9])] at hsc
      rw [hsc, if_pos (by simp)]
      simp -implicitDefEqProofs only [go_sem, hT, n1, n2, m1, m2, m3, m4, v4, uN, p1, wp, q8, hR4, eT, h9, bYfbD2]
      exact DLe.refl _
  · have p1 : ((i : Int) < n) = False := by simp; omega
    have hin : i = n := by omega
    subst hin
    rw [Nat.sub_self, scanT] at hsc
    rw [hsc, if_neg (by simp)]
    have e1 : IntKind.wrap .i64 (((p + 4 : Nat) : Int) + loc) = ((p + 4 + loc : Nat) : Int) := wrapN (by simp) (by omega)
    have e2 : IntKind.wrap .i64 (((p + 4 + loc : Nat) : Int) + dp) = ((p + 4 + i : Nat) : Int) := wrapN (by omega) (by omega)
    simp -implicitDefEqProofs only [go_sem, hT, n1, n2, m1, m2, m3, m4, v4, uN, p1, e1, e2, bYfbD1]
    exact DLe.refl _
end Go.AL
