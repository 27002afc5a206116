import Derived.Test.YtobmoajkfbigkaaGreatKh
import Derived.Test.YtobmoajkfbigkaaGreatKf
import Derived.Test.YtobmoajkfbigkaaGreatKd
set_option linter.unusedSimpArgs false
set_option linter.unusedVariables false
set_option maxRecDepth 100000
set_option maxHeartbeats 4000000
set_option linter.defProp false
namespace Go.AL
open Go.Proofs
def subFr (l : List Cl) (a b : Fr) : Bool := decide (checkF l.length a = 0 ∧ checkF l.length b = 0 ∧ a.loc = b.loc ∧ a.h = b.h) && (List.range 24).all fun i => subB l (slAt a i) (slAt b i)
theorem subB_zero (l : List Cl) : subB l 0 0 = true := by simp [subB, validN]
def bYebG0 := aI @za6 (aI @za5 (aI @fr_0 (aI @fr_1 @gdD)))
theorem refSub38 (l : List Cl) (o : Own) (a b : Fr) (hf : Falls l l.length) (hl : l.length * 48 ≤ 140737488355328) : zf9 Tryz.prog 50 [.slice o (rws eC l), .agg (eFr a), .agg (eFr b)] (.bool (subFr l a b)) := by
  refine F50.pcall' rfl fun T hT => ?_
  simp -implicitDefEqProofs only [go_sem, c50, hT, bYebG0]
  intro b4 b5 n1 n2
  simp -implicitDefEqProofs only [go_sem, hT, n1, n2, bYebG0]
  refine za4 (refCheck40 l o a) ?_
  by_cases h1 : checkF l.length a = 0
  case neg =>
    have h1' : ((checkF l.length a : Int) = 0) = False := by simp; omega
    simp -implicitDefEqProofs only [go_sem, hT, n1, n2, h1', bYebG0]
    exact zc2 (by rw [subFr, decide_eq_false (fun h => h1 h.1)]; rfl)
  have h1' : ((checkF l.length a : Int) = 0) = True := by simp; omega
  simp -implicitDefEqProofs only [go_sem, hT, n1, n2, h1', bYebG0]
  refine za4 (refCheck40 l o b) ?_
  by_cases h2 : checkF l.length b = 0
  case neg =>
    have h2' : ((checkF l.length b : Int) = 0) = False := by simp; omega
    simp -implicitDefEqProofs only [go_sem, hT, n1, n2, h2', bYebG0]
    exact zc2 (by rw [subFr, decide_eq_false (fun h => h2 h.2.1)]; rfl)
  have h2' : ((checkF l.length b : Int) = 0) = True := by simp; omega
  by_cases h3 : a.loc = b.loc
  case neg =>
    have h3' : (a.loc = b.loc) = False := by simp [h3]
    simp -implicitDefEqProofs only [go_sem, hT, n1, n2, h2', h3', bYebG0]
    exact zc2 (by rw [subFr, decide_eq_false (fun h => h3 h.2.2.1)]; rfl)
  have h3' : (a.loc = b.loc) = True := by simp [h3]
  by_cases h4 : a.h = b.h
  case neg =>
    have h4' : (a.h = b.h) = False := by simp [h4]
    simp -implicitDefEqProofs only [go_sem, hT, n1, n2, h2', h3', h4', bYebG0]
    exact zc2 (by rw [subFr, decide_eq_false (fun h => h4 h.2.2.2)]; rfl)
  have h4' : (a.h = b.h) = True := by simp [h4]
  have hsub : subFr l a b = (List.range 24).all fun i => subB l (slAt a i) (slAt b i) := by rw [subFr, decide_eq_true ⟨h1, h2, h3, h4⟩, Bool.true_and]
  obtain ⟨R, hR⟩ : ∃ R, ((List.range 24).all fun i => subB l (slAt a i) (slAt b i)) = R := ⟨_, rfl⟩
  rw [hsub, hR]
  have sa := checkF_shape h1
  have ba := bare_iff.1 (checkF_bare h1)
  have bb := bare_iff.1 (checkF_bare h2)
  rw [← h3, ← h4] at bb
  obtain ⟨s1, s2, s3, s4⟩ := shaped_of sa
  obtain ⟨n, hn⟩ : ∃ n : Nat, a.loc + a.h = n := ⟨_, (Int.toNat_of_nonneg (by omega)).symm⟩
  have w1 : IntKind.wrap .i64 (a.loc + a.h) = n := by rw [zb7 (by omega) (by omega), hn]
  simp -implicitDefEqProofs only [go_sem, hT, za6, za5, fr_0, fr_1, gdD, n1, n2, h2', h3', h4', Int.ofNat_zero]
  refine loopL F50 (fun i : Nat => [(0, .slice o (rws eC l)), (4, .ptr b4 0), (5, .ptr b5 0), (7, .int .i64 i)]) (fun _ => (({} : St).set b4 (eFr a)).set b5 (eFr b)) (fun i => i ≤ n ∧ ∀ j : Nat, j < i → subB l (slAt a j) (slAt b j) = true) (fun i => 24 - i) 0 ⟨by omega, fun j hj => by omega⟩ ?_ (St.le.refl _) ?_
  · simp -implicitDefEqProofs only [go_sem, hT, Int.ofNat_zero]
  clear hT T
  rintro k ⟨hk, hv⟩ T hT
  by_cases hkn : k < n
  · have h1 : ((k : Int) < n) = True := by simp; omega
    have hx := fr_slAt a (show k < 24 by omega)
    have hy := fr_slAt b (show k < 24 by omega)
    have hd : ∀ j : Nat, j < k + 1 → j = k ∨ j < k := fun j hj => by omega
    have hkm : 24 - (k + 1) < 24 - k := by omega
    have hk24 : k < 24 := by omega
    simp -implicitDefEqProofs only [go_sem, hT, h1, w1, hx, hy, Nat.mul_one, n1, n2, bYebG0]
    refine ⟨by omega, by omega, za4 (refSub79 l o _ _ hf hl) ?_⟩
    cases hb : subB l (slAt a k) (slAt b k)
    · obtain rfl : R = false := hR.symm.trans (List.all_eq_false.2 ⟨k, List.mem_range.2 hk24, by simp [hb]⟩)
      simp -implicitDefEqProofs only [go_sem, hT]
    · simp -implicitDefEqProofs only [go_sem, hT]
      refine ⟨k + 1, ⟨hkn, fun j hj => ?_⟩, hkm, ?_, St.le.refl _⟩
      · rcases hd j hj with rfl | h
        · exact hb
        · exact hv j h
      · rw [zb7 (by omega) (by omega)]; simp
  · have h1 : ((k : Int) < n) = False := by simp; omega
    have hall : ((List.range 24).all fun i => subB l (slAt a i) (slAt b i)) = true := List.all_eq_true.2 fun j hj => by
      have hj24 := List.mem_range.1 hj
      by_cases hjk : j < k
      · exact hv j hjk
      · rw [ba j hj24 (by omega), bb j hj24 (by omega)]; exact subB_zero l
    obtain rfl : R = true := hR.symm.trans hall
    simp -implicitDefEqProofs only [go_sem, hT, h1, w1, n1, n2, bYebG0]
open Go.Proofs
open Go.Proofs
open Go.Proofs
open Go.Proofs
def c21 : AC :=
.seq (rg [oO 2 (.assign (.const (.bool false)))])
 (.seq (rg [oO 3 (.move (tT 0)), oO 4 (.binOp .eql 5 (tT 3) (kB 19) 5), oO 5 (.move (tT 4)), oG 6 (.move (tT 0)) 5 false, oG 7 (.binOp .eql 5 (tT 6) (kB 22) 5) 5 false, oO 8 (.pick (tT 5) (.const (.bool true)) (tT 7)), oO 9 (.move (tT 8)), oG 10 (.move (tT 0)) 9 false, oG 11 (.binOp .eql 5 (tT 10) (kB 32) 5) 9 false, oO 12 (.pick (tT 9) (.const (.bool true)) (tT 11)), oO 2 (.assign (tT 12))])
 .ret)
theorem F21 : Fun1 Tryz.prog 21 13 c21 [.tmp 2] := mkT Tryz.func21 rfl (by decide +kernel) Tryz.ntmps21 rfl (by kernel_rfl) rfl
def c85 : AC :=
.seq (rg [oO 2 (.assign (.const (.bool false)))])
 (.seq (rg [oO 3 (.move (tT 0)), oO 4 (.binOp .eql 5 (tT 3) (kB 19) 5), oO 5 (.move (tT 4)), oG 6 (.move (tT 0)) 5 false, oG 7 (.binOp .eql 5 (tT 6) (kB 22) 5) 5 false, oO 8 (.pick (tT 5) (.const (.bool true)) (tT 7)), oO 9 (.move (tT 8)), oG 10 (.move (tT 0)) 9 false, oG 11 (.binOp .eql 5 (tT 10) (kB 32) 5) 9 false, oO 12 (.pick (tT 9) (.const (.bool true)) (tT 11)), oO 2 (.assign (tT 12))])
 .ret)
theorem F85 : Fun1 Tryz.prog 85 13 c85 [.tmp 2] := mkT Tryz.func85 rfl (by decide +kernel) Tryz.ntmps85 rfl (by kernel_rfl) rfl
open Go.Proofs
def endsB (op : Nat) : Bool := decide (op = 19 ∨ op = 22 ∨ op = 32)
theorem refEnds41 (t : Ty) : zf9 Tryz.prog 21 [.int .u8 t.val] (.bool (endsB t.val)) := by
  refine F21.pcall' rfl fun T hT => ?_
  simp -implicitDefEqProofs only [go_sem, mmB, c21, hT]
  exact zc2 (by rw [Bool.eq_iff_iff]; simp [endsB]; omega)
theorem ends88 (t : Ty) : zf9 Tryz.prog 85 [.int .u8 t.val] (.bool (endsB t.val)) := by
  refine F85.pcall' rfl fun T hT => ?_
  simp -implicitDefEqProofs only [go_sem, mmB, c85, hT]
  exact zc2 (by rw [Bool.eq_iff_iff]; simp [endsB]; omega)
open Go.Proofs
open Go.Proofs
open Go.Proofs
def c206 : AC :=
.seq (rg [oO 4 (.box 84 (tT 1)), oO 5 (.box 84 (tT 2)), oO 6 (.assign (kI 0))])
 (.seq (rg [oO 8 (.move (tT 0)), oO 9 (.load 84 (tT 4)), oO 10 (cF (.func 96) #[tT 8, tT 9] #[22, 84]), oO 7 (.assign (tT 10))])
 (.seq (.seq (rg [oO 11 (.move (tT 7)), oO 12 (.binOp .eql 32 (tT 11) (kI 0) 32)])
 (.cond (tT 12) (rg [oO 13 (.move (tT 0)), oO 14 (.load 84 (tT 5)), oO 15 (cF (.func 96) #[tT 13, tT 14] #[22, 84]), oO 7 (.assign (tT 15))])
 (.skip)))
 (.seq (.seq (rg [oO 16 (.move (tT 7)), oO 17 (.binOp .eql 32 (tT 16) (kI 0) 32), oO 18 (.move (tT 17)), oG 19 (.fieldAddr 84 (tT 4) 0) 18 true, oG 20 (.load 3 (tT 19)) 18 true, oG 21 (.fieldAddr 84 (tT 5) 0) 18 true, oG 22 (.load 3 (tT 21)) 18 true, oG 23 (.binOp .neq 3 (tT 20) (tT 22) 3) 18 true, oG 24 (.move (tT 23)) 18 true, oG 25 (.fieldAddr 84 (tT 4) 1) 24 false, oG 26 (.load 3 (tT 25)) 24 false, oG 27 (.fieldAddr 84 (tT 5) 1) 24 false, oG 28 (.load 3 (tT 27)) 24 false, oG 29 (.binOp .neq 3 (tT 26) (tT 28) 3) 24 false, oG 30 (.pick (tT 24) (.const (.bool true)) (tT 29)) 18 true, oO 31 (.pick (tT 18) (tT 30) (.const (.bool false)))])
 (.cond (tT 31) (rg [oO 7 (.assign (kI 32))])
 (.skip)))
 (.seq (rg [oO 32 (.move (tT 7)), oO 6 (.assign (tT 32))])
 .ret))))
theorem F206 : Fun1 Tryz.prog 206 33 c206 [.tmp 6] := mkT Tryz.func206 rfl (by decide +kernel) Tryz.ntmps206 rfl (by kernel_rfl) rfl
def c171 : AC :=
.seq (rg [oO 4 (.box 84 (tT 1)), oO 5 (.box 84 (tT 2)), oO 6 (.assign (.const (.bool false)))])
 (.seq (.seq (rg [oO 8 (.move (tT 0)), oO 9 (.load 84 (tT 4)), oO 10 (.load 84 (tT 5)), oO 11 (cF (.func 206) #[tT 8, tT 9, tT 10] #[22, 84, 84]), oO 12 (.binOp .neq 32 (tT 11) (kI 0) 32)])
 (.cond (tT 12) (.seq (rg [oO 6 (.assign (.const (.bool false)))])
 (.ret))
 (.skip)))
 (.seq (.seq (rg [oO 13 (.move (kI 0))])
 (.block 0 (.loop (.seq (rg [oO 14 (.binOp .lss 3 (tT 13) (kI 24) 3)])
 (.seq (.cond (tT 14) (.skip)
 (.exit 0))
 (.seq (.block 1 (.seq (rg [oO 15 (.move (tT 13)), oO 7 (.assign (tT 15))])
 (.seq (.reg true [] [⟨⟨some 16, .move (tT 0), none⟩, false, true⟩, ⟨⟨some 17, .move (tT 7), none⟩, false, true⟩, ⟨⟨some 18, .fieldAddr 84 (tT 4) 2, none⟩, false, true⟩, ⟨⟨some 19, .indexAddr 82 (tT 18) (tT 17), none⟩, false, true⟩, ⟨⟨some 20, .load 81 (tT 19), none⟩, false, true⟩, ⟨⟨some 21, .move (tT 7), none⟩, false, true⟩, oO 22 (.fieldAddr 84 (tT 5) 2), oO 23 (.indexAddr 82 (tT 22) (tT 21)), oO 24 (.load 81 (tT 23)), oO 25 (cF (.func 207) #[tT 16, tT 20, tT 24] #[22, 81, 81]), oO 26 (.unOp .not 4 (tT 25))])
 (.cond (tT 26) (.seq (rg [oO 6 (.assign (.const (.bool false)))])
 (.ret))
 (.skip)))))
 (rg [oO 27 (.binOp .add 3 (tT 13) (kI 1) 3), oO 13 (.move (tT 27))])))))))
 (.seq (rg [oO 6 (.assign (.const (.bool true)))])
 .ret)))
theorem F171 : Fun1 Tryz.prog 171 28 c171 [.tmp 6] := mkT Tryz.func171 rfl (by decide +kernel) Tryz.ntmps171 rfl (by kernel_rfl) rfl
def c82 : AC :=
.seq (rg [oO 4 (.alloc 38), oO 5 (.assign (kI 0))])
 (.seq (rg [oO 12 (.build 38 #[]), oO 6 (.alloc 38), oN (.store 38 (tT 6) (tT 12))])
 (.seq (.block 0 (.seq (rg [oO 14 (.move (tT 1)), oO 15 (.binOp .lss 3 (tT 14) (kI 0) 3), oO 16 (.move (tT 15)), oG 17 (.move (tT 1)) 16 false, oG 18 (.move (tT 0)) 16 false, oG 19 (cB .len #[tT 18] #[26]) 16 false, oG 20 (.binOp .gtr 3 (tT 17) (tT 19) 3) 16 false, oO 21 (.pick (tT 16) (.const (.bool true)) (tT 20)), oO 13 (.assign (tT 21))])
 (.cond (tT 13) (.seq (rg [oO 22 (.load 38 (tT 6)), oN (.store 38 (tT 4) (tT 22)), oO 5 (.assign (kI 1))])
 (.ret))
 (.seq (rg [oO 24 (.move (tT 1)), oO 25 (.move (tT 0)), oO 26 (cB .len #[tT 25] #[26]), oO 27 (.binOp .eql 3 (tT 24) (tT 26) 3), oO 23 (.assign (tT 27))])
 (.cond (tT 23) (.seq (rg [oO 28 (.load 38 (tT 6)), oN (.store 38 (tT 4) (tT 28)), oO 5 (.assign (kI 2))])
 (.ret))
 (.seq (rg [oO 30 (.move (tT 0)), oO 31 (.move (tT 1)), oO 32 (.indexAddr 26 (tT 30) (tT 31)), oO 33 (.load 5 (tT 32)), oO 34 (cF (.func 84) #[tT 33] #[5]), oO 35 (.binOp .eql 3 (tT 34) (kI 0) 3), oO 29 (.assign (tT 35))])
 (.cond (tT 29) (.seq (rg [oO 36 (.load 38 (tT 6)), oN (.store 38 (tT 4) (tT 36)), oO 5 (.assign (kI 40))])
 (.ret))
 (.seq (rg [oO 38 (.move (tT 0)), oO 39 (cB .len #[tT 38] #[26]), oO 40 (.move (tT 1)), oO 41 (.binOp .sub 3 (tT 39) (tT 40) 3), oO 42 (.move (tT 0)), oO 43 (.move (tT 1)), oO 44 (.indexAddr 26 (tT 42) (tT 43)), oO 45 (.load 5 (tT 44)), oO 46 (cF (.func 84) #[tT 45] #[5]), oO 47 (.binOp .lss 3 (tT 41) (tT 46) 3), oO 37 (.assign (tT 47))])
 (.cond (tT 37) (.seq (rg [oO 48 (.load 38 (tT 6)), oN (.store 38 (tT 4) (tT 48)), oO 5 (.assign (kI 2))])
 (.ret))
 (.skip))))))))))
 (.seq (rg [oO 49 (.move (tT 1)), oO 50 (.move (tT 0)), oO 51 (.move (tT 1)), oO 52 (.indexAddr 26 (tT 50) (tT 51)), oO 53 (.load 5 (tT 52)), oO 54 (.build 38 #[(0, .tmp 49), (1, .tmp 53)]), oO 7 (.alloc 38), oN (.store 38 (tT 7) (tT 54))])
 (.seq (rg [oO 55 (.move (tT 0)), oO 56 (.move (tT 1)), oO 57 (.binOp .add 3 (tT 56) (kI 1) 3), oO 58 (.slice 26 (tT 55) (some (tT 57)) none none), oO 8 (.alloc 26), oN (.store 26 (tT 8) (tT 58))])
 (.seq (rg [oO 59 (.makeFunc (.func 127) #[] #[tT 8]), oO 9 (.assign (tT 59))])
 (.seq (rg [oO 61 (.fieldAddr 38 (tT 7) 1), oO 62 (.load 5 (tT 61)), oO 63 (cF (.func 128) #[tT 62] #[5]), oO 60 (.move (tT 63)), oO 64 (.extract (tT 60) 0), oO 65 (.extract (tT 60) 1), oO 10 (.assign (tT 64)), oO 11 (.assign (tT 65))])
 (.seq (rg [oO 66 (.move (tT 9)), oO 67 (.move (tT 10)), oO 68 (cF (tT 66) #[tT 67] #[3]), oO 69 (.fieldAddr 38 (tT 7) 2), oN (.store 3 (tT 69) (tT 68))])
 (.seq (rg [oO 70 (.move (tT 9)), oO 71 (.move (tT 11)), oO 72 (cF (tT 70) #[tT 71] #[3]), oO 73 (.fieldAddr 38 (tT 7) 3), oN (.store 3 (tT 73) (tT 72))])
 (.seq (.seq (rg [oO 74 (.fieldAddr 38 (tT 7) 1), oO 75 (.load 5 (tT 74)), oO 76 (.binOp .eql 5 (tT 75) (kB 2) 5), oO 77 (.move (tT 76)), oG 78 (.fieldAddr 38 (tT 7) 2) 77 true, oG 79 (.load 3 (tT 78)) 77 true, oG 80 (.binOp .gtr 3 (tT 79) (kI 1) 3) 77 true, oO 81 (.pick (tT 77) (tT 80) (.const (.bool false)))])
 (.cond (tT 81) (.seq (rg [oO 82 (.load 38 (tT 6)), oN (.store 38 (tT 4) (tT 82)), oO 5 (.assign (kI 5))])
 (.ret))
 (.skip)))
 (.seq (rg [oO 83 (.load 38 (tT 7)), oN (.store 38 (tT 4) (tT 83)), oO 5 (.assign (kI 0))])
 .ret))))))))))
theorem F82 : Fun1 Tryz.prog 82 84 c82 [.cell 4 38, .tmp 5] := mkT Tryz.func82 rfl (by decide +kernel) Tryz.ntmps82 rfl (by kernel_rfl) rfl
def c127 : AC :=
.seq (rg [oO 3 (.assign (kI 0))])
 (.seq (rg [oO 4 (.assign (kI 0))])
 (.seq (.seq (rg [oO 7 (.load 26 (tT 1)), oO 8 (.move (tT 0)), oO 9 (.slice 26 (tT 7) none (some (tT 8)) none), oO 10 (cB .len #[tT 9] #[26]), oO 11 (.move (kI 0))])
 (.block 0 (.loop (.seq (rg [oO 12 (.binOp .lss 3 (tT 11) (tT 10) 3)])
 (.seq (.cond (tT 12) (.skip)
 (.exit 0))
 (.seq (.block 1 (.seq (rg [oO 13 (.indexAddr 26 (tT 9) (tT 11)), oO 14 (.load 5 (tT 13)), oO 6 (.assign (tT 14))])
 (rg [oO 15 (.move (tT 4)), oO 16 (.binOp .shl 3 (tT 15) (.const (.int .u64 8)) 67), oO 17 (.move (tT 6)), oO 18 (.convert 5 3 (tT 17)), oO 19 (.binOp .or 3 (tT 16) (tT 18) 3), oO 4 (.assign (tT 19))])))
 (rg [oO 20 (.binOp .add 3 (tT 11) (kI 1) 3), oO 11 (.move (tT 20))])))))))
 (.seq (rg [oO 21 (.load 26 (tT 1)), oO 22 (.move (tT 0)), oO 23 (.slice 26 (tT 21) (some (tT 22)) none none), oN (.store 26 (tT 1) (tT 23))])
 (.seq (.seq (rg [oO 24 (.move (tT 0)), oO 25 (.binOp .eql 3 (tT 24) (kI 4) 3)])
 (.cond (tT 25) (.seq (rg [oO 26 (.move (tT 4)), oO 27 (.convert 3 21 (tT 26)), oO 28 (.convert 21 3 (tT 27)), oO 3 (.assign (tT 28))])
 (.ret))
 (.skip)))
 (.seq (rg [oO 29 (.move (tT 4)), oO 3 (.assign (tT 29))])
 .ret)))))
theorem F127 : Fun1 Tryz.prog 127 30 c127 [.tmp 3] := mkT Tryz.func127 rfl (by decide +kernel) Tryz.ntmps127 rfl (by kernel_rfl) rfl
def c83 : AC :=
.seq (rg [oO 2 (.assign (.const (.bool false)))])
 (.seq (rg [oO 3 (.move (tT 0)), oO 4 (.binOp .eql 5 (tT 3) (kB 19) 5), oO 5 (.move (tT 4)), oG 6 (.move (tT 0)) 5 false, oG 7 (.binOp .eql 5 (tT 6) (kB 20) 5) 5 false, oO 8 (.pick (tT 5) (.const (.bool true)) (tT 7)), oO 2 (.assign (tT 8))])
 .ret)
theorem F83 : Fun1 Tryz.prog 83 9 c83 [.tmp 2] := mkT Tryz.func83 rfl (by decide +kernel) Tryz.ntmps83 rfl (by kernel_rfl) rfl
def c19 : AC :=
.seq (rg [oO 4 (.alloc 38), oO 5 (.assign (kI 0))])
 (.seq (rg [oO 6 (.alloc 38)])
 (.seq (.seq (rg [oO 12 (.move (tT 1)), oO 13 (.binOp .lss 3 (tT 12) (kI 0) 3), oO 14 (.move (tT 13)), oG 15 (.move (tT 1)) 14 false, oG 16 (.move (tT 0)) 14 false, oG 17 (cB .len #[tT 16] #[26]) 14 false, oG 18 (.binOp .gtr 3 (tT 15) (tT 17) 3) 14 false, oO 19 (.pick (tT 14) (.const (.bool true)) (tT 18))])
 (.cond (tT 19) (.seq (rg [oO 20 (.load 38 (tT 6)), oN (.store 38 (tT 4) (tT 20)), oO 5 (.assign (kI 1))])
 (.ret))
 (.skip)))
 (.seq (.seq (rg [oO 21 (.move (tT 1)), oO 22 (.move (tT 0)), oO 23 (cB .len #[tT 22] #[26]), oO 24 (.binOp .eql 3 (tT 21) (tT 23) 3)])
 (.cond (tT 24) (.seq (rg [oO 25 (.load 38 (tT 6)), oN (.store 38 (tT 4) (tT 25)), oO 5 (.assign (kI 2))])
 (.ret))
 (.skip)))
 (.seq (rg [oO 26 (.move (tT 0)), oO 27 (.move (tT 1)), oO 28 (.indexAddr 26 (tT 26) (tT 27)), oO 29 (.load 5 (tT 28)), oO 7 (.assign (tT 29))])
 (.seq (rg [oO 30 (.move (tT 7)), oO 31 (cF (.func 20) #[tT 30] #[5]), oO 8 (.assign (tT 31))])
 (.seq (.seq (rg [oO 32 (.move (tT 8)), oO 33 (.binOp .eql 3 (tT 32) (kI 0) 3)])
 (.cond (tT 33) (.seq (rg [oO 34 (.load 38 (tT 6)), oN (.store 38 (tT 4) (tT 34)), oO 5 (.assign (kI 40))])
 (.ret))
 (.skip)))
 (.seq (.seq (rg [oO 35 (.move (tT 0)), oO 36 (cB .len #[tT 35] #[26]), oO 37 (.move (tT 1)), oO 38 (.binOp .sub 3 (tT 36) (tT 37) 3), oO 39 (.move (tT 8)), oO 40 (.binOp .lss 3 (tT 38) (tT 39) 3)])
 (.cond (tT 40) (.seq (rg [oO 41 (.load 38 (tT 6)), oN (.store 38 (tT 4) (tT 41)), oO 5 (.assign (kI 2))])
 (.ret))
 (.skip)))
 (.seq (rg [oO 43 (.move (tT 7)), oO 44 (cF (.func 63) #[tT 43] #[5]), oO 42 (.move (tT 44)), oO 45 (.extract (tT 42) 0), oO 46 (.extract (tT 42) 1), oO 9 (.assign (tT 45)), oO 10 (.assign (tT 46))])
 (.seq (.reg true [] [⟨⟨some 47, .move (tT 1), none⟩, true, true⟩, ⟨⟨some 48, .move (tT 7), none⟩, true, true⟩, ⟨⟨some 49, .move (tT 0), none⟩, false, true⟩, ⟨⟨some 50, .move (tT 1), none⟩, false, true⟩, ⟨⟨some 51, .binOp .add 3 (tT 50) (kI 1) 3, none⟩, false, true⟩, ⟨⟨some 52, .slice 26 (tT 49) (some (tT 51)) none none, none⟩, false, true⟩, ⟨⟨some 53, .move (tT 9), none⟩, false, true⟩, ⟨⟨some 54, cF (.func 64) #[tT 52, tT 53] #[26, 3], none⟩, false, true⟩, ⟨⟨some 55, .move (tT 0), none⟩, true, true⟩, ⟨⟨some 56, .move (tT 1), none⟩, true, true⟩, ⟨⟨some 57, .binOp .add 3 (tT 56) (kI 1) 3, none⟩, true, true⟩, ⟨⟨some 58, .move (tT 9), none⟩, true, true⟩, ⟨⟨some 59, .binOp .add 3 (tT 57) (tT 58) 3, none⟩, true, true⟩, ⟨⟨some 60, .slice 26 (tT 55) (some (tT 59)) none none, none⟩, true, true⟩, ⟨⟨some 61, .move (tT 10), none⟩, true, true⟩, ⟨⟨some 62, cF (.func 64) #[tT 60, tT 61] #[26, 3], none⟩, false, true⟩, ⟨⟨some 63, .build 38 #[(0, .tmp 47), (1, .tmp 48), (2, .tmp 54), (3, .tmp 62)], none⟩, false, true⟩, ⟨⟨some 11, .alloc 38, none⟩, true, false⟩, oN (.store 38 (tT 11) (tT 63))])
 (.seq (.seq (rg [oO 64 (.move (tT 7)), oO 65 (.binOp .eql 5 (tT 64) (kB 2) 5), oO 66 (.move (tT 65)), oG 67 (.fieldAddr 38 (tT 11) 2) 66 true, oG 68 (.load 3 (tT 67)) 66 true, oG 69 (.binOp .gtr 3 (tT 68) (kI 1) 3) 66 true, oO 70 (.pick (tT 66) (tT 69) (.const (.bool false)))])
 (.cond (tT 70) (.seq (rg [oO 71 (.load 38 (tT 6)), oN (.store 38 (tT 4) (tT 71)), oO 5 (.assign (kI 5))])
 (.ret))
 (.skip)))
 (.seq (rg [oO 72 (.load 38 (tT 11)), oN (.store 38 (tT 4) (tT 72)), oO 5 (.assign (kI 0))])
 .ret)))))))))))
theorem F19 : Fun1 Tryz.prog 19 73 c19 [.cell 4 38, .tmp 5] := mkT Tryz.func19 rfl (by decide +kernel) Tryz.ntmps19 rfl (by kernel_rfl) rfl
def c64 : AC :=
.seq (rg [oO 4 (.assign (kI 0))])
 (.seq (rg [oO 5 (.assign (kI 0))])
 (.seq (.seq (rg [oO 6 (.assign (kI 0))])
 (.block 0 (.loop (.seq (.seq (rg [oO 7 (.move (tT 6)), oO 8 (.move (tT 1)), oO 9 (.binOp .lss 3 (tT 7) (tT 8) 3)])
 (.cond (tT 9) (.skip)
 (.exit 0)))
 (.seq (.block 1 (rg [oO 12 (.move (tT 5)), oO 13 (.binOp .mul 3 (kI 256) (tT 12) 3), oO 14 (.move (tT 0)), oO 15 (.move (tT 6)), oO 16 (.indexAddr 26 (tT 14) (tT 15)), oO 17 (.load 5 (tT 16)), oO 18 (.convert 5 3 (tT 17)), oO 19 (.binOp .add 3 (tT 13) (tT 18) 3), oO 5 (.assign (tT 19))]))
 (rg [oO 10 (.move (tT 6)), oO 11 (.binOp .add 3 (tT 10) (kI 1) 3), oO 6 (.assign (tT 11))]))))))
 (.seq (.seq (rg [oO 20 (.move (tT 1)), oO 21 (.binOp .eql 3 (tT 20) (kI 4) 3), oO 22 (.move (tT 21)), oG 23 (.move (tT 5)) 22 true, oG 24 (.binOp .gtr 3 (tT 23) (kI 2147483647) 3) 22 true, oO 25 (.pick (tT 22) (tT 24) (.const (.bool false)))])
 (.cond (tT 25) (rg [oO 26 (.move (tT 5)), oO 27 (.binOp .sub 3 (tT 26) (kI 4294967296) 3), oO 5 (.assign (tT 27))])
 (.skip)))
 (.seq (rg [oO 28 (.move (tT 5)), oO 4 (.assign (tT 28))])
 .ret))))
theorem F64 : Fun1 Tryz.prog 64 29 c64 [.tmp 4] := mkT Tryz.func64 rfl (by decide +kernel) Tryz.ntmps64 rfl (by kernel_rfl) rfl
def c22 : AC :=
.seq (rg [oO 2 (.assign (.const (.bool false)))])
 (.seq (rg [oO 3 (.move (tT 0)), oO 4 (.binOp .eql 5 (tT 3) (kB 19) 5), oO 5 (.move (tT 4)), oG 6 (.move (tT 0)) 5 false, oG 7 (.binOp .eql 5 (tT 6) (kB 20) 5) 5 false, oO 8 (.pick (tT 5) (.const (.bool true)) (tT 7)), oO 2 (.assign (tT 8))])
 .ret)
theorem F22 : Fun1 Tryz.prog 22 9 c22 [.tmp 2] := mkT Tryz.func22 rfl (by decide +kernel) Tryz.ntmps22 rfl (by kernel_rfl) rfl
open Go.Proofs
def jumpsB (op : Nat) : Bool := decide (op = 19 ∨ op = 20)
theorem jumps83 (t : Ty) : zf9 Tryz.prog 83 [.int .u8 t.val] (.bool (jumpsB t.val)) := by
  refine F83.pcall' rfl fun T hT => ?_
  simp -implicitDefEqProofs only [go_sem, mmB, c83, hT]
  exact zc2 (by rw [Bool.eq_iff_iff]; simp [jumpsB]; omega)
theorem refJumps22 (t : Ty) : zf9 Tryz.prog 22 [.int .u8 t.val] (.bool (jumpsB t.val)) := by
  refine F22.pcall' rfl fun T hT => ?_
  simp -implicitDefEqProofs only [go_sem, mmB, c22, hT]
  exact zc2 (by rw [Bool.eq_iff_iff]; simp [jumpsB]; omega)
def numB : List Ty → Nat → Nat
  | [], n => n
  | b :: r, n => numB r (256 * n + b.val)
theorem numB_lt : ∀ (l : List Ty) (n : Nat), numB l n < 256 ^ l.length * (n + 1)
  | [], n => by simp [numB]
  | b :: r, n => by
    have := numB_lt r (256 * n + b.val)
    have hb := b.isLt
    rw [numB, List.length_cons, Nat.pow_succ]
    have h2 : 256 ^ r.length * (256 * n + b.val + 1) ≤ 256 ^ r.length * (256 * (n + 1)) := Nat.mul_le_mul_left _ (by omega)
    rw [Nat.mul_assoc]
    omega
theorem numB_snoc : ∀ (l : List Ty) (b : Ty) (n : Nat), numB (l ++ [b]) n = 256 * numB l n + b.val
  | [], b, n => rfl
  | a :: r, b, n => by rw [List.cons_append, numB, numB_snoc r b]; rfl
def opdB (l : List Ty) : Int := if l.length = 4 ∧ 2147483647 < numB l 0 then (numB l 0 : Int) - 4294967296 else numB l 0
theorem refTake64 (l : List Ty) (o : Own) (k : Nat) (hk : k ≤ 4) (hl : k ≤ l.length) : zf9 Tryz.prog 64 [.slice o (rws eT l), .int .i64 k] (.int .i64 (opdB (l.take k))) := by
  refine F64.pcall' rfl fun T hT => ?_
  simp -implicitDefEqProofs only [go_sem, c64, hT]
  have hp : ∀ i : Nat, i ≤ 4 → (256 : Nat) ^ i ≤ 4294967296 := fun i hi => by
    have : i = 0 ∨ i = 1 ∨ i = 2 ∨ i = 3 ∨ i = 4 := by omega
    rcases this with rfl | rfl | rfl | rfl | rfl <;> decide
  refine loopL F64 (fun i : Nat => [(0, .slice o (rws eT l)), (1, .int .i64 k), (5, .int .i64 (numB (l.take i) 0)), (6, .int .i64 i)]) (fun _ => {}) (fun i => i ≤ k) (fun i => k - i) 0 (Nat.zero_le _) ?_ (St.le.nil _) ?_
  · simp -implicitDefEqProofs only [go_sem, hT, Int.ofNat_zero]
    all_goals rfl
  clear hT T
  rintro i hi T hT
  by_cases h : i < k
  · have h1 : ((i : Int) < k) = True := by simp; omega
    have hil : i < l.length := by omega
    have hR : (rws eT l)[i]?.getD [] = eT l[i] := rws_at hil
    have htk : l.take (i + 1) = l.take i ++ [l[i]] := List.take_succ_eq_append_getElem hil
    have hlt := numB_lt (l.take i) 0
    have hpi := hp i (by omega)
    rw [List.length_take, Nat.min_eq_left (by omega)] at hlt
    have hlt2 : numB (l.take i) 0 < 4294967296 := by omega
    have hns := numB_snoc (l.take i) l[i] 0
    rw [← htk] at hns
    have hb := l[i].isLt
    generalize l[i] = b at *
    have w1 : IntKind.wrap .i64 (256 * (numB (l.take i) 0 : Int)) = 256 * (numB (l.take i) 0 : Int) := zb7 (by omega) (by omega)
    have w2 : IntKind.wrap .i64 (b.val : Int) = b.val := zb7 (by omega) (by omega)
    have w3 : IntKind.wrap .i64 (256 * (numB (l.take i) 0 : Int) + b.val) = (numB (l.take (i + 1)) 0 : Int) := by rw [zb7 (by omega) (by omega), hns]; simp
    have w4 : IntKind.wrap .i64 ((i : Int) + 1) = ((i + 1 : Nat) : Int) := by rw [zb7 (by omega) (by omega)]; simp
    have hm : k - (i + 1) < k - i := by omega
    simp -implicitDefEqProofs only [go_sem, hT, h1, hR, eT, eT_len, w1, w2, w3]
    refine ⟨by omega, i + 1, h, hm, ⟨rfl, ?_⟩, St.le.refl _⟩
    rw [w4]
  · obtain rfl : i = k := by omega
    have h1 : ((i : Int) < i) = False := by simp
    have hlt := numB_lt (l.take i) 0
    have hpi := hp i hk
    have hlen : (l.take i).length = i := by rw [List.length_take, Nat.min_eq_left hl]
    rw [hlen] at hlt
    obtain ⟨n, hn⟩ : ∃ n, numB (l.take i) 0 = n := ⟨_, rfl⟩
    have hod : opdB (l.take i) = if i = 4 ∧ 2147483647 < n then (n : Int) - 4294967296 else n := by rw [opdB, hlen, hn]
    rw [hn] at hlt hT
    rw [hod]
    by_cases h4 : i = 4
    · subst h4
      have c4 : (((4 : Nat) : Int) = 4) = True := by simp
      by_cases hbig : 2147483647 < n
      · have hq : ((2147483647 : Int) < n) = True := by simp; omega
        have w5 : IntKind.wrap .i64 ((n : Int) - 4294967296) = (n : Int) - 4294967296 := zb7 (by omega) (by omega)
        rw [if_pos ⟨rfl, hbig⟩]
        simp -implicitDefEqProofs only [go_sem, hT, h1, hq, w5, c4]
      · have hq : ((2147483647 : Int) < n) = False := by simp; omega
        rw [if_neg (fun h => hbig h.2)]
        simp -implicitDefEqProofs only [go_sem, hT, h1, hq, c4]
    · have hq : ((i : Int) = 4) = False := by simp; omega
      rw [if_neg (fun h => h4 h.1)]
      simp -implicitDefEqProofs only [go_sem, hT, h1, hq]
theorem or_byte (n b : Nat) (hn : n < 16777216) (hb : b < 256) : IntKind.wrap .i64 ((BitVec.ofInt 64 (256 * (n : Int)) ||| BitVec.ofInt 64 (b : Int)).toNat : Int) = ((256 * n + b : Nat) : Int) := by
  have e1 : BitVec.ofInt 64 (256 * (n : Int)) = BitVec.ofNat 64 (256 * n) := by
    rw [show (256 * (n : Int)) = ((256 * n : Nat) : Int) by simp]; exact BitVec.ofInt_natCast _ _
  have e2 : BitVec.ofInt 64 (b : Int) = BitVec.ofNat 64 b := BitVec.ofInt_natCast _ _
  rw [e1, e2, BitVec.toNat_or, BitVec.toNat_ofNat, BitVec.toNat_ofNat]
  rw [Nat.mod_eq_of_lt (show 256 * n < 2 ^ 64 by omega), Nat.mod_eq_of_lt (show b < 2 ^ 64 by omega)]
  have : 256 * n ||| b = 256 * n + b := by
    have := Nat.two_pow_add_eq_or_of_lt (i := 8) (b := b) (show b < 2 ^ 8 by omega) n
    rw [show (2 : Nat) ^ 8 = 256 from rfl] at this
    exact this.symm
  rw [this, zb7 (by omega) (by omega)]
theorem wrap_i32n (n : Nat) (h : n < 4294967296) : IntKind.wrap .i32 (n : Int) = if 2147483647 < n then (n : Int) - 4294967296 else n := by
  have e : IntKind.wrap .i32 (n : Int) = if 2147483648 ≤ (n : Int) % 4294967296 then (n : Int) % 4294967296 - 4294967296 else (n : Int) % 4294967296 := by simp [IntKind.wrap, IntKind.bits, IntKind.signed]
  rw [e]; split <;> split <;> omega
theorem rws_drop {α : Type} {enc : α → List D} {l : List α} {k : Nat} : (rws enc l).drop k = rws enc (l.drop k) := by simp [rws]
theorem rows_len {α : Type} {enc : α → List D} {n : Nat} (h : ∀ a, (enc a).length = n) (l : List α) : ∀ e ∈ rws enc l, e.length = n := fun e he => by
  simp only [rws, List.mem_map] at he
  obtain ⟨a, _, rfl⟩ := he; exact h a
theorem take127 (l : List Ty) (o : Own) (k b : Nat) (hk : k = 0 ∨ k = 1 ∨ k = 2 ∨ k = 4) (hl : k ≤ l.length) :
    RCall Tryz.prog 127 [.int .i64 k, .ptr b 0] (({} : St).set b [.slice o (rws eT l)]) fun d s' => d = .int .i64 (opdB (l.take k)) ∧ s' = (({} : St).set b [.slice .no (rws eT (l.drop k))]) := by
  refine F127.rcall rfl fun T hT => ?_
  simp -implicitDefEqProofs only [go_sem, c127, hT]
  refine ⟨⟨by omega, rows_len eT_len l⟩, ?_⟩
  have hlen : (l.take k).length = k := by rw [List.length_take, Nat.min_eq_left hl]
  have hp : ∀ i : Nat, i ≤ 4 → (256 : Nat) ^ i ≤ 4294967296 := fun i hi => by
    have : i = 0 ∨ i = 1 ∨ i = 2 ∨ i = 3 ∨ i = 4 := by omega
    rcases this with rfl | rfl | rfl | rfl | rfl <;> decide
  have hp3 : ∀ i : Nat, i ≤ 3 → (256 : Nat) ^ i ≤ 16777216 := fun i hi => by
    have : i = 0 ∨ i = 1 ∨ i = 2 ∨ i = 3 := by omega
    rcases this with rfl | rfl | rfl | rfl <;> decide
  have hk4 : k ≤ 4 := by omega
  refine loopL F127 (fun i : Nat => [(0, .int .i64 k), (1, .ptr b 0), (4, .int .i64 (numB (l.take i) 0)), (9, .slice .no (rws eT (l.take k))), (10, .int .i64 k), (11, .int .i64 i)]) (fun _ => ({} : St).set b [.slice o (rws eT l)]) (fun i => i ≤ k) (fun i => k - i) 0 (Nat.zero_le _) ?_ (St.le.refl _) ?_
  · simp -implicitDefEqProofs only [go_sem, hT, Int.ofNat_zero, rws_take, rws_drop, List.drop_zero, hlen]
    all_goals rfl
  clear hT T
  rintro i hi T hT
  by_cases h : i < k
  · have h1 : ((i : Int) < k) = True := by simp; omega
    have hil : i < l.length := by omega
    have hik : i < (l.take k).length := by omega
    have hR : (rws eT (l.take k))[i]?.getD [] = eT l[i] := by rw [rws_at hik]; simp
    have htk : l.take (i + 1) = l.take i ++ [l[i]] := List.take_succ_eq_append_getElem hil
    have hlt := numB_lt (l.take i) 0
    have hpi := hp3 i (by omega)
    rw [List.length_take, Nat.min_eq_left (by omega)] at hlt
    have hns := numB_snoc (l.take i) l[i] 0
    rw [← htk] at hns
    have hb := l[i].isLt
    have hor := or_byte (numB (l.take i) 0) l[i].val (by omega) hb
    generalize l[i] = x at *
    have w0 : IntKind.wrap .i64 ((numB (l.take i) 0 : Int) * 256) = 256 * (numB (l.take i) 0 : Int) := by rw [zb7 (by omega) (by omega)]; omega
    have w2 : IntKind.wrap .i64 (x.val : Int) = x.val := zb7 (by omega) (by omega)
    have w4 : IntKind.wrap .i64 ((i : Int) + 1) = ((i + 1 : Nat) : Int) := by rw [zb7 (by omega) (by omega)]; simp
    have hm : k - (i + 1) < k - i := by omega
    have h28 : (2 : Int) ^ min 8 64 = 256 := by decide
    rw [← hns] at hor
    simp -implicitDefEqProofs only [go_sem, hT, h1, hR, eT, eT_len, hlen, h28, w0, w2, hor]
    refine ⟨by omega, i + 1, h, hm, ?_, St.le.refl _⟩
    exact ⟨congrArg (D.int .i64) hor, by rw [w4]⟩
  · obtain rfl : i = k := by omega
    have h1 : ((i : Int) < i) = False := by simp
    have hlt := numB_lt (l.take i) 0
    have hpi := hp i hk4
    rw [hlen] at hlt
    obtain ⟨n, hn⟩ : ∃ n, numB (l.take i) 0 = n := ⟨_, rfl⟩
    have hod : opdB (l.take i) = if i = 4 ∧ 2147483647 < n then (n : Int) - 4294967296 else n := by rw [opdB, hlen, hn]
    rw [hn] at hlt hT
    rw [hod]
    have hdl : ((i : Int)).toNat = i := by simp
    by_cases h4 : i = 4
    · subst h4
      have c4 : (((4 : Nat) : Int) = 4) = True := by simp
      have hw32 := wrap_i32n n (by omega)
      have hw64 : IntKind.wrap .i64 (if 2147483647 < n then (n : Int) - 4294967296 else n) = if 2147483647 < n then (n : Int) - 4294967296 else n := by
        refine zb7 ?_ ?_ <;> split <;> omega
      simp -implicitDefEqProofs only [go_sem, hT, h1, c4, rws_take, rws_drop, hw32, hw64, za2]
      refine ⟨⟨by omega, rows_len eT_len l⟩, _, _, DLe.refl _, St.le.refl _, ?_, ?_⟩
      · simp
      · simp [rws_take, rws_drop, za0]
    · have hq : ((i : Int) = 4) = False := by simp; omega
      rw [if_neg (fun h => h4 h.1)]
      simp -implicitDefEqProofs only [go_sem, hT, h1, hq, rws_take, rws_drop, za2]
      refine ⟨⟨by omega, rows_len eT_len l⟩, _, _, DLe.refl _, St.le.refl _, rfl, ?_⟩
      simp [rws_take, rws_drop, za0]
open Go.Proofs
def ins0 : Ins := ⟨0, 0, 0, 0⟩
def decIn (b : List Ty) (at' : Nat) (op : Ty) : Ins := ⟨at', op, opdB ((b.drop (at' + 1)).take (wid op.val).1), opdB ((b.drop (at' + 1 + (wid op.val).1)).take (wid op.val).2)⟩
def decF (b : List Ty) (at' : Nat) : Ins × Nat :=
  if b.length < at' then (ins0, 1)
  else if b.length = at' then (ins0, 2)
  else if sizeOp ((b[at']?).getD 0).val = 0 then (ins0, 40)
  else if b.length - at' < sizeOp ((b[at']?).getD 0).val then (ins0, 2)
  else if ((b[at']?).getD 0).val = 2 ∧ 1 < (decIn b at' ((b[at']?).getD 0)).a then (ins0, 5)
  else (decIn b at' ((b[at']?).getD 0), 0)
theorem ze3 : [D.int .i64 0, D.int .u8 0, D.int .i64 0, D.int .i64 0] = eIn ins0 := rfl
theorem sizeOp_le (n : Nat) : sizeOp n ≤ 6 := by
  have := wid_le n
  unfold sizeOp; split <;> omega
theorem wid_vals (n : Nat) : ((wid n).1 = 0 ∨ (wid n).1 = 1 ∨ (wid n).1 = 2 ∨ (wid n).1 = 4) ∧ ((wid n).2 = 0 ∨ (wid n).2 = 1) := by
  unfold wid; repeat' split
  all_goals simp
def bYfaD0 := aI @zb6 (aI @zb3 (aI @za2 (aI @za3 @ze3)))
def bYfaD1 := aI @zb6 (aI @zb3 (aI @za2 (aI @za3 @gdD)))
theorem refDecode19 (b : List Ty) (o : Own) (at' : Nat) (hl : b.length ≤ 140737488355328) (ha : at' ≤ 140737488355328) : zf9 Tryz.prog 19 [.slice o (rws eT b), .int .i64 at'] (.tup [.agg (eIn (decF b at').1), .int .i64 (decF b at').2]) := by
  have g0 : ((at' : Int) < 0) = False := by simp
  refine F19.pcall' rfl fun T hT => ?_
  simp -implicitDefEqProofs only [go_sem, c19, hT, bYfaD0]
  intro b4 b6 n1 n2
  by_cases h1 : b.length < at'
  · have q1 : ((b.length : Int) < at') = True := by simp; omega
    rw [decF, if_pos h1]
    simp -implicitDefEqProofs only [go_sem, hT, n1, n2, g0, q1, bYfaD0]
    all_goals exact DLe.refl _
  have q1 : ((b.length : Int) < at') = False := by simp; omega
  by_cases h2 : b.length = at'
  · have q2 : ((at' : Int) = b.length) = True := by simp; omega
    rw [decF, if_neg h1, if_pos h2]
    simp -implicitDefEqProofs only [go_sem, hT, n1, n2, g0, q1, q2, bYfaD0]
    all_goals exact DLe.refl _
  have q2 : ((at' : Int) = b.length) = False := by simp; omega
  have hlt : at' < b.length := by omega
  have hR : (rws eT b)[at']?.getD [] = eT b[at'] := rws_at hlt
  have hget : (b[at']?).getD 0 = b[at'] := by rw [List.getElem?_eq_getElem hlt]; rfl
  have hd : decF b at' = if sizeOp b[at'].val = 0 then (ins0, 40) else if b.length - at' < sizeOp b[at'].val then (ins0, 2) else if b[at'].val = 2 ∧ 1 < (decIn b at' b[at']).a then (ins0, 5) else (decIn b at' b[at'], 0) := by
    rw [decF, if_neg h1, if_neg h2, hget]
  rw [hd]
  clear hd hget
  generalize b[at'] = op at *
  have hsz := sizeOp_le op.val
  have hso : sizeOp op.val ≠ 0 → sizeOp op.val = 1 + (wid op.val).1 + (wid op.val).2 := fun h => by
    unfold sizeOp at h ⊢; split
    · rename_i h'; rw [if_pos h'] at h; exact absurd rfl h
    · rfl
  have hwl := wid_le op.val
  have wS : IntKind.wrap .i64 ((b.length : Int) - at') = (b.length : Int) - at' := zb7 (by omega) (by omega)
  have b0 : (0 : Int) ≤ at' ∧ (at' : Int) < b.length := by omega
  simp -implicitDefEqProofs only [go_sem, hT, zb6, zb3, za2, za3, n1, n2, g0, q1, q2, hR, eT, eT_len]
  refine ⟨b0, ?_⟩
  refine za4 (refSize74 op) ?_
  by_cases h3 : sizeOp op.val = 0
  · have q3 : ((sizeOp op.val : Int) = 0) = True := by simp; omega
    rw [if_pos h3]
    simp -implicitDefEqProofs only [go_sem, hT, n1, n2, q3, bYfaD0]
    all_goals exact DLe.refl _
  have q3 : ((sizeOp op.val : Int) = 0) = False := by simp; omega
  rw [if_neg h3]
  by_cases h4 : b.length - at' < sizeOp op.val
  · have q4 : ((b.length : Int) - at' < sizeOp op.val) = True := by simp; omega
    rw [if_pos h4]
    simp -implicitDefEqProofs only [go_sem, hT, n1, n2, q3, wS, q4, bYfaD0]
    all_goals exact DLe.refl _
  have q4 : ((b.length : Int) - at' < sizeOp op.val) = False := by simp; omega
  rw [if_neg h4]
  have hs := hso h3
  have w1 : IntKind.wrap .i64 ((at' : Int) + 1) = ((at' + 1 : Nat) : Int) := by rw [zb7 (by omega) (by omega)]; simp
  have w2 : IntKind.wrap .i64 (((at' + 1 : Nat) : Int) + (wid op.val).1) = ((at' + 1 + (wid op.val).1 : Nat) : Int) := by rw [zb7 (by omega) (by omega)]; simp
  have t1 := refTake64 (b.drop (at' + 1)) .no (wid op.val).1 hwl.1 (by rw [List.length_drop]; omega)
  have t2 := refTake64 (b.drop (at' + 1 + (wid op.val).1)) .no (wid op.val).2 (by omega) (by rw [List.length_drop]; omega)
  have b1 : (0 : Int) ≤ ((at' + 1 : Nat) : Int) ∧ ((at' + 1 : Nat) : Int) ≤ b.length := by omega
  have b2 : (0 : Int) ≤ ((at' + 1 + (wid op.val).1 : Nat) : Int) ∧ ((at' + 1 + (wid op.val).1 : Nat) : Int) ≤ b.length := by omega
  obtain ⟨A, hA⟩ : ∃ A, opdB ((b.drop (at' + 1)).take (wid op.val).1) = A := ⟨_, rfl⟩
  obtain ⟨B, hB⟩ : ∃ B, opdB ((b.drop (at' + 1 + (wid op.val).1)).take (wid op.val).2) = B := ⟨_, rfl⟩
  have hdi : decIn b at' op = ⟨at', op, A, B⟩ := by rw [decIn, hA, hB]
  rw [hdi]
  rw [hA] at t1
  rw [hB] at t2
  simp -implicitDefEqProofs only [go_sem, hT, zb6, zb3, za2, za3, n1, n2, q3, wS, q4]
  refine za4 (wide113 op) ?_
  simp -implicitDefEqProofs only [go_sem, hT, zb6, zb3, za2, za3, n1, n2, w1, w2, rws_take, rws_drop, List.take_length]
  refine ⟨⟨by omega, rows_len eT_len b⟩, za4 t1 ?_⟩
  simp -implicitDefEqProofs only [go_sem, hT, zb6, zb3, za2, za3, n1, n2, w1, w2, rws_take, rws_drop, List.take_length]
  refine ⟨⟨by omega, rows_len eT_len b⟩, za4 t2 ?_⟩
  have j2 : (eIn ⟨at', op, A, B⟩)[2]? = some (.int .i64 A) := rfl
  simp -implicitDefEqProofs only [go_sem, hT, zb6, zb3, za2, za3, n1, n2]
  intro b11 m1 m2 m3 m4
  have hfold : [D.int .i64 at', D.int .u8 op.val, D.int .i64 A, D.int .i64 B] = eIn ⟨at', op, A, B⟩ := rfl
  by_cases h5 : op.val = 2
  · have q5 : ((op.val : Int) = 2) = True := by simp; omega
    by_cases h6 : 1 < A
    · have q6 : (1 < A) = True := by simp [h6]
      rw [if_pos ⟨h5, h6⟩]
      simp -implicitDefEqProofs only [go_sem, hT, n1, n2, m1, m2, m3, m4, q5, q6, hfold, j2, bYfaD1]
      all_goals exact DLe.refl _
    · have q6 : (1 < A) = False := by simp; omega
      rw [if_neg (fun h => h6 h.2)]
      simp -implicitDefEqProofs only [go_sem, hT, n1, n2, m1, m2, m3, m4, q5, q6, hfold, j2, bYfaD1]
      all_goals exact DLe.refl _
  · have q5 : ((op.val : Int) = 2) = False := by simp; omega
    rw [if_neg (fun h => h5 h.1)]
    simp -implicitDefEqProofs only [go_sem, hT, n1, n2, m1, m2, m3, m4, q5, hfold, j2, bYfaD1]
    all_goals exact DLe.refl _
open Go.Proofs
theorem zc3 (i : Ins) : (eIn i).drop 4 = [] := rfl
def bYfaE0 := aI @zb6 (aI @zb3 (aI @zc3 (aI @anD (aI @za2 (aI @za3 @ze3)))))
def bYfaE1 := aI @zb6 (aI @zb3 (aI @zc3 (aI @anD (aI @za2 (aI @za3 @eT_len)))))
def bYfaE2 := aI @zb6 (aI @zb3 (aI @zc3 (aI @anD (aI @za2 (aI @za3 @gdD)))))
theorem decode82 (b : List Ty) (o : Own) (at' : Nat) (hl : b.length ≤ 140737488355328) (ha : at' ≤ 140737488355328) : zf9 Tryz.prog 82 [.slice o (rws eT b), .int .i64 at'] (.tup [.agg (eIn (decF b at').1), .int .i64 (decF b at').2]) := by
  have g0 : ((at' : Int) < 0) = False := by simp
  refine F82.pcall' rfl fun T hT => ?_
  simp -implicitDefEqProofs only [go_sem, c82, hT, bYfaE0]
  intro b4 b6 n1 n2
  by_cases h1 : b.length < at'
  · have q1 : ((b.length : Int) < at') = True := by simp; omega
    rw [decF, if_pos h1]
    simp -implicitDefEqProofs only [go_sem, hT, n1, n2, g0, q1, bYfaE0]
    all_goals exact DLe.refl _
  have q1 : ((b.length : Int) < at') = False := by simp; omega
  by_cases h2 : b.length = at'
  · have q2 : ((at' : Int) = b.length) = True := by simp; omega
    rw [decF, if_neg h1, if_pos h2]
    simp -implicitDefEqProofs only [go_sem, hT, n1, n2, g0, q1, q2, bYfaE0]
    all_goals exact DLe.refl _
  have q2 : ((at' : Int) = b.length) = False := by simp; omega
  have hlt : at' < b.length := by omega
  have hR : (rws eT b)[at']?.getD [] = eT b[at'] := rws_at hlt
  have hget : (b[at']?).getD 0 = b[at'] := by rw [List.getElem?_eq_getElem hlt]; rfl
  have hd : decF b at' = if sizeOp b[at'].val = 0 then (ins0, 40) else if b.length - at' < sizeOp b[at'].val then (ins0, 2) else if b[at'].val = 2 ∧ 1 < (decIn b at' b[at']).a then (ins0, 5) else (decIn b at' b[at'], 0) := by
    rw [decF, if_neg h1, if_neg h2, hget]
  rw [hd]
  clear hd hget
  generalize b[at'] = op at *
  have hsz := sizeOp_le op.val
  have hso : sizeOp op.val ≠ 0 → sizeOp op.val = 1 + (wid op.val).1 + (wid op.val).2 := fun h => by
    unfold sizeOp at h ⊢; split
    · rename_i h'; rw [if_pos h'] at h; exact absurd rfl h
    · rfl
  have hwl := wid_le op.val
  have wS : IntKind.wrap .i64 ((b.length : Int) - at') = (b.length : Int) - at' := zb7 (by omega) (by omega)
  have b0 : (0 : Int) ≤ at' ∧ (at' : Int) < b.length := by omega
  simp -implicitDefEqProofs only [go_sem, hT, n1, n2, g0, q1, q2, hR, eT, bYfaE1]
  refine ⟨b0, ?_⟩
  refine za4 (size125 op) ?_
  by_cases h3 : sizeOp op.val = 0
  · have q3 : ((sizeOp op.val : Int) = 0) = True := by simp; omega
    rw [if_pos h3]
    simp -implicitDefEqProofs only [go_sem, hT, n1, n2, q3, bYfaE0]
    all_goals exact DLe.refl _
  have q3 : ((sizeOp op.val : Int) = 0) = False := by simp; omega
  rw [if_neg h3]
  by_cases h4 : b.length - at' < sizeOp op.val
  · have q4 : ((b.length : Int) - at' < sizeOp op.val) = True := by simp; omega
    rw [if_pos h4]
    simp -implicitDefEqProofs only [go_sem, hT, n1, n2, q3, wS, hR, eT, bYfaE1]
    refine ⟨b0, za4 (size125 op) ?_⟩
    simp -implicitDefEqProofs only [go_sem, hT, n1, n2, q4, bYfaE0]
    all_goals exact DLe.refl _
  have q4 : ((b.length : Int) - at' < sizeOp op.val) = False := by simp; omega
  rw [if_neg h4]
  have hs := hso h3
  have w1 : IntKind.wrap .i64 ((at' : Int) + 1) = ((at' + 1 : Nat) : Int) := by rw [zb7 (by omega) (by omega)]; simp
  have b1 : (0 : Int) ≤ ((at' + 1 : Nat) : Int) ∧ ((at' + 1 : Nat) : Int) ≤ b.length := by omega
  obtain ⟨A, hA⟩ : ∃ A, opdB ((b.drop (at' + 1)).take (wid op.val).1) = A := ⟨_, rfl⟩
  obtain ⟨B, hB⟩ : ∃ B, opdB ((b.drop (at' + 1 + (wid op.val).1)).take (wid op.val).2) = B := ⟨_, rfl⟩
  have hdi : decIn b at' op = ⟨at', op, A, B⟩ := by rw [decIn, hA, hB]
  rw [hdi]
  have t1 := fun bb o => take127 (b.drop (at' + 1)) o (wid op.val).1 bb (wid_vals op.val).1 (by rw [List.length_drop]; omega)
  have t2 := fun bb o => take127 (b.drop (at' + 1 + (wid op.val).1)) o (wid op.val).2 bb (by have := (wid_vals op.val).2; omega) (by rw [List.length_drop]; omega)
  rw [List.drop_drop] at t1
  rw [hA] at t1
  rw [hB] at t2
  simp -implicitDefEqProofs only [go_sem, hT, n1, n2, q3, wS, hR, eT, bYfaE1]
  refine ⟨b0, za4 (size125 op) ?_⟩
  simp -implicitDefEqProofs only [go_sem, hT, n1, n2, q4, hR, eT, bYfaE1]
  refine ⟨b0, fun b7 m1 m2 m3 m4 => ?_⟩
  simp -implicitDefEqProofs only [go_sem, hT, zb6, zb3, zc3, anD, za2, za3, n1, n2, m1, m2, m3, m4, w1, rws_take, rws_drop, List.take_length]
  refine ⟨⟨by omega, rows_len eT_len b⟩, fun b8 k1 k2 k3 k4 k5 k6 => ?_⟩
  simp -implicitDefEqProofs only [go_sem, hT, n1, n2, m1, m2, m3, m4, k1, k2, k3, k4, k5, k6, bYfaE2]
  refine za4 (widths152 op) ?_
  simp -implicitDefEqProofs only [go_sem, hT, zb6, zb3, zc3, anD, za2, za3, n1, n2, m1, m2, m3, m4, k1, k2, k3, k4, k5, k6]
  refine callB_box (b := b8) (by simp [St.set]) rfl (t1 b8 .no) ?_
  simp -implicitDefEqProofs only [go_sem, hT, n1, n2, m1, m2, m3, m4, k1, k2, k3, k4, k5, k6, bYfaE2]
  refine callB_box (b := b8) (by simp [St.set, k1]) rfl (t2 b8 .no) ?_
  simp -implicitDefEqProofs only [go_sem, hT, n1, n2, m1, m2, m3, m4, k1, k2, k3, k4, k5, k6, bYfaE2]
  by_cases h5 : op.val = 2
  · have q5 : ((op.val : Int) = 2) = True := by simp; omega
    by_cases h6 : 1 < A
    · have q6 : (1 < A) = True := by simp [h6]
      rw [if_pos ⟨h5, h6⟩]
      simp -implicitDefEqProofs only [go_sem, hT, n1, n2, m1, m2, m3, m4, k1, k2, k3, k4, k5, k6, q5, q6, bYfaE2]
      all_goals exact DLe.refl _
    · have q6 : (1 < A) = False := by simp; omega
      rw [if_neg (fun h => h6 h.2)]
      simp -implicitDefEqProofs only [go_sem, hT, n1, n2, m1, m2, m3, m4, k1, k2, k3, k4, k5, k6, q5, q6, bYfaE2]
      all_goals exact DLe.refl _
  · have q5 : ((op.val : Int) = 2) = False := by simp; omega
    rw [if_neg (fun h => h5 h.1)]
    simp -implicitDefEqProofs only [go_sem, hT, n1, n2, m1, m2, m3, m4, k1, k2, k3, k4, k5, k6, q5, bYfaE2]
    all_goals exact DLe.refl _
open Go.Proofs
def c31 : AC :=
.seq (rg [oO 2 (.alloc 52), oO 3 (.assign (kI 0)), oO 4 (.assign (kI 0))])
 (.seq (rg [oO 10 (.move (tT 0)), oO 11 (cF (.func 72) #[tT 10] #[26]), oO 9 (.move (tT 11)), oO 12 (.extract (tT 9) 0), oO 13 (.extract (tT 9) 1), oO 14 (.extract (tT 9) 2), oO 15 (.extract (tT 9) 3), oO 5 (.assign (tT 12)), oO 6 (.assign (tT 13)), oO 7 (.assign (tT 14)), oO 8 (.assign (tT 15))])
 (.seq (.seq (rg [oO 16 (.move (tT 8)), oO 17 (.binOp .neq 32 (tT 16) (kI 0) 32)])
 (.cond (tT 17) (.seq (rg [oO 18 (.build 52 #[]), oO 19 (.move (tT 7)), oO 20 (.move (tT 8)), oN (.store 52 (tT 2) (tT 18)), oO 3 (.assign (tT 19)), oO 4 (.assign (tT 20))])
 (.ret))
 (.skip)))
 (.seq (rg [oO 21 (.move (tT 0)), oO 22 (.indexAddr 26 (tT 21) (kI 3)), oO 23 (.load 5 (tT 22)), oO 24 (.convert 5 3 (tT 23)), oO 25 (.move (tT 5)), oO 26 (.build 52 #[(0, .tmp 24), (1, .tmp 25)]), oN (.store 52 (tT 2) (tT 26)), oO 3 (.assign (kI 0)), oO 4 (.assign (kI 0))])
 .ret)))
theorem F31 : Fun1 Tryz.prog 31 27 c31 [.cell 2 52, .tmp 3, .tmp 4] := mkT Tryz.func31 rfl (by decide +kernel) Tryz.ntmps31 rfl (by kernel_rfl) rfl
def c72 : AC :=
.seq (rg [oO 2 (.assign (.const (.slice none 0 0))), oO 3 (.assign (.const (.slice none 0 0))), oO 4 (.assign (kI 0)), oO 5 (.assign (kI 0))])
 (.seq (rg [oO 18 (.move (tT 0)), oO 19 (cF (.func 116) #[tT 18] #[26]), oO 17 (.move (tT 19)), oO 20 (.extract (tT 17) 0), oO 21 (.extract (tT 17) 1), oO 22 (.extract (tT 17) 2), oO 23 (.extract (tT 17) 3), oO 6 (.assign (tT 20)), oO 7 (.assign (tT 21)), oO 8 (.assign (tT 22)), oO 9 (.assign (tT 23))])
 (.seq (.seq (rg [oO 24 (.move (tT 9)), oO 25 (.binOp .neq 32 (tT 24) (kI 0) 32)])
 (.cond (tT 25) (.seq (rg [oO 26 (.move (tT 8)), oO 27 (.move (tT 9)), oO 2 (.assign (.const (.slice none 0 0))), oO 3 (.assign (.const (.slice none 0 0))), oO 4 (.assign (tT 26)), oO 5 (.assign (tT 27))])
 (.ret))
 (.skip)))
 (.seq (rg [oO 10 (.assign (.const (.slice none 0 0)))])
 (.seq (rg [oO 11 (.assign (.const (.slice none 0 0)))])
 (.seq (rg [oO 8 (.assign (kI 6))])
 (.seq (rg [oO 12 (.assign (kI (-1)))])
 (.seq (.seq (rg [oO 13 (.assign (kI 0))])
 (.block 0 (.loop (.seq (.seq (rg [oO 28 (.move (tT 13)), oO 29 (.move (tT 7)), oO 30 (.binOp .lss 3 (tT 28) (tT 29) 3)])
 (.cond (tT 30) (.skip)
 (.exit 0)))
 (.seq (.block 1 (.seq (rg [oO 34 (.move (tT 0)), oO 35 (.move (tT 6)), oO 36 (.move (tT 8)), oO 37 (.move (tT 12)), oO 38 (cF (.func 117) #[tT 34, tT 35, tT 36, tT 37] #[26, 3, 3, 3]), oO 33 (.move (tT 38)), oO 39 (.extract (tT 33) 0), oO 40 (.extract (tT 33) 1), oO 41 (.extract (tT 33) 2), oO 14 (.alloc 86), oN (.store 86 (tT 14) (tT 39)), oO 15 (.assign (tT 40)), oO 16 (.assign (tT 41))])
 (.seq (.seq (rg [oO 42 (.move (tT 16)), oO 43 (.binOp .neq 32 (tT 42) (kI 0) 32)])
 (.cond (tT 43) (.seq (rg [oO 44 (.move (tT 10)), oO 45 (.move (tT 11)), oO 46 (.move (tT 15)), oO 47 (.move (tT 16)), oO 2 (.assign (tT 44)), oO 3 (.assign (tT 45)), oO 4 (.assign (tT 46)), oO 5 (.assign (tT 47))])
 (.ret))
 (.skip)))
 (.seq (rg [oO 48 (.move (tT 10)), oO 49 (.load 86 (tT 14)), oO 50 (.buildSlice 50 1 #[(0, .tmp 49)]), oO 51 (cB .append #[tT 48, tT 50] #[50, 50]), oO 10 (.assign (tT 51))])
 (.seq (rg [oO 52 (.move (tT 11)), oO 53 (.move (tT 15)), oO 54 (.buildSlice 29 1 #[(0, .tmp 53)]), oO 55 (cB .append #[tT 52, tT 54] #[29, 29]), oO 11 (.assign (tT 55))])
 (.seq (rg [oO 56 (.move (tT 15)), oO 8 (.assign (tT 56))])
 (rg [oO 57 (.fieldAddr 86 (tT 14) 0), oO 58 (.load 3 (tT 57)), oO 12 (.assign (tT 58))])))))))
 (rg [oO 31 (.move (tT 13)), oO 32 (.binOp .add 3 (tT 31) (kI 1) 3), oO 13 (.assign (tT 32))]))))))
 (.seq (.seq (rg [oO 59 (.move (tT 8)), oO 60 (.move (tT 0)), oO 61 (cB .len #[tT 60] #[26]), oO 62 (.binOp .lss 3 (tT 59) (tT 61) 3)])
 (.cond (tT 62) (.seq (rg [oO 63 (.move (tT 10)), oO 64 (.move (tT 11)), oO 65 (.move (tT 8)), oO 2 (.assign (tT 63)), oO 3 (.assign (tT 64)), oO 4 (.assign (tT 65)), oO 5 (.assign (kI 3))])
 (.ret))
 (.skip)))
 (.seq (rg [oO 66 (.move (tT 10)), oO 67 (.move (tT 11)), oO 2 (.assign (tT 66)), oO 3 (.assign (tT 67)), oO 4 (.assign (kI 0)), oO 5 (.assign (kI 0))])
 .ret)))))))))
theorem F72 : Fun1 Tryz.prog 72 68 c72 [.tmp 2, .tmp 3, .tmp 4, .tmp 5] := mkT Tryz.func72 rfl (by decide +kernel) Tryz.ntmps72 rfl (by kernel_rfl) rfl
def c116 : AC :=
.seq (rg [oO 2 (.assign (kI 0)), oO 3 (.assign (kI 0)), oO 4 (.assign (kI 0)), oO 5 (.assign (kI 0))])
 (.seq (rg [oO 9 (.buildSlice 26 3 #[(0, kB 112), (1, kB 118), (2, kB 1)]), oO 6 (.assign (tT 9))])
 (.seq (.seq (rg [oO 7 (.assign (kI 0))])
 (.block 0 (.loop (.seq (.seq (rg [oO 10 (.move (tT 7)), oO 11 (.binOp .lss 3 (tT 10) (kI 3) 3)])
 (.cond (tT 11) (.skip)
 (.exit 0)))
 (.seq (.block 1 (.seq (.seq (rg [oO 14 (.move (tT 7)), oO 15 (.move (tT 0)), oO 16 (cB .len #[tT 15] #[26]), oO 17 (.binOp .geq 3 (tT 14) (tT 16) 3)])
 (.cond (tT 17) (.seq (rg [oO 18 (.move (tT 0)), oO 19 (cB .len #[tT 18] #[26]), oO 2 (.assign (kI 0)), oO 3 (.assign (kI 0)), oO 4 (.assign (tT 19)), oO 5 (.assign (kI 2))])
 (.ret))
 (.skip)))
 (.seq (.reg true [] [⟨⟨some 20, .move (tT 0), none⟩, false, true⟩, ⟨⟨some 21, .move (tT 7), none⟩, false, true⟩, ⟨⟨some 22, .indexAddr 26 (tT 20) (tT 21), none⟩, false, true⟩, ⟨⟨some 23, .load 5 (tT 22), none⟩, false, true⟩, ⟨⟨some 24, .move (tT 6), none⟩, false, true⟩, oO 25 (.move (tT 7)), oO 26 (.indexAddr 26 (tT 24) (tT 25)), oO 27 (.load 5 (tT 26)), oO 28 (.binOp .neq 5 (tT 23) (tT 27) 5)])
 (.cond (tT 28) (.seq (rg [oO 29 (.move (tT 7)), oO 2 (.assign (kI 0)), oO 3 (.assign (kI 0)), oO 4 (.assign (tT 29)), oO 5 (.assign (kI 64))])
 (.ret))
 (.skip)))))
 (rg [oO 12 (.move (tT 7)), oO 13 (.binOp .add 3 (tT 12) (kI 1) 3), oO 7 (.assign (tT 13))]))))))
 (.seq (.seq (rg [oO 30 (.move (tT 0)), oO 31 (cB .len #[tT 30] #[26]), oO 32 (.binOp .lss 3 (tT 31) (kI 6) 3)])
 (.cond (tT 32) (.seq (rg [oO 33 (.move (tT 0)), oO 34 (cB .len #[tT 33] #[26]), oO 2 (.assign (kI 0)), oO 3 (.assign (kI 0)), oO 4 (.assign (tT 34)), oO 5 (.assign (kI 2))])
 (.ret))
 (.skip)))
 (.seq (.seq (rg [oO 35 (.move (tT 0)), oO 36 (.indexAddr 26 (tT 35) (kI 3)), oO 37 (.load 5 (tT 36)), oO 38 (.binOp .gtr 5 (tT 37) (kB 16) 5)])
 (.cond (tT 38) (.seq (rg [oO 2 (.assign (kI 0)), oO 3 (.assign (kI 0)), oO 4 (.assign (kI 3)), oO 5 (.assign (kI 5))])
 (.ret))
 (.skip)))
 (.seq (.reg true [] [⟨⟨some 39, .move (tT 0), none⟩, false, true⟩, ⟨⟨some 40, .indexAddr 26 (tT 39) (kI 4), none⟩, false, true⟩, ⟨⟨some 41, .load 5 (tT 40), none⟩, false, true⟩, ⟨⟨some 42, .convert 5 3 (tT 41), none⟩, false, true⟩, ⟨⟨some 43, .binOp .mul 3 (kI 256) (tT 42) 3, none⟩, false, true⟩, oO 44 (.move (tT 0)), oO 45 (.indexAddr 26 (tT 44) (kI 5)), oO 46 (.load 5 (tT 45)), oO 47 (.convert 5 3 (tT 46)), oO 48 (.binOp .add 3 (tT 43) (tT 47) 3), oO 8 (.assign (tT 48))])
 (.seq (.seq (rg [oO 49 (.move (tT 8)), oO 50 (.binOp .gtr 3 (tT 49) (kI 4096) 3)])
 (.cond (tT 50) (.seq (rg [oO 2 (.assign (kI 0)), oO 3 (.assign (kI 0)), oO 4 (.assign (kI 4)), oO 5 (.assign (kI 4))])
 (.ret))
 (.skip)))
 (.seq (rg [oO 51 (.move (tT 0)), oO 52 (.indexAddr 26 (tT 51) (kI 3)), oO 53 (.load 5 (tT 52)), oO 54 (.convert 5 3 (tT 53)), oO 55 (.move (tT 8)), oO 2 (.assign (tT 54)), oO 3 (.assign (tT 55)), oO 4 (.assign (kI 0)), oO 5 (.assign (kI 0))])
 .ret)))))))
theorem F116 : Fun1 Tryz.prog 116 56 c116 [.tmp 2, .tmp 3, .tmp 4, .tmp 5] := mkT Tryz.func116 rfl (by decide +kernel) Tryz.ntmps116 rfl (by kernel_rfl) rfl
def c117 : AC :=
.seq (rg [oO 8 (.alloc 86), oO 9 (.assign (kI 0)), oO 10 (.assign (kI 0))])
 (.seq (rg [oO 11 (.alloc 86)])
 (.seq (.seq (rg [oO 18 (.move (tT 2)), oO 19 (.binOp .add 3 (tT 18) (kI 1) 3), oO 20 (.move (tT 0)), oO 21 (cB .len #[tT 20] #[26]), oO 22 (.binOp .geq 3 (tT 19) (tT 21) 3)])
 (.cond (tT 22) (.seq (rg [oO 23 (.load 86 (tT 11)), oO 24 (.move (tT 0)), oO 25 (cB .len #[tT 24] #[26]), oN (.store 86 (tT 8) (tT 23)), oO 9 (.assign (tT 25)), oO 10 (.assign (kI 2))])
 (.ret))
 (.skip)))
 (.seq (.reg true [] [⟨⟨some 26, .move (tT 0), none⟩, false, true⟩, ⟨⟨some 27, .move (tT 2), none⟩, false, true⟩, ⟨⟨some 28, .indexAddr 26 (tT 26) (tT 27), none⟩, false, true⟩, ⟨⟨some 29, .load 5 (tT 28), none⟩, false, true⟩, ⟨⟨some 30, .convert 5 3 (tT 29), none⟩, false, true⟩, ⟨⟨some 31, .binOp .mul 3 (kI 256) (tT 30) 3, none⟩, false, true⟩, ⟨⟨some 32, .move (tT 0), none⟩, false, true⟩, oO 33 (.move (tT 2)), oO 34 (.binOp .add 3 (tT 33) (kI 1) 3), oO 35 (.indexAddr 26 (tT 32) (tT 34)), oO 36 (.load 5 (tT 35)), oO 37 (.convert 5 3 (tT 36)), oO 38 (.binOp .add 3 (tT 31) (tT 37) 3), oO 12 (.assign (tT 38))])
 (.seq (rg [oO 39 (.move (tT 12)), oO 40 (.move (tT 3)), oO 41 (cF (.func 108) #[tT 39, tT 40] #[3, 3]), oO 13 (.assign (tT 41))])
 (.seq (.seq (rg [oO 42 (.move (tT 13)), oO 43 (.binOp .neq 32 (tT 42) (kI 0) 32)])
 (.cond (tT 43) (.seq (rg [oO 44 (.load 86 (tT 11)), oO 45 (.move (tT 2)), oO 46 (.move (tT 13)), oN (.store 86 (tT 8) (tT 44)), oO 9 (.assign (tT 45)), oO 10 (.assign (tT 46))])
 (.ret))
 (.skip)))
 (.seq (.seq (rg [oO 47 (.move (tT 2)), oO 48 (.binOp .add 3 (tT 47) (kI 2) 3), oO 49 (.move (tT 0)), oO 50 (cB .len #[tT 49] #[26]), oO 51 (.binOp .geq 3 (tT 48) (tT 50) 3)])
 (.cond (tT 51) (.seq (rg [oO 52 (.load 86 (tT 11)), oO 53 (.move (tT 0)), oO 54 (cB .len #[tT 53] #[26]), oN (.store 86 (tT 8) (tT 52)), oO 9 (.assign (tT 54)), oO 10 (.assign (kI 2))])
 (.ret))
 (.skip)))
 (.seq (.seq (rg [oO 55 (.move (tT 0)), oO 56 (.move (tT 2)), oO 57 (.binOp .add 3 (tT 56) (kI 2) 3), oO 58 (.indexAddr 26 (tT 55) (tT 57)), oO 59 (.load 5 (tT 58)), oO 60 (.binOp .gtr 5 (tT 59) (kB 1) 5)])
 (.cond (tT 60) (.seq (rg [oO 61 (.load 86 (tT 11)), oO 62 (.move (tT 2)), oO 63 (.binOp .add 3 (tT 62) (kI 2) 3), oN (.store 86 (tT 8) (tT 61)), oO 9 (.assign (tT 63)), oO 10 (.assign (kI 63))])
 (.ret))
 (.skip)))
 (.seq (.seq (rg [oO 64 (.move (tT 0)), oO 65 (.move (tT 2)), oO 66 (.binOp .add 3 (tT 65) (kI 2) 3), oO 67 (.indexAddr 26 (tT 64) (tT 66)), oO 68 (.load 5 (tT 67)), oO 69 (.binOp .eql 5 (tT 68) (kB 0) 5)])
 (.cond (tT 69) (.seq (rg [oO 70 (.move (tT 12)), oO 71 (.build 86 #[(0, .tmp 70), (1, .const (.bool true))]), oO 72 (.move (tT 2)), oO 73 (.binOp .add 3 (tT 72) (kI 3) 3), oN (.store 86 (tT 8) (tT 71)), oO 9 (.assign (tT 73)), oO 10 (.assign (kI 0))])
 (.ret))
 (.skip)))
 (.seq (.seq (rg [oO 74 (.move (tT 2)), oO 75 (.binOp .add 3 (tT 74) (kI 3) 3), oO 76 (.move (tT 0)), oO 77 (cB .len #[tT 76] #[26]), oO 78 (.binOp .geq 3 (tT 75) (tT 77) 3)])
 (.cond (tT 78) (.seq (rg [oO 79 (.load 86 (tT 11)), oO 80 (.move (tT 0)), oO 81 (cB .len #[tT 80] #[26]), oN (.store 86 (tT 8) (tT 79)), oO 9 (.assign (tT 81)), oO 10 (.assign (kI 2))])
 (.ret))
 (.skip)))
 (.seq (rg [oO 82 (.move (tT 0)), oO 83 (.move (tT 2)), oO 84 (.binOp .add 3 (tT 83) (kI 3) 3), oO 85 (.indexAddr 26 (tT 82) (tT 84)), oO 86 (.load 5 (tT 85)), oO 87 (.convert 5 3 (tT 86)), oO 14 (.assign (tT 87))])
 (.seq (.seq (rg [oO 88 (.move (tT 14)), oO 89 (.move (tT 1)), oO 90 (.binOp .sub 3 (kI 24) (tT 89) 3), oO 91 (.binOp .gtr 3 (tT 88) (tT 90) 3)])
 (.cond (tT 91) (.seq (rg [oO 92 (.load 86 (tT 11)), oO 93 (.move (tT 2)), oO 94 (.binOp .add 3 (tT 93) (kI 3) 3), oN (.store 86 (tT 8) (tT 92)), oO 9 (.assign (tT 94)), oO 10 (.assign (kI 65))])
 (.ret))
 (.skip)))
 (.seq (rg [oO 95 (.move (tT 1)), oO 96 (.move (tT 14)), oO 97 (.build 84 #[(0, .tmp 95), (1, .tmp 96)]), oO 15 (.alloc 84), oN (.store 84 (tT 15) (tT 97))])
 (.seq (.seq (rg [oO 16 (.assign (kI 0))])
 (.block 0 (.loop (.seq (.seq (rg [oO 98 (.move (tT 16)), oO 99 (.move (tT 1)), oO 100 (.move (tT 14)), oO 101 (.binOp .add 3 (tT 99) (tT 100) 3), oO 102 (.binOp .lss 3 (tT 98) (tT 101) 3)])
 (.cond (tT 102) (.skip)
 (.exit 0)))
 (.seq (.block 1 (.seq (rg [oO 105 (.move (tT 2)), oO 106 (.binOp .add 3 (tT 105) (kI 4) 3), oO 107 (.move (tT 16)), oO 108 (.binOp .add 3 (tT 106) (tT 107) 3), oO 17 (.assign (tT 108))])
 (.seq (.seq (rg [oO 109 (.move (tT 17)), oO 110 (.move (tT 0)), oO 111 (cB .len #[tT 110] #[26]), oO 112 (.binOp .geq 3 (tT 109) (tT 111) 3)])
 (.cond (tT 112) (.seq (rg [oO 113 (.load 86 (tT 11)), oO 114 (.move (tT 0)), oO 115 (cB .len #[tT 114] #[26]), oN (.store 86 (tT 8) (tT 113)), oO 9 (.assign (tT 115)), oO 10 (.assign (kI 2))])
 (.ret))
 (.skip)))
 (.seq (.seq (rg [oO 116 (.move (tT 0)), oO 117 (.move (tT 17)), oO 118 (.indexAddr 26 (tT 116) (tT 117)), oO 119 (.load 5 (tT 118)), oO 120 (cF (.func 149) #[tT 119] #[81]), oO 121 (.unOp .not 4 (tT 120))])
 (.cond (tT 121) (.seq (rg [oO 122 (.load 86 (tT 11)), oO 123 (.move (tT 17)), oN (.store 86 (tT 8) (tT 122)), oO 9 (.assign (tT 123)), oO 10 (.assign (kI 62))])
 (.ret))
 (.skip)))
 (rg [oO 124 (.move (tT 16)), oO 125 (.move (tT 0)), oO 126 (.move (tT 17)), oO 127 (.indexAddr 26 (tT 125) (tT 126)), oO 128 (.load 5 (tT 127)), oO 129 (.fieldAddr 84 (tT 15) 2), oO 130 (.indexAddr 82 (tT 129) (tT 124)), oN (.store 81 (tT 130) (tT 128))])))))
 (rg [oO 103 (.move (tT 16)), oO 104 (.binOp .add 3 (tT 103) (kI 1) 3), oO 16 (.assign (tT 104))]))))))
 (.seq (rg [oO 131 (.move (tT 12)), oO 132 (.load 84 (tT 15)), oO 133 (.build 86 #[(0, .tmp 131), (2, .tmp 132)]), oO 134 (.move (tT 2)), oO 135 (.binOp .add 3 (tT 134) (kI 4) 3), oO 136 (.move (tT 1)), oO 137 (.binOp .add 3 (tT 135) (tT 136) 3), oO 138 (.move (tT 14)), oO 139 (.binOp .add 3 (tT 137) (tT 138) 3), oN (.store 86 (tT 8) (tT 133)), oO 9 (.assign (tT 139)), oO 10 (.assign (kI 0))])
 .ret))))))))))))))
theorem F117 : Fun1 Tryz.prog 117 140 c117 [.cell 8 86, .tmp 9, .tmp 10] := mkT Tryz.func117 rfl (by decide +kernel) Tryz.ntmps117 rfl (by kernel_rfl) rfl
def c108 : AC :=
.seq (rg [oO 4 (.assign (kI 0))])
 (.seq (.seq (rg [oO 5 (.move (tT 0)), oO 6 (.binOp .lss 3 (tT 5) (kI 0) 3), oO 7 (.move (tT 6)), oG 8 (.move (tT 0)) 7 false, oG 9 (.binOp .gtr 3 (tT 8) (kI 4095) 3) 7 false, oO 10 (.pick (tT 7) (.const (.bool true)) (tT 9))])
 (.cond (tT 10) (.seq (rg [oO 4 (.assign (kI 5))])
 (.ret))
 (.skip)))
 (.seq (.seq (rg [oO 11 (.move (tT 0)), oO 12 (.move (tT 1)), oO 13 (.binOp .eql 3 (tT 11) (tT 12) 3)])
 (.cond (tT 13) (.seq (rg [oO 4 (.assign (kI 61))])
 (.ret))
 (.skip)))
 (.seq (.seq (rg [oO 14 (.move (tT 0)), oO 15 (.move (tT 1)), oO 16 (.binOp .lss 3 (tT 14) (tT 15) 3)])
 (.cond (tT 16) (.seq (rg [oO 4 (.assign (kI 60))])
 (.ret))
 (.skip)))
 (.seq (rg [oO 4 (.assign (kI 0))])
 .ret))))
theorem F108 : Fun1 Tryz.prog 108 17 c108 [.tmp 4] := mkT Tryz.func108 rfl (by decide +kernel) Tryz.ntmps108 rfl (by kernel_rfl) rfl
def c149 : AC :=
.seq (rg [oO 2 (.assign (.const (.bool false)))])
 (.seq (rg [oO 3 (.move (tT 0)), oO 4 (.binOp .leq 81 (tT 3) (kB 5) 81), oO 5 (.move (tT 4)), oG 6 (.move (tT 0)) 5 false, oG 7 (.binOp .geq 81 (tT 6) (kB 16) 81) 5 false, oG 8 (.move (tT 7)) 5 false, oG 9 (.move (tT 0)) 8 true, oG 10 (.binOp .leq 81 (tT 9) (kB 47) 81) 8 true, oG 11 (.pick (tT 8) (tT 10) (.const (.bool false))) 5 false, oO 12 (.pick (tT 5) (.const (.bool true)) (tT 11)), oO 2 (.assign (tT 12))])
 .ret)
theorem F149 : Fun1 Tryz.prog 149 13 c149 [.tmp 2] := mkT Tryz.func149 rfl (by decide +kernel) Tryz.ntmps149 rfl (by kernel_rfl) rfl
def c134 : AC :=
.seq (rg [oO 2 (.assign (.const (.pointer none))), oO 3 (.assign (kI 0)), oO 4 (.assign (kI 0))])
 (.seq (.seq (rg [oO 8 (.buildSlice 26 3 #[(0, kB 112), (1, kB 118), (2, kB 1)]), oO 9 (cB .len #[tT 8] #[26]), oO 10 (.move (kI 0))])
 (.block 0 (.loop (.seq (rg [oO 11 (.binOp .lss 3 (tT 10) (tT 9) 3)])
 (.seq (.cond (tT 11) (.skip)
 (.exit 0))
 (.seq (.block 1 (.seq (rg [oO 12 (.move (tT 10)), oO 13 (.indexAddr 26 (tT 8) (tT 10)), oO 14 (.load 5 (tT 13)), oO 5 (.assign (tT 12)), oO 6 (.assign (tT 14))])
 (.seq (.seq (rg [oO 15 (.move (tT 5)), oO 16 (.move (tT 0)), oO 17 (cB .len #[tT 16] #[26]), oO 18 (.binOp .eql 3 (tT 15) (tT 17) 3)])
 (.cond (tT 18) (.seq (rg [oO 19 (.move (tT 5)), oO 2 (.assign (.const (.pointer none))), oO 3 (.assign (tT 19)), oO 4 (.assign (kI 2))])
 (.ret))
 (.skip)))
 (.seq (rg [oO 20 (.move (tT 0)), oO 21 (.move (tT 5)), oO 22 (.indexAddr 26 (tT 20) (tT 21)), oO 23 (.load 5 (tT 22)), oO 24 (.move (tT 6)), oO 25 (.binOp .neq 5 (tT 23) (tT 24) 5)])
 (.cond (tT 25) (.seq (rg [oO 26 (.move (tT 5)), oO 2 (.assign (.const (.pointer none))), oO 3 (.assign (tT 26)), oO 4 (.assign (kI 64))])
 (.ret))
 (.skip))))))
 (rg [oO 27 (.binOp .add 3 (tT 10) (kI 1) 3), oO 10 (.move (tT 27))])))))))
 (.seq (.block 2 (.seq (rg [oO 29 (.move (tT 0)), oO 30 (cB .len #[tT 29] #[26]), oO 31 (.binOp .lss 3 (tT 30) (kI 6) 3), oO 28 (.assign (tT 31))])
 (.cond (tT 28) (.seq (rg [oO 32 (.move (tT 0)), oO 33 (cB .len #[tT 32] #[26]), oO 2 (.assign (.const (.pointer none))), oO 3 (.assign (tT 33)), oO 4 (.assign (kI 2))])
 (.ret))
 (.seq (rg [oO 35 (.move (tT 0)), oO 36 (.indexAddr 26 (tT 35) (kI 3)), oO 37 (.load 5 (tT 36)), oO 38 (.binOp .gtr 5 (tT 37) (kB 16) 5), oO 34 (.assign (tT 38))])
 (.cond (tT 34) (.seq (rg [oO 2 (.assign (.const (.pointer none))), oO 3 (.assign (kI 3)), oO 4 (.assign (kI 5))])
 (.ret))
 (.seq (rg [oO 40 (.move (tT 0)), oO 41 (.slice 26 (tT 40) (some (kI 4)) none none), oO 42 (cF (.func 167) #[tT 41] #[26]), oO 43 (.binOp .gtr 3 (tT 42) (kI 4096) 3), oO 39 (.assign (tT 43))])
 (.cond (tT 39) (.seq (rg [oO 2 (.assign (.const (.pointer none))), oO 3 (.assign (kI 4)), oO 4 (.assign (kI 4))])
 (.ret))
 (.skip))))))))
 (.seq (rg [oO 44 (.move (tT 0)), oO 45 (.slice 26 (tT 44) (some (kI 4)) none none), oO 46 (cF (.func 167) #[tT 45] #[26]), oO 7 (.assign (tT 46))])
 (.seq (rg [oO 47 (.move (tT 0)), oO 48 (.move (tT 7)), oO 49 (.move (tT 7)), oO 50 (.build 199 #[(0, .tmp 47), (1, kI 6), (2, kI (-1)), (3, .tmp 48), (4, .tmp 49), (7, .const (.bool true))]), oO 51 (.box 199 (tT 50)), oO 2 (.assign (tT 51)), oO 3 (.assign (kI 0)), oO 4 (.assign (kI 0))])
 .ret))))
theorem F134 : Fun1 Tryz.prog 134 52 c134 [.tmp 2, .tmp 3, .tmp 4] := mkT Tryz.func134 rfl (by decide +kernel) Tryz.ntmps134 rfl (by kernel_rfl) rfl
def c167 : AC :=
.seq (rg [oO 2 (.assign (kI 0))])
 (.seq (.reg true [] [⟨⟨some 3, .move (tT 0), none⟩, false, true⟩, ⟨⟨some 4, .indexAddr 26 (tT 3) (kI 0), none⟩, false, true⟩, ⟨⟨some 5, .load 5 (tT 4), none⟩, false, true⟩, ⟨⟨some 6, .convert 5 3 (tT 5), none⟩, false, true⟩, ⟨⟨some 7, .binOp .shl 3 (tT 6) (.const (.int .u64 8)) 67, none⟩, false, true⟩, oO 8 (.move (tT 0)), oO 9 (.indexAddr 26 (tT 8) (kI 1)), oO 10 (.load 5 (tT 9)), oO 11 (.convert 5 3 (tT 10)), oO 12 (.binOp .or 3 (tT 7) (tT 11) 3), oO 2 (.assign (tT 12))])
 .ret)
theorem F167 : Fun1 Tryz.prog 167 13 c167 [.tmp 2] := mkT Tryz.func167 rfl (by decide +kernel) Tryz.ntmps167 rfl (by kernel_rfl) rfl
def c135 : AC :=
.seq (rg [oO 2 (.assign (kI 0))])
 (.seq (.seq (rg [oO 3 (.move (tT 0)), oO 4 (.binOp .eql 192 (tT 3) (.const (.pointer none)) 192), oO 5 (.move (tT 4)), oG 6 (.move (tT 0)) 5 false, oG 7 (.nilCheck (tT 6)) 5 false, oG 8 (.fieldAddr 199 (tT 7) 7) 5 false, oG 9 (.load 4 (tT 8)) 5 false, oG 10 (.unOp .not 4 (tT 9)) 5 false, oO 11 (.pick (tT 5) (.const (.bool true)) (tT 10))])
 (.cond (tT 11) (.seq (rg [oO 2 (.assign (kI 0))])
 (.ret))
 (.skip)))
 (.seq (rg [oO 12 (.move (tT 0)), oO 13 (.nilCheck (tT 12)), oO 14 (.fieldAddr 199 (tT 13) 0), oO 15 (.load 26 (tT 14)), oO 16 (.indexAddr 26 (tT 15) (kI 3)), oO 17 (.load 5 (tT 16)), oO 18 (.convert 5 3 (tT 17)), oO 2 (.assign (tT 18))])
 .ret))
theorem F135 : Fun1 Tryz.prog 135 19 c135 [.tmp 2] := mkT Tryz.func135 rfl (by decide +kernel) Tryz.ntmps135 rfl (by kernel_rfl) rfl
def c165 : AC :=
.seq (rg [oO 4 (.assign (kI 0))])
 (.seq (.block 0 (.seq (rg [oO 6 (.move (tT 1)), oO 7 (.binOp .lss 3 (tT 6) (kI 0) 3), oO 8 (.move (tT 7)), oG 9 (.move (tT 1)) 8 false, oG 10 (.binOp .geq 3 (tT 9) (kI 4096) 3) 8 false, oO 11 (.pick (tT 8) (.const (.bool true)) (tT 10)), oO 5 (.assign (tT 11))])
 (.cond (tT 5) (.seq (rg [oO 4 (.assign (kI 5))])
 (.ret))
 (.seq (rg [oO 13 (.move (tT 1)), oO 14 (.move (tT 0)), oO 15 (.binOp .eql 3 (tT 13) (tT 14) 3), oO 12 (.assign (tT 15))])
 (.cond (tT 12) (.seq (rg [oO 4 (.assign (kI 61))])
 (.ret))
 (.seq (rg [oO 17 (.move (tT 1)), oO 18 (.move (tT 0)), oO 19 (.binOp .lss 3 (tT 17) (tT 18) 3), oO 16 (.assign (tT 19))])
 (.cond (tT 16) (.seq (rg [oO 4 (.assign (kI 60))])
 (.ret))
 (.skip))))))))
 (.seq (rg [oO 4 (.assign (kI 0))])
 .ret))
theorem F165 : Fun1 Tryz.prog 165 20 c165 [.tmp 4] := mkT Tryz.func165 rfl (by decide +kernel) Tryz.ntmps165 rfl (by kernel_rfl) rfl
def c204 : AC :=
.seq (rg [oO 2 (.assign (.const (.bool false)))])
 (.seq (rg [oO 3 (.move (tT 0)), oO 4 (.binOp .leq 81 (tT 3) (kB 5) 81), oO 5 (.move (tT 4)), oG 6 (.move (tT 0)) 5 false, oG 7 (.binOp .geq 81 (tT 6) (kB 16) 81) 5 false, oG 8 (.move (tT 7)) 5 false, oG 9 (.move (tT 0)) 8 true, oG 10 (.binOp .lss 81 (tT 9) (kB 48) 81) 8 true, oG 11 (.pick (tT 8) (tT 10) (.const (.bool false))) 5 false, oO 12 (.pick (tT 5) (.const (.bool true)) (tT 11)), oO 2 (.assign (tT 12))])
 .ret)
theorem F204 : Fun1 Tryz.prog 204 13 c204 [.tmp 2] := mkT Tryz.func204 rfl (by decide +kernel) Tryz.ntmps204 rfl (by kernel_rfl) rfl
def c205 : AC :=
.seq (rg [oO 2 (.alloc 86), oO 3 (.assign (kI 0)), oO 4 (.assign (kI 0))])
 (.seq (.reg true [0] [⟨⟨some 12, .build 86 #[], none⟩, false, true⟩, ⟨⟨some 13, .move (tT 0), none⟩, true, true⟩, ⟨⟨some 14, .nilCheck (tT 13), none⟩, true, true⟩, ⟨⟨some 15, .fieldAddr 199 (tT 14) 0, none⟩, true, true⟩, ⟨⟨some 16, .load 26 (tT 15), none⟩, true, true⟩, ⟨⟨some 17, .move (tT 0), none⟩, true, true⟩, ⟨⟨some 18, .nilCheck (tT 17), none⟩, true, true⟩, ⟨⟨some 19, .fieldAddr 199 (tT 18) 1, none⟩, true, true⟩, ⟨⟨some 20, .load 3 (tT 19), none⟩, true, true⟩, oO 5 (.alloc 86), oN (.store 86 (tT 5) (tT 12)), oO 6 (.assign (tT 16)), oO 7 (.assign (tT 20))])
 (.seq (.seq (rg [oO 21 (.move (tT 6)), oO 22 (cB .len #[tT 21] #[26]), oO 23 (.move (tT 7)), oO 24 (.binOp .sub 3 (tT 22) (tT 23) 3), oO 25 (.binOp .lss 3 (tT 24) (kI 2) 3)])
 (.cond (tT 25) (.seq (rg [oO 26 (.load 86 (tT 5)), oO 27 (.move (tT 6)), oO 28 (cB .len #[tT 27] #[26]), oN (.store 86 (tT 2) (tT 26)), oO 3 (.assign (tT 28)), oO 4 (.assign (kI 2))])
 (.ret))
 (.skip)))
 (.seq (rg [oO 29 (.move (tT 6)), oO 30 (.move (tT 7)), oO 31 (.slice 26 (tT 29) (some (tT 30)) none none), oO 32 (cF (.func 167) #[tT 31] #[26]), oO 33 (.build 86 #[(0, .tmp 32)]), oO 8 (.alloc 86), oN (.store 86 (tT 8) (tT 33))])
 (.seq (.seq (.reg true [] [⟨⟨some 34, .move (tT 0), none⟩, false, true⟩, ⟨⟨some 35, .nilCheck (tT 34), none⟩, false, true⟩, ⟨⟨some 36, .fieldAddr 199 (tT 35) 2, none⟩, false, true⟩, ⟨⟨some 37, .load 3 (tT 36), none⟩, false, true⟩, oO 38 (.fieldAddr 86 (tT 8) 0), oO 39 (.load 3 (tT 38)), oO 40 (cF (.func 165) #[tT 37, tT 39] #[3, 3]), oO 9 (.assign (tT 40))])
 (.seq (rg [oO 41 (.move (tT 9)), oO 42 (.binOp .neq 32 (tT 41) (kI 0) 32)])
 (.cond (tT 42) (.seq (rg [oO 43 (.load 86 (tT 5)), oO 44 (.move (tT 7)), oO 45 (.move (tT 9)), oN (.store 86 (tT 2) (tT 43)), oO 3 (.assign (tT 44)), oO 4 (.assign (tT 45))])
 (.ret))
 (.skip))))
 (.seq (rg [oO 46 (.move (tT 7)), oO 47 (.binOp .add 3 (tT 46) (kI 2) 3), oO 7 (.assign (tT 47))])
 (.seq (.seq (rg [oO 48 (.move (tT 7)), oO 49 (.move (tT 6)), oO 50 (cB .len #[tT 49] #[26]), oO 51 (.binOp .eql 3 (tT 48) (tT 50) 3)])
 (.cond (tT 51) (.seq (rg [oO 52 (.load 86 (tT 5)), oO 53 (.move (tT 7)), oN (.store 86 (tT 2) (tT 52)), oO 3 (.assign (tT 53)), oO 4 (.assign (kI 2))])
 (.ret))
 (.skip)))
 (.seq (.seq (rg [oO 54 (.move (tT 6)), oO 55 (.move (tT 7)), oO 56 (.indexAddr 26 (tT 54) (tT 55)), oO 57 (.load 5 (tT 56)), oO 58 (.binOp .gtr 5 (tT 57) (kB 1) 5)])
 (.cond (tT 58) (.seq (rg [oO 59 (.load 86 (tT 5)), oO 60 (.move (tT 7)), oN (.store 86 (tT 2) (tT 59)), oO 3 (.assign (tT 60)), oO 4 (.assign (kI 63))])
 (.ret))
 (.skip)))
 (.seq (.seq (rg [oO 61 (.move (tT 6)), oO 62 (.move (tT 7)), oO 63 (.indexAddr 26 (tT 61) (tT 62)), oO 64 (.load 5 (tT 63)), oO 65 (.binOp .eql 5 (tT 64) (kB 0) 5)])
 (.cond (tT 65) (.seq (rg [oO 66 (.fieldAddr 86 (tT 8) 1), oN (.store 4 (tT 66) (.const (.bool true)))])
 (.seq (rg [oO 67 (.load 86 (tT 8)), oO 68 (.move (tT 7)), oO 69 (.binOp .add 3 (tT 68) (kI 1) 3), oN (.store 86 (tT 2) (tT 67)), oO 3 (.assign (tT 69)), oO 4 (.assign (kI 0))])
 (.ret)))
 (.skip)))
 (.seq (rg [oO 70 (.move (tT 7)), oO 71 (.binOp .add 3 (tT 70) (kI 1) 3), oO 7 (.assign (tT 71))])
 (.seq (.seq (rg [oO 72 (.move (tT 7)), oO 73 (.move (tT 6)), oO 74 (cB .len #[tT 73] #[26]), oO 75 (.binOp .eql 3 (tT 72) (tT 74) 3)])
 (.cond (tT 75) (.seq (rg [oO 76 (.load 86 (tT 5)), oO 77 (.move (tT 7)), oN (.store 86 (tT 2) (tT 76)), oO 3 (.assign (tT 77)), oO 4 (.assign (kI 2))])
 (.ret))
 (.skip)))
 (.seq (.seq (.reg true [6] [⟨⟨some 78, .move (tT 6), none⟩, false, true⟩, ⟨⟨some 79, .indexAddr 26 (tT 78) (kI 3), none⟩, false, true⟩, ⟨⟨some 80, .load 5 (tT 79), none⟩, false, true⟩, ⟨⟨some 81, .convert 5 3 (tT 80), none⟩, false, true⟩, ⟨⟨some 82, .move (tT 6), none⟩, true, true⟩, ⟨⟨some 83, .move (tT 7), none⟩, true, true⟩, ⟨⟨some 84, .indexAddr 26 (tT 82) (tT 83), none⟩, true, true⟩, ⟨⟨some 85, .load 5 (tT 84), none⟩, true, true⟩, ⟨⟨some 86, .convert 5 3 (tT 85), none⟩, true, true⟩, oO 87 (.fieldAddr 86 (tT 8) 2), oO 88 (.fieldAddr 84 (tT 87) 0), oN (.store 3 (tT 88) (tT 81))])
 (rg [oO 89 (.fieldAddr 86 (tT 8) 2), oO 90 (.fieldAddr 84 (tT 89) 1), oN (.store 3 (tT 90) (tT 86))]))
 (.seq (rg [oO 91 (.fieldAddr 86 (tT 8) 2), oO 92 (.fieldAddr 84 (tT 91) 0), oO 93 (.load 3 (tT 92)), oO 94 (.fieldAddr 86 (tT 8) 2), oO 95 (.fieldAddr 84 (tT 94) 1), oO 96 (.load 3 (tT 95)), oO 97 (.binOp .add 3 (tT 93) (tT 96) 3), oO 10 (.assign (tT 97))])
 (.seq (.seq (rg [oO 98 (.move (tT 10)), oO 99 (.binOp .gtr 3 (tT 98) (kI 24) 3)])
 (.cond (tT 99) (.seq (rg [oO 100 (.load 86 (tT 5)), oO 101 (.move (tT 7)), oN (.store 86 (tT 2) (tT 100)), oO 3 (.assign (tT 101)), oO 4 (.assign (kI 65))])
 (.ret))
 (.skip)))
 (.seq (rg [oO 102 (.move (tT 7)), oO 103 (.binOp .add 3 (tT 102) (kI 1) 3), oO 7 (.assign (tT 103))])
 (.seq (.seq (rg [oO 104 (.move (tT 10)), oO 105 (.move (kI 0))])
 (.block 0 (.loop (.seq (rg [oO 106 (.binOp .lss 3 (tT 105) (tT 104) 3)])
 (.seq (.cond (tT 106) (.skip)
 (.exit 0))
 (.seq (.block 1 (.seq (rg [oO 107 (.move (tT 105)), oO 11 (.assign (tT 107))])
 (.seq (.seq (rg [oO 108 (.move (tT 7)), oO 109 (.move (tT 6)), oO 110 (cB .len #[tT 109] #[26]), oO 111 (.binOp .eql 3 (tT 108) (tT 110) 3)])
 (.cond (tT 111) (.seq (rg [oO 112 (.load 86 (tT 5)), oO 113 (.move (tT 7)), oN (.store 86 (tT 2) (tT 112)), oO 3 (.assign (tT 113)), oO 4 (.assign (kI 2))])
 (.ret))
 (.skip)))
 (.seq (.seq (rg [oO 114 (.move (tT 6)), oO 115 (.move (tT 7)), oO 116 (.indexAddr 26 (tT 114) (tT 115)), oO 117 (.load 5 (tT 116)), oO 118 (cF (.func 204) #[tT 117] #[81]), oO 119 (.unOp .not 4 (tT 118))])
 (.cond (tT 119) (.seq (rg [oO 120 (.load 86 (tT 5)), oO 121 (.move (tT 7)), oN (.store 86 (tT 2) (tT 120)), oO 3 (.assign (tT 121)), oO 4 (.assign (kI 62))])
 (.ret))
 (.skip)))
 (.seq (rg [oO 122 (.move (tT 11)), oO 123 (.move (tT 6)), oO 124 (.move (tT 7)), oO 125 (.indexAddr 26 (tT 123) (tT 124)), oO 126 (.load 5 (tT 125)), oO 127 (.fieldAddr 86 (tT 8) 2), oO 128 (.fieldAddr 84 (tT 127) 2), oO 129 (.indexAddr 82 (tT 128) (tT 122)), oN (.store 81 (tT 129) (tT 126))])
 (rg [oO 130 (.move (tT 7)), oO 131 (.binOp .add 3 (tT 130) (kI 1) 3), oO 7 (.assign (tT 131))]))))))
 (rg [oO 132 (.binOp .add 3 (tT 105) (kI 1) 3), oO 105 (.move (tT 132))])))))))
 (.seq (rg [oO 133 (.load 86 (tT 8)), oO 134 (.move (tT 7)), oN (.store 86 (tT 2) (tT 133)), oO 3 (.assign (tT 134)), oO 4 (.assign (kI 0))])
 .ret))))))))))))))))
theorem F205 : Fun1 Tryz.prog 205 135 c205 [.cell 2 86, .tmp 3, .tmp 4] := mkT Tryz.func205 rfl (by decide +kernel) Tryz.ntmps205 rfl (by kernel_rfl) rfl
def c169 : AC :=
.seq (rg [oO 2 (.alloc 86), oO 3 (.assign (.const (.bool false))), oO 4 (.assign (kI 0))])
 (.seq (rg [oO 9 (.build 86 #[]), oO 5 (.alloc 86), oN (.store 86 (tT 5) (tT 9))])
 (.seq (.block 0 (.seq (rg [oO 11 (.move (tT 0)), oO 12 (.binOp .eql 192 (tT 11) (.const (.pointer none)) 192), oO 13 (.move (tT 12)), oG 14 (.move (tT 0)) 13 false, oG 15 (.nilCheck (tT 14)) 13 false, oG 16 (.fieldAddr 199 (tT 15) 7) 13 false, oG 17 (.load 4 (tT 16)) 13 false, oG 18 (.unOp .not 4 (tT 17)) 13 false, oO 19 (.pick (tT 13) (.const (.bool true)) (tT 18)), oO 10 (.assign (tT 19))])
 (.cond (tT 10) (.seq (rg [oO 20 (.load 86 (tT 5)), oN (.store 86 (tT 2) (tT 20)), oO 3 (.assign (.const (.bool false))), oO 4 (.assign (kI 8))])
 (.ret))
 (.seq (rg [oO 22 (.move (tT 0)), oO 23 (.nilCheck (tT 22)), oO 24 (.fieldAddr 199 (tT 23) 6), oO 25 (.load 32 (tT 24)), oO 26 (.binOp .neq 32 (tT 25) (kI 0) 32), oO 21 (.assign (tT 26))])
 (.cond (tT 21) (.seq (.reg true [0] [⟨⟨some 27, .load 86 (tT 5), none⟩, false, true⟩, ⟨⟨some 28, .move (tT 0), none⟩, true, true⟩, ⟨⟨some 29, .nilCheck (tT 28), none⟩, true, true⟩, ⟨⟨some 30, .fieldAddr 199 (tT 29) 6, none⟩, true, true⟩, ⟨⟨some 31, .load 32 (tT 30), none⟩, true, true⟩, oN (.store 86 (tT 2) (tT 27)), oO 3 (.assign (.const (.bool false))), oO 4 (.assign (tT 31))])
 (.ret))
 (.seq (.reg true [] [oO 33 (.move (tT 0)), oO 34 (.nilCheck (tT 33)), oO 35 (.fieldAddr 199 (tT 34) 3), oO 36 (.load 3 (tT 35)), oO 37 (.binOp .eql 3 (tT 36) (kI 0) 3), oO 38 (.move (tT 37)), ⟨⟨some 39, .move (tT 0), some (38, true)⟩, false, true⟩, ⟨⟨some 40, .nilCheck (tT 39), some (38, true)⟩, false, true⟩, ⟨⟨some 41, .fieldAddr 199 (tT 40) 1, some (38, true)⟩, false, true⟩, ⟨⟨some 42, .load 3 (tT 41), some (38, true)⟩, false, true⟩, oG 43 (.move (tT 0)) 38 true, oG 44 (.nilCheck (tT 43)) 38 true, oG 45 (.fieldAddr 199 (tT 44) 0) 38 true, oG 46 (.load 26 (tT 45)) 38 true, oG 47 (cB .len #[tT 46] #[26]) 38 true, oG 48 (.binOp .lss 3 (tT 42) (tT 47) 3) 38 true, oO 49 (.pick (tT 38) (tT 48) (.const (.bool false))), oO 32 (.assign (tT 49))])
 (.cond (tT 32) (.seq (rg [oO 50 (.move (tT 0)), oO 51 (.move (tT 0)), oO 52 (.move (tT 0)), oO 53 (.nilCheck (tT 52)), oO 54 (.fieldAddr 199 (tT 53) 1), oO 55 (.load 3 (tT 54)), oO 56 (.nilCheck (tT 50)), oO 57 (.fieldAddr 199 (tT 56) 5), oN (.store 3 (tT 57) (tT 55)), oO 58 (.nilCheck (tT 51)), oO 59 (.fieldAddr 199 (tT 58) 6), oN (.store 32 (tT 59) (kI 3))])
 (.seq (.reg true [0] [⟨⟨some 60, .load 86 (tT 5), none⟩, false, true⟩, ⟨⟨some 61, .move (tT 0), none⟩, true, true⟩, ⟨⟨some 62, .nilCheck (tT 61), none⟩, true, true⟩, ⟨⟨some 63, .fieldAddr 199 (tT 62) 6, none⟩, true, true⟩, ⟨⟨some 64, .load 32 (tT 63), none⟩, true, true⟩, oN (.store 86 (tT 2) (tT 60)), oO 3 (.assign (.const (.bool false))), oO 4 (.assign (tT 64))])
 (.ret)))
 (.seq (rg [oO 66 (.move (tT 0)), oO 67 (.nilCheck (tT 66)), oO 68 (.fieldAddr 199 (tT 67) 3), oO 69 (.load 3 (tT 68)), oO 70 (.binOp .eql 3 (tT 69) (kI 0) 3), oO 65 (.assign (tT 70))])
 (.cond (tT 65) (.seq (rg [oO 71 (.load 86 (tT 5)), oN (.store 86 (tT 2) (tT 71)), oO 3 (.assign (.const (.bool false))), oO 4 (.assign (kI 0))])
 (.ret))
 (.skip))))))))))
 (.seq (rg [oO 73 (.move (tT 0)), oO 74 (cF (.func 205) #[tT 73] #[192]), oO 72 (.move (tT 74)), oO 75 (.extract (tT 72) 0), oO 76 (.extract (tT 72) 1), oO 77 (.extract (tT 72) 2), oO 6 (.alloc 86), oN (.store 86 (tT 6) (tT 75)), oO 7 (.assign (tT 76)), oO 8 (.assign (tT 77))])
 (.seq (.seq (rg [oO 78 (.move (tT 8)), oO 79 (.binOp .neq 32 (tT 78) (kI 0) 32)])
 (.cond (tT 79) (.seq (rg [oO 80 (.move (tT 0)), oO 81 (.move (tT 0)), oO 82 (.move (tT 7)), oO 83 (.move (tT 8)), oO 84 (.nilCheck (tT 80)), oO 85 (.fieldAddr 199 (tT 84) 5), oN (.store 3 (tT 85) (tT 82)), oO 86 (.nilCheck (tT 81)), oO 87 (.fieldAddr 199 (tT 86) 6), oN (.store 32 (tT 87) (tT 83))])
 (.seq (rg [oO 88 (.load 86 (tT 5)), oO 89 (.move (tT 8)), oN (.store 86 (tT 2) (tT 88)), oO 3 (.assign (.const (.bool false))), oO 4 (.assign (tT 89))])
 (.ret)))
 (.skip)))
 (.seq (.seq (.reg true [6] [⟨⟨some 90, .move (tT 0), none⟩, false, true⟩, ⟨⟨some 91, .move (tT 0), none⟩, true, true⟩, ⟨⟨some 92, .move (tT 7), none⟩, false, true⟩, ⟨⟨some 93, .fieldAddr 86 (tT 6) 0, none⟩, true, true⟩, ⟨⟨some 94, .load 3 (tT 93), none⟩, true, true⟩, oO 95 (.nilCheck (tT 90)), oO 96 (.fieldAddr 199 (tT 95) 1), oN (.store 3 (tT 96) (tT 92))])
 (rg [oO 97 (.nilCheck (tT 91)), oO 98 (.fieldAddr 199 (tT 97) 2), oN (.store 3 (tT 98) (tT 94))]))
 (.seq (rg [oO 99 (.move (tT 0)), oO 100 (.nilCheck (tT 99)), oO 101 (.fieldAddr 199 (tT 100) 3), oO 102 (.load 3 (tT 101)), oO 103 (.binOp .sub 3 (tT 102) (kI 1) 3), oO 104 (.nilCheck (tT 99)), oO 105 (.fieldAddr 199 (tT 104) 3), oN (.store 3 (tT 105) (tT 103))])
 (.seq (rg [oO 106 (.load 86 (tT 6)), oN (.store 86 (tT 2) (tT 106)), oO 3 (.assign (.const (.bool true))), oO 4 (.assign (kI 0))])
 .ret)))))))
theorem F169 : Fun1 Tryz.prog 169 107 c169 [.cell 2 86, .tmp 3, .tmp 4] := mkT Tryz.func169 rfl (by decide +kernel) Tryz.ntmps169 rfl (by kernel_rfl) rfl
def c136 : AC :=
.seq (rg [oO 1 (.box 192 (tT 0)), oO 2 (.assign (.const .nilFunc))])
 (.seq (rg [oO 3 (.makeFunc (.func 168) #[] #[tT 1]), oO 2 (.assign (tT 3))])
 .ret)
theorem F136 : Fun1 Tryz.prog 136 4 c136 [.tmp 2] := mkT Tryz.func136 rfl (by decide +kernel) Tryz.ntmps136 rfl (by kernel_rfl) rfl
open Go.Proofs
structure Ey where
  pos : Int
  dead : Bool
  fr : Fr
def eEy (e : Ey) : List D := .int .i64 e.pos :: .bool e.dead :: eFr e.fr
theorem zb1 (e : Ey) : (eEy e).length = 28 := by simp [eEy, za6]
theorem za8 (e : Ey) : (eEy e).take 28 = eEy e := List.take_of_length_le (by rw [zb1]; exact Nat.le_refl _)
theorem zb0 (e : Ey) : (eEy e).drop 28 = [] := List.drop_eq_nil_of_le (by rw [zb1]; exact Nat.le_refl _)
theorem ey_0 (e : Ey) : (eEy e)[0]? = some (.int .i64 e.pos) := rfl
theorem ey_1 (e : Ey) : (eEy e)[1]? = some (.bool e.dead) := rfl
def ey0 : Ey := ⟨0, false, fr0 0⟩
def bt (b : List Ty) (i : Nat) : Nat := ((b[i]?).getD 0).val
theorem bt_lt (b : List Ty) (i : Nat) : bt b i < 256 := ((b[i]?).getD 0).isLt
def word2 (b : List Ty) (p : Nat) : Nat := 256 * bt b p + bt b (p + 1)
def afterE (a last : Int) : Nat := if a < 0 ∨ 4095 < a then 5 else if a = last then 61 else if a < last then 60 else 0
def knownT (t : Ty) : Bool := decide (t.val ≤ 5 ∨ 16 ≤ t.val ∧ t.val ≤ 47)
def scanT (b : List Ty) : Nat → Nat → Nat × Nat
  | q, 0 => (q, 0)
  | q, n + 1 => if b.length ≤ q then (b.length, 2) else if knownT ((b[q]?).getD 0) then scanT b (q + 1) n else (q, 62)
def entD (b : List Ty) (loc p : Nat) (last : Int) : Ey × Nat × Nat :=
  if b.length < p + 2 then (ey0, b.length, 2)
  else if afterE (word2 b p) last ≠ 0 then (ey0, p, afterE (word2 b p) last)
  else if b.length = p + 2 then (ey0, p + 2, 2)
  else if 1 < bt b (p + 2) then (ey0, p + 2, 63)
  else if bt b (p + 2) = 0 then (⟨word2 b p, true, fr0 0⟩, p + 3, 0)
  else if b.length = p + 3 then (ey0, p + 3, 2)
  else if 24 < loc + bt b (p + 3) then (ey0, p + 3, 65)
  else if (scanT b (p + 4) (loc + bt b (p + 3))).2 ≠ 0 then (ey0, scanT b (p + 4) (loc + bt b (p + 3)))
  else (⟨word2 b p, false, ⟨loc, bt b (p + 3), slOf ((b.drop (p + 4)).take (loc + bt b (p + 3)))⟩⟩, p + 4 + (loc + bt b (p + 3)), 0)
def decP (b : List Ty) (loc : Nat) : Nat → Nat → Int → List (Ey × Nat) × Nat × Nat
  | 0, p, _ => ([], p, 0)
  | n + 1, p, last =>
    if (entD b loc p last).2.2 ≠ 0 then ([], (entD b loc p last).2)
    else (((entD b loc p last).1, (entD b loc p last).2.1) :: (decP b loc n (entD b loc p last).2.1 (entD b loc p last).1.pos).1, (decP b loc n (entD b loc p last).2.1 (entD b loc p last).1.pos).2)
def headD (b : List Ty) : Nat × Nat :=
  if b.length = 0 ∨ bt b 0 = 112 ∧ b.length = 1 ∨ bt b 0 = 112 ∧ bt b 1 = 118 ∧ b.length = 2 then (b.length, 2)
  else if bt b 0 ≠ 112 then (0, 64)
  else if bt b 1 ≠ 118 then (1, 64)
  else if bt b 2 ≠ 1 then (2, 64)
  else if b.length < 6 then (b.length, 2)
  else if 16 < bt b 3 then (3, 5)
  else if 4096 < word2 b 4 then (4, 4)
  else (0, 0)
structure Ct where
  loc : Nat
  es : List Ey
def eCt (c : Ct) : List D := [.int .i64 c.loc, .slice .no (rws eEy c.es)]
def ct0 : Ct := ⟨0, []⟩
def toldD (b : List Ty) : List (Ey × Nat) × Nat × Nat :=
  if (headD b).2 ≠ 0 then ([], headD b)
  else if (decP b (bt b 3) (word2 b 4) 6 (-1)).2.2 ≠ 0 then decP b (bt b 3) (word2 b 4) 6 (-1)
  else if (decP b (bt b 3) (word2 b 4) 6 (-1)).2.1 < b.length then ((decP b (bt b 3) (word2 b 4) 6 (-1)).1, (decP b (bt b 3) (word2 b 4) 6 (-1)).2.1, 3)
  else ((decP b (bt b 3) (word2 b 4) 6 (-1)).1, 0, 0)
def esOf (l : List (Ey × Nat)) : List Ey := l.map Prod.fst
def endsOf (l : List (Ey × Nat)) : List Int := l.map fun x => (x.2 : Int)
def decC (b : List Ty) : Ct × Nat × Nat := if (toldD b).2.2 ≠ 0 then (ct0, (toldD b).2) else (⟨bt b 3, esOf (toldD b).1⟩, 0, 0)
theorem known204 (t : Ty) : zf9 Tryz.prog 204 [.int .u8 t.val] (.bool (knownT t)) := by
  refine F204.pcall' rfl fun T hT => ?_
  by_cases h1 : t.val ≤ 5
  · have q1 : ((t.val : Int) ≤ 5) = True := by simp; omega
    simp -implicitDefEqProofs only [go_sem, c204, hT, q1]
    exact zc2 (by simp [knownT, h1])
  have q1 : ((t.val : Int) ≤ 5) = False := by simp; omega
  by_cases h2 : 16 ≤ t.val
  · have q2 : ((16 : Int) ≤ t.val) = True := by simp; omega
    simp -implicitDefEqProofs only [go_sem, c204, hT, q1, q2]
    exact zc2 (by simp only [knownT, decide_eq_decide]; omega)
  · have q2 : ((16 : Int) ≤ t.val) = False := by simp; omega
    simp -implicitDefEqProofs only [go_sem, c204, hT, q1, q2]
    exact zc2 (by simp only [knownT]; rw [decide_eq_false (by omega)])
theorem isCode149 (t : Ty) : zf9 Tryz.prog 149 [.int .u8 t.val] (.bool (knownT t)) := by
  refine F149.pcall' rfl fun T hT => ?_
  by_cases h1 : t.val ≤ 5
  · have q1 : ((t.val : Int) ≤ 5) = True := by simp; omega
    simp -implicitDefEqProofs only [go_sem, c149, hT, q1]
    exact zc2 (by simp [knownT, h1])
  have q1 : ((t.val : Int) ≤ 5) = False := by simp; omega
  by_cases h2 : 16 ≤ t.val
  · have q2 : ((16 : Int) ≤ t.val) = True := by simp; omega
    simp -implicitDefEqProofs only [go_sem, c149, hT, q1, q2]
    exact zc2 (by simp only [knownT, decide_eq_decide]; omega)
  · have q2 : ((16 : Int) ≤ t.val) = False := by simp; omega
    simp -implicitDefEqProofs only [go_sem, c149, hT, q1, q2]
    exact zc2 (by simp only [knownT]; rw [decide_eq_false (by omega)])
theorem rises165 (last a : Int) : zf9 Tryz.prog 165 [.int .i64 last, .int .i64 a] (.int .i64 (afterE a last)) := by
  refine F165.pcall' rfl fun T hT => ?_
  by_cases h1 : a < 0
  · rw [afterE, if_pos (Or.inl h1)]
    simp -implicitDefEqProofs only [go_sem, c165, hT, h1]
    all_goals exact DLe.refl _
  by_cases h2 : 4095 < a
  · have q2 : ((4096 : Int) ≤ a) = True := by simp; omega
    rw [afterE, if_pos (Or.inr h2)]
    simp -implicitDefEqProofs only [go_sem, c165, hT, h1, q2]
    all_goals exact DLe.refl _
  have q2 : ((4096 : Int) ≤ a) = False := by simp; omega
  rw [afterE, if_neg (by omega)]
  by_cases h3 : a = last
  · rw [if_pos h3]
    subst h3
    simp -implicitDefEqProofs only [go_sem, c165, hT, h1, q2]
    all_goals exact DLe.refl _
  rw [if_neg h3]
  by_cases h4 : a < last
  · rw [if_pos h4]
    simp -implicitDefEqProofs only [go_sem, c165, hT, h1, q2, h3, h4]
    all_goals exact DLe.refl _
  · rw [if_neg h4]
    simp -implicitDefEqProofs only [go_sem, c165, hT, h1, q2, h3, h4]
    all_goals exact DLe.refl _
theorem after108 (last a : Int) : zf9 Tryz.prog 108 [.int .i64 a, .int .i64 last] (.int .i64 (afterE a last)) := by
  refine F108.pcall' rfl fun T hT => ?_
  by_cases h1 : a < 0
  · rw [afterE, if_pos (Or.inl h1)]
    simp -implicitDefEqProofs only [go_sem, c108, hT, h1]
    all_goals exact DLe.refl _
  by_cases h2 : 4095 < a
  · have q2 : ((4095 : Int) < a) = True := by simp; omega
    rw [afterE, if_pos (Or.inr h2)]
    simp -implicitDefEqProofs only [go_sem, c108, hT, h1, q2]
    all_goals exact DLe.refl _
  have q2 : ((4095 : Int) < a) = False := by simp; omega
  rw [afterE, if_neg (by omega)]
  by_cases h3 : a = last
  · rw [if_pos h3]
    subst h3
    simp -implicitDefEqProofs only [go_sem, c108, hT, h1, q2]
    all_goals exact DLe.refl _
  rw [if_neg h3]
  by_cases h4 : a < last
  · rw [if_pos h4]
    simp -implicitDefEqProofs only [go_sem, c108, hT, h1, q2, h3, h4]
    all_goals exact DLe.refl _
  · rw [if_neg h4]
    simp -implicitDefEqProofs only [go_sem, c108, hT, h1, q2, h3, h4]
    all_goals exact DLe.refl _
theorem word167 (b : List Ty) (o : Own) (h : 2 ≤ b.length) : zf9 Tryz.prog 167 [.slice o (rws eT b)] (.int .i64 (word2 b 0)) := by
  have b0 : (0 : Int) < b.length := by omega
  have b1 : (1 : Int) < b.length := by omega
  have hR0 : (rws eT b)[0]?.getD [] = eT ((b[0]?).getD 0) := by rw [rws_at (by omega), List.getElem?_eq_getElem (by omega)]; rfl
  have hR1 : (rws eT b)[1]?.getD [] = eT ((b[1]?).getD 0) := by rw [rws_at (by omega), List.getElem?_eq_getElem (by omega)]; rfl
  have hw : word2 b 0 = 256 * ((b[0]?).getD 0).val + ((b[1]?).getD 0).val := rfl
  rw [hw]
  generalize (b[0]?).getD 0 = x at *
  generalize (b[1]?).getD 0 = y at *
  have hx := x.isLt
  have hy := y.isLt
  have w0 : IntKind.wrap .i64 (x.val : Int) = x.val := wrap_ty_i64 x
  have w1 : IntKind.wrap .i64 (y.val : Int) = y.val := wrap_ty_i64 y
  have w2 : IntKind.wrap .i64 ((x.val : Int) * 256) = 256 * (x.val : Int) := by rw [zb7 (by omega) (by omega)]; omega
  have hor := or_byte x.val y.val (by omega) hy
  have h28 : (2 : Int) ^ min 8 64 = 256 := by decide
  refine F167.pcall' rfl fun T hT => ?_
  simp -implicitDefEqProofs only [go_sem, c167, hT, hR0, hR1, eT, eT_len]
  refine ⟨b0, b1, ?_⟩
  simp only [w0, w1, w2, h28]
  exact (congrArg (fun z => DLe (D.int .i64 z) (D.int .i64 ((256 * x.val + y.val : Nat) : Int))) hor).mpr (DLe.refl _)
open Go.Proofs
def mg : Nat → Nat | 0 => 112 | 1 => 118 | _ => 1
theorem bt_at {b : List Ty} {i : Nat} (h : i < b.length) : (rws eT b)[i]?.getD [] = [.int .u8 (bt b i : Nat)] := by rw [rws_at h, bt, List.getElem?_eq_getElem h]; rfl
def okTo (b : List Ty) (i : Nat) : Prop := i ≤ b.length ∧ ∀ j < i, bt b j = mg j
theorem headD_short {b : List Ty} {i : Nat} (hi : i < 3) (h : okTo b i) (hl : b.length = i) : headD b = (i, 2) := by
  obtain ⟨h1, h2⟩ := h
  have : i = 0 ∨ i = 1 ∨ i = 2 := by omega
  rcases this with rfl | rfl | rfl
  · simp [headD, hl]
  · have := h2 0 (by omega); simp [mg] at this; simp [headD, hl, this]
  · have q := h2 0 (by omega); have r := h2 1 (by omega); simp [mg] at q r; simp [headD, hl, q, r]
theorem headD_bad {b : List Ty} {i : Nat} (hi : i < 3) (h : okTo b i) (hl : i < b.length) (hb : bt b i ≠ mg i) : headD b = (i, 64) := by
  obtain ⟨h1, h2⟩ := h
  have : i = 0 ∨ i = 1 ∨ i = 2 := by omega
  rcases this with rfl | rfl | rfl
  · simp [mg] at hb
    rw [headD, if_neg (by omega), if_pos hb]
  · have q := h2 0 (by omega); simp [mg] at q hb
    rw [headD, if_neg (by omega), if_neg (by omega), if_pos hb]
  · have q := h2 0 (by omega); have r := h2 1 (by omega); simp [mg] at q r hb
    rw [headD, if_neg (by omega), if_neg (by omega), if_neg (by omega), if_pos hb]
theorem headD_ok {b : List Ty} (h : okTo b 3) : headD b = if b.length < 6 then (b.length, 2)
  else if 16 < bt b 3 then (3, 5)
  else if 4096 < word2 b 4 then (4, 4)
  else (0, 0) := by
  obtain ⟨h1, h2⟩ := h
  have q := h2 0 (by omega); have r := h2 1 (by omega); have s := h2 2 (by omega); simp [mg] at q r s
  rw [headD, if_neg (by omega), if_neg (by omega), if_neg (by omega), if_neg (by omega)]
def headR (b : List Ty) : Nat × Nat := if (headD b).2 = 0 then (bt b 3, word2 b 4) else (0, 0)
theorem refHead116 (b : List Ty) (o : Own) (hl : b.length ≤ 140737488355328) : zf9 Tryz.prog 116 [.slice o (rws eT b)] (.tup [.int .i64 (headR b).1, .int .i64 (headR b).2, .int .i64 (headD b).1, .int .i64 (headD b).2]) := by
  refine F116.pcall' rfl fun T hT => ?_
  simp -implicitDefEqProofs only [go_sem, c116, hT]
  refine loopL F116 (fun i : Nat => [(0, .slice o (rws eT b)), (6, .slice .exact [[.int .u8 112], [.int .u8 118], [.int .u8 1]]), (7, .int .i64 i)]) (fun _ => {}) (fun i => i ≤ 3 ∧ okTo b i) (fun i => 3 - i) 0 ⟨by omega, by simp [okTo]⟩ ?_ (St.le.nil _) ?_
  · simp -implicitDefEqProofs only [go_sem, hT, Int.ofNat_zero]
    all_goals rfl
  clear hT T
  rintro i ⟨hi, hok⟩ T hT
  by_cases h : i < 3
  · have h1 : ((i : Int) < 3) = True := by simp; omega
    have hM : ([[.int .u8 112], [.int .u8 118], [.int .u8 1]] : List (List D))[i]?.getD [] = [.int .u8 (mg i)] := by
      have : i = 0 ∨ i = 1 ∨ i = 2 := by omega
      rcases this with rfl | rfl | rfl <;> rfl
    by_cases hs : b.length = i
    · have q1 : ((b.length : Int) ≤ i) = True := by simp; omega
      have hd := headD_short h hok hs
      have hr : headR b = (0, 0) := by rw [headR, hd]; rfl
      rw [hd, hr]
      simp -implicitDefEqProofs only [go_sem, hT, h1, q1]
      rw [hs]
      exact DLe.refl _
    have q1 : ((b.length : Int) ≤ i) = False := by have := hok.1; simp; omega
    have hlt : i < b.length := by have := hok.1; omega
    have hR := bt_at hlt
    have hmg : mg i < 256 := by unfold mg; split <;> omega
    have w4 : IntKind.wrap .i64 ((i : Int) + 1) = ((i + 1 : Nat) : Int) := by rw [zb7 (by omega) (by omega)]; simp
    by_cases hb : bt b i = mg i
    · have q2 : ((bt b i : Int) = mg i) = True := by simp [hb]
      simp -implicitDefEqProofs only [go_sem, hT, h1, q1, hM, hR, q2, rws_one eT_len]
      refine ⟨by omega, by omega, i + 1, ⟨by omega, by omega, fun j hj => ?_⟩, by omega, ?_, St.le.refl _⟩
      · by_cases hji : j < i
        · exact hok.2 j hji
        · rw [show j = i by omega]; exact hb
      · rw [w4]
    · have q2 : ((bt b i : Int) = mg i) = False := by simp; omega
      have hd := headD_bad h hok hlt hb
      have hr : headR b = (0, 0) := by rw [headR, hd]; rfl
      rw [hd, hr]
      simp -implicitDefEqProofs only [go_sem, hT, h1, q1, hM, hR, q2, rws_one eT_len]
      exact ⟨by omega, by omega, DLe.refl _⟩
  · have h1 : ((i : Int) < 3) = False := by simp; omega
    have hi3 : i = 3 := by omega
    subst hi3
    have hd := headD_ok hok
    have hlen := hok.1
    by_cases h6 : b.length < 6
    · have q6 : ((b.length : Int) < 6) = True := by simp; omega
      have hd : headD b = (b.length, 2) := by rw [hd, if_pos h6]
      have hr : headR b = (0, 0) := by rw [headR, hd]; rfl
      rw [hd, hr]
      simp -implicitDefEqProofs only [go_sem, hT, h1, q6]
      exact DLe.refl _
    have q6 : ((b.length : Int) < 6) = False := by simp; omega
    have g3 : (0 : Int) ≤ 3 ∧ (3 : Int) < b.length := by omega
    have g4 : (0 : Int) ≤ 4 ∧ (4 : Int) < b.length := by omega
    have g5 : (0 : Int) ≤ 5 ∧ (5 : Int) < b.length := by omega
    have hR3 := bt_at (b := b) (i := 3) (by omega)
    have hR4 := bt_at (b := b) (i := 4) (by omega)
    have hR5 := bt_at (b := b) (i := 5) (by omega)
    have hb3 := bt_lt b 3
    have hb4 := bt_lt b 4
    have hb5 := bt_lt b 5
    have hrl : ∀ r ∈ rws eT b, r.length = 1 := rows_len eT_len b
    by_cases h16 : 16 < bt b 3
    · have q16 : ((16 : Int) < bt b 3) = True := by simp; omega
      have hd : headD b = (3, 5) := by rw [hd, if_neg h6, if_pos h16]
      have hr : headR b = (0, 0) := by rw [headR, hd]; rfl
      rw [hd, hr]
      simp -implicitDefEqProofs only [go_sem, hT, h1, q6, hR3, q16, rws_one eT_len]
      exact ⟨by omega, DLe.refl _⟩
    have q16 : ((16 : Int) < bt b 3) = False := by simp; omega
    have w4 : IntKind.wrap .i64 (bt b 4 : Int) = bt b 4 := zb7 (by omega) (by omega)
    have w5 : IntKind.wrap .i64 (bt b 5 : Int) = bt b 5 := zb7 (by omega) (by omega)
    have w3 : IntKind.wrap .i64 (bt b 3 : Int) = bt b 3 := zb7 (by omega) (by omega)
    have wm : IntKind.wrap .i64 (256 * (bt b 4 : Int)) = 256 * (bt b 4 : Int) := zb7 (by omega) (by omega)
    have wa : IntKind.wrap .i64 (256 * (bt b 4 : Int) + bt b 5) = (word2 b 4 : Nat) := by rw [zb7 (by omega) (by omega), word2]; simp
    by_cases h40 : 4096 < word2 b 4
    · have q40 : ((4096 : Int) < word2 b 4) = True := by simp; omega
      have hd : headD b = (4, 4) := by rw [hd, if_neg h6, if_neg h16, if_pos h40]
      have hr : headR b = (0, 0) := by rw [headR, hd]; rfl
      rw [hd, hr]
      simp -implicitDefEqProofs only [go_sem, hT, h1, q6, hR3, hR4, hR5, q16, rws_one eT_len, w4, w5, wm, wa, q40]
      exact ⟨by omega, by omega, by omega, DLe.refl _⟩
    · have q40 : ((4096 : Int) < word2 b 4) = False := by simp; omega
      have hd : headD b = (0, 0) := by rw [hd, if_neg h6, if_neg h16, if_neg h40]
      have hr : headR b = (bt b 3, word2 b 4) := by rw [headR, hd]; rfl
      rw [hd, hr]
      simp -implicitDefEqProofs only [go_sem, hT, h1, q6, hR3, hR4, hR5, q16, rws_one eT_len, w3, w4, w5, wm, wa, q40]
      exact ⟨by omega, by omega, by omega, by omega, DLe.refl _⟩
def eRd (b : List Ty) (p : Nat) (last : Int) (left n : Nat) (bad err : Nat) : List D := [.slice .no (rws eT b), .int .i64 p, .int .i64 last, .int .i64 left, .int .i64 n, .int .i64 bad, .int .i64 err, .bool true]
def openR (b : List Ty) (d : D) (s : St) : Prop :=
  if (headD b).2 = 0 then ∃ r, d = .tup [.ptr r 0, .int .i64 0, .int .i64 0] ∧ s = ({} : St).set r (eRd b 6 (-1) (word2 b 4) (word2 b 4) 0 0)
  else d = .tup [.nilptr, .int .i64 (headD b).1, .int .i64 (headD b).2] ∧ s = {}
theorem openR_no {b : List Ty} (h : (headD b).2 ≠ 0) : openR b = fun d s => d = .tup [.nilptr, .int .i64 (headD b).1, .int .i64 (headD b).2] ∧ s = {} := by funext d s; rw [openR, if_neg h]
theorem openR_yes {b : List Ty} (h : (headD b).2 = 0) : openR b = fun d s => ∃ r, d = .tup [.ptr r 0, .int .i64 0, .int .i64 0] ∧ s = ({} : St).set r (eRd b 6 (-1) (word2 b 4) (word2 b 4) 0 0) := by funext d s; rw [openR, if_pos h]
theorem open134 (b : List Ty) (hl : b.length ≤ 140737488355328) : RCall Tryz.prog 134 [.slice .no (rws eT b)] {} (openR b) := by
  refine F134.rcall rfl fun T hT => ?_
  simp -implicitDefEqProofs only [go_sem, c134, hT]
  refine loopL F134 (fun i : Nat => [(0, .slice .no (rws eT b)), (8, .slice .exact [[.int .u8 112], [.int .u8 118], [.int .u8 1]]), (9, .int .i64 3), (10, .int .i64 i)]) (fun _ => {}) (fun i => i ≤ 3 ∧ okTo b i) (fun i => 3 - i) 0 ⟨by omega, by simp [okTo]⟩ ?_ (St.le.nil _) ?_
  · simp -implicitDefEqProofs only [go_sem, hT, Int.ofNat_zero]
    all_goals exact ⟨rfl, rfl⟩
  clear hT T
  rintro i ⟨hi, hok⟩ T hT
  by_cases h : i < 3
  · have h1 : ((i : Int) < 3) = True := by simp; omega
    have hM : ([[.int .u8 112], [.int .u8 118], [.int .u8 1]] : List (List D))[i]?.getD [] = [.int .u8 (mg i)] := by
      have : i = 0 ∨ i = 1 ∨ i = 2 := by omega
      rcases this with rfl | rfl | rfl <;> rfl
    by_cases hs : b.length = i
    · have q1 : ((i : Int) = b.length) = True := by simp; omega
      have hd := headD_short h hok hs
      rw [openR_no (by rw [hd]; simp), hd]
      simp -implicitDefEqProofs only [go_sem, hT, h1, q1, hM]
      rw [← hs]
      exact ⟨by omega, ⟨_, _, DLe.refl _, St.le.refl _, rfl, rfl⟩⟩
    have q1 : ((i : Int) = b.length) = False := by have := hok.1; simp; omega
    have hlt : i < b.length := by have := hok.1; omega
    have hR := bt_at hlt
    have hmg : mg i < 256 := by unfold mg; split <;> omega
    have w4 : IntKind.wrap .i64 ((i : Int) + 1) = ((i + 1 : Nat) : Int) := by rw [zb7 (by omega) (by omega)]; simp
    by_cases hb : bt b i = mg i
    · have q2 : ((bt b i : Int) = mg i) = True := by simp [hb]
      simp -implicitDefEqProofs only [go_sem, hT, h1, q1, hM, hR, q2, rws_one eT_len]
      refine ⟨by omega, by omega, i + 1, ⟨by omega, by omega, fun j hj => ?_⟩, by omega, ?_, St.le.refl _⟩
      · by_cases hji : j < i
        · exact hok.2 j hji
        · rw [show j = i by omega]; exact hb
      · rw [w4]
    · have q2 : ((bt b i : Int) = mg i) = False := by simp; omega
      have hd := headD_bad h hok hlt hb
      rw [openR_no (by rw [hd]; simp), hd]
      simp -implicitDefEqProofs only [go_sem, hT, h1, q1, hM, hR, q2, rws_one eT_len]
      exact ⟨by omega, by omega, ⟨_, _, DLe.refl _, St.le.refl _, rfl, rfl⟩⟩
  · have h1 : ((i : Int) < 3) = False := by simp; omega
    have hi3 : i = 3 := by omega
    subst hi3
    have hd := headD_ok hok
    have hlen := hok.1
    by_cases h6 : b.length < 6
    · have q6 : ((b.length : Int) < 6) = True := by simp; omega
      have hd : headD b = (b.length, 2) := by rw [hd, if_pos h6]
      rw [openR_no (by rw [hd]; simp), hd]
      simp -implicitDefEqProofs only [go_sem, hT, h1, q6]
      exact ⟨_, _, DLe.refl _, St.le.refl _, rfl, rfl⟩
    have q6 : ((b.length : Int) < 6) = False := by simp; omega
    have hR3 := bt_at (b := b) (i := 3) (by omega)
    have hb3 := bt_lt b 3
    have hb4 := bt_lt b 4
    have hb5 := bt_lt b 5
    by_cases h16 : 16 < bt b 3
    · have q16 : ((16 : Int) < bt b 3) = True := by simp; omega
      have hd : headD b = (3, 5) := by rw [hd, if_neg h6, if_pos h16]
      rw [openR_no (by rw [hd]; simp), hd]
      simp -implicitDefEqProofs only [go_sem, hT, h1, q6, hR3, q16, rws_one eT_len]
      exact ⟨by omega, ⟨_, _, DLe.refl _, St.le.refl _, rfl, rfl⟩⟩
    have q16 : ((16 : Int) < bt b 3) = False := by simp; omega
    have hw4 : word2 (b.drop 4) 0 = word2 b 4 := by simp [word2, bt, List.getElem?_drop]
    have hw : zf9 Tryz.prog 167 [.slice .no (rws eT (b.drop 4))] (.int .i64 (word2 b 4)) := by rw [← hw4]; exact word167 _ _ (by rw [List.length_drop]; omega)
    simp -implicitDefEqProofs only [go_sem, hT, h1, q6, hR3, q16, rws_one eT_len, rws_take, rws_drop, List.take_length]
    refine ⟨by omega, by omega, za4 hw ?_⟩
    by_cases h40 : 4096 < word2 b 4
    · have q40 : ((4096 : Int) < word2 b 4) = True := by simp; omega
      have hd : headD b = (4, 4) := by rw [hd, if_neg h6, if_neg h16, if_pos h40]
      rw [openR_no (by rw [hd]; simp), hd]
      simp -implicitDefEqProofs only [go_sem, hT, h1, q6, hR3, q16, q40, rws_one eT_len, rws_take, rws_drop, List.take_length]
      exact ⟨_, _, DLe.refl _, St.le.refl _, rfl, rfl⟩
    have q40 : ((4096 : Int) < word2 b 4) = False := by simp; omega
    have hd : headD b = (0, 0) := by rw [hd, if_neg h6, if_neg h16, if_neg h40]
    rw [openR_yes (by rw [hd])]
    simp -implicitDefEqProofs only [go_sem, hT, h1, q6, hR3, q16, q40, rws_one eT_len, rws_take, rws_drop, List.take_length]
    refine ⟨by omega, za4 hw ?_⟩
    simp -implicitDefEqProofs only [go_sem, hT, h1, q6, hR3, q16, q40, rws_one eT_len, rws_take, rws_drop, List.take_length]
    intro r
    exact ⟨_, _, DLe.refl _, St.le.refl _, r, rfl, rfl⟩
open Go.Proofs
theorem scanT_pass (b : List Ty) : ∀ n q, (scanT b q n).2 = 0 → q + n ≤ b.length ∨ n = 0 := by
  intro n
  induction n with
  | zero => intro q _; right; rfl
  | succ n ih =>
    intro q h
    rw [scanT] at h
    split at h
    · exact absurd h (by simp)
    · split at h
      · have := ih _ h; omega
      · exact absurd h (by simp)
theorem wrapN {a : Int} {n : Nat} (h : a = n) (hn : n ≤ 9223372036854775807) : IntKind.wrap .i64 a = (n : Int) := by rw [h]; exact zb7 (by omega) (by omega)
theorem ey_zero : [D.int .i64 0, D.bool false, D.int .i64 0, D.int .i64 0, D.int .u8 0, D.int .u8 0, D.int .u8 0, D.int .u8 0, D.int .u8 0, D.int .u8 0, D.int .u8 0, D.int .u8 0, D.int .u8 0, D.int .u8 0, D.int .u8 0, D.int .u8 0, D.int .u8 0, D.int .u8 0, D.int .u8 0, D.int .u8 0, D.int .u8 0, D.int .u8 0, D.int .u8 0, D.int .u8 0, D.int .u8 0, D.int .u8 0, D.int .u8 0, D.int .u8 0] = eEy ey0 := rfl
theorem ey_dead (z : Int) : [D.int .i64 z, D.bool true, D.int .i64 0, D.int .i64 0, D.int .u8 0, D.int .u8 0, D.int .u8 0, D.int .u8 0, D.int .u8 0, D.int .u8 0, D.int .u8 0, D.int .u8 0, D.int .u8 0, D.int .u8 0, D.int .u8 0, D.int .u8 0, D.int .u8 0, D.int .u8 0, D.int .u8 0, D.int .u8 0, D.int .u8 0, D.int .u8 0, D.int .u8 0, D.int .u8 0, D.int .u8 0, D.int .u8 0, D.int .u8 0, D.int .u8 0] = eEy ⟨z, true, fr0 0⟩ := rfl
theorem fr_new (y z : Int) : [D.int .i64 y, D.int .i64 z, D.int .u8 0, D.int .u8 0, D.int .u8 0, D.int .u8 0, D.int .u8 0, D.int .u8 0, D.int .u8 0, D.int .u8 0, D.int .u8 0, D.int .u8 0, D.int .u8 0, D.int .u8 0, D.int .u8 0, D.int .u8 0, D.int .u8 0, D.int .u8 0, D.int .u8 0, D.int .u8 0, D.int .u8 0, D.int .u8 0, D.int .u8 0, D.int .u8 0, D.int .u8 0, D.int .u8 0] = eFr ⟨y, z, slOf []⟩ := by rw [slOf_nil]; rfl
def bYfbD0 := aI @zb1 (aI @za8 (aI @zb0 (aI @za6 (aI @za5 (aI @za7 (aI @anD (aI @za2 (aI @za3 @ey_zero))))))))
def bYfbD1 := aI @zb1 (aI @za8 (aI @zb0 (aI @za6 (aI @za5 (aI @za7 (aI @anD (aI @za2 @za3)))))))
def bYfbD2 := aI @zb1 (aI @za8 (aI @zb0 (aI @za6 (aI @za5 (aI @za7 (aI @anD (aI @za2 (aI @za3 @eT_len))))))))
theorem one117 (b : List Ty) (o : Own) (loc p : Nat) (last : Int) (hl : b.length ≤ 140737488355328) (hp : p ≤ b.length) (hloc : loc ≤ 16) :
    zf9 Tryz.prog 117 [.slice o (rws eT b), .int .i64 loc, .int .i64 p, .int .i64 last] (.tup [.agg (eEy (entD b loc p last).1), .int .i64 (entD b loc p last).2.1, .int .i64 (entD b loc p last).2.2]) := by
  have v1 : IntKind.wrap .i64 ((p : Int) + 1) = ((p + 1 : Nat) : Int) := wrapN (by simp) (by omega)
  have v2 : IntKind.wrap .i64 ((p : Int) + 2) = ((p + 2 : Nat) : Int) := wrapN (by simp) (by omega)
  have v3 : IntKind.wrap .i64 ((p : Int) + 3) = ((p + 3 : Nat) : Int) := wrapN (by simp) (by omega)
  have v4 : IntKind.wrap .i64 ((p : Int) + 4) = ((p + 4 : Nat) : Int) := wrapN (by simp) (by omega)
  refine F117.pcall' rfl fun T hT => ?_
  simp -implicitDefEqProofs only [go_sem, c117, hT, bYfbD0]
  intro b8 b11 n1 n2
  by_cases h1 : b.length < p + 2
  · have q1 : ((b.length : Int) ≤ (p + 1 : Nat)) = True := by simp; omega
    rw [entD, if_pos h1]
    simp -implicitDefEqProofs only [go_sem, hT, v1, q1, n1, n2, bYfbD0]
    exact DLe.refl _
  have q1 : ((b.length : Int) ≤ (p + 1 : Nat)) = False := by simp; omega
  have hb0 := bt_lt b p
  have hb1 := bt_lt b (p + 1)
  have u0 : IntKind.wrap .i64 (bt b p : Int) = bt b p := zb7 (by omega) (by omega)
  have u1 : IntKind.wrap .i64 (bt b (p + 1) : Int) = bt b (p + 1) := zb7 (by omega) (by omega)
  have um : IntKind.wrap .i64 (256 * (bt b p : Int)) = 256 * (bt b p : Int) := zb7 (by omega) (by omega)
  have ua : IntKind.wrap .i64 (256 * (bt b p : Int) + bt b (p + 1)) = (word2 b p : Nat) := by rw [zb7 (by omega) (by omega), word2]; simp
  have hR0 := bt_at (b := b) (i := p) (by omega)
  have hR1 := bt_at (b := b) (i := p + 1) (by omega)
  have hw2 : word2 b p < 65536 := by rw [word2]; omega
  simp -implicitDefEqProofs only [go_sem, hT, v1, q1, n1, n2, hR0, hR1, u0, u1, um, ua, rws_one eT_len, bYfbD1]
  refine ⟨by omega, by omega, za4 (after108 last (word2 b p)) ?_⟩
  obtain ⟨ae, hae⟩ : ∃ ae, afterE (word2 b p) last = ae := ⟨_, rfl⟩
  obtain ⟨z, hz⟩ : ∃ z, word2 b p = z := ⟨_, rfl⟩
  have hd : entD b loc p last = if ae ≠ 0 then (ey0, p, ae)
      else if b.length = p + 2 then (ey0, p + 2, 2)
      else if 1 < bt b (p + 2) then (ey0, p + 2, 63)
      else if bt b (p + 2) = 0 then (⟨z, true, fr0 0⟩, p + 3, 0)
      else if b.length = p + 3 then (ey0, p + 3, 2)
      else if 24 < loc + bt b (p + 3) then (ey0, p + 3, 65)
      else if (scanT b (p + 4) (loc + bt b (p + 3))).2 ≠ 0 then (ey0, scanT b (p + 4) (loc + bt b (p + 3)))
      else (⟨z, false, ⟨loc, bt b (p + 3), slOf ((b.drop (p + 4)).take (loc + bt b (p + 3)))⟩⟩, p + 4 + (loc + bt b (p + 3)), 0) := by
    rw [entD, if_neg h1, hae, hz]
  rw [hd, hae, hz]
  clear hd hae
  rw [hz] at ua hw2
  clear hz
  by_cases h2 : ae = 0
  case neg =>
    have q2 : ((ae : Int) = 0) = False := by simp; omega
    rw [if_pos h2]
    simp -implicitDefEqProofs only [go_sem, hT, n1, n2, q2, bYfbD0]
  have q2 : ((ae : Int) = 0) = True := by simp; omega
  rw [if_neg (by simp [h2])]
  by_cases h3 : b.length = p + 2
  · have q3 : ((b.length : Int) ≤ (p + 2 : Nat)) = True := by simp; omega
    rw [if_pos h3]
    simp -implicitDefEqProofs only [go_sem, hT, n1, n2, v2, q2, q3, bYfbD0]
    rw [h3]
    exact DLe.refl _
  have q3 : ((b.length : Int) ≤ (p + 2 : Nat)) = False := by simp; omega
  have hR2 := bt_at (b := b) (i := p + 2) (by omega)
  have hb2 := bt_lt b (p + 2)
  rw [if_neg h3]
  by_cases h4 : 1 < bt b (p + 2)
  · have q4 : ((1 : Int) < bt b (p + 2)) = True := by simp; omega
    rw [if_pos h4]
    simp -implicitDefEqProofs only [go_sem, hT, n1, n2, v2, q2, q3, q4, hR2, rws_one eT_len, bYfbD0]
    exact ⟨by omega, DLe.refl _⟩
  have q4 : ((1 : Int) < bt b (p + 2)) = False := by simp; omega
  rw [if_neg h4]
  by_cases h5 : bt b (p + 2) = 0
  · have q5 : ((bt b (p + 2) : Int) = 0) = True := by simp; omega
    rw [if_pos h5]
    simp -implicitDefEqProofs only [go_sem, hT, zb1, za8, zb0, za6, za5, za7, anD, za2, za3, n1, n2, v2, v3, q2, q3, q4, q5, hR2, ey_dead, rws_one eT_len]
    exact ⟨by omega, by omega, DLe.refl _⟩
  have q5 : ((bt b (p + 2) : Int) = 0) = False := by simp; omega
  rw [if_neg h5]
  by_cases h6 : b.length = p + 3
  · have q6 : ((b.length : Int) ≤ (p + 3 : Nat)) = True := by simp; omega
    rw [if_pos h6]
    simp -implicitDefEqProofs only [go_sem, hT, n1, n2, v2, v3, q2, q3, q4, q5, q6, hR2, rws_one eT_len, bYfbD0]
    rw [h6]
    exact ⟨by omega, by omega, DLe.refl _⟩
  have q6 : ((b.length : Int) ≤ (p + 3 : Nat)) = False := by simp; omega
  have hR3 := bt_at (b := b) (i := p + 3) (by omega)
  have hb3 := bt_lt b (p + 3)
  rw [if_neg h6]
  obtain ⟨dp, hdp⟩ : ∃ dp, bt b (p + 3) = dp := ⟨_, rfl⟩
  rw [hdp] at hR3 hb3 ⊢
  clear hdp
  have u3 : IntKind.wrap .i64 (dp : Int) = dp := zb7 (by omega) (by omega)
  have uL : IntKind.wrap .i64 ((24 : Int) - loc) = ((24 - loc : Nat) : Int) := wrapN (by omega) (by omega)
  by_cases h7 : 24 < loc + dp
  · have q7 : (((24 - loc : Nat) : Int) < dp) = True := by simp; omega
    rw [if_pos h7]
    simp -implicitDefEqProofs only [go_sem, hT, n1, n2, v2, v3, q2, q3, q4, q5, q6, hR2, hR3, u3, uL, q7, rws_one eT_len, bYfbD0]
    exact ⟨by omega, by omega, by omega, DLe.refl _⟩
  have q7 : (((24 - loc : Nat) : Int) < dp) = False := by simp; omega
  rw [if_neg h7]
  simp -implicitDefEqProofs only [go_sem, hT, n1, n2, v2, v3, q2, q3, q4, q5, q6, hR2, hR3, u3, uL, q7, rws_one eT_len, bYfbD1]
  refine ⟨by omega, by omega, by omega, fun b15 m1 m2 m3 m4 => ?_⟩
  obtain ⟨n, hn⟩ : ∃ n, loc + dp = n := ⟨_, rfl⟩
  have hn24 : n ≤ 24 := by omega
  rw [hn]
  have uN : IntKind.wrap .i64 ((loc : Int) + dp) = (n : Int) := wrapN (by omega) (by omega)
  simp -implicitDefEqProofs only [go_sem, hT, zb1, za8, zb0, za6, za5, za7, anD, za2, za3, n1, n2, m1, m2, m3, m4, fr_new]
  refine loopL F117 (fun i : Nat => [(0, .slice o (rws eT b)), (1, .int .i64 loc), (2, .int .i64 p), (8, .ptr b8 0), (11, .ptr b11 0), (12, .int .i64 z), (14, .int .i64 dp), (15, .ptr b15 0), (16, .int .i64 i)]) (fun i => ((({} : St).set b8 (eEy ey0)).set b11 (eEy ey0)).set b15 (eFr ⟨loc, dp, slOf ((b.drop (p + 4)).take i)⟩)) (fun i => i ≤ n ∧ scanT b (p + 4) n = scanT b (p + 4 + i) (n - i)) (fun i => n - i) 0 ⟨by omega, rfl⟩ ?_ (St.le.refl _) ?_
  · simp -implicitDefEqProofs only [go_sem, hT, Int.ofNat_zero]
  clear hT T
  rintro i ⟨hi, hsc⟩ T hT
  by_cases h : i < n
  · have p1 : ((i : Int) < n) = True := by simp; omega
    have w4 : IntKind.wrap .i64 ((i : Int) + 1) = ((i + 1 : Nat) : Int) := wrapN (by simp) (by omega)
    have wp : IntKind.wrap .i64 (((p + 4 : Nat) : Int) + i) = ((p + 4 + i : Nat) : Int) := wrapN (by simp) (by omega)
    have hsn : n - i = (n - (i + 1)) + 1 := by omega
    rw [hsn, scanT] at hsc
    by_cases h8 : b.length ≤ p + 4 + i
    · have q8 : ((b.length : Int) ≤ (p + 4 + i : Nat)) = True := by simp; omega
      rw [if_pos h8] at hsc
      rw [hsc, if_pos (by simp)]
      simp -implicitDefEqProofs only [go_sem, hT, n1, n2, m1, m2, m3, m4, v4, uN, p1, wp, q8, bYfbD1]
      exact DLe.refl _
    have q8 : ((b.length : Int) ≤ (p + 4 + i : Nat)) = False := by simp; omega
    rw [if_neg h8] at hsc
    have hR4 := rws_at (enc := eT) (xs := b) (i := p + 4 + i) (by omega)
    have hg : (b[p + 4 + i]?).getD 0 = b[p + 4 + i] := by rw [List.getElem?_eq_getElem (by omega)]; rfl
    rw [hg] at hsc
    simp -implicitDefEqProofs only [go_sem, hT, n1, n2, m1, m2, m3, m4, v4, uN, p1, wp, q8, hR4, eT, bYfbD2]
    refine ⟨by omega, za4 (isCode149 _) ?_⟩
    have hset := slOf_set (ts := b.drop (p + 4)) (i := i) (by rw [List.length_drop]; omega) (by omega)
    have hdg : (b.drop (p + 4))[i]'(by rw [List.length_drop]; omega) = b[p + 4 + i] := by simp
    rw [hdg] at hset
    generalize b[p + 4 + i] = x at *
    by_cases h9 : knownT x = true
    · rw [if_pos h9] at hsc
      simp -implicitDefEqProofs only [go_sem, hT, n1, n2, m1, m2, m3, m4, v4, uN, p1, wp, q8, hR4, eT, h9, bYfbD2]
      rw [Nat.mul_one, fr_set (by omega)]
      dsimp only
      rw [hset]
      refine ⟨by omega, by omega, by omega, i + 1, ⟨by omega, ?_⟩, by omega, by rw [w4], St.le.refl _⟩
      rw [hsc]; rfl
    · have h9 : knownT x = false := by simpa using h9
      rw [if_neg (by simp [h9])] at hsc
      rw [hsc, if_pos (by simp)]
      simp -implicitDefEqProofs only [go_sem, hT, n1, n2, m1, m2, m3, m4, v4, uN, p1, wp, q8, hR4, eT, h9, bYfbD2]
      exact DLe.refl _
  · have p1 : ((i : Int) < n) = False := by simp; omega
    have hin : i = n := by omega
    subst hin
    rw [Nat.sub_self, scanT] at hsc
    rw [hsc, if_neg (by simp)]
    have e1 : IntKind.wrap .i64 (((p + 4 : Nat) : Int) + loc) = ((p + 4 + loc : Nat) : Int) := wrapN (by simp) (by omega)
    have e2 : IntKind.wrap .i64 (((p + 4 + loc : Nat) : Int) + dp) = ((p + 4 + i : Nat) : Int) := wrapN (by omega) (by omega)
    simp -implicitDefEqProofs only [go_sem, hT, n1, n2, m1, m2, m3, m4, v4, uN, p1, e1, e2, bYfbD1]
    exact DLe.refl _
open Go.Proofs
theorem grS_comm {s n s' n' : Nat} {o o' : Option Nat} {σ : St} (h : ∀ b, o = some b → o' ≠ some b) : grS s n o (grS s' n' o' σ) = grS s' n' o' (grS s n o σ) := by
  cases o with
  | none => rfl
  | some b =>
    cases o' with
    | none => rfl
    | some b' =>
      have hne : b' ≠ b := fun e => h b rfl (by rw [e])
      simp only [grS, St.setBuf]
      congr 1
      funext x
      by_cases h1 : x = b
      · subst h1; simp [Ne.symm hne]
      · by_cases h2 : x = b'
        · subst h2; simp [h1]
        · simp [h1, h2]
theorem grN_ne {s n : Nat} {o o' : Option Nat} {σ : St} (h : grN o (grS s n o' σ)) : ∀ b, o = some b → o' ≠ some b := fun b hb he => h b hb (by rw [grS_has]; exact .inl he)
theorem entD_place {b : List Ty} {loc p : Nat} {last : Int} (h : (entD b loc p last).2.2 = 0) : p < (entD b loc p last).2.1 ∧ (entD b loc p last).2.1 ≤ b.length := by
  unfold entD at h ⊢
  split; · rename_i h1; rw [if_pos h1] at h; exact absurd h (by simp)
  rename_i h1; rw [if_neg h1] at h
  split; · rename_i h2; rw [if_pos h2] at h; exact absurd h (by simpa using h2)
  rename_i h2; rw [if_neg h2] at h
  split; · rename_i h3; rw [if_pos h3] at h; exact absurd h (by simp)
  rename_i h3; rw [if_neg h3] at h
  split; · rename_i h4; rw [if_pos h4] at h; exact absurd h (by simp)
  rename_i h4; rw [if_neg h4] at h
  split; · rename_i h5; simp only; omega
  rename_i h5; rw [if_neg h5] at h
  split; · rename_i h6; rw [if_pos h6] at h; exact absurd h (by simp)
  rename_i h6; rw [if_neg h6] at h
  split; · rename_i h7; rw [if_pos h7] at h; exact absurd h (by simp)
  rename_i h7; rw [if_neg h7] at h
  split; · rename_i h8; rw [if_pos h8] at h; exact absurd h (by simpa using h8)
  rename_i h8
  have := scanT_pass b (loc + bt b (p + 3)) (p + 4) (by simpa using h8)
  simp only
  omega
theorem headD_zero {b : List Ty} (h : (headD b).2 = 0) : 6 ≤ b.length ∧ bt b 3 ≤ 16 ∧ word2 b 4 ≤ 4096 := by
  unfold headD at h
  split at h; · exact absurd h (by simp)
  split at h; · exact absurd h (by simp)
  split at h; · exact absurd h (by simp)
  split at h; · exact absurd h (by simp)
  split at h; · exact absurd h (by simp)
  split at h; · exact absurd h (by simp)
  split at h; · exact absurd h (by simp)
  omega
theorem eEy_frz (e : Ey) : (eEy e).map frz = eEy e := by simp [eEy, eFr, frz]
def bYfbE0 := aI @zb1 (aI @za8 (aI @zb0 (aI @anD (aI @za2 @za3))))
theorem told72 (b : List Ty) (o : Own) (hl : b.length ≤ 140737488355328) :
    zf9 Tryz.prog 72 [.slice o (rws eT b)] (.tup [.slice .no (rws eEy (esOf (toldD b).1)), .slice .no (rws eI (endsOf (toldD b).1)), .int .i64 (toldD b).2.1, .int .i64 (toldD b).2.2]) := by
  refine F72.pcall' rfl fun T hT => ?_
  simp -implicitDefEqProofs only [go_sem, c72, hT, bYfbE0]
  refine za4 (refHead116 b o hl) ?_
  by_cases h0 : (headD b).2 = 0
  case neg =>
    have q0 : (((headD b).2 : Int) = 0) = False := by simp; omega
    rw [toldD, if_pos h0]
    simp -implicitDefEqProofs only [go_sem, hT, q0, bYfbE0]
    exact DLe.tup (.cons (DLe.slice _ _) (.cons (DLe.slice _ _) (.cons (.refl _) (.cons (.refl _) .nil))))
  have q0 : (((headD b).2 : Int) = 0) = True := by simp; omega
  have hr : headR b = (bt b 3, word2 b 4) := by rw [headR, if_pos h0]
  have hd : toldD b = if (decP b (bt b 3) (word2 b 4) 6 (-1)).2.2 ≠ 0 then decP b (bt b 3) (word2 b 4) 6 (-1)
      else if (decP b (bt b 3) (word2 b 4) 6 (-1)).2.1 < b.length then ((decP b (bt b 3) (word2 b 4) 6 (-1)).1, (decP b (bt b 3) (word2 b 4) 6 (-1)).2.1, 3)
      else ((decP b (bt b 3) (word2 b 4) 6 (-1)).1, 0, 0) := by rw [toldD, if_neg (by simp [h0])]
  obtain ⟨hb6, hloc, hcnt⟩ := headD_zero h0
  rw [hd, hr]
  clear hd hr
  simp -implicitDefEqProofs only [go_sem, hT, q0, bYfbE0]
  generalize bt b 3 = loc at *
  generalize word2 b 4 = cnt at *
  obtain ⟨R, hR⟩ : ∃ R, decP b loc cnt 6 (-1) = R := ⟨_, rfl⟩
  rw [hR]
  refine loopL F72 (fun x : List (Ey × Nat) × Nat × Int × Option Nat × Option Nat => [(0, .slice o (rws eT b)), (6, .int .i64 loc), (7, .int .i64 cnt), (8, .int .i64 x.2.1), (10, grD 28 x.2.2.2.1 (rws eEy (esOf x.1))), (11, grD 1 x.2.2.2.2 (rws eI (endsOf x.1))), (12, .int .i64 x.2.2.1), (13, .int .i64 x.1.length)])
    (fun x => grS 28 x.1.length x.2.2.2.1 (grS 1 x.1.length x.2.2.2.2 {}))
    (fun x => x.1.length ≤ cnt ∧ x.2.1 ≤ b.length ∧ R = (x.1 ++ (decP b loc (cnt - x.1.length) x.2.1 x.2.2.1).1, (decP b loc (cnt - x.1.length) x.2.1 x.2.2.1).2) ∧ (x.2.2.2.1 = none → x.1.length = 0) ∧ (x.2.2.2.2 = none → x.1.length = 0) ∧ grN x.2.2.2.1 (grS 1 x.1.length x.2.2.2.2 {}))
    (fun x => cnt - x.1.length) ([], 6, -1, none, none) ⟨by simp, hb6, by simp [← hR], fun _ => rfl, fun _ => rfl, grN_none⟩ ?_ (St.le.refl _) ?_
  · simp -implicitDefEqProofs only [go_sem, hT, Int.ofNat_zero]
    exact ⟨rfl, rfl, rfl⟩
  clear hT T
  rintro ⟨L, p, last, o1, o2⟩ ⟨hL, hp, hRx, hn1, hn2, hg⟩ T hT
  simp only at hL hp hRx hn1 hn2 hg hT ⊢
  by_cases h : L.length < cnt
  · have p1 : ((L.length : Int) < cnt) = True := by simp; omega
    simp -implicitDefEqProofs only [go_sem, hT, p1, bYfbE0]
    refine za4 (one117 b o loc p last hl hp hloc) ?_
    have hsn : cnt - L.length = (cnt - (L.length + 1)) + 1 := by omega
    rw [hsn, decP] at hRx
    have hpl := entD_place (b := b) (loc := loc) (p := p) (last := last)
    generalize entD b loc p last = e at *
    obtain ⟨e, q, err⟩ := e
    simp only at hRx hpl ⊢
    by_cases h8 : err = 0
    case neg =>
      have q8 : ((err : Int) = 0) = False := by simp; omega
      rw [if_pos h8] at hRx
      rw [hRx, if_pos h8, List.append_nil]
      simp -implicitDefEqProofs only [go_sem, hT, bYfbE0]
      intro b14 hb14
      simp -implicitDefEqProofs only [go_sem, hT, zb1, za8, zb0, anD, za2, za3, q8, ey_zero]
      exact DLe.tup (.cons grD_le (.cons grD_le (.cons (.refl _) (.cons (.refl _) .nil))))
    rw [if_neg (by simp [h8])] at hRx
    have q8 : ((err : Int) = 0) = True := by simp; omega
    obtain ⟨hpq, hqb⟩ := hpl h8
    simp -implicitDefEqProofs only [go_sem, hT, bYfbE0]
    intro b14 hb14
    simp -implicitDefEqProofs only [go_sem, hT, zb1, za8, zb0, anD, za2, za3, q8, grS_set, ey_0]
    obtain ⟨σ0, hσ0⟩ : ∃ σ0, (({} : St).set b14 (eEy e)) = σ0 := ⟨_, rfl⟩
    have h14 : ∀ x, σ0.has x → x = b14 := fun x hx => by rw [← hσ0, has_set, has_nil] at hx; simp at hx; omega
    have h14b : σ0.box b14 = some (eEy e) := by rw [← hσ0, St.set_box]; simp
    rw [hσ0]
    have ho1 : o1 ≠ some b14 := fun he => hb14 (by rw [grS_has]; exact .inl he)
    have ho2 : o2 ≠ some b14 := fun he => hb14 (by rw [grS_has]; right; rw [grS_has]; exact .inl he)
    have hgA : grN o1 (grS 1 L.length o2 σ0) := fun x hx hin => by
      rw [grS_has] at hin
      rcases hin with hin | hin
      · exact hg x hx (by rw [grS_has]; exact .inl hin)
      · exact ho1 (h14 x hin ▸ hx)
    refine app_gr' Tryz.sli50 Tryz.sz86 Tryz.by86 Tryz.zero86 rfl (n := L.length) (m := 1) (base := grS 1 L.length o2 σ0) (by simp [rws, esOf]) rfl (St.le.refl _) hgA hn1 (by simp [zb1]) (by omega) fun o1' σ1 hbox1 hle1 hg1 hno1 => ?_
    simp -implicitDefEqProofs only [go_sem, hT, q8, bYfbE0]
    have hc : ∀ x, o2 = some x → o1' ≠ some x := fun x hx he => grN_ne hg1 x he hx
    refine app_gr' Tryz.sli29 Tryz.sz3 Tryz.by3 Tryz.zero3 rfl (n := L.length) (m := 1) (base := grS 28 (L.length + 1) o1' σ0) (by simp [rws, endsOf]) rfl (by rw [grS_comm hc]; exact hle1) (fun x hx hin => ?_) hn2 (by simp) (by omega) fun o2' σ2 hbox2 hle2 hg2 hno2 => ?_
    · rw [grS_has] at hin
      rcases hin with hin | hin
      · exact hc x hx hin
      · exact ho2 (h14 x hin ▸ hx)
    have hbx : σ2.box b14 = some (eEy e) := by rw [hbox2, hbox1, grS_boxa, grS_boxa, h14b]
    simp -implicitDefEqProofs only [go_sem, hT, zb1, za8, zb0, anD, za2, za3, q8, hbx, ey_0]
    have hc2 : ∀ x, o1' = some x → o2' ≠ some x := fun x hx he => grN_ne hg2 x he hx
    have w4 : IntKind.wrap .i64 ((L.length : Int) + 1) = ((L.length + 1 : Nat) : Int) := wrapN (by simp) (by omega)
    refine ⟨(L ++ [(e, q)], q, e.pos, o1', o2'), ⟨by simp; omega, hqb, ?_, fun h => by simpa using hno1 h, fun h => by simpa using hno2 h, ?_⟩, by simp; omega, ?_, ?_⟩
    · simp [hRx]
    · exact fun x hx hin => by
        rw [grS_has] at hin
        rcases hin with hin | hin
        · exact hc2 x hx hin
        · exact St.not_has_nil x hin
    · rw [w4]
      simp [esOf, endsOf, rws, eI, eEy_frz, za8, frz]
    · rw [grS_comm hc2]
      refine (le_grS (le_grS (St.le.nil σ0))).trans ?_
      simpa using hle2
  · have p1 : ((L.length : Int) < cnt) = False := by simp; omega
    have hz : cnt - L.length = 0 := by omega
    rw [hz, decP] at hRx
    rw [hRx, if_neg (by simp), List.append_nil]
    by_cases h9 : p < b.length
    · have q9 : ((p : Int) < b.length) = True := by simp; omega
      rw [if_pos h9]
      simp -implicitDefEqProofs only [go_sem, hT, p1, q9, bYfbE0]
      exact DLe.tup (.cons grD_le (.cons grD_le (.cons (.refl _) (.cons (.refl _) .nil))))
    · have q9 : ((p : Int) < b.length) = False := by simp; omega
      rw [if_neg h9]
      simp -implicitDefEqProofs only [go_sem, hT, p1, q9, bYfbE0]
      exact DLe.tup (.cons grD_le (.cons grD_le (.cons (.refl _) (.cons (.refl _) .nil))))
theorem eCt_nil : DLes [D.int .i64 0, D.slice .nil []] (eCt ct0) := .cons (.refl _) (.cons (DLe.slice _ _) .nil)
theorem refDecode31 (b : List Ty) (o : Own) (hl : b.length ≤ 140737488355328) :
    zf9 Tryz.prog 31 [.slice o (rws eT b)] (.tup [.agg (eCt (decC b).1), .int .i64 (decC b).2.1, .int .i64 (decC b).2.2]) := by
  refine F31.pcall' rfl fun T hT => ?_
  simp -implicitDefEqProofs only [go_sem, c31, hT, anD, za2, za3]
  intro b2
  refine za4 (told72 b o hl) ?_
  by_cases h0 : (toldD b).2.2 = 0
  case neg =>
    have q0 : (((toldD b).2.2 : Int) = 0) = False := by simp; omega
    rw [decC, if_pos h0]
    simp -implicitDefEqProofs only [go_sem, hT, anD, za2, za3, q0]
    exact DLe.tup (.cons (DLe.agg eCt_nil) (.cons (.refl _) (.cons (.refl _) .nil)))
  have q0 : (((toldD b).2.2 : Int) = 0) = True := by simp; omega
  have hh : (headD b).2 = 0 := by
    rw [toldD] at h0
    split at h0
    · rename_i h; exact absurd h0 h
    · rename_i h; simpa using h
  obtain ⟨hb6, hloc, hcnt⟩ := headD_zero hh
  have hR3 := bt_at (b := b) (i := 3) (by omega)
  have u3 : IntKind.wrap .i64 (bt b 3 : Int) = bt b 3 := zb7 (by omega) (by omega)
  rw [decC, if_neg (by simp [h0])]
  simp -implicitDefEqProofs only [go_sem, hT, anD, za2, za3, q0, hR3, u3, rws_one eT_len]
  exact ⟨by omega, DLe.refl _⟩
end Go.AL
