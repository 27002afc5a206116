import Derived.Test.YtanhkkillmbkhaaPi
namespace Go.AL
open Go.Proofs
set_option linter.unusedSimpArgs false
set_option linter.unusedVariables false
set_option maxRecDepth 100000
set_option maxHeartbeats 2000000

theorem fieldsErr_stored {n : Nat} {a : List ByteArray} : ∀ (own : List ByteArray) (r : List Fd), fieldsErr n a own r = 0 → ∀ f ∈ r, storedN n f.ty = true
  | own, [], h, f, hf => by cases hf
  | own, g :: r, h, f, hf => by
    simp only [fieldsErr] at h
    repeat' split at h
    all_goals first
      | omega
      | skip
    rename_i h3
    rcases List.mem_cons.1 hf with rfl | hf
    · simpa using h3
    · exact fieldsErr_stored _ _ h f hf
theorem right_stored {w : ByteArray → Bool} {l : List Cl} (hr : Right w l l.length) {k : Nat} (hk : k < l.length) {f : Fd} (hf : f ∈ l[k].fields) : storedN l.length f.ty = true := by
  have := hr k hk hk
  unfold classErr at this
  repeat' split at this
  all_goals first
    | omega
    | exact fieldsErr_stored _ _ this f hf
theorem flds_stored {e : En} {i : Ins} (hc : Can e) {f : Fd} (hf : f ∈ flds e i) : f.ty.val ≠ 0 := by
  simp only [flds, fieldsOn, List.mem_flatMap, List.mem_reverse] at hf
  obtain ⟨k, hk, hf⟩ := hf
  have hlt := upI_lt hk
  simp only [fieldsAt, List.getElem?_eq_getElem hlt, Option.map_some, Option.getD_some] at hf
  have := right_stored hc.right hlt hf
  simp only [storedN, Bool.and_eq_true, decide_eq_true_eq] at this
  exact this.2.1

def countsR (e : En) (i : Ins) : Nat × Nat × Nat := if canB e = false then (0, 0, 1) else if 34 ≤ i.op.val then (0, 0, 40) else if opndF e i ≠ 0 then (0, 0, opndF e i) else ((takesO e i i.op.val).length, (givesO e i i.op.val).length, 0)

theorem counts36 (e : En) (i : Ins) (hw : WideE e) : PCall Try.prog 36 [.agg (eEn e), .agg (eIn i)] (.tup [.int .i64 (countsR e i).1, .int .i64 (countsR e i).2.1, .int .i64 (countsR e i).2.2]) := by
  refine F36.pcall' rfl fun T hT => ?_
  have h1 : (eIn i)[1]? = some (.int .u8 i.op.val) := rfl
  simp -implicitDefEqProofs only [go_sem, Nat.reduceEqDiff, Nat.reduceLT, Nat.reduceLeDiff, Nat.reduceAdd, Nat.reduceSub, Nat.reduceMul, Nat.reduceBEq, ↓reduceIte, reduceCtorEq, Int.reduceEq, Int.reduceLT, Int.reduceLE, Int.reduceNeg, Int.reduceAdd, Int.reduceSub, Int.reduceToNat, rws_len, vc_cond, c36, hT, eEn_len, eIn_len]
  intro b2 b3 n1 n2
  simp -implicitDefEqProofs only [go_sem, Nat.reduceEqDiff, Nat.reduceLT, Nat.reduceLeDiff, Nat.reduceAdd, Nat.reduceSub, Nat.reduceMul, Nat.reduceBEq, ↓reduceIte, reduceCtorEq, Int.reduceEq, Int.reduceLT, Int.reduceLE, Int.reduceNeg, Int.reduceAdd, Int.reduceSub, Int.reduceToNat, rws_len, vc_cond, hT, eEn_len, eIn_len, eEn_take, eIn_take, n1, n2]
  refine callB_pure (can73 e hw) ?_
  cases hcan : canB e
  · simp -implicitDefEqProofs only [go_sem, Nat.reduceEqDiff, Nat.reduceLT, Nat.reduceLeDiff, Nat.reduceAdd, Nat.reduceSub, Nat.reduceMul, Nat.reduceBEq, ↓reduceIte, reduceCtorEq, Int.reduceEq, Int.reduceLT, Int.reduceLE, Int.reduceNeg, Int.reduceAdd, Int.reduceSub, Int.reduceToNat, rws_len, vc_cond, hT]
    rw [countsR, if_pos hcan]
    exact DLe.of_eq rfl
  have hc := canB_can hw hcan
  simp -implicitDefEqProofs only [go_sem, Nat.reduceEqDiff, Nat.reduceLT, Nat.reduceLeDiff, Nat.reduceAdd, Nat.reduceSub, Nat.reduceMul, Nat.reduceBEq, ↓reduceIte, reduceCtorEq, Int.reduceEq, Int.reduceLT, Int.reduceLE, Int.reduceNeg, Int.reduceAdd, Int.reduceSub, Int.reduceToNat, rws_len, vc_cond, hT, eEn_len, eIn_len, eEn_take, eIn_take, n1, n2, List.getElem?_drop, h1]
  refine callB_pure (refSize74 i.op) ?_
  by_cases h34 : 34 ≤ i.op.val
  · have hs : sizeOp i.op.val = 0 := by rw [sizeOp, if_pos h34]
    simp -implicitDefEqProofs only [go_sem, Nat.reduceEqDiff, Nat.reduceLT, Nat.reduceLeDiff, Nat.reduceAdd, Nat.reduceSub, Nat.reduceMul, Nat.reduceBEq, ↓reduceIte, reduceCtorEq, Int.reduceEq, Int.reduceLT, Int.reduceLE, Int.reduceNeg, Int.reduceAdd, Int.reduceSub, Int.reduceToNat, rws_len, vc_cond, hT, hs, Int.ofNat_zero]
    rw [countsR, if_neg (by simp [hcan]), if_pos h34]
    exact DLe.of_eq rfl
  have hs : ((sizeOp i.op.val : Int) = 0) = False := by
    simp only [eq_iff_iff, iff_false]
    rw [sizeOp, if_neg h34]; omega
  simp -implicitDefEqProofs only [go_sem, Nat.reduceEqDiff, Nat.reduceLT, Nat.reduceLeDiff, Nat.reduceAdd, Nat.reduceSub, Nat.reduceMul, Nat.reduceBEq, ↓reduceIte, reduceCtorEq, Int.reduceEq, Int.reduceLT, Int.reduceLE, Int.reduceNeg, Int.reduceAdd, Int.reduceSub, Int.reduceToNat, rws_len, vc_cond, hT, hs, eEn_len, eIn_len, eEn_take, eIn_take, n1, n2]
  refine callB_pure (operands75 e i hc) ?_
  by_cases h0 : opndF e i = 0
  case neg =>
    have h0' : ((opndF e i : Int) = 0) = False := by simp; omega
    simp -implicitDefEqProofs only [go_sem, Nat.reduceEqDiff, Nat.reduceLT, Nat.reduceLeDiff, Nat.reduceAdd, Nat.reduceSub, Nat.reduceMul, Nat.reduceBEq, ↓reduceIte, reduceCtorEq, Int.reduceEq, Int.reduceLT, Int.reduceLE, Int.reduceNeg, Int.reduceAdd, Int.reduceSub, Int.reduceToNat, rws_len, vc_cond, hT, h0']
    rw [countsR, if_neg (by simp [hcan]), if_neg h34, if_pos h0]
    exact DLe.of_eq rfl
  have h0' : ((opndF e i : Int) = 0) = True := by simp; omega
  simp -implicitDefEqProofs only [go_sem, Nat.reduceEqDiff, Nat.reduceLT, Nat.reduceLeDiff, Nat.reduceAdd, Nat.reduceSub, Nat.reduceMul, Nat.reduceBEq, ↓reduceIte, reduceCtorEq, Int.reduceEq, Int.reduceLT, Int.reduceLE, Int.reduceNeg, Int.reduceAdd, Int.reduceSub, Int.reduceToNat, rws_len, vc_cond, hT, h0', eEn_len, eIn_len, eEn_take, eIn_take, n1, n2]
  refine ⟨by intro b hb; rcases hb with rfl | rfl <;> simp [n1, n2], callB_pure (refTakes76 e i hc h0 (by omega)) ?_⟩
  simp -implicitDefEqProofs only [go_sem, Nat.reduceEqDiff, Nat.reduceLT, Nat.reduceLeDiff, Nat.reduceAdd, Nat.reduceSub, Nat.reduceMul, Nat.reduceBEq, ↓reduceIte, reduceCtorEq, Int.reduceEq, Int.reduceLT, Int.reduceLE, Int.reduceNeg, Int.reduceAdd, Int.reduceSub, Int.reduceToNat, rws_len, vc_cond, hT, eEn_len, eIn_len, eEn_take, eIn_take, n1, n2]
  refine callB_pure (refGives77 e i hc h0 (by omega)) ?_
  simp -implicitDefEqProofs only [go_sem, Nat.reduceEqDiff, Nat.reduceLT, Nat.reduceLeDiff, Nat.reduceAdd, Nat.reduceSub, Nat.reduceMul, Nat.reduceBEq, ↓reduceIte, reduceCtorEq, Int.reduceEq, Int.reduceLT, Int.reduceLE, Int.reduceNeg, Int.reduceAdd, Int.reduceSub, Int.reduceToNat, rws_len, vc_cond, hT]
  rw [countsR, if_neg (by simp [hcan]), if_neg h34, if_neg (by simpa using h0)]
  exact DLe.of_eq rfl

theorem counts_eq (e : En) (i : Ins) (hw : WideE e) : countsF e i = countsR e i := by
  unfold countsF countsR
  cases hcan : canB e
  · rfl
  have hc := canB_can hw hcan
  simp only [Bool.true_eq_false, if_false]
  by_cases h34 : 34 ≤ i.op.val
  · rw [toldF, if_pos h34, if_pos h34]; rfl
  rw [toldF, if_neg h34, if_neg h34]
  have same : ∀ f n, tellF e i (tlOf i.op.val) = (f, n) → n = opndF e i → (n = 0 → f.takes.length = (takesO e i i.op.val).length ∧ givesN f.gives = (givesO e i i.op.val).length) →
      (if (tellF e i (tlOf i.op.val)).2 ≠ 0 then (0, 0, (tellF e i (tlOf i.op.val)).2) else ((tellF e i (tlOf i.op.val)).1.takes.length, givesN (tellF e i (tlOf i.op.val)).1.gives, 0)) =
      (if opndF e i ≠ 0 then (0, 0, opndF e i) else ((takesO e i i.op.val).length, (givesO e i i.op.val).length, 0)) := by
    intro f n h1 h2 h3
    rw [h1, ← h2]
    by_cases hn : n = 0
    · rw [if_neg (by simpa using hn), if_neg (by simpa using hn)]
      obtain ⟨h4, h5⟩ := h3 hn
      rw [h4, h5]
    · rw [if_pos hn, if_pos hn]
  have hk34 : i.op.val = 0 ∨ i.op.val = 1 ∨ i.op.val = 2 ∨ i.op.val = 3 ∨ i.op.val = 4 ∨ i.op.val = 5 ∨ i.op.val = 6 ∨ i.op.val = 7 ∨ i.op.val = 8 ∨ i.op.val = 9 ∨ i.op.val = 10 ∨ i.op.val = 11 ∨ i.op.val = 12 ∨ i.op.val = 13 ∨ i.op.val = 14 ∨ i.op.val = 15 ∨ i.op.val = 16 ∨ i.op.val = 17 ∨ i.op.val = 18 ∨ i.op.val = 19 ∨ i.op.val = 20 ∨ i.op.val = 21 ∨ i.op.val = 22 ∨ i.op.val = 23 ∨ i.op.val = 24 ∨ i.op.val = 25 ∨ i.op.val = 26 ∨ i.op.val = 27 ∨ i.op.val = 28 ∨ i.op.val = 29 ∨ i.op.val = 30 ∨ i.op.val = 31 ∨ i.op.val = 32 ∨ i.op.val = 33 := by omega
  have op0 : (¬ i.op.val = 21 ∧ ¬ (i.op.val = 23 ∨ i.op.val = 30 ∨ i.op.val = 31) ∧ ¬ (i.op.val = 24 ∨ i.op.val = 25)) → opndF e i = 0 := fun ⟨h1, h2, h3⟩ => by rw [opndF, if_neg h1, if_neg h2, if_neg h3]
  rcases hk34 with h | h | h | h | h | h | h | h | h | h | h | h | h | h | h | h | h | h | h | h | h | h | h | h | h | h | h | h | h | h | h | h | h | h
  · exact same _ 0 (by rw [h]; rfl) (op0 (by omega)).symm (fun _ => by rw [h]; exact ⟨rfl, rfl⟩)
  · exact same _ 0 (by rw [h]; rfl) (op0 (by omega)).symm (fun _ => by rw [h]; exact ⟨rfl, rfl⟩)
  · exact same _ 0 (by rw [h]; rfl) (op0 (by omega)).symm (fun _ => by rw [h]; exact ⟨rfl, rfl⟩)
  · exact same _ 0 (by rw [h]; rfl) (op0 (by omega)).symm (fun _ => by rw [h]; exact ⟨rfl, rfl⟩)
  · exact same _ 0 (by rw [h]; rfl) (op0 (by omega)).symm (fun _ => by rw [h]; exact ⟨rfl, rfl⟩)
  · exact same _ 0 (by rw [h]; rfl) (op0 (by omega)).symm (fun _ => by rw [h]; exact ⟨rfl, rfl⟩)
  · exact same _ 0 (by rw [h]; rfl) (op0 (by omega)).symm (fun _ => by rw [h]; exact ⟨rfl, rfl⟩)
  · exact same _ 0 (by rw [h]; rfl) (op0 (by omega)).symm (fun _ => by rw [h]; exact ⟨rfl, rfl⟩)
  · exact same _ 0 (by rw [h]; rfl) (op0 (by omega)).symm (fun _ => by rw [h]; exact ⟨rfl, rfl⟩)
  · exact same _ 0 (by rw [h]; rfl) (op0 (by omega)).symm (fun _ => by rw [h]; exact ⟨rfl, rfl⟩)
  · exact same _ 0 (by rw [h]; rfl) (op0 (by omega)).symm (fun _ => by rw [h]; exact ⟨rfl, rfl⟩)
  · exact same _ 0 (by rw [h]; rfl) (op0 (by omega)).symm (fun _ => by rw [h]; exact ⟨rfl, rfl⟩)
  · exact same _ 0 (by rw [h]; rfl) (op0 (by omega)).symm (fun _ => by rw [h]; exact ⟨rfl, rfl⟩)
  · exact same _ 0 (by rw [h]; rfl) (op0 (by omega)).symm (fun _ => by rw [h]; exact ⟨rfl, rfl⟩)
  · exact same _ 0 (by rw [h]; rfl) (op0 (by omega)).symm (fun _ => by rw [h]; exact ⟨rfl, rfl⟩)
  · exact same _ 0 (by rw [h]; rfl) (op0 (by omega)).symm (fun _ => by rw [h]; exact ⟨rfl, rfl⟩)
  · exact same _ 0 (by rw [h]; rfl) (op0 (by omega)).symm (fun _ => by rw [h]; exact ⟨rfl, rfl⟩)
  · exact same _ 0 (by rw [h]; rfl) (op0 (by omega)).symm (fun _ => by rw [h]; exact ⟨rfl, rfl⟩)
  · exact same _ 0 (by rw [h]; rfl) (op0 (by omega)).symm (fun _ => by rw [h]; exact ⟨rfl, rfl⟩)
  · exact same _ 0 (by rw [h]; rfl) (op0 (by omega)).symm (fun _ => by rw [h]; exact ⟨rfl, rfl⟩)
  · exact same _ 0 (by rw [h]; rfl) (op0 (by omega)).symm (fun _ => by rw [h]; exact ⟨rfl, rfl⟩)
  · refine same (tellF e i .call).1 (tellF e i .call).2 (by rw [h]; rfl) ?_ ?_
    · rw [opndF, if_pos h]; simp only [tellF]; split <;> rfl
    · intro h0
      rw [h]
      simp only [tellF] at h0 ⊢
      split
      · rename_i hq
        rw [show takesO e i 21 = ((e.sgs[i.a.toNat]?).map Sg.ps).getD [] from rfl, show givesO e i 21 = ((e.sgs[i.a.toNat]?).map fun s => someR s.r).getD [] from rfl, List.getElem?_eq_getElem hq.2]
        refine ⟨by simp, ?_⟩
        simp only [givesN, Option.map_some, Option.getD_some, someR]
      · rename_i hq; rw [dif_neg hq] at h0; cases h0
  · refine same (tellF e i .ret).1 (tellF e i .ret).2 (by rw [h]; rfl) ?_ ?_
    · rw [op0 (by omega)]; simp only [tellF, dif_pos hc.fn1]
    · intro _
      rw [h]
      simp only [tellF, dif_pos hc.fn1]
      rw [show takesO e i 22 = ((e.sgs[e.fn.toNat]?).map fun s => someR s.r).getD [] from rfl, show givesO e i 22 = [] from rfl, List.getElem?_eq_getElem hc.fn1]
      refine ⟨?_, rfl⟩
      simp only [Option.map_some, Option.getD_some, someR]
      split <;> rfl
  · refine same (tellF e i (.classed [] true)).1 (tellF e i (.classed [] true)).2 (by rw [h]; rfl) ?_ ?_
    · rw [opndF, if_neg (by omega), if_pos (by omega)]; simp only [tellF]
      by_cases hq : 0 ≤ i.a ∧ i.a < e.cs.length
      · rw [if_neg (by omega), if_pos hq]
      · rw [if_pos (by omega), if_neg hq]
    · intro h0
      rw [h]
      simp only [tellF] at h0 ⊢
      split
      · rename_i hq; rw [if_pos hq] at h0; cases h0
      · exact ⟨rfl, rfl⟩
  · refine same (tellF e i (.field false)).1 (tellF e i (.field false)).2 (by rw [h]; rfl) ?_ ?_
    · rw [opndF, if_neg (by omega), if_neg (by omega), if_pos (by omega)]; simp only [tellF]
      by_cases hq : (0 ≤ i.a ∧ i.a < e.cs.length) ∧ 0 ≤ i.b ∧ i.b.toNat < (fieldsOn e.cs (upI e.cs i.a).reverse).length
      · rw [dif_pos hq, if_pos hq]; rfl
      · rw [dif_neg hq, if_neg hq]
    · intro h0
      rw [h]
      simp only [tellF] at h0 ⊢
      split
      · rename_i hq
        rw [show givesO e i 24 = (((flds e i)[i.b.toNat]?).map fun f => someR f.ty).getD [] from rfl, List.getElem?_eq_getElem (show i.b.toNat < (flds e i).length from hq.2.2)]
        refine ⟨rfl, ?_⟩
        simp only [Bool.false_eq_true, if_false, givesN, Option.map_some, Option.getD_some, someR]
        rw [if_neg (flds_stored hc (List.getElem_mem _))]
        rfl
      · rename_i hq; rw [dif_neg hq] at h0; cases h0
  · refine same (tellF e i (.field true)).1 (tellF e i (.field true)).2 (by rw [h]; rfl) ?_ ?_
    · rw [opndF, if_neg (by omega), if_neg (by omega), if_pos (by omega)]; simp only [tellF]
      by_cases hq : (0 ≤ i.a ∧ i.a < e.cs.length) ∧ 0 ≤ i.b ∧ i.b.toNat < (fieldsOn e.cs (upI e.cs i.a).reverse).length
      · rw [dif_pos hq, if_pos hq]; rfl
      · rw [dif_neg hq, if_neg hq]
    · intro h0
      rw [h]
      simp only [tellF] at h0 ⊢
      split
      · rename_i hq
        exact ⟨rfl, rfl⟩
      · rename_i hq; rw [dif_neg hq] at h0; cases h0
  · exact same _ 0 (by rw [h]; rfl) (op0 (by omega)).symm (fun _ => by rw [h]; exact ⟨rfl, rfl⟩)
  · exact same _ 0 (by rw [h]; rfl) (op0 (by omega)).symm (fun _ => by rw [h]; exact ⟨rfl, rfl⟩)
  · exact same _ 0 (by rw [h]; rfl) (op0 (by omega)).symm (fun _ => by rw [h]; exact ⟨rfl, rfl⟩)
  · exact same _ 0 (by rw [h]; rfl) (op0 (by omega)).symm (fun _ => by rw [h]; exact ⟨rfl, rfl⟩)
  · refine same (tellF e i (.classed [⟨2, 0⟩] true)).1 (tellF e i (.classed [⟨2, 0⟩] true)).2 (by rw [h]; rfl) ?_ ?_
    · rw [opndF, if_neg (by omega), if_pos (by omega)]; simp only [tellF]
      by_cases hq : 0 ≤ i.a ∧ i.a < e.cs.length
      · rw [if_neg (by omega), if_pos hq]
      · rw [if_pos (by omega), if_neg hq]
    · intro h0
      rw [h]
      simp only [tellF] at h0 ⊢
      split
      · rename_i hq; rw [if_pos hq] at h0; cases h0
      · exact ⟨rfl, rfl⟩
  · refine same (tellF e i (.classed [⟨2, 0⟩] false)).1 (tellF e i (.classed [⟨2, 0⟩] false)).2 (by rw [h]; rfl) ?_ ?_
    · rw [opndF, if_neg (by omega), if_pos (by omega)]; simp only [tellF]
      by_cases hq : 0 ≤ i.a ∧ i.a < e.cs.length
      · rw [if_neg (by omega), if_pos hq]
      · rw [if_pos (by omega), if_neg hq]
    · intro h0
      rw [h]
      simp only [tellF] at h0 ⊢
      split
      · rename_i hq; rw [if_pos hq] at h0; cases h0
      · exact ⟨rfl, rfl⟩
  · exact same _ 0 (by rw [h]; rfl) (op0 (by omega)).symm (fun _ => by rw [h]; exact ⟨rfl, rfl⟩)
  · exact same _ 0 (by rw [h]; rfl) (op0 (by omega)).symm (fun _ => by rw [h]; exact ⟨rfl, rfl⟩)
end Go.AL
