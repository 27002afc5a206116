import Derived.Test.YtanhkkillmbkhaaPd
namespace Go.AL
open Go.Proofs
set_option linter.unusedSimpArgs false
set_option linter.unusedVariables false
set_option maxRecDepth 100000

theorem resM_cell {P : Program} {T : Env} {σ : St} {a : Nat} {t : TypeId} {rs : List ResultVar} : resMany P T σ (.cell a t :: rs) = (match resC P t σ (T a) with | some d => (resMany P T σ rs).map (d :: ·) | none => none) := by
  simp only [resMany, resOne, resC]
  cases T a <;> simp
  rename_i b off
  cases σ.box b <;> simp
  rename_i cs
  cases partD P t (cs.drop off) 0 <;> simp
  cases resMany P T σ rs <;> rfl

structure Fr where
  loc : Int
  h : Int
  sl : Vector Ty 24
  deriving DecidableEq
def eFr (f : Fr) : List D := .int .i64 f.loc :: .int .i64 f.h :: f.sl.toList.map fun t => .int .u8 (t.val : Int)
theorem eFr_len (f : Fr) : (eFr f).length = 26 := by simp [eFr]
def fr0 (n : Int) : Fr := ⟨n, 0, Vector.replicate 24 0⟩
def slOf (ts : List Ty) : Vector Ty 24 := Vector.ofFn fun i => (ts[i.val]?).getD 0
theorem eFr_take (f : Fr) : (eFr f).take 26 = eFr f := List.take_of_length_le (by rw [eFr_len]; exact Nat.le_refl _)
theorem eFr_drop (f : Fr) : (eFr f).drop 26 = [] := List.drop_eq_nil_of_le (by rw [eFr_len]; exact Nat.le_refl _)
theorem fr_set {f : Fr} {i : Nat} (h : i < 24) {t : Ty} : (eFr f).take (2 + i) ++ [D.int .u8 (t.val : Int)] ++ (eFr f).drop (2 + i + 1) = eFr ⟨f.loc, f.h, f.sl.set i t⟩ := by
  simp only [eFr]
  rw [show 2 + i = i + 1 + 1 by omega]
  simp only [List.take_succ_cons, List.drop_succ_cons, List.cons_append]
  congr 2
  simp only [Vector.toList_set, List.map_set]
  rw [List.set_eq_take_append_cons_drop, if_pos (by simpa using h)]
  simp
theorem slOf_set {ts : List Ty} {i : Nat} (hi : i < ts.length) (h : i < 24) : (slOf (ts.take i)).set i ts[i] = slOf (ts.take (i + 1)) := by
  apply Vector.ext
  intro j hj
  simp only [slOf, Vector.getElem_set, Vector.getElem_ofFn]
  split
  · rename_i he; subst he; simp [List.getElem?_take, hi]
  · rename_i he
    by_cases hlt : j < i
    · simp [List.getElem?_take, hlt, show j < i + 1 by omega]
    · simp [List.getElem?_take, hlt, show ¬ j < i + 1 by omega]
theorem slOf_nil : slOf [] = Vector.replicate 24 0 := by
  apply Vector.ext
  intro j hj
  simp [slOf]

def emptyF (n : Int) : Fr × Nat := if n < 0 ∨ 16 < n then (fr0 0, 1) else (fr0 n, 0)
theorem empty107 (n : Int) : PCall Try.prog 107 [.int .i64 n] (.tup [.agg (eFr (emptyF n).1), .int .i64 (emptyF n).2]) := by
  refine F107.pcall' rfl fun T hT => ?_
  by_cases h : n < 0 ∨ 16 < n
  · have hc : (decide (n < 0) || decide (16 < n)) = true := by simpa using h
    simp -implicitDefEqProofs only [go_sem, Nat.reduceEqDiff, Nat.reduceLT, Nat.reduceLeDiff, Nat.reduceAdd, Nat.reduceSub, Nat.reduceMul, Nat.reduceBEq, ↓reduceIte, reduceCtorEq, Int.reduceEq, Int.reduceLT, Int.reduceLE, Int.reduceNeg, Int.reduceAdd, Int.reduceSub, Int.reduceToNat, rws_len, vc_condQ, w_guardO, ite_and, ite_or, ite_nor, ite_nand, ite_aor, ite_aand, ite_same, gm_move, gm_assign, gm_pick, gm_bin_t, gm_bin_i, gm_bin_b, gm_bin_s, gm_un, gm_conv, gm_iface, gm_func, gm_extract, gm_field, gm_faddr, gm_iaddr, gm_idx, gm_nilc, gm_len, gm_slice, gm_load, c107, hT, hc, set_set, resM_cell]
    rw [emptyF, if_pos h]
    exact DLe.of_eq rfl
  · have hc : (decide (n < 0) || decide (16 < n)) = false := by simpa using h
    simp -implicitDefEqProofs only [go_sem, Nat.reduceEqDiff, Nat.reduceLT, Nat.reduceLeDiff, Nat.reduceAdd, Nat.reduceSub, Nat.reduceMul, Nat.reduceBEq, ↓reduceIte, reduceCtorEq, Int.reduceEq, Int.reduceLT, Int.reduceLE, Int.reduceNeg, Int.reduceAdd, Int.reduceSub, Int.reduceToNat, rws_len, vc_condQ, w_guardO, ite_and, ite_or, ite_nor, ite_nand, ite_aor, ite_aand, ite_same, gm_move, gm_assign, gm_pick, gm_bin_t, gm_bin_i, gm_bin_b, gm_bin_s, gm_un, gm_conv, gm_iface, gm_func, gm_extract, gm_field, gm_faddr, gm_iaddr, gm_idx, gm_nilc, gm_len, gm_slice, gm_load, c107, hT, hc, set_set, resM_cell]
    rw [emptyF, if_neg h]
    exact DLe.of_eq rfl
theorem refEmpty110 (n : Int) : PCall Try.prog 110 [.int .i64 n] (.tup [.agg (eFr (emptyF n).1), .int .i64 (emptyF n).2]) := by
  refine F110.pcall' rfl fun T hT => ?_
  by_cases h : n < 0 ∨ 16 < n
  · have hc : (decide (n < 0) || decide (16 < n)) = true := by simpa using h
    simp -implicitDefEqProofs only [go_sem, Nat.reduceEqDiff, Nat.reduceLT, Nat.reduceLeDiff, Nat.reduceAdd, Nat.reduceSub, Nat.reduceMul, Nat.reduceBEq, ↓reduceIte, reduceCtorEq, Int.reduceEq, Int.reduceLT, Int.reduceLE, Int.reduceNeg, Int.reduceAdd, Int.reduceSub, Int.reduceToNat, rws_len, vc_condQ, w_guardO, ite_and, ite_or, ite_nor, ite_nand, ite_aor, ite_aand, ite_same, gm_move, gm_assign, gm_pick, gm_bin_t, gm_bin_i, gm_bin_b, gm_bin_s, gm_un, gm_conv, gm_iface, gm_func, gm_extract, gm_field, gm_faddr, gm_iaddr, gm_idx, gm_nilc, gm_len, gm_slice, gm_load, c110, hT, hc, set_set, resM_cell]
    rw [emptyF, if_pos h]
    exact DLe.of_eq rfl
  · have hc : (decide (n < 0) || decide (16 < n)) = false := by simpa using h
    simp -implicitDefEqProofs only [go_sem, Nat.reduceEqDiff, Nat.reduceLT, Nat.reduceLeDiff, Nat.reduceAdd, Nat.reduceSub, Nat.reduceMul, Nat.reduceBEq, ↓reduceIte, reduceCtorEq, Int.reduceEq, Int.reduceLT, Int.reduceLE, Int.reduceNeg, Int.reduceAdd, Int.reduceSub, Int.reduceToNat, rws_len, vc_condQ, w_guardO, ite_and, ite_or, ite_nor, ite_nand, ite_aor, ite_aand, ite_same, gm_move, gm_assign, gm_pick, gm_bin_t, gm_bin_i, gm_bin_b, gm_bin_s, gm_un, gm_conv, gm_iface, gm_func, gm_extract, gm_field, gm_faddr, gm_iaddr, gm_idx, gm_nilc, gm_len, gm_slice, gm_load, c110, hT, hc, set_set, resM_cell]
    rw [emptyF, if_neg h]
    exact DLe.of_eq rfl

def startF (c : Nat) (ts : List Ty) (n : Int) : Fr × Nat := if n < 0 ∨ 16 < n ∨ 8 < ts.length ∨ n < ts.length ∨ (ts.any fun t => !storedN c t) = true then (fr0 0, 1) else (⟨n, 0, slOf ts⟩, 0)

theorem start68 (l : List Cl) (o o2 : Own) (ts : List Ty) (n : Int) (hl : ts.length ≤ 140737488355328) : PCall Try.prog 68 [.slice o (rws eC l), .slice o2 (rws eT ts), .int .i64 n] (.tup [.agg (eFr (startF l.length ts n).1), .int .i64 (startF l.length ts n).2]) := by
  refine F68.pcall' rfl fun T hT => ?_
  simp -implicitDefEqProofs only [go_sem, Nat.reduceEqDiff, Nat.reduceLT, Nat.reduceLeDiff, Nat.reduceAdd, Nat.reduceSub, Nat.reduceMul, Nat.reduceBEq, ↓reduceIte, reduceCtorEq, Int.reduceEq, Int.reduceLT, Int.reduceLE, Int.reduceNeg, Int.reduceAdd, Int.reduceSub, Int.reduceToNat, rws_len, vc_cond, c68, hT]
  intro b6
  refine callB_pure (empty107 n) ?_
  by_cases h : n < 0 ∨ 16 < n
  · rw [startF, if_pos (h.elim (fun h => .inl h) fun h => .inr (.inl h)), emptyF, if_pos h]
    simp -implicitDefEqProofs only [go_sem, Nat.reduceEqDiff, Nat.reduceLT, Nat.reduceLeDiff, Nat.reduceAdd, Nat.reduceSub, Nat.reduceMul, Nat.reduceBEq, ↓reduceIte, reduceCtorEq, Int.reduceEq, Int.reduceLT, Int.reduceLE, Int.reduceNeg, Int.reduceAdd, Int.reduceSub, Int.reduceToNat, rws_len, vc_cond, hT, eFr_len]
    intro b8 n1 n2
    simp -implicitDefEqProofs only [go_sem, Nat.reduceEqDiff, Nat.reduceLT, Nat.reduceLeDiff, Nat.reduceAdd, Nat.reduceSub, Nat.reduceMul, Nat.reduceBEq, ↓reduceIte, reduceCtorEq, Int.reduceEq, Int.reduceLT, Int.reduceLE, Int.reduceNeg, Int.reduceAdd, Int.reduceSub, Int.reduceToNat, rws_len, vc_cond, hT, set_set, n1, n2, resM_cell, eFr_len, eFr_drop, Int.ofNat_one]
    exact DLe.of_eq rfl
  rw [emptyF, if_neg h]
  simp -implicitDefEqProofs only [go_sem, Nat.reduceEqDiff, Nat.reduceLT, Nat.reduceLeDiff, Nat.reduceAdd, Nat.reduceSub, Nat.reduceMul, Nat.reduceBEq, ↓reduceIte, reduceCtorEq, Int.reduceEq, Int.reduceLT, Int.reduceLE, Int.reduceNeg, Int.reduceAdd, Int.reduceSub, Int.reduceToNat, rws_len, vc_cond, hT, eFr_len]
  intro b8 n1 n2
  by_cases h8 : (8 : Int) < ts.length
  · rw [startF, if_pos (.inr (.inr (.inl (by omega))))]
    simp -implicitDefEqProofs only [go_sem, Nat.reduceEqDiff, Nat.reduceLT, Nat.reduceLeDiff, Nat.reduceAdd, Nat.reduceSub, Nat.reduceMul, Nat.reduceBEq, ↓reduceIte, reduceCtorEq, Int.reduceEq, Int.reduceLT, Int.reduceLE, Int.reduceNeg, Int.reduceAdd, Int.reduceSub, Int.reduceToNat, rws_len, vc_cond, hT, set_set, n1, n2, resM_cell, eFr_len, eFr_drop, Int.ofNat_zero, h8]
    exact DLe.of_eq rfl
  by_cases hn : n < ts.length
  · rw [startF, if_pos (.inr (.inr (.inr (.inl (by omega)))))]
    simp -implicitDefEqProofs only [go_sem, Nat.reduceEqDiff, Nat.reduceLT, Nat.reduceLeDiff, Nat.reduceAdd, Nat.reduceSub, Nat.reduceMul, Nat.reduceBEq, ↓reduceIte, reduceCtorEq, Int.reduceEq, Int.reduceLT, Int.reduceLE, Int.reduceNeg, Int.reduceAdd, Int.reduceSub, Int.reduceToNat, rws_len, vc_cond, hT, set_set, n1, n2, resM_cell, eFr_len, eFr_drop, Int.ofNat_zero, h8, hn]
    exact DLe.of_eq rfl
  have hs : startF l.length ts n = if (ts.any fun t => !storedN l.length t) = true then (fr0 0, 1) else (⟨n, 0, slOf ts⟩, 0) := by
    cases ha : ts.any fun t => !storedN l.length t
    · rw [startF, ha, if_neg (by simp; omega)]; rfl
    · rw [startF, ha, if_pos (.inr (.inr (.inr (.inr rfl))))]; rfl
  simp -implicitDefEqProofs only [go_sem, Nat.reduceEqDiff, Nat.reduceLT, Nat.reduceLeDiff, Nat.reduceAdd, Nat.reduceSub, Nat.reduceMul, Nat.reduceBEq, ↓reduceIte, reduceCtorEq, Int.reduceEq, Int.reduceLT, Int.reduceLE, Int.reduceNeg, Int.reduceAdd, Int.reduceSub, Int.reduceToNat, rws_len, vc_cond, hT, set_set, n1, n2, resM_cell, eFr_len, eFr_drop, Int.ofNat_zero, h8, hn]
  generalize hz : (D.int .i64 0 :: D.int .i64 0 :: _ : List D) = z0
  refine loopL F68 (fun i : Nat => [(0, .slice o (rws eC l)), (6, .ptr b6 0), (8, .ptr b8 0), (31, .slice o2 (rws eT ts)), (32, .int .i64 ts.length), (33, .int .i64 i)]) (fun i => (({} : St).set b6 z0).set b8 (eFr ⟨n, 0, slOf (ts.take i)⟩))
    (fun i => i ≤ ts.length ∧ (ts.take i).any (fun t => !storedN l.length t) = false) (fun i => ts.length - i) 0 ⟨Nat.zero_le _, rfl⟩ ?_ ?_ ?_
  · simp -implicitDefEqProofs only [go_sem, Nat.reduceEqDiff, Nat.reduceLT, Nat.reduceLeDiff, Nat.reduceAdd, Nat.reduceSub, Nat.reduceMul, Nat.reduceBEq, ↓reduceIte, reduceCtorEq, Int.reduceEq, Int.reduceLT, Int.reduceLE, Int.reduceNeg, Int.reduceAdd, Int.reduceSub, Int.reduceToNat, rws_len, vc_cond, hT, Int.ofNat_zero]
  · rw [List.take_zero, slOf_nil]; exact St.le.refl _
  clear hT T
  rintro i ⟨hi, hok⟩ T hT
  have hz26 : z0.length = 26 := by rw [← hz]; rfl
  have hzd : z0.drop 26 = [] := List.drop_eq_nil_of_le (by omega)
  by_cases h2 : i < ts.length
  · have h3 : ((i : Int) < ts.length) = True := by simp; omega
    have htake : ts.take (i + 1) = ts.take i ++ [ts[i]] := List.take_succ_eq_append_getElem h2
    have hR : (rws eT ts)[i]?.getD [] = eT ts[i] := rws_at h2
    have hset := slOf_set h2 (show i < 24 by omega)
    have hin : ts[i] ∈ ts := by simp
    generalize ts[i] = t at *
    simp -implicitDefEqProofs only [go_sem, Nat.reduceEqDiff, Nat.reduceLT, Nat.reduceLeDiff, Nat.reduceAdd, Nat.reduceSub, Nat.reduceMul, Nat.reduceBEq, ↓reduceIte, reduceCtorEq, Int.reduceEq, Int.reduceLT, Int.reduceLE, Int.reduceNeg, Int.reduceAdd, Int.reduceSub, Int.reduceToNat, rws_len, vc_cond, hT, h3, hR, eT, eT_len, set_set, n1, n2, resM_cell, eFr_len, eFr_drop, eFr_take, hz26, hzd]
    refine ⟨by omega, ?_⟩
    refine callB_pure (valid105 l o t) ?_
    have hsv : storedN l.length t = (validN l.length t && decide (t.val ≠ 0 ∧ t.val ≠ 3)) := rfl
    cases hv : validN l.length t
    · have hst : storedN l.length t = false := by rw [hsv, hv]; rfl
      simp -implicitDefEqProofs only [go_sem, Nat.reduceEqDiff, Nat.reduceLT, Nat.reduceLeDiff, Nat.reduceAdd, Nat.reduceSub, Nat.reduceMul, Nat.reduceBEq, ↓reduceIte, reduceCtorEq, Int.reduceEq, Int.reduceLT, Int.reduceLE, Int.reduceNeg, Int.reduceAdd, Int.reduceSub, Int.reduceToNat, rws_len, vc_cond, hT, set_set, n1, n2, resM_cell, eFr_len, eFr_drop, eFr_take, hz26, hzd]
      rw [hs, if_pos (List.any_eq_true.2 ⟨t, hin, by simp [hst]⟩)]
      exact DLe.of_eq rfl
    by_cases h0 : (t.val : Int) = 0
    · have hst : storedN l.length t = false := by rw [hsv, hv]; simp; omega
      simp -implicitDefEqProofs only [go_sem, Nat.reduceEqDiff, Nat.reduceLT, Nat.reduceLeDiff, Nat.reduceAdd, Nat.reduceSub, Nat.reduceMul, Nat.reduceBEq, ↓reduceIte, reduceCtorEq, Int.reduceEq, Int.reduceLT, Int.reduceLE, Int.reduceNeg, Int.reduceAdd, Int.reduceSub, Int.reduceToNat, rws_len, vc_cond, hT, h0, set_set, n1, n2, resM_cell, eFr_len, eFr_drop, eFr_take, hz26, hzd]
      rw [hs, if_pos (List.any_eq_true.2 ⟨t, hin, by simp [hst]⟩)]
      exact DLe.of_eq rfl
    by_cases h1 : (t.val : Int) = 3
    · have hst : storedN l.length t = false := by rw [hsv, hv]; simp; omega
      simp -implicitDefEqProofs only [go_sem, Nat.reduceEqDiff, Nat.reduceLT, Nat.reduceLeDiff, Nat.reduceAdd, Nat.reduceSub, Nat.reduceMul, Nat.reduceBEq, ↓reduceIte, reduceCtorEq, Int.reduceEq, Int.reduceLT, Int.reduceLE, Int.reduceNeg, Int.reduceAdd, Int.reduceSub, Int.reduceToNat, rws_len, vc_cond, hT, h0, h1, set_set, n1, n2, resM_cell, eFr_len, eFr_drop, eFr_take, hz26, hzd]
      rw [hs, if_pos (List.any_eq_true.2 ⟨t, hin, by simp [hst]⟩)]
      exact DLe.of_eq rfl
    · have hst : storedN l.length t = true := by rw [hsv, hv]; simp; omega
      simp -implicitDefEqProofs only [go_sem, Nat.reduceEqDiff, Nat.reduceLT, Nat.reduceLeDiff, Nat.reduceAdd, Nat.reduceSub, Nat.reduceMul, Nat.reduceBEq, ↓reduceIte, reduceCtorEq, Int.reduceEq, Int.reduceLT, Int.reduceLE, Int.reduceNeg, Int.reduceAdd, Int.reduceSub, Int.reduceToNat, rws_len, vc_cond, hT, h0, h1, set_set, n1, n2, resM_cell, eFr_len, eFr_drop, eFr_take, hz26, hzd, Nat.mul_one, fr_set (f := ⟨n, 0, slOf (ts.take i)⟩) (i := i) (by omega)]
      refine ⟨by omega, by omega, ?_⟩
      refine ⟨i + 1, ⟨by omega, ?_⟩, by omega, ?_, ?_⟩
      · rw [htake, List.any_append, hok]; simp [hst]
      · rw [wrap_i64 (by omega) (by omega)]; simp
      · rw [hset]; exact St.le.refl _
  · have h3 : ((i : Int) < ts.length) = False := by simp; omega
    rw [List.take_of_length_le (by omega)] at hok
    simp -implicitDefEqProofs only [go_sem, Nat.reduceEqDiff, Nat.reduceLT, Nat.reduceLeDiff, Nat.reduceAdd, Nat.reduceSub, Nat.reduceMul, Nat.reduceBEq, ↓reduceIte, reduceCtorEq, Int.reduceEq, Int.reduceLT, Int.reduceLE, Int.reduceNeg, Int.reduceAdd, Int.reduceSub, Int.reduceToNat, rws_len, vc_cond, hT, h3, set_set, n1, n2, resM_cell, eFr_len, eFr_drop, eFr_take, hz26, hzd, Int.ofNat_zero, List.take_of_length_le (show ts.length ≤ i by omega)]
    rw [hs, hok]
    exact DLe.of_eq rfl

theorem refStart71 (l : List Cl) (o o2 : Own) (ts : List Ty) (n : Int) (hl : ts.length ≤ 140737488355328) : PCall Try.prog 71 [.slice o (rws eC l), .slice o2 (rws eT ts), .int .i64 n] (.tup [.agg (eFr (startF l.length ts n).1), .int .i64 (startF l.length ts n).2]) := by
  refine F71.pcall' rfl fun T hT => ?_
  simp -implicitDefEqProofs only [go_sem, Nat.reduceEqDiff, Nat.reduceLT, Nat.reduceLeDiff, Nat.reduceAdd, Nat.reduceSub, Nat.reduceMul, Nat.reduceBEq, ↓reduceIte, reduceCtorEq, Int.reduceEq, Int.reduceLT, Int.reduceLE, Int.reduceNeg, Int.reduceAdd, Int.reduceSub, Int.reduceToNat, rws_len, vc_cond, c71, hT]
  intro b6
  refine callB_pure (refEmpty110 n) ?_
  by_cases h : n < 0 ∨ 16 < n
  · rw [startF, if_pos (h.elim (fun h => .inl h) fun h => .inr (.inl h)), emptyF, if_pos h]
    simp -implicitDefEqProofs only [go_sem, Nat.reduceEqDiff, Nat.reduceLT, Nat.reduceLeDiff, Nat.reduceAdd, Nat.reduceSub, Nat.reduceMul, Nat.reduceBEq, ↓reduceIte, reduceCtorEq, Int.reduceEq, Int.reduceLT, Int.reduceLE, Int.reduceNeg, Int.reduceAdd, Int.reduceSub, Int.reduceToNat, rws_len, vc_cond, hT, eFr_len]
    intro b8 n1 n2
    simp -implicitDefEqProofs only [go_sem, Nat.reduceEqDiff, Nat.reduceLT, Nat.reduceLeDiff, Nat.reduceAdd, Nat.reduceSub, Nat.reduceMul, Nat.reduceBEq, ↓reduceIte, reduceCtorEq, Int.reduceEq, Int.reduceLT, Int.reduceLE, Int.reduceNeg, Int.reduceAdd, Int.reduceSub, Int.reduceToNat, rws_len, vc_cond, hT, set_set, n1, n2, resM_cell, eFr_len, eFr_drop, Int.ofNat_one]
    exact DLe.of_eq rfl
  rw [emptyF, if_neg h]
  simp -implicitDefEqProofs only [go_sem, Nat.reduceEqDiff, Nat.reduceLT, Nat.reduceLeDiff, Nat.reduceAdd, Nat.reduceSub, Nat.reduceMul, Nat.reduceBEq, ↓reduceIte, reduceCtorEq, Int.reduceEq, Int.reduceLT, Int.reduceLE, Int.reduceNeg, Int.reduceAdd, Int.reduceSub, Int.reduceToNat, rws_len, vc_cond, hT, eFr_len]
  intro b8 n1 n2
  by_cases h8 : (8 : Int) < ts.length
  · rw [startF, if_pos (.inr (.inr (.inl (by omega))))]
    simp -implicitDefEqProofs only [go_sem, Nat.reduceEqDiff, Nat.reduceLT, Nat.reduceLeDiff, Nat.reduceAdd, Nat.reduceSub, Nat.reduceMul, Nat.reduceBEq, ↓reduceIte, reduceCtorEq, Int.reduceEq, Int.reduceLT, Int.reduceLE, Int.reduceNeg, Int.reduceAdd, Int.reduceSub, Int.reduceToNat, rws_len, vc_cond, hT, set_set, n1, n2, resM_cell, eFr_len, eFr_drop, Int.ofNat_zero, h8]
    exact DLe.of_eq rfl
  by_cases hn : n < ts.length
  · rw [startF, if_pos (.inr (.inr (.inr (.inl (by omega)))))]
    simp -implicitDefEqProofs only [go_sem, Nat.reduceEqDiff, Nat.reduceLT, Nat.reduceLeDiff, Nat.reduceAdd, Nat.reduceSub, Nat.reduceMul, Nat.reduceBEq, ↓reduceIte, reduceCtorEq, Int.reduceEq, Int.reduceLT, Int.reduceLE, Int.reduceNeg, Int.reduceAdd, Int.reduceSub, Int.reduceToNat, rws_len, vc_cond, hT, set_set, n1, n2, resM_cell, eFr_len, eFr_drop, Int.ofNat_zero, h8, hn]
    exact DLe.of_eq rfl
  have hs : startF l.length ts n = if (ts.any fun t => !storedN l.length t) = true then (fr0 0, 1) else (⟨n, 0, slOf ts⟩, 0) := by
    cases ha : ts.any fun t => !storedN l.length t
    · rw [startF, ha, if_neg (by simp; omega)]; rfl
    · rw [startF, ha, if_pos (.inr (.inr (.inr (.inr rfl))))]; rfl
  simp -implicitDefEqProofs only [go_sem, Nat.reduceEqDiff, Nat.reduceLT, Nat.reduceLeDiff, Nat.reduceAdd, Nat.reduceSub, Nat.reduceMul, Nat.reduceBEq, ↓reduceIte, reduceCtorEq, Int.reduceEq, Int.reduceLT, Int.reduceLE, Int.reduceNeg, Int.reduceAdd, Int.reduceSub, Int.reduceToNat, rws_len, vc_cond, hT, set_set, n1, n2, resM_cell, eFr_len, eFr_drop, Int.ofNat_zero, h8, hn]
  generalize hz : (D.int .i64 0 :: D.int .i64 0 :: _ : List D) = z0
  refine loopL F71 (fun i : Nat => [(0, .slice o (rws eC l)), (6, .ptr b6 0), (8, .ptr b8 0), (31, .slice o2 (rws eT ts)), (32, .int .i64 ts.length), (33, .int .i64 i)]) (fun i => (({} : St).set b6 z0).set b8 (eFr ⟨n, 0, slOf (ts.take i)⟩))
    (fun i => i ≤ ts.length ∧ (ts.take i).any (fun t => !storedN l.length t) = false) (fun i => ts.length - i) 0 ⟨Nat.zero_le _, rfl⟩ ?_ ?_ ?_
  · simp -implicitDefEqProofs only [go_sem, Nat.reduceEqDiff, Nat.reduceLT, Nat.reduceLeDiff, Nat.reduceAdd, Nat.reduceSub, Nat.reduceMul, Nat.reduceBEq, ↓reduceIte, reduceCtorEq, Int.reduceEq, Int.reduceLT, Int.reduceLE, Int.reduceNeg, Int.reduceAdd, Int.reduceSub, Int.reduceToNat, rws_len, vc_cond, hT, Int.ofNat_zero]
  · rw [List.take_zero, slOf_nil]; exact St.le.refl _
  clear hT T
  rintro i ⟨hi, hok⟩ T hT
  have hz26 : z0.length = 26 := by rw [← hz]; rfl
  have hzd : z0.drop 26 = [] := List.drop_eq_nil_of_le (by omega)
  by_cases h2 : i < ts.length
  · have h3 : ((i : Int) < ts.length) = True := by simp; omega
    have htake : ts.take (i + 1) = ts.take i ++ [ts[i]] := List.take_succ_eq_append_getElem h2
    have hR : (rws eT ts)[i]?.getD [] = eT ts[i] := rws_at h2
    have hset := slOf_set h2 (show i < 24 by omega)
    have hin : ts[i] ∈ ts := by simp
    generalize ts[i] = t at *
    simp -implicitDefEqProofs only [go_sem, Nat.reduceEqDiff, Nat.reduceLT, Nat.reduceLeDiff, Nat.reduceAdd, Nat.reduceSub, Nat.reduceMul, Nat.reduceBEq, ↓reduceIte, reduceCtorEq, Int.reduceEq, Int.reduceLT, Int.reduceLE, Int.reduceNeg, Int.reduceAdd, Int.reduceSub, Int.reduceToNat, rws_len, vc_cond, hT, h3, hR, eT, eT_len, set_set, n1, n2, resM_cell, eFr_len, eFr_drop, eFr_take, hz26, hzd]
    refine ⟨by omega, ?_⟩
    refine callB_pure (refStored111 l o t) ?_
    cases hst : storedN l.length t
    · simp -implicitDefEqProofs only [go_sem, Nat.reduceEqDiff, Nat.reduceLT, Nat.reduceLeDiff, Nat.reduceAdd, Nat.reduceSub, Nat.reduceMul, Nat.reduceBEq, ↓reduceIte, reduceCtorEq, Int.reduceEq, Int.reduceLT, Int.reduceLE, Int.reduceNeg, Int.reduceAdd, Int.reduceSub, Int.reduceToNat, rws_len, vc_cond, hT, set_set, n1, n2, resM_cell, eFr_len, eFr_drop, eFr_take, hz26, hzd]
      rw [hs, if_pos (List.any_eq_true.2 ⟨t, hin, by simp [hst]⟩)]
      exact DLe.of_eq rfl
    · simp -implicitDefEqProofs only [go_sem, Nat.reduceEqDiff, Nat.reduceLT, Nat.reduceLeDiff, Nat.reduceAdd, Nat.reduceSub, Nat.reduceMul, Nat.reduceBEq, ↓reduceIte, reduceCtorEq, Int.reduceEq, Int.reduceLT, Int.reduceLE, Int.reduceNeg, Int.reduceAdd, Int.reduceSub, Int.reduceToNat, rws_len, vc_cond, hT, set_set, n1, n2, resM_cell, eFr_len, eFr_drop, eFr_take, hz26, hzd, Nat.mul_one, fr_set (f := ⟨n, 0, slOf (ts.take i)⟩) (i := i) (by omega)]
      refine ⟨by omega, by omega, ?_⟩
      refine ⟨i + 1, ⟨by omega, ?_⟩, by omega, ?_, ?_⟩
      · rw [htake, List.any_append, hok]; simp [hst]
      · rw [wrap_i64 (by omega) (by omega)]; simp
      · rw [hset]; exact St.le.refl _
  · have h3 : ((i : Int) < ts.length) = False := by simp; omega
    rw [List.take_of_length_le (by omega)] at hok
    simp -implicitDefEqProofs only [go_sem, Nat.reduceEqDiff, Nat.reduceLT, Nat.reduceLeDiff, Nat.reduceAdd, Nat.reduceSub, Nat.reduceMul, Nat.reduceBEq, ↓reduceIte, reduceCtorEq, Int.reduceEq, Int.reduceLT, Int.reduceLE, Int.reduceNeg, Int.reduceAdd, Int.reduceSub, Int.reduceToNat, rws_len, vc_cond, hT, h3, set_set, n1, n2, resM_cell, eFr_len, eFr_drop, eFr_take, hz26, hzd, Int.ofNat_zero, List.take_of_length_le (show ts.length ≤ i by omega)]
    rw [hs, hok]
    exact DLe.of_eq rfl

end Go.AL
namespace Go.AL
open Go.Proofs
set_option linter.unusedSimpArgs false
set_option linter.unusedVariables false
set_option maxRecDepth 100000

def sigMayB (c : Nat) (s : Sg) : Bool := decide (s.ps.length ≤ 8) && !(s.ps.any fun t => !storedN c t) && (decide (s.r.val = 0) || storedN c s.r)

theorem sigMay70 (l : List Cl) (o : Own) (s : Sg) (hl : s.ps.length ≤ 140737488355328) : PCall Try.prog 70 [.slice o (rws eC l), .agg (eSg s)] (.bool (sigMayB l.length s)) := by
  refine F70.pcall' rfl fun T hT => ?_
  simp -implicitDefEqProofs only [go_sem, Nat.reduceEqDiff, Nat.reduceLT, Nat.reduceLeDiff, Nat.reduceAdd, Nat.reduceSub, Nat.reduceMul, Nat.reduceBEq, ↓reduceIte, reduceCtorEq, Int.reduceEq, Int.reduceLT, Int.reduceLE, Int.reduceNeg, Int.reduceAdd, Int.reduceSub, Int.reduceToNat, rws_len, vc_cond, c70, hT, eSg]
  intro b3
  refine loopL F70 (fun i : Nat => [(0, .slice o (rws eC l)), (3, .ptr b3 0), (5, .int .i64 i)]) (fun _ => ({} : St).set b3 (eSg s)) (fun i => i ≤ s.ps.length ∧ (s.ps.take i).any (fun t => !storedN l.length t) = false) (fun i => s.ps.length - i) 0
    ⟨Nat.zero_le _, rfl⟩ ?_ (St.le.refl _) ?_
  · simp -implicitDefEqProofs only [go_sem, Nat.reduceEqDiff, Nat.reduceLT, Nat.reduceLeDiff, Nat.reduceAdd, Nat.reduceSub, Nat.reduceMul, Nat.reduceBEq, ↓reduceIte, reduceCtorEq, Int.reduceEq, Int.reduceLT, Int.reduceLE, Int.reduceNeg, Int.reduceAdd, Int.reduceSub, Int.reduceToNat, rws_len, vc_cond, hT, Int.ofNat_zero]
  clear hT T
  rintro i ⟨hi, hok⟩ T hT
  by_cases h2 : i < s.ps.length
  · have h3 : ((i : Int) < s.ps.length) = True := by simp; omega
    have htake : s.ps.take (i + 1) = s.ps.take i ++ [s.ps[i]] := List.take_succ_eq_append_getElem h2
    have hR : (rws eT s.ps)[i]?.getD [] = eT s.ps[i] := rws_at h2
    have hin : s.ps[i] ∈ s.ps := by simp
    generalize s.ps[i] = t at *
    simp -implicitDefEqProofs only [go_sem, Nat.reduceEqDiff, Nat.reduceLT, Nat.reduceLeDiff, Nat.reduceAdd, Nat.reduceSub, Nat.reduceMul, Nat.reduceBEq, ↓reduceIte, reduceCtorEq, Int.reduceEq, Int.reduceLT, Int.reduceLE, Int.reduceNeg, Int.reduceAdd, Int.reduceSub, Int.reduceToNat, rws_len, vc_cond, hT, h3, hR, eT, eT_len, eSg]
    refine ⟨by omega, callB_pure (refStored109 l o t) ?_⟩
    cases hst : storedN l.length t
    · simp -implicitDefEqProofs only [go_sem, Nat.reduceEqDiff, Nat.reduceLT, Nat.reduceLeDiff, Nat.reduceAdd, Nat.reduceSub, Nat.reduceMul, Nat.reduceBEq, ↓reduceIte, reduceCtorEq, Int.reduceEq, Int.reduceLT, Int.reduceLE, Int.reduceNeg, Int.reduceAdd, Int.reduceSub, Int.reduceToNat, rws_len, vc_cond, hT]
      have hany : (s.ps.any fun t => !storedN l.length t) = true := List.any_eq_true.2 ⟨t, hin, by simp [hst]⟩
      exact DLe_bool (by rw [sigMayB, hany]; simp)
    · simp -implicitDefEqProofs only [go_sem, Nat.reduceEqDiff, Nat.reduceLT, Nat.reduceLeDiff, Nat.reduceAdd, Nat.reduceSub, Nat.reduceMul, Nat.reduceBEq, ↓reduceIte, reduceCtorEq, Int.reduceEq, Int.reduceLT, Int.reduceLE, Int.reduceNeg, Int.reduceAdd, Int.reduceSub, Int.reduceToNat, rws_len, vc_cond, hT]
      refine ⟨i + 1, ⟨by omega, ?_⟩, by omega, ?_, St.le.refl _⟩
      · rw [htake, List.any_append, hok]; simp [hst]
      · rw [wrap_i64 (by omega) (by omega)]; simp
  · have h3 : ((i : Int) < s.ps.length) = False := by simp; omega
    rw [List.take_of_length_le (by omega)] at hok
    by_cases h8 : (s.ps.length : Int) ≤ 8
    · by_cases h0 : (s.r.val : Int) = 0
      · simp -implicitDefEqProofs only [go_sem, Nat.reduceEqDiff, Nat.reduceLT, Nat.reduceLeDiff, Nat.reduceAdd, Nat.reduceSub, Nat.reduceMul, Nat.reduceBEq, ↓reduceIte, reduceCtorEq, Int.reduceEq, Int.reduceLT, Int.reduceLE, Int.reduceNeg, Int.reduceAdd, Int.reduceSub, Int.reduceToNat, rws_len, vc_cond, hT, h3, eSg, h8, h0]
        exact DLe_bool (by simp only [sigMayB, hok]; simp; omega)
      · simp -implicitDefEqProofs only [go_sem, Nat.reduceEqDiff, Nat.reduceLT, Nat.reduceLeDiff, Nat.reduceAdd, Nat.reduceSub, Nat.reduceMul, Nat.reduceBEq, ↓reduceIte, reduceCtorEq, Int.reduceEq, Int.reduceLT, Int.reduceLE, Int.reduceNeg, Int.reduceAdd, Int.reduceSub, Int.reduceToNat, rws_len, vc_cond, hT, h3, eSg, h8, h0]
        refine callB_pure (refStored109 l o s.r) ?_
        simp -implicitDefEqProofs only [go_sem, Nat.reduceEqDiff, Nat.reduceLT, Nat.reduceLeDiff, Nat.reduceAdd, Nat.reduceSub, Nat.reduceMul, Nat.reduceBEq, ↓reduceIte, reduceCtorEq, Int.reduceEq, Int.reduceLT, Int.reduceLE, Int.reduceNeg, Int.reduceAdd, Int.reduceSub, Int.reduceToNat, rws_len, vc_cond, hT]
        exact DLe_bool (by
          have : ¬ s.r.val = 0 := by omega
          simp only [sigMayB, hok, this, decide_false, Bool.false_or, show s.ps.length ≤ 8 by omega, decide_true]; rfl)
    · simp -implicitDefEqProofs only [go_sem, Nat.reduceEqDiff, Nat.reduceLT, Nat.reduceLeDiff, Nat.reduceAdd, Nat.reduceSub, Nat.reduceMul, Nat.reduceBEq, ↓reduceIte, reduceCtorEq, Int.reduceEq, Int.reduceLT, Int.reduceLE, Int.reduceNeg, Int.reduceAdd, Int.reduceSub, Int.reduceToNat, rws_len, vc_cond, hT, h3, eSg, h8]
      exact DLe_bool (by simp only [sigMayB, show ¬ s.ps.length ≤ 8 by omega, decide_false]; rfl)

theorem odd65 (e : En) (t : Ty) (b : Nat) (σ : St) (hb : σ.box b = some (eEn e)) :
    RCall Try.prog 65 [.int .u8 t.val, .ptr b 0] σ fun d s' => d = .bool (!storedN e.cs.length t) ∧ s' = σ := by
  refine F65.rcall rfl fun T hT => ?_
  simp -implicitDefEqProofs only [go_sem, Nat.reduceEqDiff, Nat.reduceLT, Nat.reduceLeDiff, Nat.reduceAdd, Nat.reduceSub, Nat.reduceMul, Nat.reduceBEq, ↓reduceIte, reduceCtorEq, Int.reduceEq, Int.reduceLT, Int.reduceLE, Int.reduceNeg, Int.reduceAdd, Int.reduceSub, Int.reduceToNat, rws_len, vc_cond, c65, hT, hb, eEn]
  refine callB_pure (stored66 e.cs .no t) ?_
  simp -implicitDefEqProofs only [go_sem, Nat.reduceEqDiff, Nat.reduceLT, Nat.reduceLeDiff, Nat.reduceAdd, Nat.reduceSub, Nat.reduceMul, Nat.reduceBEq, ↓reduceIte, reduceCtorEq, Int.reduceEq, Int.reduceLT, Int.reduceLE, Int.reduceNeg, Int.reduceAdd, Int.reduceSub, Int.reduceToNat, rws_len, vc_cond, hT]
  exact ⟨_, σ, DLe.refl _, St.le.refl _, rfl, rfl⟩

def sigsErr (c : Nat) : List Sg → Nat
  | [] => 0
  | s :: r => if 8 < s.ps.length then 4 else if sigMayB c s = false then 22 else sigsErr c r
def mayE (e : En) (n : Int) : Nat :=
  if (checkL isWordB e.cs).2 ≠ 0 then (checkL isWordB e.cs).2 else if 64 < e.sgs.length then 4 else if sigsErr e.cs.length e.sgs ≠ 0 then sigsErr e.cs.length e.sgs
  else if h : 0 ≤ e.fn ∧ e.fn.toNat < e.sgs.length then (startF e.cs.length e.sgs[e.fn.toNat].ps n).2 else 71

theorem sigsErr_skip {c : Nat} {s : Sg} {r : List Sg} (h : s.ps.length ≤ 8) (h2 : sigMayB c s = true) : sigsErr c (s :: r) = sigsErr c r := by
  rw [sigsErr, if_neg (by omega), if_neg (by simp [h2])]

theorem may31 (e : En) (n : Int) (hw : WideE e) : PCall Try.prog 31 [.agg (eEn e), .int .i64 n] (.int .i64 (mayE e n)) := by
  obtain ⟨hw1, hw2, hw3⟩ := hw
  refine F31.pcall' rfl fun T hT => ?_
  simp -implicitDefEqProofs only [go_sem, Nat.reduceEqDiff, Nat.reduceLT, Nat.reduceLeDiff, Nat.reduceAdd, Nat.reduceSub, Nat.reduceMul, Nat.reduceBEq, ↓reduceIte, reduceCtorEq, Int.reduceEq, Int.reduceLT, Int.reduceLE, Int.reduceNeg, Int.reduceAdd, Int.reduceSub, Int.reduceToNat, rws_len, vc_cond, c31, hT, eEn]
  intro b2
  refine callB_pure (check64 e.cs .no hw1) ?_
  by_cases hc : (checkL isWordB e.cs).2 = 0
  case neg =>
    have hc' : (((checkL isWordB e.cs).2 : Int) = 0) = False := by simp; omega
    simp -implicitDefEqProofs only [go_sem, Nat.reduceEqDiff, Nat.reduceLT, Nat.reduceLeDiff, Nat.reduceAdd, Nat.reduceSub, Nat.reduceMul, Nat.reduceBEq, ↓reduceIte, reduceCtorEq, Int.reduceEq, Int.reduceLT, Int.reduceLE, Int.reduceNeg, Int.reduceAdd, Int.reduceSub, Int.reduceToNat, rws_len, vc_cond, hT, eEn, hc']
    exact DLe.of_eq (by rw [mayE, if_pos hc])
  have hc' : (((checkL isWordB e.cs).2 : Int) = 0) = True := by simp; omega
  simp -implicitDefEqProofs only [go_sem, Nat.reduceEqDiff, Nat.reduceLT, Nat.reduceLeDiff, Nat.reduceAdd, Nat.reduceSub, Nat.reduceMul, Nat.reduceBEq, ↓reduceIte, reduceCtorEq, Int.reduceEq, Int.reduceLT, Int.reduceLE, Int.reduceNeg, Int.reduceAdd, Int.reduceSub, Int.reduceToNat, rws_len, vc_cond, hT, eEn, hc']
  by_cases h64 : (64 : Int) < e.sgs.length
  · simp -implicitDefEqProofs only [go_sem, Nat.reduceEqDiff, Nat.reduceLT, Nat.reduceLeDiff, Nat.reduceAdd, Nat.reduceSub, Nat.reduceMul, Nat.reduceBEq, ↓reduceIte, reduceCtorEq, Int.reduceEq, Int.reduceLT, Int.reduceLE, Int.reduceNeg, Int.reduceAdd, Int.reduceSub, Int.reduceToNat, rws_len, vc_cond, hT, eEn, h64]
    exact DLe.of_eq (by rw [mayE, if_neg (by omega), if_pos (by omega)]; rfl)
  simp -implicitDefEqProofs only [go_sem, Nat.reduceEqDiff, Nat.reduceLT, Nat.reduceLeDiff, Nat.reduceAdd, Nat.reduceSub, Nat.reduceMul, Nat.reduceBEq, ↓reduceIte, reduceCtorEq, Int.reduceEq, Int.reduceLT, Int.reduceLE, Int.reduceNeg, Int.reduceAdd, Int.reduceSub, Int.reduceToNat, rws_len, vc_cond, hT, eEn, h64]
  have hm : mayE e n = if sigsErr e.cs.length e.sgs ≠ 0 then sigsErr e.cs.length e.sgs else if h : 0 ≤ e.fn ∧ e.fn.toNat < e.sgs.length then (startF e.cs.length e.sgs[e.fn.toNat].ps n).2 else 71 := by
    rw [mayE, if_neg (by omega), if_neg (by omega)]
  refine loopL F31 (fun i : Nat => [(1, .int .i64 n), (2, .ptr b2 0), (26, .slice .no (rws eSg e.sgs)), (27, .int .i64 e.sgs.length), (28, .int .i64 i)]) (fun _ => ({} : St).set b2 (eEn e)) (fun i => i ≤ e.sgs.length ∧ sigsErr e.cs.length e.sgs = sigsErr e.cs.length (e.sgs.drop i)) (fun i => e.sgs.length - i) 0
    ⟨Nat.zero_le _, rfl⟩ ?_ (St.le.refl _) ?_
  · simp -implicitDefEqProofs only [go_sem, Nat.reduceEqDiff, Nat.reduceLT, Nat.reduceLeDiff, Nat.reduceAdd, Nat.reduceSub, Nat.reduceMul, Nat.reduceBEq, ↓reduceIte, reduceCtorEq, Int.reduceEq, Int.reduceLT, Int.reduceLE, Int.reduceNeg, Int.reduceAdd, Int.reduceSub, Int.reduceToNat, rws_len, vc_cond, hT, Int.ofNat_zero]
  clear hT T
  rintro i ⟨hi, heq⟩ T hT
  by_cases h2 : i < e.sgs.length
  · have h3 : ((i : Int) < e.sgs.length) = True := by simp; omega
    have hR : (rws eSg e.sgs)[i]?.getD [] = eSg e.sgs[i] := rws_at h2
    have hwf := hw3 e.sgs[i] (by simp)
    rw [List.drop_eq_getElem_cons h2] at heq
    generalize e.sgs[i] = s at *
    have stop : ∀ k : Nat, k ≠ 0 → sigsErr e.cs.length e.sgs = k → DLe (.int .i64 k) (.int .i64 (mayE e n)) := fun k hk he => by
      rw [hm, if_pos (by omega), he]; exact DLe.refl _
    have e22 : s.ps.length ≤ 8 → sigMayB e.cs.length s = false → sigsErr e.cs.length e.sgs = 22 := fun h1 h2 => by
      rw [heq, sigsErr, if_neg (by omega), if_pos h2]
    have next : s.ps.length ≤ 8 → sigMayB e.cs.length s = true → ∀ σ' : St, St.le (({} : St).set b2 (eEn e)) σ' → ∃ y : Nat, (y ≤ e.sgs.length ∧ sigsErr e.cs.length e.sgs = sigsErr e.cs.length (e.sgs.drop y)) ∧ e.sgs.length - y < e.sgs.length - i ∧ D.int .i64 (IntKind.wrap .i64 ((i : Int) + 1)) = D.int .i64 (y : Int) ∧ St.le (({} : St).set b2 (eEn e)) σ' := fun h1 h2 σ' hle =>
      ⟨i + 1, ⟨by omega, by rw [heq, sigsErr_skip h1 h2]⟩, by omega, by rw [wrap_i64 (by omega) (by omega)]; simp, hle⟩
    simp -implicitDefEqProofs only [go_sem, Nat.reduceEqDiff, Nat.reduceLT, Nat.reduceLeDiff, Nat.reduceAdd, Nat.reduceSub, Nat.reduceMul, Nat.reduceBEq, ↓reduceIte, reduceCtorEq, Int.reduceEq, Int.reduceLT, Int.reduceLE, Int.reduceNeg, Int.reduceAdd, Int.reduceSub, Int.reduceToNat, rws_len, vc_cond, hT, h3, hR, eSg_len, eSg]
    refine ⟨by omega, fun b8 n1 n2 => ?_⟩
    by_cases h8 : (8 : Int) < s.ps.length
    · simp -implicitDefEqProofs only [go_sem, Nat.reduceEqDiff, Nat.reduceLT, Nat.reduceLeDiff, Nat.reduceAdd, Nat.reduceSub, Nat.reduceMul, Nat.reduceBEq, ↓reduceIte, reduceCtorEq, Int.reduceEq, Int.reduceLT, Int.reduceLE, Int.reduceNeg, Int.reduceAdd, Int.reduceSub, Int.reduceToNat, rws_len, vc_cond, hT, h3, eSg, h8, n1, n2, set_set]
      exact stop 4 (by decide) (by rw [heq, sigsErr, if_pos (by omega)])
    simp -implicitDefEqProofs only [go_sem, Nat.reduceEqDiff, Nat.reduceLT, Nat.reduceLeDiff, Nat.reduceAdd, Nat.reduceSub, Nat.reduceMul, Nat.reduceBEq, ↓reduceIte, reduceCtorEq, Int.reduceEq, Int.reduceLT, Int.reduceLE, Int.reduceNeg, Int.reduceAdd, Int.reduceSub, Int.reduceToNat, rws_len, vc_cond, hT, h3, eSg, h8, n1, n2, set_set]
    have hb2 : ((({} : St).set b2 (eEn e)).set b8 (eSg s)).box b2 = some (eEn e) := by
      have : ¬ b2 = b8 := by omega
      simp [St.set_box, this]
    refine callB_all (contFunc67 s.ps .no 65 [] [.ptr b2 0] (fun t => !storedN e.cs.length t) _ (by omega) fun t _ => odd65 e t b2 _ hb2) ?_
    rintro d s' ⟨rfl, rfl⟩
    cases hA : s.ps.any fun t => !storedN e.cs.length t
    case true =>
      simp -implicitDefEqProofs only [go_sem, Nat.reduceEqDiff, Nat.reduceLT, Nat.reduceLeDiff, Nat.reduceAdd, Nat.reduceSub, Nat.reduceMul, Nat.reduceBEq, ↓reduceIte, reduceCtorEq, Int.reduceEq, Int.reduceLT, Int.reduceLE, Int.reduceNeg, Int.reduceAdd, Int.reduceSub, Int.reduceToNat, rws_len, vc_cond, hT, h3, eSg, n1, n2]
      exact stop 22 (by decide) (e22 (by omega) (by rw [sigMayB, hA]; simp))
    by_cases h0 : (s.r.val : Int) = 0
    · simp -implicitDefEqProofs only [go_sem, Nat.reduceEqDiff, Nat.reduceLT, Nat.reduceLeDiff, Nat.reduceAdd, Nat.reduceSub, Nat.reduceMul, Nat.reduceBEq, ↓reduceIte, reduceCtorEq, Int.reduceEq, Int.reduceLT, Int.reduceLE, Int.reduceNeg, Int.reduceAdd, Int.reduceSub, Int.reduceToNat, rws_len, vc_cond, hT, h3, eSg, n1, n2, h0]
      exact next (by omega) (by rw [sigMayB, hA]; simp; omega) _ (le_add (by simp [has_set, has_nil]; omega))
    simp -implicitDefEqProofs only [go_sem, Nat.reduceEqDiff, Nat.reduceLT, Nat.reduceLeDiff, Nat.reduceAdd, Nat.reduceSub, Nat.reduceMul, Nat.reduceBEq, ↓reduceIte, reduceCtorEq, Int.reduceEq, Int.reduceLT, Int.reduceLE, Int.reduceNeg, Int.reduceAdd, Int.reduceSub, Int.reduceToNat, rws_len, vc_cond, hT, h3, eSg, n1, n2, h0]
    refine callB_all (odd65 e s.r b2 _ hb2) ?_
    rintro d s' ⟨rfl, rfl⟩
    have hr : ¬ s.r.val = 0 := by omega
    cases hS : storedN e.cs.length s.r
    · simp -implicitDefEqProofs only [go_sem, Nat.reduceEqDiff, Nat.reduceLT, Nat.reduceLeDiff, Nat.reduceAdd, Nat.reduceSub, Nat.reduceMul, Nat.reduceBEq, ↓reduceIte, reduceCtorEq, Int.reduceEq, Int.reduceLT, Int.reduceLE, Int.reduceNeg, Int.reduceAdd, Int.reduceSub, Int.reduceToNat, rws_len, vc_cond, hT, h3, eSg, n1, n2]
      exact stop 22 (by decide) (e22 (by omega) (by rw [sigMayB, hA, hS]; simp [hr]))
    · simp -implicitDefEqProofs only [go_sem, Nat.reduceEqDiff, Nat.reduceLT, Nat.reduceLeDiff, Nat.reduceAdd, Nat.reduceSub, Nat.reduceMul, Nat.reduceBEq, ↓reduceIte, reduceCtorEq, Int.reduceEq, Int.reduceLT, Int.reduceLE, Int.reduceNeg, Int.reduceAdd, Int.reduceSub, Int.reduceToNat, rws_len, vc_cond, hT, h3, eSg, n1, n2]
      exact next (by omega) (by rw [sigMayB, hA, hS]; simp; omega) _ (le_add (by simp [has_set, has_nil]; omega))
  · have h3 : ((i : Int) < e.sgs.length) = False := by simp; omega
    rw [List.drop_of_length_le (by omega), sigsErr] at heq
    rw [if_neg (by omega)] at hm
    by_cases hf : 0 ≤ e.fn ∧ e.fn.toNat < e.sgs.length
    · have hfc : (decide (e.fn < 0) || decide ((e.sgs.length : Int) ≤ e.fn)) = false := by simp; omega
      rw [dif_pos hf] at hm
      obtain ⟨k, hk⟩ : ∃ k : Nat, e.fn = k := ⟨e.fn.toNat, by omega⟩
      have hkl : k < e.sgs.length := by omega
      have hR : (rws eSg e.sgs)[k]?.getD [] = eSg e.sgs[k] := rws_at hkl
      have hwf := hw3 e.sgs[k] (by simp)
      have hm' : mayE e n = (startF e.cs.length e.sgs[k].ps n).2 := by rw [hm]; simp [hk]
      rw [hk] at hfc
      simp -implicitDefEqProofs only [go_sem, Nat.reduceEqDiff, Nat.reduceLT, Nat.reduceLeDiff, Nat.reduceAdd, Nat.reduceSub, Nat.reduceMul, Nat.reduceBEq, ↓reduceIte, reduceCtorEq, Int.reduceEq, Int.reduceLT, Int.reduceLE, Int.reduceNeg, Int.reduceAdd, Int.reduceSub, Int.reduceToNat, rws_len, vc_condQ, w_guardO, ite_and, ite_or, ite_nor, ite_nand, ite_aor, ite_aand, ite_same, gm_move, gm_assign, gm_pick, gm_bin_t, gm_bin_i, gm_bin_b, gm_bin_s, gm_un, gm_conv, gm_iface, gm_func, gm_extract, gm_field, gm_faddr, gm_iaddr, gm_idx, gm_nilc, gm_len, gm_slice, gm_load, hT, h3, eEn, hk, hfc, hR, eSg_len, eSg]
      refine ⟨by omega, ?_⟩
      refine callB_pure (start68 e.cs .no .no e.sgs[k].ps n (by omega)) ?_
      simp -implicitDefEqProofs only [go_sem, Nat.reduceEqDiff, Nat.reduceLT, Nat.reduceLeDiff, Nat.reduceAdd, Nat.reduceSub, Nat.reduceMul, Nat.reduceBEq, ↓reduceIte, reduceCtorEq, Int.reduceEq, Int.reduceLT, Int.reduceLE, Int.reduceNeg, Int.reduceAdd, Int.reduceSub, Int.reduceToNat, rws_len, vc_condQ, w_guardO, ite_and, ite_or, ite_nor, ite_nand, ite_aor, ite_aand, ite_same, gm_move, gm_assign, gm_pick, gm_bin_t, gm_bin_i, gm_bin_b, gm_bin_s, gm_un, gm_conv, gm_iface, gm_func, gm_extract, gm_field, gm_faddr, gm_iaddr, gm_idx, gm_nilc, gm_len, gm_slice, gm_load, hT, eFr_len]
      rw [hm']
      exact fun _ _ _ => DLe.refl _
    · have hfc : (decide (e.fn < 0) || decide ((e.sgs.length : Int) ≤ e.fn)) = true := by simp; omega
      rw [dif_neg hf] at hm
      simp -implicitDefEqProofs only [go_sem, Nat.reduceEqDiff, Nat.reduceLT, Nat.reduceLeDiff, Nat.reduceAdd, Nat.reduceSub, Nat.reduceMul, Nat.reduceBEq, ↓reduceIte, reduceCtorEq, Int.reduceEq, Int.reduceLT, Int.reduceLE, Int.reduceNeg, Int.reduceAdd, Int.reduceSub, Int.reduceToNat, rws_len, vc_condQ, w_guardO, ite_and, ite_or, ite_nor, ite_nand, ite_aor, ite_aand, ite_same, gm_move, gm_assign, gm_pick, gm_bin_t, gm_bin_i, gm_bin_b, gm_bin_s, gm_un, gm_conv, gm_iface, gm_func, gm_extract, gm_field, gm_faddr, gm_iaddr, gm_idx, gm_nilc, gm_len, gm_slice, gm_load, hT, h3, eEn, hfc]
      exact DLe.of_eq (by rw [hm]; rfl)
theorem refMay32 (e : En) (n : Int) (hw : WideE e) : PCall Try.prog 32 [.agg (eEn e), .int .i64 n] (.int .i64 (mayE e n)) := by
  obtain ⟨hw1, hw2, hw3⟩ := hw
  refine F32.pcall' rfl fun T hT => ?_
  simp -implicitDefEqProofs only [go_sem, Nat.reduceEqDiff, Nat.reduceLT, Nat.reduceLeDiff, Nat.reduceAdd, Nat.reduceSub, Nat.reduceMul, Nat.reduceBEq, ↓reduceIte, reduceCtorEq, Int.reduceEq, Int.reduceLT, Int.reduceLE, Int.reduceNeg, Int.reduceAdd, Int.reduceSub, Int.reduceToNat, rws_len, vc_cond, c32, hT, eEn]
  intro b2
  refine callB_pure (refCheck69 e.cs .no hw1) ?_
  by_cases hc : (checkL isWordB e.cs).2 = 0
  case neg =>
    have hc' : (((checkL isWordB e.cs).2 : Int) = 0) = False := by simp; omega
    simp -implicitDefEqProofs only [go_sem, Nat.reduceEqDiff, Nat.reduceLT, Nat.reduceLeDiff, Nat.reduceAdd, Nat.reduceSub, Nat.reduceMul, Nat.reduceBEq, ↓reduceIte, reduceCtorEq, Int.reduceEq, Int.reduceLT, Int.reduceLE, Int.reduceNeg, Int.reduceAdd, Int.reduceSub, Int.reduceToNat, rws_len, vc_cond, hT, eEn, hc']
    exact DLe.of_eq (by rw [mayE, if_pos hc])
  have hc' : (((checkL isWordB e.cs).2 : Int) = 0) = True := by simp; omega
  simp -implicitDefEqProofs only [go_sem, Nat.reduceEqDiff, Nat.reduceLT, Nat.reduceLeDiff, Nat.reduceAdd, Nat.reduceSub, Nat.reduceMul, Nat.reduceBEq, ↓reduceIte, reduceCtorEq, Int.reduceEq, Int.reduceLT, Int.reduceLE, Int.reduceNeg, Int.reduceAdd, Int.reduceSub, Int.reduceToNat, rws_len, vc_cond, hT, eEn, hc']
  by_cases h64 : (64 : Int) < e.sgs.length
  · simp -implicitDefEqProofs only [go_sem, Nat.reduceEqDiff, Nat.reduceLT, Nat.reduceLeDiff, Nat.reduceAdd, Nat.reduceSub, Nat.reduceMul, Nat.reduceBEq, ↓reduceIte, reduceCtorEq, Int.reduceEq, Int.reduceLT, Int.reduceLE, Int.reduceNeg, Int.reduceAdd, Int.reduceSub, Int.reduceToNat, rws_len, vc_cond, hT, eEn, h64]
    exact DLe.of_eq (by rw [mayE, if_neg (by omega), if_pos (by omega)]; rfl)
  simp -implicitDefEqProofs only [go_sem, Nat.reduceEqDiff, Nat.reduceLT, Nat.reduceLeDiff, Nat.reduceAdd, Nat.reduceSub, Nat.reduceMul, Nat.reduceBEq, ↓reduceIte, reduceCtorEq, Int.reduceEq, Int.reduceLT, Int.reduceLE, Int.reduceNeg, Int.reduceAdd, Int.reduceSub, Int.reduceToNat, rws_len, vc_cond, hT, eEn, h64]
  have hm : mayE e n = if sigsErr e.cs.length e.sgs ≠ 0 then sigsErr e.cs.length e.sgs else if h : 0 ≤ e.fn ∧ e.fn.toNat < e.sgs.length then (startF e.cs.length e.sgs[e.fn.toNat].ps n).2 else 71 := by
    rw [mayE, if_neg (by omega), if_neg (by omega)]
  refine loopL F32 (fun i : Nat => [(1, .int .i64 n), (2, .ptr b2 0), (7, .int .i64 i)]) (fun _ => ({} : St).set b2 (eEn e)) (fun i => i ≤ e.sgs.length ∧ sigsErr e.cs.length e.sgs = sigsErr e.cs.length (e.sgs.drop i)) (fun i => e.sgs.length - i) 0
    ⟨Nat.zero_le _, rfl⟩ ?_ (St.le.refl _) ?_
  · simp -implicitDefEqProofs only [go_sem, Nat.reduceEqDiff, Nat.reduceLT, Nat.reduceLeDiff, Nat.reduceAdd, Nat.reduceSub, Nat.reduceMul, Nat.reduceBEq, ↓reduceIte, reduceCtorEq, Int.reduceEq, Int.reduceLT, Int.reduceLE, Int.reduceNeg, Int.reduceAdd, Int.reduceSub, Int.reduceToNat, rws_len, vc_cond, hT, Int.ofNat_zero]
  clear hT T
  rintro i ⟨hi, heq⟩ T hT
  by_cases h2 : i < e.sgs.length
  · have h3 : ((i : Int) < e.sgs.length) = True := by simp; omega
    have hR : (rws eSg e.sgs)[i]?.getD [] = eSg e.sgs[i] := rws_at h2
    have hwf := hw3 e.sgs[i] (by simp)
    rw [List.drop_eq_getElem_cons h2] at heq
    generalize e.sgs[i] = s at *
    have stop : ∀ k : Nat, k ≠ 0 → sigsErr e.cs.length e.sgs = k → DLe (.int .i64 k) (.int .i64 (mayE e n)) := fun k hk he => by
      rw [hm, if_pos (by omega), he]; exact DLe.refl _
    by_cases h8 : (8 : Int) < s.ps.length
    · simp -implicitDefEqProofs only [go_sem, Nat.reduceEqDiff, Nat.reduceLT, Nat.reduceLeDiff, Nat.reduceAdd, Nat.reduceSub, Nat.reduceMul, Nat.reduceBEq, ↓reduceIte, reduceCtorEq, Int.reduceEq, Int.reduceLT, Int.reduceLE, Int.reduceNeg, Int.reduceAdd, Int.reduceSub, Int.reduceToNat, rws_len, vc_cond, hT, h3, hR, eSg_len, eSg, eEn, h8]
      refine ⟨by omega, ?_⟩
      exact stop 4 (by decide) (by rw [heq, sigsErr, if_pos (by omega)])
    have ht : ∀ s : Sg, (eSg s).take 2 = eSg s := fun s => rfl
    have hd : (eSg s).drop 0 = eSg s := rfl
    have h0 : (eSg s)[0]? = some (.slice .no (rws eT s.ps)) := rfl
    simp -implicitDefEqProofs only [go_sem, Nat.reduceEqDiff, Nat.reduceLT, Nat.reduceLeDiff, Nat.reduceAdd, Nat.reduceSub, Nat.reduceMul, Nat.reduceBEq, ↓reduceIte, reduceCtorEq, Int.reduceEq, Int.reduceLT, Int.reduceLE, Int.reduceNeg, Int.reduceAdd, Int.reduceSub, Int.reduceToNat, rws_len, vc_cond, hT, h3, hR, eSg_len, h8, eEn, h0, ht]
    refine ⟨by omega, by omega, ?_⟩
    refine callB_pure (sigMay70 e.cs .no s (by omega)) ?_
    cases hS : sigMayB e.cs.length s
    · simp -implicitDefEqProofs only [go_sem, Nat.reduceEqDiff, Nat.reduceLT, Nat.reduceLeDiff, Nat.reduceAdd, Nat.reduceSub, Nat.reduceMul, Nat.reduceBEq, ↓reduceIte, reduceCtorEq, Int.reduceEq, Int.reduceLT, Int.reduceLE, Int.reduceNeg, Int.reduceAdd, Int.reduceSub, Int.reduceToNat, rws_len, vc_cond, hT]
      exact stop 22 (by decide) (by rw [heq, sigsErr, if_neg (by omega), if_pos hS])
    · simp -implicitDefEqProofs only [go_sem, Nat.reduceEqDiff, Nat.reduceLT, Nat.reduceLeDiff, Nat.reduceAdd, Nat.reduceSub, Nat.reduceMul, Nat.reduceBEq, ↓reduceIte, reduceCtorEq, Int.reduceEq, Int.reduceLT, Int.reduceLE, Int.reduceNeg, Int.reduceAdd, Int.reduceSub, Int.reduceToNat, rws_len, vc_cond, hT]
      refine ⟨i + 1, ⟨by omega, by rw [heq, sigsErr_skip (by omega) hS]⟩, by omega, ?_, St.le.refl _⟩
      rw [wrap_i64 (by omega) (by omega)]; simp
  · have h3 : ((i : Int) < e.sgs.length) = False := by simp; omega
    rw [List.drop_of_length_le (by omega), sigsErr] at heq
    rw [if_neg (by omega)] at hm
    by_cases hf : 0 ≤ e.fn ∧ e.fn.toNat < e.sgs.length
    · have hfc : (decide (e.fn < 0) || decide ((e.sgs.length : Int) ≤ e.fn)) = false := by simp; omega
      rw [dif_pos hf] at hm
      obtain ⟨k, hk⟩ : ∃ k : Nat, e.fn = k := ⟨e.fn.toNat, by omega⟩
      have hkl : k < e.sgs.length := by omega
      have hR : (rws eSg e.sgs)[k]?.getD [] = eSg e.sgs[k] := rws_at hkl
      have hwf := hw3 e.sgs[k] (by simp)
      have hm' : mayE e n = (startF e.cs.length e.sgs[k].ps n).2 := by rw [hm]; simp [hk]
      rw [hk] at hfc
      simp -implicitDefEqProofs only [go_sem, Nat.reduceEqDiff, Nat.reduceLT, Nat.reduceLeDiff, Nat.reduceAdd, Nat.reduceSub, Nat.reduceMul, Nat.reduceBEq, ↓reduceIte, reduceCtorEq, Int.reduceEq, Int.reduceLT, Int.reduceLE, Int.reduceNeg, Int.reduceAdd, Int.reduceSub, Int.reduceToNat, rws_len, vc_condQ, w_guardO, ite_and, ite_or, ite_nor, ite_nand, ite_aor, ite_aand, ite_same, gm_move, gm_assign, gm_pick, gm_bin_t, gm_bin_i, gm_bin_b, gm_bin_s, gm_un, gm_conv, gm_iface, gm_func, gm_extract, gm_field, gm_faddr, gm_iaddr, gm_idx, gm_nilc, gm_len, gm_slice, gm_load, hT, h3, eEn, hk, hfc, hR, eSg_len, eSg]
      refine ⟨by omega, ?_⟩
      refine callB_pure (refStart71 e.cs .no .no e.sgs[k].ps n (by omega)) ?_
      simp -implicitDefEqProofs only [go_sem, Nat.reduceEqDiff, Nat.reduceLT, Nat.reduceLeDiff, Nat.reduceAdd, Nat.reduceSub, Nat.reduceMul, Nat.reduceBEq, ↓reduceIte, reduceCtorEq, Int.reduceEq, Int.reduceLT, Int.reduceLE, Int.reduceNeg, Int.reduceAdd, Int.reduceSub, Int.reduceToNat, rws_len, vc_condQ, w_guardO, ite_and, ite_or, ite_nor, ite_nand, ite_aor, ite_aand, ite_same, gm_move, gm_assign, gm_pick, gm_bin_t, gm_bin_i, gm_bin_b, gm_bin_s, gm_un, gm_conv, gm_iface, gm_func, gm_extract, gm_field, gm_faddr, gm_iaddr, gm_idx, gm_nilc, gm_len, gm_slice, gm_load, hT, eFr_len]
      rw [hm']
      exact DLe.refl _
    · have hfc : (decide (e.fn < 0) || decide ((e.sgs.length : Int) ≤ e.fn)) = true := by simp; omega
      rw [dif_neg hf] at hm
      simp -implicitDefEqProofs only [go_sem, Nat.reduceEqDiff, Nat.reduceLT, Nat.reduceLeDiff, Nat.reduceAdd, Nat.reduceSub, Nat.reduceMul, Nat.reduceBEq, ↓reduceIte, reduceCtorEq, Int.reduceEq, Int.reduceLT, Int.reduceLE, Int.reduceNeg, Int.reduceAdd, Int.reduceSub, Int.reduceToNat, rws_len, vc_condQ, w_guardO, ite_and, ite_or, ite_nor, ite_nand, ite_aor, ite_aand, ite_same, gm_move, gm_assign, gm_pick, gm_bin_t, gm_bin_i, gm_bin_b, gm_bin_s, gm_un, gm_conv, gm_iface, gm_func, gm_extract, gm_field, gm_faddr, gm_iaddr, gm_idx, gm_nilc, gm_len, gm_slice, gm_load, hT, h3, eEn, hfc]
      exact DLe.of_eq (by rw [hm]; rfl)

end Go.AL
namespace Go.AL
open Go.Proofs
set_option linter.unusedSimpArgs false
set_option linter.unusedVariables false
set_option maxRecDepth 100000

theorem law5 (e : En) (n : Int) (hw : WideE e) : PCall Try.prog 5 [.agg (eEn e), .int .i64 n] (.bool true) := by
  have t1 : (eEn e).take 3 = eEn e := rfl
  refine F5.pcall' rfl fun T hT => ?_
  simp -implicitDefEqProofs only [go_sem, Nat.reduceEqDiff, Nat.reduceLT, Nat.reduceLeDiff, Nat.reduceAdd, Nat.reduceSub, Nat.reduceMul, Nat.reduceBEq, ↓reduceIte, reduceCtorEq, Int.reduceEq, Int.reduceLT, Int.reduceLE, Int.reduceNeg, Int.reduceAdd, Int.reduceSub, Int.reduceToNat, rws_len, vc_cond, c5, hT, eEn_len, t1]
  intro b2
  refine callB_pure (env30 e hw) ?_
  simp -implicitDefEqProofs only [go_sem, Nat.reduceEqDiff, Nat.reduceLT, Nat.reduceLeDiff, Nat.reduceAdd, Nat.reduceSub, Nat.reduceMul, Nat.reduceBEq, ↓reduceIte, reduceCtorEq, Int.reduceEq, Int.reduceLT, Int.reduceLE, Int.reduceNeg, Int.reduceAdd, Int.reduceSub, Int.reduceToNat, rws_len, vc_cond, hT, eEn_len, t1, set_set]
  intro b5 n1 n2
  refine ⟨by rintro b rfl; simp, ?_⟩
  refine callB_pure (may31 e n hw) ?_
  simp -implicitDefEqProofs only [go_sem, Nat.reduceEqDiff, Nat.reduceLT, Nat.reduceLeDiff, Nat.reduceAdd, Nat.reduceSub, Nat.reduceMul, Nat.reduceBEq, ↓reduceIte, reduceCtorEq, Int.reduceEq, Int.reduceLT, Int.reduceLE, Int.reduceNeg, Int.reduceAdd, Int.reduceSub, Int.reduceToNat, rws_len, vc_cond, hT, eEn_len, t1, n1, n2]
  refine callB_pure (refMay32 e n hw) ?_
  simp -implicitDefEqProofs only [go_sem, Nat.reduceEqDiff, Nat.reduceLT, Nat.reduceLeDiff, Nat.reduceAdd, Nat.reduceSub, Nat.reduceMul, Nat.reduceBEq, ↓reduceIte, reduceCtorEq, Int.reduceEq, Int.reduceLT, Int.reduceLE, Int.reduceNeg, Int.reduceAdd, Int.reduceSub, Int.reduceToNat, rws_len, vc_cond, hT, eEn_len, t1, n1, n2]
  refine callB_pure (sameEnv33 e e hw) ?_
  simp -implicitDefEqProofs only [go_sem, Nat.reduceEqDiff, Nat.reduceLT, Nat.reduceLeDiff, Nat.reduceAdd, Nat.reduceSub, Nat.reduceMul, Nat.reduceBEq, ↓reduceIte, reduceCtorEq, Int.reduceEq, Int.reduceLT, Int.reduceLE, Int.reduceNeg, Int.reduceAdd, Int.reduceSub, Int.reduceToNat, rws_len, vc_cond, hT]
end Go.AL
