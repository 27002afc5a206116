import Derived.Test.YtanhkkillmbkhaaPe
import Derived.Test.YtanhkkillmbkhaaLe
import Derived.Test.YtanhkkillmbkhaaCa
import Derived.Test.YtanhkkillmbkhaaPa
import Derived.Test.YtanhkkillmbkhaaPc
import Derived.Test.YtanhkkillmbkhaaPb
import Derived.Test.YtanhkkillmbkhaaPg
namespace Go.AL
open Go.Proofs
set_option linter.unusedSimpArgs false
set_option linter.unusedVariables false
set_option maxRecDepth 100000

def eU (t : Ty) : D := .int .u8 (t.val : Int)
theorem fr_0 (f : Fr) : (eFr f)[0]? = some (.int .i64 f.loc) := rfl
theorem fr_1 (f : Fr) : (eFr f)[1]? = some (.int .i64 f.h) := rfl
theorem fr_at (f : Fr) (i : Nat) (h : i < 24) : (eFr f)[2 + i]? = some (.int .u8 (f.sl[i].val : Int)) := by
  rw [show 2 + i = i + 1 + 1 by omega]
  simp only [eFr, List.getElem?_cons_succ, List.getElem?_map]
  rw [List.getElem?_eq_getElem (by simpa using h)]
  simp

theorem eqAll_from {m n : Nat} (xs ys : List Ty) (hx : xs.length = n) (hy : ys.length = n) : ∀ (k s : Nat), s + k = n →
    eqAll Try.prog (eqV Try.prog (m + 1)) (xs.map eU) (ys.map eU) ((List.range' s k).map fun i => (23, i * 1)) = some (decide (xs.drop s = ys.drop s))
  | 0, s, h => by
    rw [List.drop_eq_nil_of_le (by omega), List.drop_eq_nil_of_le (by omega)]
    rfl
  | k + 1, s, h => by
    have h1 : s < xs.length := by omega
    have h2 : s < ys.length := by omega
    rw [List.range'_succ, List.map_cons, eqAll, Nat.mul_one]
    have p1 : partD Try.prog 23 (xs.map eU) s = some (eU xs[s]) := by simp [partD, Try.agg23, Try.sz23, h1]
    have p2 : partD Try.prog 23 (ys.map eU) s = some (eU ys[s]) := by simp [partD, Try.agg23, Try.sz23, h2]
    rw [p1, p2, eqAll_from xs ys hx hy k (s + 1) (by omega), List.drop_eq_getElem_cons h1, List.drop_eq_getElem_cons h2]
    simp only [eU, eqV_int Try.underlying23]
    congr 1
    rw [Bool.eq_iff_iff]
    simp only [Bool.and_eq_true, decide_eq_true_eq, List.cons.injEq, eT_eq]

theorem eq_fr (f g : Fr) : eqV Try.prog 10 71 (.agg (eFr f)) (.agg (eFr g)) = some (decide (f = g)) := by
  have h1 : Try.prog.stoodInHeld 71 = false := by kernel_rfl
  have h2 : (Try.prog.info? 23).isSome = true := by kernel_rfl
  have h3 : Try.prog.cellsOf 23 = 1 := by kernel_rfl
  have t : ∀ f : Fr, ((eFr f).drop 2).take 24 = f.sl.toList.map eU := fun f => by
    rw [List.take_of_length_le (by simp [eFr])]
    rfl
  rw [show (10 : Nat) = 8 + 1 + 1 from rfl, eqV_struct Try.underlying71 h1 rfl]
  simp only [fsParts, List.map_cons, List.map_nil, eqAll]
  simp -implicitDefEqProofs only [go_sem, Nat.reduceEqDiff, Nat.reduceLT, Nat.reduceLeDiff, Nat.reduceAdd, Nat.reduceSub, Nat.reduceMul, Nat.reduceBEq, ↓reduceIte, reduceCtorEq, Int.reduceEq, Int.reduceLT, Int.reduceLE, Int.reduceNeg, Int.reduceAdd, Int.reduceSub, Int.reduceToNat, rws_len, vc_cond, fr_0, fr_1, t, eFr_len, eqV_int Try.underlying3]
  rw [eqV_array Try.underlying69 h2, h3, List.range_eq_range', eqAll_from f.sl.toList g.sl.toList (by simp) (by simp) 24 0 rfl]
  obtain ⟨a, b, c⟩ := f
  obtain ⟨a', b', c'⟩ := g
  simp only [List.drop_zero, Bool.and_true]
  congr 1
  rw [Bool.eq_iff_iff]
  simp [Fr.mk.injEq, Vector.toList_inj]

def shapedB (f : Fr) : Bool := decide (0 ≤ f.loc ∧ f.loc ≤ 16 ∧ 0 ≤ f.h ∧ f.h ≤ 24 - f.loc)
theorem shaped123 (f : Fr) : PCall Try.prog 123 [.agg (eFr f)] (.bool (shapedB f)) := by
  refine F123.pcall' rfl fun T hT => ?_
  simp -implicitDefEqProofs only [go_sem, Nat.reduceEqDiff, Nat.reduceLT, Nat.reduceLeDiff, Nat.reduceAdd, Nat.reduceSub, Nat.reduceMul, Nat.reduceBEq, ↓reduceIte, reduceCtorEq, Int.reduceEq, Int.reduceLT, Int.reduceLE, Int.reduceNeg, Int.reduceAdd, Int.reduceSub, Int.reduceToNat, rws_len, vc_cond, c123, hT, eFr_len]
  refine fun b => ?_
  simp -implicitDefEqProofs only [go_sem, Nat.reduceEqDiff, Nat.reduceLT, Nat.reduceLeDiff, Nat.reduceAdd, Nat.reduceSub, Nat.reduceMul, Nat.reduceBEq, ↓reduceIte, reduceCtorEq, Int.reduceEq, Int.reduceLT, Int.reduceLE, Int.reduceNeg, Int.reduceAdd, Int.reduceSub, Int.reduceToNat, rws_len, vc_condQ, w_guardO, ite_and, ite_or, ite_nor, ite_nand, ite_aor, ite_aand, ite_same, gm_move, gm_assign, gm_pick, gm_bin_t, gm_bin_i, gm_bin_b, gm_bin_s, gm_un, gm_conv, gm_iface, gm_func, gm_extract, gm_field, gm_faddr, gm_iaddr, gm_idx, gm_nilc, gm_len, gm_slice, gm_load, hT, eFr_len, fr_0, fr_1, List.getElem?_drop]
  refine DLe_bool ?_
  rw [Bool.eq_iff_iff]
  simp only [shapedB, Bool.and_eq_true, decide_eq_true_eq, and_assoc]
  constructor
  · rintro ⟨h1, h2, h3, h4⟩
    rw [wrap_i64 (by omega) (by omega)] at h4
    exact ⟨h1, h2, h3, h4⟩
  · rintro ⟨h1, h2, h3, h4⟩
    rw [wrap_i64 (by omega) (by omega)]
    exact ⟨h1, h2, h3, h4⟩
theorem refShape86 (f : Fr) : PCall Try.prog 86 [.agg (eFr f)] (.bool (shapedB f)) := by
  refine F86.pcall' rfl fun T hT => ?_
  simp -implicitDefEqProofs only [go_sem, Nat.reduceEqDiff, Nat.reduceLT, Nat.reduceLeDiff, Nat.reduceAdd, Nat.reduceSub, Nat.reduceMul, Nat.reduceBEq, ↓reduceIte, reduceCtorEq, Int.reduceEq, Int.reduceLT, Int.reduceLE, Int.reduceNeg, Int.reduceAdd, Int.reduceSub, Int.reduceToNat, rws_len, vc_cond, c86, hT, eFr_len]
  refine fun b => ?_
  simp -implicitDefEqProofs only [go_sem, Nat.reduceEqDiff, Nat.reduceLT, Nat.reduceLeDiff, Nat.reduceAdd, Nat.reduceSub, Nat.reduceMul, Nat.reduceBEq, ↓reduceIte, reduceCtorEq, Int.reduceEq, Int.reduceLT, Int.reduceLE, Int.reduceNeg, Int.reduceAdd, Int.reduceSub, Int.reduceToNat, rws_len, vc_condQ, w_guardO, ite_and, ite_or, ite_nor, ite_nand, ite_aor, ite_aand, ite_same, gm_move, gm_assign, gm_pick, gm_bin_t, gm_bin_i, gm_bin_b, gm_bin_s, gm_un, gm_conv, gm_iface, gm_func, gm_extract, gm_field, gm_faddr, gm_iaddr, gm_idx, gm_nilc, gm_len, gm_slice, gm_load, hT, eFr_len, fr_0, fr_1, List.getElem?_drop]
  refine DLe_bool ?_
  rw [Bool.eq_iff_iff]
  simp only [shapedB, Bool.and_eq_true, decide_eq_true_eq, and_assoc]
  constructor
  · rintro ⟨h1, h2, h3, h4, h5⟩
    rw [wrap_i64 (by omega) (by omega)] at h5
    exact ⟨h1, h2, h3, by omega⟩
  · rintro ⟨h1, h2, h3, h4⟩
    rw [wrap_i64 (by omega) (by omega)]
    exact ⟨h1, h2, h3, by omega, by omega⟩

def bareF (f : Fr) : Fr := ⟨f.loc, f.h, Vector.ofFn fun i => if (i.val : Int) < f.loc + f.h then f.sl[i.val] else 0⟩
theorem fr_tail (f : Fr) : (eFr f).drop 2 = f.sl.toList.map eU := rfl

theorem map24 (f : Fr) : List.take 24 (List.map eU f.sl.toList) = List.map eU f.sl.toList := List.take_of_length_le (by simp)
theorem len24 (f : Fr) : (List.map eU f.sl.toList).length = 24 := by simp
theorem bare_list (f : Fr) {k : Nat} (hk : f.loc + f.h = k) (h24 : k ≤ 24) :
    List.take (min 24 (k - 0)) (List.map eU f.sl.toList) ++ List.drop (2 + (List.take (min 24 (k - 0)) (List.map eU f.sl.toList)).length) (D.int .i64 f.loc :: D.int .i64 f.h :: List.replicate 24 (D.int .u8 0)) = List.map eU (bareF f).sl.toList := by
  have h1 : min 24 (k - 0) = k := by omega
  have h2 : (List.take k (List.map eU f.sl.toList)).length = k := by simp; omega
  rw [h1, h2, show 2 + k = k + 1 + 1 by omega, List.drop_succ_cons, List.drop_succ_cons, List.drop_replicate]
  apply List.ext_getElem
  · simp; omega
  · intro i hi hi'
    have hi24 : i < 24 := by simpa using hi'
    by_cases hik : i < k
    · rw [List.getElem_append_left (by rw [h2]; exact hik)]
      simp [bareF, eU, show (i : Int) < f.loc + f.h by omega]
    · rw [List.getElem_append_right (by rw [h2]; omega)]
      simp [bareF, eU, show ¬ (i : Int) < f.loc + f.h by omega]

theorem fr_eq (g : Fr) : eFr g = D.int .i64 g.loc :: D.int .i64 g.h :: List.map eU g.sl.toList := rfl
theorem bare_loc (f : Fr) : (bareF f).loc = f.loc := by unfold bareF; rfl
theorem bare_h (f : Fr) : (bareF f).h = f.h := by unfold bareF; rfl
theorem fr_bare (f : Fr) : (D.int .i64 f.loc :: D.int .i64 f.h :: List.map eU (bareF f).sl.toList) = eFr (bareF f) := by
  rw [fr_eq (bareF f), bare_loc, bare_h]
theorem bare124 (f : Fr) (hs : shapedB f = true) : PCall Try.prog 124 [.agg (eFr f)] (.agg (eFr (bareF f))) := by
  simp only [shapedB, decide_eq_true_eq] at hs
  obtain ⟨k, hk⟩ : ∃ k : Nat, f.loc + f.h = k := ⟨(f.loc + f.h).toNat, by omega⟩
  have hw : IntKind.wrap .i64 (f.loc + f.h) = (k : Int) := by rw [wrap_i64 (by omega) (by omega), hk]
  refine F124.pcall' rfl fun T hT => ?_
  simp -implicitDefEqProofs only [go_sem, Nat.reduceEqDiff, Nat.reduceLT, Nat.reduceLeDiff, Nat.reduceAdd, Nat.reduceSub, Nat.reduceMul, Nat.reduceBEq, ↓reduceIte, reduceCtorEq, Int.reduceEq, Int.reduceLT, Int.reduceLE, Int.reduceNeg, Int.reduceAdd, Int.reduceSub, Int.reduceToNat, rws_len, vc_cond, c124, hT, eFr_len]
  intro b1 b2 n1 n2
  simp -implicitDefEqProofs only [go_sem, Nat.reduceEqDiff, Nat.reduceLT, Nat.reduceLeDiff, Nat.reduceAdd, Nat.reduceSub, Nat.reduceMul, Nat.reduceBEq, ↓reduceIte, reduceCtorEq, Int.reduceEq, Int.reduceLT, Int.reduceLE, Int.reduceNeg, Int.reduceAdd, Int.reduceSub, Int.reduceToNat, rws_len, vc_cond, hT, eFr_len, fr_0, fr_1, List.getElem?_drop, n1, n2]
  intro b3 m1 m2 m3 m4
  have key := bare_list f hk (by omega)
  simp only [List.replicate_succ, List.replicate_zero] at key
  simp -implicitDefEqProofs only [go_sem, Nat.reduceEqDiff, Nat.reduceLT, Nat.reduceLeDiff, Nat.reduceAdd, Nat.reduceSub, Nat.reduceMul, Nat.reduceBEq, ↓reduceIte, reduceCtorEq, Int.reduceEq, Int.reduceLT, Int.reduceLE, Int.reduceNeg, Int.reduceAdd, Int.reduceSub, Int.reduceToNat, rws_len, vc_cond, hT, eFr_len, fr_0, fr_1, List.getElem?_drop, n1, n2, m1, m2, m3, m4, set_set, hw, fr_tail, key, map24, len24]
  refine ⟨by omega, by omega, by omega, by omega, ?_⟩
  rw [fr_bare]
  exact DLe.refl _

theorem fr_idx (f : Fr) {i : Nat} (h : i < 24) : (List.map eU f.sl.toList)[i]? = some (.int .u8 (f.sl[i].val : Int)) := by
  rw [List.getElem?_map, List.getElem?_eq_getElem (by simpa using h)]
  simp [eU]

theorem refBare151 (f : Fr) (hs : shapedB f = true) : PCall Try.prog 151 [.agg (eFr f)] (.agg (eFr (bareF f))) := by
  simp only [shapedB, decide_eq_true_eq] at hs
  obtain ⟨k, hk⟩ : ∃ k : Nat, f.loc + f.h = k := ⟨(f.loc + f.h).toNat, by omega⟩
  have hw : IntKind.wrap .i64 (f.loc + f.h) = (k : Int) := by rw [wrap_i64 (by omega) (by omega), hk]
  refine F151.pcall' rfl fun T hT => ?_
  simp -implicitDefEqProofs only [go_sem, Nat.reduceEqDiff, Nat.reduceLT, Nat.reduceLeDiff, Nat.reduceAdd, Nat.reduceSub, Nat.reduceMul, Nat.reduceBEq, ↓reduceIte, reduceCtorEq, Int.reduceEq, Int.reduceLT, Int.reduceLE, Int.reduceNeg, Int.reduceAdd, Int.reduceSub, Int.reduceToNat, rws_len, vc_cond, c151, hT, eFr_len]
  intro b1 b2 n1 n2
  simp -implicitDefEqProofs only [go_sem, Nat.reduceEqDiff, Nat.reduceLT, Nat.reduceLeDiff, Nat.reduceAdd, Nat.reduceSub, Nat.reduceMul, Nat.reduceBEq, ↓reduceIte, reduceCtorEq, Int.reduceEq, Int.reduceLT, Int.reduceLE, Int.reduceNeg, Int.reduceAdd, Int.reduceSub, Int.reduceToNat, rws_len, vc_cond, hT, eFr_len, fr_0, fr_1, List.getElem?_drop, n1, n2, hw]
  generalize hz : (D.int .i64 0 :: D.int .i64 0 :: _ : List D) = z0
  have hzd : z0.drop 26 = [] := by rw [← hz]; rfl
  have hz26 : z0.length = 26 := by rw [← hz]; rfl
  -- slots from k up to i are cleared
  let g : Nat → Fr := fun i => ⟨f.loc, f.h, Vector.ofFn fun j => if j.val < k ∨ i ≤ j.val then f.sl[j.val] else 0⟩
  have g0 : g k = f := by
    obtain ⟨a, b, c⟩ := f
    simp only [g, Fr.mk.injEq, true_and]
    apply Vector.ext
    intro j hj
    simp only [Vector.getElem_ofFn]
    rw [if_pos (by omega)]
  have gl : g 24 = bareF f := by
    simp only [g, bareF, Fr.mk.injEq, true_and]
    apply Vector.ext
    intro j hj
    simp only [Vector.getElem_ofFn]
    by_cases hjk : j < k
    · rw [if_pos (.inl hjk), if_pos (by omega)]
    · rw [if_neg (by omega), if_neg (by omega)]
  have gs : ∀ i (h24 : i < 24), k ≤ i → (⟨(g i).loc, (g i).h, (g i).sl.set i 0 h24⟩ : Fr) = g (i + 1) := by
    intro i h24 hi
    simp only [g, Fr.mk.injEq, true_and]
    apply Vector.ext
    intro j hj
    simp only [Vector.getElem_set, Vector.getElem_ofFn]
    split
    · rename_i he; subst he; rw [if_neg (by omega)]
    · rename_i he
      by_cases h1 : j < k ∨ i ≤ j
      · rw [if_pos h1, if_pos (by omega)]
      · rw [if_neg h1, if_neg (by omega)]
  clear_value g
  refine loopL F151 (fun i : Nat => [(1, .ptr b1 0), (2, .ptr b2 0), (3, .int .i64 i)]) (fun i => (({} : St).set b1 (eFr (g i))).set b2 z0) (fun i => k ≤ i ∧ i ≤ 24) (fun i => 24 - i) k ⟨Nat.le_refl _, by omega⟩ ?_ (by rw [g0]; exact St.le.refl _) ?_
  · simp -implicitDefEqProofs only [go_sem, Nat.reduceEqDiff, Nat.reduceLT, Nat.reduceLeDiff, Nat.reduceAdd, Nat.reduceSub, Nat.reduceMul, Nat.reduceBEq, ↓reduceIte, reduceCtorEq, Int.reduceEq, Int.reduceLT, Int.reduceLE, Int.reduceNeg, Int.reduceAdd, Int.reduceSub, Int.reduceToNat, rws_len, vc_cond, hT]
  clear hT T
  rintro i ⟨hi, h24⟩ T hT
  by_cases h : i < 24
  · have h1 : ((i : Int) < 24) = True := by simp; omega
    have hset := fr_set (f := g i) (i := i) h (t := 0)
    have h00 : (((0 : Ty).val : Nat) : Int) = 0 := rfl
    rw [gs i h hi, h00] at hset
    simp -implicitDefEqProofs only [go_sem, Nat.reduceEqDiff, Nat.reduceLT, Nat.reduceLeDiff, Nat.reduceAdd, Nat.reduceSub, Nat.reduceMul, Nat.reduceBEq, ↓reduceIte, reduceCtorEq, Int.reduceEq, Int.reduceLT, Int.reduceLE, Int.reduceNeg, Int.reduceAdd, Int.reduceSub, Int.reduceToNat, rws_len, vc_cond, hT, h1, eFr_len, n1, n2, Nat.mul_one, hset]
    refine ⟨by omega, by omega, i + 1, ⟨by omega, by omega⟩, by omega, ?_, ?_⟩
    · rw [wrap_i64 (by omega) (by omega)]; simp
    · rw [Go.AL.set_comm (σ := ({} : St).set b1 (eFr (g i))) (show b2 ≠ b1 from fun e => by simp_all), set_set]
      exact St.le.refl _
  · have h1 : ((i : Int) < 24) = False := by simp; omega
    obtain rfl : i = 24 := by omega
    simp -implicitDefEqProofs only [go_sem, Nat.reduceEqDiff, Nat.reduceLT, Nat.reduceLeDiff, Nat.reduceAdd, Nat.reduceSub, Nat.reduceMul, Nat.reduceBEq, ↓reduceIte, reduceCtorEq, Int.reduceEq, Int.reduceLT, Int.reduceLE, Int.reduceNeg, Int.reduceAdd, Int.reduceSub, Int.reduceToNat, rws_len, vc_cond, hT, h1, eFr_len, n1, n2, eFr_take, eFr_drop, hz26, hzd]
    rw [gl]
    exact DLe.refl _

def checkF (c : Nat) (f : Fr) : Nat := if shapedB f = false ∨ bareF f ≠ f then 32 else if (f.sl.toList.any fun t => !validN c t) = true then 22 else 0

theorem check81 (l : List Cl) (o : Own) (f : Fr) : PCall Try.prog 81 [.slice o (rws eC l), .agg (eFr f)] (.int .i64 (checkF l.length f)) := by
  refine F81.pcall' rfl fun T hT => ?_
  simp -implicitDefEqProofs only [go_sem, Nat.reduceEqDiff, Nat.reduceLT, Nat.reduceLeDiff, Nat.reduceAdd, Nat.reduceSub, Nat.reduceMul, Nat.reduceBEq, ↓reduceIte, reduceCtorEq, Int.reduceEq, Int.reduceLT, Int.reduceLE, Int.reduceNeg, Int.reduceAdd, Int.reduceSub, Int.reduceToNat, rws_len, vc_cond, c81, hT, eFr_len]
  intro b3
  simp -implicitDefEqProofs only [go_sem, Nat.reduceEqDiff, Nat.reduceLT, Nat.reduceLeDiff, Nat.reduceAdd, Nat.reduceSub, Nat.reduceMul, Nat.reduceBEq, ↓reduceIte, reduceCtorEq, Int.reduceEq, Int.reduceLT, Int.reduceLE, Int.reduceNeg, Int.reduceAdd, Int.reduceSub, Int.reduceToNat, rws_len, vc_cond, hT, eFr_len, eFr_take]
  refine ⟨by rintro b rfl; simp, callB_pure (shaped123 f) ?_⟩
  cases hs : shapedB f
  · simp -implicitDefEqProofs only [go_sem, Nat.reduceEqDiff, Nat.reduceLT, Nat.reduceLeDiff, Nat.reduceAdd, Nat.reduceSub, Nat.reduceMul, Nat.reduceBEq, ↓reduceIte, reduceCtorEq, Int.reduceEq, Int.reduceLT, Int.reduceLE, Int.reduceNeg, Int.reduceAdd, Int.reduceSub, Int.reduceToNat, rws_len, vc_cond, hT]
    exact DLe.of_eq (by rw [checkF, if_pos (.inl hs)]; rfl)
  simp -implicitDefEqProofs only [go_sem, Nat.reduceEqDiff, Nat.reduceLT, Nat.reduceLeDiff, Nat.reduceAdd, Nat.reduceSub, Nat.reduceMul, Nat.reduceBEq, ↓reduceIte, reduceCtorEq, Int.reduceEq, Int.reduceLT, Int.reduceLE, Int.reduceNeg, Int.reduceAdd, Int.reduceSub, Int.reduceToNat, rws_len, vc_cond, hT, eFr_len, eFr_take]
  refine callB_pure (bare124 f hs) ?_
  by_cases hb : bareF f = f
  case neg =>
    simp -implicitDefEqProofs only [go_sem, Nat.reduceEqDiff, Nat.reduceLT, Nat.reduceLeDiff, Nat.reduceAdd, Nat.reduceSub, Nat.reduceMul, Nat.reduceBEq, ↓reduceIte, reduceCtorEq, Int.reduceEq, Int.reduceLT, Int.reduceLE, Int.reduceNeg, Int.reduceAdd, Int.reduceSub, Int.reduceToNat, rws_len, vc_cond, hT, eFr_len, eFr_take, eq_fr, hb]
    exact DLe.of_eq (by rw [checkF, if_pos (.inr hb)]; rfl)
  have hc : checkF l.length f = if (f.sl.toList.any fun t => !validN l.length t) = true then 22 else 0 := by
    rw [checkF, if_neg (by simp [hs, hb])]
  rw [hc, hb]
  have hl24 : f.sl.toList.length = 24 := by simp
  have hl24' : f.sl.size = 24 := by simp
  simp -implicitDefEqProofs only [go_sem, Nat.reduceEqDiff, Nat.reduceLT, Nat.reduceLeDiff, Nat.reduceAdd, Nat.reduceSub, Nat.reduceMul, Nat.reduceBEq, ↓reduceIte, reduceCtorEq, Int.reduceEq, Int.reduceLT, Int.reduceLE, Int.reduceNeg, Int.reduceAdd, Int.reduceSub, Int.reduceToNat, rws_len, vc_cond, hT, eFr_len, eFr_take, eq_fr, decide_true, fr_tail, map24, hl24, len24, Nat.le_refl, List.length_map, Vector.length_toList]
  refine loopL F81 (fun i : Nat => [(0, .slice o (rws eC l)), (17, .agg (List.map eU f.sl.toList)), (18, .int .i64 i)]) (fun _ => {}) (fun i => i ≤ 24 ∧ ((f.sl.toList.take i).any fun t => !validN l.length t) = false) (fun i => 24 - i) 0 ⟨by omega, rfl⟩ ?_ (St.le.nil _) ?_
  · simp -implicitDefEqProofs only [go_sem, Nat.reduceEqDiff, Nat.reduceLT, Nat.reduceLeDiff, Nat.reduceAdd, Nat.reduceSub, Nat.reduceMul, Nat.reduceBEq, ↓reduceIte, reduceCtorEq, Int.reduceEq, Int.reduceLT, Int.reduceLE, Int.reduceNeg, Int.reduceAdd, Int.reduceSub, Int.reduceToNat, rws_len, vc_cond, hT, Int.ofNat_zero]
  clear hT T
  rintro i ⟨hi, hok⟩ T hT
  by_cases h : i < 24
  · have h1 : ((i : Int) < 24) = True := by simp; omega
    have hx := fr_idx f h
    have hl : i < f.sl.toList.length := by simpa using h
    have htake : f.sl.toList.take (i + 1) = f.sl.toList.take i ++ [f.sl[i]] := by rw [List.take_succ_eq_append_getElem hl]; simp
    have hin : f.sl[i] ∈ f.sl.toList := by simp
    generalize f.sl[i] = t at *
    simp -implicitDefEqProofs only [go_sem, Nat.reduceEqDiff, Nat.reduceLT, Nat.reduceLeDiff, Nat.reduceAdd, Nat.reduceSub, Nat.reduceMul, Nat.reduceBEq, ↓reduceIte, reduceCtorEq, Int.reduceEq, Int.reduceLT, Int.reduceLE, Int.reduceNeg, Int.reduceAdd, Int.reduceSub, Int.reduceToNat, rws_len, vc_cond, hT, h1, hx, Nat.mul_one]
    refine ⟨by omega, callB_pure (valid105 l o t) ?_⟩
    cases hv : validN l.length t
    · simp -implicitDefEqProofs only [go_sem, Nat.reduceEqDiff, Nat.reduceLT, Nat.reduceLeDiff, Nat.reduceAdd, Nat.reduceSub, Nat.reduceMul, Nat.reduceBEq, ↓reduceIte, reduceCtorEq, Int.reduceEq, Int.reduceLT, Int.reduceLE, Int.reduceNeg, Int.reduceAdd, Int.reduceSub, Int.reduceToNat, rws_len, vc_cond, hT]
      rw [if_pos (List.any_eq_true.2 ⟨t, hin, by simp [hv]⟩)]
      exact DLe.of_eq rfl
    · simp -implicitDefEqProofs only [go_sem, Nat.reduceEqDiff, Nat.reduceLT, Nat.reduceLeDiff, Nat.reduceAdd, Nat.reduceSub, Nat.reduceMul, Nat.reduceBEq, ↓reduceIte, reduceCtorEq, Int.reduceEq, Int.reduceLT, Int.reduceLE, Int.reduceNeg, Int.reduceAdd, Int.reduceSub, Int.reduceToNat, rws_len, vc_cond, hT]
      refine ⟨i + 1, ⟨by omega, by rw [htake, List.any_append, hok]; simp [hv]⟩, by omega, ?_, St.le.refl _⟩
      rw [wrap_i64 (by omega) (by omega)]; simp
  · have h1 : ((i : Int) < 24) = False := by simp; omega
    rw [List.take_of_length_le (by simp; omega)] at hok
    simp -implicitDefEqProofs only [go_sem, Nat.reduceEqDiff, Nat.reduceLT, Nat.reduceLeDiff, Nat.reduceAdd, Nat.reduceSub, Nat.reduceMul, Nat.reduceBEq, ↓reduceIte, reduceCtorEq, Int.reduceEq, Int.reduceLT, Int.reduceLE, Int.reduceNeg, Int.reduceAdd, Int.reduceSub, Int.reduceToNat, rws_len, vc_cond, hT, h1]
    rw [if_neg (by simp [hok])]
    exact DLe.of_eq rfl
end Go.AL
namespace Go.AL
open Go.Proofs
set_option linter.unusedSimpArgs false
set_option linter.unusedVariables false
set_option maxRecDepth 100000

def isRefB (t : Ty) : Bool := decide (t.val = 3 ∨ t.val = 4 ∨ t.val = 5 ∨ 16 ≤ t.val)
theorem isRef163 (t : Ty) : PCall Try.prog 163 [.int .u8 t.val] (.bool (isRefB t)) := by
  refine F163.pcall' rfl fun T hT => ?_
  simp -implicitDefEqProofs only [go_sem, Nat.reduceEqDiff, Nat.reduceLT, Nat.reduceLeDiff, Nat.reduceAdd, Nat.reduceSub, Nat.reduceMul, Nat.reduceBEq, ↓reduceIte, reduceCtorEq, Int.reduceEq, Int.reduceLT, Int.reduceLE, Int.reduceNeg, Int.reduceAdd, Int.reduceSub, Int.reduceToNat, rws_len, vc_condQ, w_guardO, ite_and, ite_or, ite_nor, ite_nand, ite_aor, ite_aand, ite_same, gm_move, gm_assign, gm_pick, gm_bin_t, gm_bin_i, gm_bin_b, gm_bin_s, gm_un, gm_conv, gm_iface, gm_func, gm_extract, gm_field, gm_faddr, gm_iaddr, gm_idx, gm_nilc, gm_len, gm_slice, gm_load, c163, hT]
  exact DLe_bool (by rw [Bool.eq_iff_iff]; simp [isRefB]; omega)
theorem refIsRef120 (t : Ty) : PCall Try.prog 120 [.int .u8 t.val] (.bool (isRefB t)) := by
  refine F120.pcall' rfl fun T hT => ?_
  simp -implicitDefEqProofs only [go_sem, Nat.reduceEqDiff, Nat.reduceLT, Nat.reduceLeDiff, Nat.reduceAdd, Nat.reduceSub, Nat.reduceMul, Nat.reduceBEq, ↓reduceIte, reduceCtorEq, Int.reduceEq, Int.reduceLT, Int.reduceLE, Int.reduceNeg, Int.reduceAdd, Int.reduceSub, Int.reduceToNat, rws_len, vc_condQ, w_guardO, ite_and, ite_or, ite_nor, ite_nand, ite_aor, ite_aand, ite_same, gm_move, gm_assign, gm_pick, gm_bin_t, gm_bin_i, gm_bin_b, gm_bin_s, gm_un, gm_conv, gm_iface, gm_func, gm_extract, gm_field, gm_faddr, gm_iaddr, gm_idx, gm_nilc, gm_len, gm_slice, gm_load, c120, hT]
  exact DLe_bool (by rw [Bool.eq_iff_iff]; simp [isRefB]; omega)

def abB (b5 b7 : Nat) (y : Int) (a : Bool) : St := (({} : St).set b5 [.int .i64 y]).set b7 [.bool a]
theorem above205 (b5 b7 : Nat) (hne : b5 ≠ b7) (y : Int) (a : Bool) (c : Nat) :
    RCall Try.prog 205 [.int .i64 c, .ptr b5 0, .ptr b7 0] (abB b5 b7 y a) fun d s' => d = .bool (!decide ((c : Int) = y)) ∧ s' = abB b5 b7 y (decide ((c : Int) = y)) := by
  have h1 : ¬ b5 = b7 := hne
  have h2 : ¬ b7 = b5 := fun e => hne e.symm
  refine F205.rcall rfl fun T hT => ?_
  simp -implicitDefEqProofs only [go_sem, Nat.reduceEqDiff, Nat.reduceLT, Nat.reduceLeDiff, Nat.reduceAdd, Nat.reduceSub, Nat.reduceMul, Nat.reduceBEq, ↓reduceIte, reduceCtorEq, Int.reduceEq, Int.reduceLT, Int.reduceLE, Int.reduceNeg, Int.reduceAdd, Int.reduceSub, Int.reduceToNat, rws_len, vc_cond, c205, hT, abB, h1, h2, set_set]
  exact ⟨_, _, DLe.refl _, St.le.refl _, rfl, rfl⟩
def abStep (y : Int) (a : Bool) (c : Nat) (b : Bool) (a' : Bool) : Prop := a' = decide ((c : Int) = y) ∧ b = !a'
theorem ab_runs {y : Int} : ∀ {L : List Nat} {a a' : Bool}, Runs (abStep y) L a a' → a' = if L = [] then a else L.any fun c => decide ((c : Int) = y)
  | [], a, a', h => by simp only [Runs] at h; simp [h]
  | c :: L, a, a'', ⟨b, a', ⟨h1, h2⟩, h⟩ => by
    simp only [List.any_cons, reduceCtorEq, if_false]
    cases hc : decide ((c : Int) = y)
    · rw [hc] at h1
      subst h1; subst h2
      simp only [Bool.not_false, if_true] at h
      rw [ab_runs h]
      cases L <;> simp
    · rw [hc] at h1
      subst h1; subst h2
      simp only [Bool.not_true, Bool.false_eq_true, if_false] at h
      rw [h]; rfl
theorem above190 (l : List Cl) (o : Own) (c y : Int) (hl : l.length ≤ 140737488355328) : PCall Try.prog 190 [.slice o (rws eC l), .int .i64 c, .int .i64 y] (.bool ((upI l c).any fun k => decide ((k : Int) = y))) := by
  refine F190.pcall' rfl fun T hT => ?_
  simp -implicitDefEqProofs only [go_sem, Nat.reduceEqDiff, Nat.reduceLT, Nat.reduceLeDiff, Nat.reduceAdd, Nat.reduceSub, Nat.reduceMul, Nat.reduceBEq, ↓reduceIte, reduceCtorEq, Int.reduceEq, Int.reduceLT, Int.reduceLE, Int.reduceNeg, Int.reduceAdd, Int.reduceSub, Int.reduceToNat, rws_len, vc_cond, c190, hT]
  intro b5 b7 n1 n2
  simp -implicitDefEqProofs only [go_sem, Nat.reduceEqDiff, Nat.reduceLT, Nat.reduceLeDiff, Nat.reduceAdd, Nat.reduceSub, Nat.reduceMul, Nat.reduceBEq, ↓reduceIte, reduceCtorEq, Int.reduceEq, Int.reduceLT, Int.reduceLE, Int.reduceNeg, Int.reduceAdd, Int.reduceSub, Int.reduceToNat, rws_len, vc_cond, hT, n1, n2, set_set]
  refine callB_all (σ := abB b5 b7 y false) (climb144' l o 205 [] [.ptr b5 0, .ptr b7 0] (abB b5 b7 y) (abStep y) (fun _ _ => True) hl ?_ false c trivial) ?_
  · rintro a n rest hn _
    refine (above205 b5 b7 n2 y a n).mono ?_
    rintro d s' ⟨rfl, rfl⟩
    exact ⟨_, _, rfl, rfl, ⟨rfl, rfl⟩, trivial⟩
  rintro d s' ⟨rfl, a', r, rfl, hruns, _⟩
  have ha := ab_runs hruns
  simp -implicitDefEqProofs only [go_sem, Nat.reduceEqDiff, Nat.reduceLT, Nat.reduceLeDiff, Nat.reduceAdd, Nat.reduceSub, Nat.reduceMul, Nat.reduceBEq, ↓reduceIte, reduceCtorEq, Int.reduceEq, Int.reduceLT, Int.reduceLE, Int.reduceNeg, Int.reduceAdd, Int.reduceSub, Int.reduceToNat, rws_len, vc_cond, hT, abB, n1, n2]
  refine DLe_bool ?_
  rw [ha]
  cases upI l c <;> simp

/-- A type's values are all of another one. -/
def subB (l : List Cl) (a b : Ty) : Bool :=
  if validN l.length a = false ∨ validN l.length b = false then false
  else if a = b ∨ b.val = 0 then true
  else if a.val = 3 ∨ b.val = 5 then isRefB a && isRefB b
  else decide (16 ≤ a.val ∧ 16 ≤ b.val) && (upI l ((a.val : Int) - 16)).any fun k => decide ((k : Int) = (b.val : Int) - 16)
theorem clsOf_val {n : Nat} {t : Ty} (h : validN n t = true) (h16 : 16 ≤ t.val) : clsOf n t = (t.val : Int) - 16 := by
  simp only [validN, decide_eq_true_eq] at h
  rw [clsOf, if_pos (by omega)]
theorem clsOf_no {n : Nat} {t : Ty} (h16 : ¬ 16 ≤ t.val) : clsOf n t = -1 := by rw [clsOf, if_neg (by omega)]

theorem sub164 (l : List Cl) (o : Own) (a b : Ty) (hl : l.length ≤ 140737488355328) : PCall Try.prog 164 [.slice o (rws eC l), .int .u8 a.val, .int .u8 b.val] (.bool (subB l a b)) := by
  refine F164.pcall' rfl fun T hT => ?_
  simp -implicitDefEqProofs only [go_sem, Nat.reduceEqDiff, Nat.reduceLT, Nat.reduceLeDiff, Nat.reduceAdd, Nat.reduceSub, Nat.reduceMul, Nat.reduceBEq, ↓reduceIte, reduceCtorEq, Int.reduceEq, Int.reduceLT, Int.reduceLE, Int.reduceNeg, Int.reduceAdd, Int.reduceSub, Int.reduceToNat, rws_len, vc_cond, c164, hT]
  refine callB_pure (valid105 l o a) ?_
  cases hva : validN l.length a
  · simp -implicitDefEqProofs only [go_sem, Nat.reduceEqDiff, Nat.reduceLT, Nat.reduceLeDiff, Nat.reduceAdd, Nat.reduceSub, Nat.reduceMul, Nat.reduceBEq, ↓reduceIte, reduceCtorEq, Int.reduceEq, Int.reduceLT, Int.reduceLE, Int.reduceNeg, Int.reduceAdd, Int.reduceSub, Int.reduceToNat, rws_len, vc_cond, hT]
    exact DLe_bool (by simp [subB, hva])
  simp -implicitDefEqProofs only [go_sem, Nat.reduceEqDiff, Nat.reduceLT, Nat.reduceLeDiff, Nat.reduceAdd, Nat.reduceSub, Nat.reduceMul, Nat.reduceBEq, ↓reduceIte, reduceCtorEq, Int.reduceEq, Int.reduceLT, Int.reduceLE, Int.reduceNeg, Int.reduceAdd, Int.reduceSub, Int.reduceToNat, rws_len, vc_cond, hT]
  refine callB_pure (valid105 l o b) ?_
  cases hvb : validN l.length b
  · simp -implicitDefEqProofs only [go_sem, Nat.reduceEqDiff, Nat.reduceLT, Nat.reduceLeDiff, Nat.reduceAdd, Nat.reduceSub, Nat.reduceMul, Nat.reduceBEq, ↓reduceIte, reduceCtorEq, Int.reduceEq, Int.reduceLT, Int.reduceLE, Int.reduceNeg, Int.reduceAdd, Int.reduceSub, Int.reduceToNat, rws_len, vc_cond, hT]
    exact DLe_bool (by simp [subB, hvb])
  by_cases e1 : (a.val : Int) = b.val ∨ (b.val : Int) = 0
  · have hq : (decide ((a.val : Int) = b.val) || decide ((b.val : Int) = 0)) = true := by simpa using e1
    simp -implicitDefEqProofs only [go_sem, Nat.reduceEqDiff, Nat.reduceLT, Nat.reduceLeDiff, Nat.reduceAdd, Nat.reduceSub, Nat.reduceMul, Nat.reduceBEq, ↓reduceIte, reduceCtorEq, Int.reduceEq, Int.reduceLT, Int.reduceLE, Int.reduceNeg, Int.reduceAdd, Int.reduceSub, Int.reduceToNat, rws_len, vc_condQ, w_guardO, ite_and, ite_or, ite_nor, ite_nand, ite_aor, ite_aand, ite_same, gm_move, gm_assign, gm_pick, gm_bin_t, gm_bin_i, gm_bin_b, gm_bin_s, gm_un, gm_conv, gm_iface, gm_func, gm_extract, gm_field, gm_faddr, gm_iaddr, gm_idx, gm_nilc, gm_len, gm_slice, gm_load, hT, hq]
    exact DLe_bool (by rw [subB, if_neg (by simp [hva, hvb]), if_pos (by rw [Fin.ext_iff]; omega)])
  have hq : (decide ((a.val : Int) = b.val) || decide ((b.val : Int) = 0)) = false := by simpa using e1
  have s1 : subB l a b = if a.val = 3 ∨ b.val = 5 then isRefB a && isRefB b else decide (16 ≤ a.val ∧ 16 ≤ b.val) && (upI l ((a.val : Int) - 16)).any fun k => decide ((k : Int) = (b.val : Int) - 16) := by
    rw [subB, if_neg (by simp [hva, hvb]), if_neg (by rw [Fin.ext_iff]; omega)]
  by_cases e2 : (a.val : Int) = 3 ∨ (b.val : Int) = 5
  · have hq2 : (decide ((a.val : Int) = 3) || decide ((b.val : Int) = 5)) = true := by simpa using e2
    rw [s1, if_pos (by omega)]
    simp -implicitDefEqProofs only [go_sem, Nat.reduceEqDiff, Nat.reduceLT, Nat.reduceLeDiff, Nat.reduceAdd, Nat.reduceSub, Nat.reduceMul, Nat.reduceBEq, ↓reduceIte, reduceCtorEq, Int.reduceEq, Int.reduceLT, Int.reduceLE, Int.reduceNeg, Int.reduceAdd, Int.reduceSub, Int.reduceToNat, rws_len, vc_condQ, w_guardO, ite_and, ite_or, ite_nor, ite_nand, ite_aor, ite_aand, ite_same, gm_move, gm_assign, gm_pick, gm_bin_t, gm_bin_i, gm_bin_b, gm_bin_s, gm_un, gm_conv, gm_iface, gm_func, gm_extract, gm_field, gm_faddr, gm_iaddr, gm_idx, gm_nilc, gm_len, gm_slice, gm_load, hT, hq, hq2]
    refine callB_pure (isRef163 a) ?_
    cases hr : isRefB a
    · simp -implicitDefEqProofs only [go_sem, Nat.reduceEqDiff, Nat.reduceLT, Nat.reduceLeDiff, Nat.reduceAdd, Nat.reduceSub, Nat.reduceMul, Nat.reduceBEq, ↓reduceIte, reduceCtorEq, Int.reduceEq, Int.reduceLT, Int.reduceLE, Int.reduceNeg, Int.reduceAdd, Int.reduceSub, Int.reduceToNat, rws_len, vc_cond, hT]
      exact DLe_bool (by simp)
    · simp -implicitDefEqProofs only [go_sem, Nat.reduceEqDiff, Nat.reduceLT, Nat.reduceLeDiff, Nat.reduceAdd, Nat.reduceSub, Nat.reduceMul, Nat.reduceBEq, ↓reduceIte, reduceCtorEq, Int.reduceEq, Int.reduceLT, Int.reduceLE, Int.reduceNeg, Int.reduceAdd, Int.reduceSub, Int.reduceToNat, rws_len, vc_cond, hT]
      refine callB_pure (isRef163 b) ?_
      simp -implicitDefEqProofs only [go_sem, Nat.reduceEqDiff, Nat.reduceLT, Nat.reduceLeDiff, Nat.reduceAdd, Nat.reduceSub, Nat.reduceMul, Nat.reduceBEq, ↓reduceIte, reduceCtorEq, Int.reduceEq, Int.reduceLT, Int.reduceLE, Int.reduceNeg, Int.reduceAdd, Int.reduceSub, Int.reduceToNat, rws_len, vc_cond, hT]
      exact DLe_bool (by simp)
  have hq2 : (decide ((a.val : Int) = 3) || decide ((b.val : Int) = 5)) = false := by simpa using e2
  rw [s1, if_neg (by omega)]
  simp -implicitDefEqProofs only [go_sem, Nat.reduceEqDiff, Nat.reduceLT, Nat.reduceLeDiff, Nat.reduceAdd, Nat.reduceSub, Nat.reduceMul, Nat.reduceBEq, ↓reduceIte, reduceCtorEq, Int.reduceEq, Int.reduceLT, Int.reduceLE, Int.reduceNeg, Int.reduceAdd, Int.reduceSub, Int.reduceToNat, rws_len, vc_condQ, w_guardO, ite_and, ite_or, ite_nor, ite_nand, ite_aor, ite_aand, ite_same, gm_move, gm_assign, gm_pick, gm_bin_t, gm_bin_i, gm_bin_b, gm_bin_s, gm_un, gm_conv, gm_iface, gm_func, gm_extract, gm_field, gm_faddr, gm_iaddr, gm_idx, gm_nilc, gm_len, gm_slice, gm_load, hT, hq, hq2]
  refine callB_pure (class147 l o a) ?_
  simp -implicitDefEqProofs only [go_sem, Nat.reduceEqDiff, Nat.reduceLT, Nat.reduceLeDiff, Nat.reduceAdd, Nat.reduceSub, Nat.reduceMul, Nat.reduceBEq, ↓reduceIte, reduceCtorEq, Int.reduceEq, Int.reduceLT, Int.reduceLE, Int.reduceNeg, Int.reduceAdd, Int.reduceSub, Int.reduceToNat, rws_len, vc_condQ, w_guardO, ite_and, ite_or, ite_nor, ite_nand, ite_aor, ite_aand, ite_same, gm_move, gm_assign, gm_pick, gm_bin_t, gm_bin_i, gm_bin_b, gm_bin_s, gm_un, gm_conv, gm_iface, gm_func, gm_extract, gm_field, gm_faddr, gm_iaddr, gm_idx, gm_nilc, gm_len, gm_slice, gm_load, hT]
  refine callB_pure (class147 l o b) ?_
  by_cases h16 : 16 ≤ a.val ∧ 16 ≤ b.val
  · have ca := clsOf_val hva h16.1
    have cb := clsOf_val hvb h16.2
    have g1 : ((0 : Int) ≤ (a.val : Int) - 16) = True := by simp; omega
    have g2 : ((0 : Int) ≤ (b.val : Int) - 16) = True := by simp; omega
    simp -implicitDefEqProofs only [go_sem, Nat.reduceEqDiff, Nat.reduceLT, Nat.reduceLeDiff, Nat.reduceAdd, Nat.reduceSub, Nat.reduceMul, Nat.reduceBEq, ↓reduceIte, reduceCtorEq, Int.reduceEq, Int.reduceLT, Int.reduceLE, Int.reduceNeg, Int.reduceAdd, Int.reduceSub, Int.reduceToNat, rws_len, vc_cond, hT, ca, cb, g1, g2]
    refine callB_pure (above190 l o _ _ hl) ?_
    simp -implicitDefEqProofs only [go_sem, Nat.reduceEqDiff, Nat.reduceLT, Nat.reduceLeDiff, Nat.reduceAdd, Nat.reduceSub, Nat.reduceMul, Nat.reduceBEq, ↓reduceIte, reduceCtorEq, Int.reduceEq, Int.reduceLT, Int.reduceLE, Int.reduceNeg, Int.reduceAdd, Int.reduceSub, Int.reduceToNat, rws_len, vc_cond, hT]
    exact DLe_bool (by simp [h16])
  · by_cases ha16 : 16 ≤ a.val
    · have ca := clsOf_val hva ha16
      have cb := clsOf_no (n := l.length) (show ¬ 16 ≤ b.val by omega)
      have g1 : ((0 : Int) ≤ (a.val : Int) - 16) = True := by simp; omega
      simp -implicitDefEqProofs only [go_sem, Nat.reduceEqDiff, Nat.reduceLT, Nat.reduceLeDiff, Nat.reduceAdd, Nat.reduceSub, Nat.reduceMul, Nat.reduceBEq, ↓reduceIte, reduceCtorEq, Int.reduceEq, Int.reduceLT, Int.reduceLE, Int.reduceNeg, Int.reduceAdd, Int.reduceSub, Int.reduceToNat, rws_len, vc_cond, hT, ca, cb, g1]
      exact DLe_bool (by rw [decide_eq_false h16]; rfl)
    · have ca := clsOf_no (n := l.length) ha16
      simp -implicitDefEqProofs only [go_sem, Nat.reduceEqDiff, Nat.reduceLT, Nat.reduceLeDiff, Nat.reduceAdd, Nat.reduceSub, Nat.reduceMul, Nat.reduceBEq, ↓reduceIte, reduceCtorEq, Int.reduceEq, Int.reduceLT, Int.reduceLE, Int.reduceNeg, Int.reduceAdd, Int.reduceSub, Int.reduceToNat, rws_len, vc_cond, hT, ca]
      exact DLe_bool (by rw [decide_eq_false h16]; rfl)
end Go.AL
namespace Go.AL
open Go.Proofs
set_option linter.unusedSimpArgs false
set_option linter.unusedVariables false
set_option maxRecDepth 100000
set_option maxHeartbeats 400000

@[irreducible] def zFr : List D := [D.int .i64 0, D.int .i64 0, D.int .u8 0, D.int .u8 0, D.int .u8 0, D.int .u8 0, D.int .u8 0, D.int .u8 0, D.int .u8 0, D.int .u8 0, D.int .u8 0, D.int .u8 0, D.int .u8 0, D.int .u8 0, D.int .u8 0, D.int .u8 0, D.int .u8 0, D.int .u8 0, D.int .u8 0, D.int .u8 0, D.int .u8 0, D.int .u8 0, D.int .u8 0, D.int .u8 0, D.int .u8 0, D.int .u8 0]
theorem fr_zero : [D.int .i64 0, D.int .i64 0, D.int .u8 0, D.int .u8 0, D.int .u8 0, D.int .u8 0, D.int .u8 0, D.int .u8 0, D.int .u8 0, D.int .u8 0, D.int .u8 0, D.int .u8 0, D.int .u8 0, D.int .u8 0, D.int .u8 0, D.int .u8 0, D.int .u8 0, D.int .u8 0, D.int .u8 0, D.int .u8 0, D.int .u8 0, D.int .u8 0, D.int .u8 0, D.int .u8 0, D.int .u8 0, D.int .u8 0] = zFr := by rw [zFr]
theorem fr_fr0 : eFr (fr0 0) = zFr := by rw [zFr]; rfl
theorem zFr_len : zFr.length = 26 := by rw [zFr]; rfl
theorem zFr_take : zFr.take 26 = zFr := by rw [zFr]; rfl
theorem zFr_drop : zFr.drop 26 = [] := by rw [zFr]; rfl
def slAt (f : Fr) (i : Nat) : Ty := (f.sl.toList[i]?).getD 0
theorem slAt_lt (f : Fr) {i : Nat} (h : i < 24) : slAt f i = f.sl[i] := by
  rw [slAt, List.getElem?_eq_getElem (by simpa using h)]
  simp
theorem fr_slAt (f : Fr) {i : Nat} (h : i < 24) : (eFr f)[2 + i]? = some (.int .u8 ((slAt f i).val : Int)) := by rw [fr_at f i h, slAt_lt f h]
theorem shaped_of {f : Fr} (h : shapedB f = true) : 0 ≤ f.loc ∧ f.loc ≤ 16 ∧ 0 ≤ f.h ∧ f.loc + f.h ≤ 24 := by
  simp only [shapedB, decide_eq_true_eq] at h
  omega

theorem top127 (f : Fr) (hs : shapedB f = true) (n : Nat) (hn : (n : Int) < f.h) : PCall Try.prog 127 [.agg (eFr f), .int .i64 n] (.tup [.int .u8 (slAt f (f.loc + f.h - 1 - n).toNat).val, .int .i64 0]) := by
  obtain ⟨s1, s2, s3, s4⟩ := shaped_of hs
  have w1 : IntKind.wrap .i64 (f.loc + f.h) = f.loc + f.h := wrap_i64 (by omega) (by omega)
  have w2 : IntKind.wrap .i64 (f.loc + f.h - 1) = f.loc + f.h - 1 := wrap_i64 (by omega) (by omega)
  have w3 : IntKind.wrap .i64 (f.loc + f.h - 1 - n) = f.loc + f.h - 1 - n := wrap_i64 (by omega) (by omega)
  have g1 : ((n : Int) < 0) = False := by simp
  have g2 : (f.h ≤ (n : Int)) = False := by simp; omega
  have hx := fr_slAt f (show (f.loc + f.h - 1 - n).toNat < 24 by omega)
  refine F127.pcall' rfl fun T hT => ?_
  simp -implicitDefEqProofs only [go_sem, Nat.reduceEqDiff, Nat.reduceLT, Nat.reduceLeDiff, Nat.reduceAdd, Nat.reduceSub, Nat.reduceMul, Nat.reduceBEq, ↓reduceIte, reduceCtorEq, Int.reduceEq, Int.reduceLT, Int.reduceLE, Int.reduceNeg, Int.reduceAdd, Int.reduceSub, Int.reduceToNat, rws_len, vc_cond, fr_zero, zFr_len, zFr_take, zFr_drop, c127, hT, eFr_len]
  intro b1
  simp -implicitDefEqProofs only [go_sem, Nat.reduceEqDiff, Nat.reduceLT, Nat.reduceLeDiff, Nat.reduceAdd, Nat.reduceSub, Nat.reduceMul, Nat.reduceBEq, ↓reduceIte, reduceCtorEq, Int.reduceEq, Int.reduceLT, Int.reduceLE, Int.reduceNeg, Int.reduceAdd, Int.reduceSub, Int.reduceToNat, rws_len, vc_cond, fr_zero, zFr_len, zFr_take, zFr_drop, hT, eFr_len, eFr_take]
  refine callB_pure (shaped123 f) ?_
  simp -implicitDefEqProofs only [go_sem, Nat.reduceEqDiff, Nat.reduceLT, Nat.reduceLeDiff, Nat.reduceAdd, Nat.reduceSub, Nat.reduceMul, Nat.reduceBEq, ↓reduceIte, reduceCtorEq, Int.reduceEq, Int.reduceLT, Int.reduceLE, Int.reduceNeg, Int.reduceAdd, Int.reduceSub, Int.reduceToNat, rws_len, vc_cond, fr_zero, zFr_len, zFr_take, zFr_drop, hT, hs, eFr_len, fr_0, fr_1, List.getElem?_drop, g1, g2, w1, w2, w3, hx, Nat.mul_one]
  omega

theorem load84 (f : Fr) (hs : shapedB f = true) (a : Int) (h0 : 0 ≤ a) (h1 : a < f.loc) : PCall Try.prog 84 [.agg (eFr f), .int .i64 a] (.tup [.int .u8 (slAt f a.toNat).val, .int .i64 0]) := by
  obtain ⟨s1, s2, s3, s4⟩ := shaped_of hs
  have g1 : (decide (a < 0) || decide (f.loc ≤ a)) = false := by simp; omega
  have hx := fr_slAt f (show a.toNat < 24 by omega)
  refine F84.pcall' rfl fun T hT => ?_
  simp -implicitDefEqProofs only [go_sem, Nat.reduceEqDiff, Nat.reduceLT, Nat.reduceLeDiff, Nat.reduceAdd, Nat.reduceSub, Nat.reduceMul, Nat.reduceBEq, ↓reduceIte, reduceCtorEq, Int.reduceEq, Int.reduceLT, Int.reduceLE, Int.reduceNeg, Int.reduceAdd, Int.reduceSub, Int.reduceToNat, rws_len, vc_cond, fr_zero, zFr_len, zFr_take, zFr_drop, c84, hT, eFr_len]
  intro b1
  simp -implicitDefEqProofs only [go_sem, Nat.reduceEqDiff, Nat.reduceLT, Nat.reduceLeDiff, Nat.reduceAdd, Nat.reduceSub, Nat.reduceMul, Nat.reduceBEq, ↓reduceIte, reduceCtorEq, Int.reduceEq, Int.reduceLT, Int.reduceLE, Int.reduceNeg, Int.reduceAdd, Int.reduceSub, Int.reduceToNat, rws_len, vc_cond, fr_zero, zFr_len, zFr_take, zFr_drop, hT, eFr_len, eFr_take]
  refine callB_pure (shaped123 f) ?_
  simp -implicitDefEqProofs only [go_sem, Nat.reduceEqDiff, Nat.reduceLT, Nat.reduceLeDiff, Nat.reduceAdd, Nat.reduceSub, Nat.reduceMul, Nat.reduceBEq, ↓reduceIte, reduceCtorEq, Int.reduceEq, Int.reduceLT, Int.reduceLE, Int.reduceNeg, Int.reduceAdd, Int.reduceSub, Int.reduceToNat, rws_len, vc_condQ, w_guardO, ite_and, ite_or, ite_nor, ite_nand, ite_aor, ite_aand, ite_same, gm_move, gm_assign, gm_pick, gm_bin_t, gm_bin_i, gm_bin_b, gm_bin_s, gm_un, gm_conv, gm_iface, gm_func, gm_extract, gm_field, gm_faddr, gm_iaddr, gm_idx, gm_nilc, gm_len, gm_slice, gm_load, fr_zero, zFr_len, zFr_take, zFr_drop, hT, hs, eFr_len, fr_0, fr_1, List.getElem?_drop, g1, hx, Nat.mul_one]
  omega

def popF (f : Fr) : Fr := bareF ⟨f.loc, f.h - 1, f.sl⟩
def topF (f : Fr) : Ty := slAt f (f.loc + f.h - 1).toNat
theorem fr_h (f : Fr) (n : Int) : List.take 1 (eFr f) ++ [D.int .i64 n] ++ List.drop 2 (eFr f) = eFr ⟨f.loc, n, f.sl⟩ := rfl
theorem pop_shape {f : Fr} (hs : shapedB f = true) (h0 : 0 < f.h) : shapedB ⟨f.loc, f.h - 1, f.sl⟩ = true := by
  have := shaped_of hs
  simp only [shapedB, decide_eq_true_eq]; omega

theorem pop129 (f : Fr) (hs : shapedB f = true) (h0 : 0 < f.h) : PCall Try.prog 129 [.agg (eFr f)] (.tup [.agg (eFr (popF f)), .int .u8 (topF f).val, .int .i64 0]) := by
  obtain ⟨s1, s2, s3, s4⟩ := shaped_of hs
  have w1 : IntKind.wrap .i64 (f.h - 1) = f.h - 1 := wrap_i64 (by omega) (by omega)
  have ht := top127 f hs 0 (by simpa using h0)
  rw [show f.loc + f.h - 1 - ((0 : Nat) : Int) = f.loc + f.h - 1 by omega] at ht
  refine F129.pcall' rfl fun T hT => ?_
  simp -implicitDefEqProofs only [go_sem, Nat.reduceEqDiff, Nat.reduceLT, Nat.reduceLeDiff, Nat.reduceAdd, Nat.reduceSub, Nat.reduceMul, Nat.reduceBEq, ↓reduceIte, reduceCtorEq, Int.reduceEq, Int.reduceLT, Int.reduceLE, Int.reduceNeg, Int.reduceAdd, Int.reduceSub, Int.reduceToNat, rws_len, vc_cond, fr_zero, zFr_len, zFr_take, zFr_drop, c129, hT, eFr_len]
  intro b1 b2 n1 n2
  simp -implicitDefEqProofs only [go_sem, Nat.reduceEqDiff, Nat.reduceLT, Nat.reduceLeDiff, Nat.reduceAdd, Nat.reduceSub, Nat.reduceMul, Nat.reduceBEq, ↓reduceIte, reduceCtorEq, Int.reduceEq, Int.reduceLT, Int.reduceLE, Int.reduceNeg, Int.reduceAdd, Int.reduceSub, Int.reduceToNat, rws_len, vc_cond, fr_zero, zFr_len, zFr_take, zFr_drop, hT, eFr_len, eFr_take, n1, n2]
  refine callB_pure ht ?_
  simp -implicitDefEqProofs only [go_sem, Nat.reduceEqDiff, Nat.reduceLT, Nat.reduceLeDiff, Nat.reduceAdd, Nat.reduceSub, Nat.reduceMul, Nat.reduceBEq, ↓reduceIte, reduceCtorEq, Int.reduceEq, Int.reduceLT, Int.reduceLE, Int.reduceNeg, Int.reduceAdd, Int.reduceSub, Int.reduceToNat, rws_len, vc_cond, fr_zero, zFr_len, zFr_take, zFr_drop, hT, eFr_len, eFr_take, n1, n2, fr_1, w1, fr_h, set_set, List.getElem?_drop, eFr_drop, List.append_nil]
  refine callB_pure (bare124 _ (pop_shape hs h0)) ?_
  simp -implicitDefEqProofs only [go_sem, Nat.reduceEqDiff, Nat.reduceLT, Nat.reduceLeDiff, Nat.reduceAdd, Nat.reduceSub, Nat.reduceMul, Nat.reduceBEq, ↓reduceIte, reduceCtorEq, Int.reduceEq, Int.reduceLT, Int.reduceLE, Int.reduceNeg, Int.reduceAdd, Int.reduceSub, Int.reduceToNat, rws_len, vc_cond, fr_zero, zFr_len, zFr_take, zFr_drop, hT, eFr_len, eFr_take, n1, n2, resM_cell, set_set]
  exact DLe.refl _

theorem refPop118 (f : Fr) (hs : shapedB f = true) (h0 : 0 < f.h) : PCall Try.prog 118 [.agg (eFr f)] (.tup [.agg (eFr (popF f)), .int .u8 (topF f).val, .int .i64 0]) := by
  obtain ⟨s1, s2, s3, s4⟩ := shaped_of hs
  have w1 : IntKind.wrap .i64 (f.h - 1) = f.h - 1 := wrap_i64 (by omega) (by omega)
  have w2 : IntKind.wrap .i64 (f.loc + f.h) = f.loc + f.h := wrap_i64 (by omega) (by omega)
  have w3 : IntKind.wrap .i64 (f.loc + f.h - 1) = f.loc + f.h - 1 := wrap_i64 (by omega) (by omega)
  have hx := fr_slAt f (show (f.loc + f.h - 1).toNat < 24 by omega)
  have g1 : (f.h = 0) = False := by simp; omega
  refine F118.pcall' rfl fun T hT => ?_
  simp -implicitDefEqProofs only [go_sem, Nat.reduceEqDiff, Nat.reduceLT, Nat.reduceLeDiff, Nat.reduceAdd, Nat.reduceSub, Nat.reduceMul, Nat.reduceBEq, ↓reduceIte, reduceCtorEq, Int.reduceEq, Int.reduceLT, Int.reduceLE, Int.reduceNeg, Int.reduceAdd, Int.reduceSub, Int.reduceToNat, rws_len, vc_cond, fr_zero, zFr_len, zFr_take, zFr_drop, c118, hT, eFr_len]
  intro b1 b2 n1 n2
  simp -implicitDefEqProofs only [go_sem, Nat.reduceEqDiff, Nat.reduceLT, Nat.reduceLeDiff, Nat.reduceAdd, Nat.reduceSub, Nat.reduceMul, Nat.reduceBEq, ↓reduceIte, reduceCtorEq, Int.reduceEq, Int.reduceLT, Int.reduceLE, Int.reduceNeg, Int.reduceAdd, Int.reduceSub, Int.reduceToNat, rws_len, vc_cond, fr_zero, zFr_len, zFr_take, zFr_drop, hT, eFr_len, eFr_take, n1, n2]
  refine callB_pure (refShape86 f) ?_
  simp -implicitDefEqProofs only [go_sem, Nat.reduceEqDiff, Nat.reduceLT, Nat.reduceLeDiff, Nat.reduceAdd, Nat.reduceSub, Nat.reduceMul, Nat.reduceBEq, ↓reduceIte, reduceCtorEq, Int.reduceEq, Int.reduceLT, Int.reduceLE, Int.reduceNeg, Int.reduceAdd, Int.reduceSub, Int.reduceToNat, rws_len, vc_cond, fr_zero, zFr_len, zFr_take, zFr_drop, hT, hs, eFr_len, eFr_take, n1, n2, fr_0, fr_1, g1, w1, w2, w3, fr_h, set_set, List.getElem?_drop, hx, Nat.mul_one, eFr_drop, List.append_nil]
  refine ⟨by omega, ?_⟩
  refine callB_pure (refBare151 _ (pop_shape hs h0)) ?_
  simp -implicitDefEqProofs only [go_sem, Nat.reduceEqDiff, Nat.reduceLT, Nat.reduceLeDiff, Nat.reduceAdd, Nat.reduceSub, Nat.reduceMul, Nat.reduceBEq, ↓reduceIte, reduceCtorEq, Int.reduceEq, Int.reduceLT, Int.reduceLE, Int.reduceNeg, Int.reduceAdd, Int.reduceSub, Int.reduceToNat, rws_len, vc_cond, fr_zero, zFr_len, zFr_take, zFr_drop, hT, eFr_len, eFr_take, n1, n2, resM_cell, set_set]
  exact DLe.refl _

theorem bare_shape {f : Fr} : shapedB (bareF f) = shapedB f := by simp only [shapedB, bare_loc, bare_h]
theorem bare_bare {f : Fr} : bareF (bareF f) = bareF f := by
  simp only [bareF, Fr.mk.injEq, true_and]
  apply Vector.ext
  intro j hj
  simp only [Vector.getElem_ofFn]
  split <;> rfl

def setF (f : Fr) (a : Int) (t : Ty) : Fr := ⟨f.loc, f.h, if h : a.toNat < 24 then f.sl.set a.toNat t h else f.sl⟩
theorem setF_loc {f : Fr} {a : Int} {t : Ty} : (setF f a t).loc = f.loc := by unfold setF; rfl
theorem setF_h {f : Fr} {a : Int} {t : Ty} : (setF f a t).h = f.h := by unfold setF; rfl
theorem fr_setF {f : Fr} {a : Int} (h0 : 0 ≤ a) (h : a < 24) {t : Ty} : (eFr f).take (2 + a.toNat) ++ [D.int .u8 (t.val : Int)] ++ (eFr f).drop (2 + a.toNat + 1) = eFr (setF f a t) := by
  rw [setF, dif_pos (show a.toNat < 24 by omega)]
  exact fr_set (by omega)

theorem store130 (f : Fr) (hs : shapedB f = true) (a : Int) (t : Ty) (h0 : 0 ≤ a) (h1 : a < f.loc) : PCall Try.prog 130 [.agg (eFr f), .int .i64 a, .int .u8 t.val] (.tup [.agg (eFr (setF (bareF f) a t)), .int .i64 0]) := by
  obtain ⟨s1, s2, s3, s4⟩ := shaped_of hs
  have hst := fr_setF (f := bareF f) (t := t) h0 (by omega)
  refine F130.pcall' rfl fun T hT => ?_
  simp -implicitDefEqProofs only [go_sem, Nat.reduceEqDiff, Nat.reduceLT, Nat.reduceLeDiff, Nat.reduceAdd, Nat.reduceSub, Nat.reduceMul, Nat.reduceBEq, ↓reduceIte, reduceCtorEq, Int.reduceEq, Int.reduceLT, Int.reduceLE, Int.reduceNeg, Int.reduceAdd, Int.reduceSub, Int.reduceToNat, rws_len, vc_cond, fr_zero, zFr_len, zFr_take, zFr_drop, c130, hT, eFr_len]
  intro b1 b2 n1 n2
  simp -implicitDefEqProofs only [go_sem, Nat.reduceEqDiff, Nat.reduceLT, Nat.reduceLeDiff, Nat.reduceAdd, Nat.reduceSub, Nat.reduceMul, Nat.reduceBEq, ↓reduceIte, reduceCtorEq, Int.reduceEq, Int.reduceLT, Int.reduceLE, Int.reduceNeg, Int.reduceAdd, Int.reduceSub, Int.reduceToNat, rws_len, vc_cond, fr_zero, zFr_len, zFr_take, zFr_drop, hT, eFr_len, eFr_take, n1, n2]
  refine callB_pure (load84 f hs a h0 h1) ?_
  simp -implicitDefEqProofs only [go_sem, Nat.reduceEqDiff, Nat.reduceLT, Nat.reduceLeDiff, Nat.reduceAdd, Nat.reduceSub, Nat.reduceMul, Nat.reduceBEq, ↓reduceIte, reduceCtorEq, Int.reduceEq, Int.reduceLT, Int.reduceLE, Int.reduceNeg, Int.reduceAdd, Int.reduceSub, Int.reduceToNat, rws_len, vc_cond, fr_zero, zFr_len, zFr_take, zFr_drop, hT, eFr_len, eFr_take, n1, n2]
  refine callB_pure (bare124 f hs) ?_
  simp -implicitDefEqProofs only [go_sem, Nat.reduceEqDiff, Nat.reduceLT, Nat.reduceLeDiff, Nat.reduceAdd, Nat.reduceSub, Nat.reduceMul, Nat.reduceBEq, ↓reduceIte, reduceCtorEq, Int.reduceEq, Int.reduceLT, Int.reduceLE, Int.reduceNeg, Int.reduceAdd, Int.reduceSub, Int.reduceToNat, rws_len, vc_cond, fr_zero, zFr_len, zFr_take, zFr_drop, hT, eFr_len, eFr_take, n1, n2, set_set, eFr_drop, List.append_nil, hst, Nat.mul_one, resM_cell, List.getElem?_drop]
  omega

def pushF (f : Fr) (t : Ty) : Fr × Nat := if f.loc + f.h = 24 then (fr0 0, 31) else (⟨f.loc, f.h + 1, (setF (bareF f) (f.loc + f.h) t).sl⟩, 0)
theorem push131 (f : Fr) (hs : shapedB f = true) (t : Ty) : PCall Try.prog 131 [.agg (eFr f), .int .u8 t.val] (.tup [.agg (eFr (pushF f t).1), .int .i64 (pushF f t).2]) := by
  obtain ⟨s1, s2, s3, s4⟩ := shaped_of hs
  have w1 : IntKind.wrap .i64 (f.loc + f.h) = f.loc + f.h := wrap_i64 (by omega) (by omega)
  have w2 : IntKind.wrap .i64 (f.h + 1) = f.h + 1 := wrap_i64 (by omega) (by omega)
  refine F131.pcall' rfl fun T hT => ?_
  simp -implicitDefEqProofs only [go_sem, Nat.reduceEqDiff, Nat.reduceLT, Nat.reduceLeDiff, Nat.reduceAdd, Nat.reduceSub, Nat.reduceMul, Nat.reduceBEq, ↓reduceIte, reduceCtorEq, Int.reduceEq, Int.reduceLT, Int.reduceLE, Int.reduceNeg, Int.reduceAdd, Int.reduceSub, Int.reduceToNat, rws_len, vc_cond, fr_zero, zFr_len, zFr_take, zFr_drop, c131, hT, eFr_len]
  intro b1 b2 n1 n2
  simp -implicitDefEqProofs only [go_sem, Nat.reduceEqDiff, Nat.reduceLT, Nat.reduceLeDiff, Nat.reduceAdd, Nat.reduceSub, Nat.reduceMul, Nat.reduceBEq, ↓reduceIte, reduceCtorEq, Int.reduceEq, Int.reduceLT, Int.reduceLE, Int.reduceNeg, Int.reduceAdd, Int.reduceSub, Int.reduceToNat, rws_len, vc_cond, fr_zero, zFr_len, zFr_take, zFr_drop, hT, eFr_len, eFr_take, n1, n2]
  refine callB_pure (shaped123 f) ?_
  by_cases h24 : f.loc + f.h = 24
  · have h24' : (f.loc + f.h = 24) = True := by simp [h24]
    simp -implicitDefEqProofs only [go_sem, Nat.reduceEqDiff, Nat.reduceLT, Nat.reduceLeDiff, Nat.reduceAdd, Nat.reduceSub, Nat.reduceMul, Nat.reduceBEq, ↓reduceIte, reduceCtorEq, Int.reduceEq, Int.reduceLT, Int.reduceLE, Int.reduceNeg, Int.reduceAdd, Int.reduceSub, Int.reduceToNat, rws_len, vc_cond, fr_zero, zFr_len, zFr_take, zFr_drop, hT, hs, eFr_len, eFr_take, n1, n2, fr_0, fr_1, w1, h24', resM_cell, set_set, List.getElem?_drop]
    rw [pushF, if_pos h24, fr_fr0]
    exact DLe.refl _
  simp -implicitDefEqProofs only [go_sem, Nat.reduceEqDiff, Nat.reduceLT, Nat.reduceLeDiff, Nat.reduceAdd, Nat.reduceSub, Nat.reduceMul, Nat.reduceBEq, ↓reduceIte, reduceCtorEq, Int.reduceEq, Int.reduceLT, Int.reduceLE, Int.reduceNeg, Int.reduceAdd, Int.reduceSub, Int.reduceToNat, rws_len, vc_cond, fr_zero, zFr_len, zFr_take, zFr_drop, hT, hs, eFr_len, eFr_take, n1, n2, fr_0, fr_1, w1, h24, resM_cell, set_set, List.getElem?_drop]
  refine callB_pure (bare124 f hs) ?_
  have hst := fr_setF (f := bareF f) (a := f.loc + f.h) (t := t) (by omega) (by omega)
  simp -implicitDefEqProofs only [go_sem, Nat.reduceEqDiff, Nat.reduceLT, Nat.reduceLeDiff, Nat.reduceAdd, Nat.reduceSub, Nat.reduceMul, Nat.reduceBEq, ↓reduceIte, reduceCtorEq, Int.reduceEq, Int.reduceLT, Int.reduceLE, Int.reduceNeg, Int.reduceAdd, Int.reduceSub, Int.reduceToNat, rws_len, vc_cond, fr_zero, zFr_len, zFr_take, zFr_drop, hT, eFr_len, eFr_take, n1, n2, set_set, eFr_drop, List.append_nil, fr_0, fr_1, bare_loc, bare_h, w1, hst, setF_loc, setF_h, bare_loc, bare_h, w2, fr_h, Nat.mul_one, resM_cell, List.getElem?_drop]
  refine ⟨by omega, by omega, ?_⟩
  rw [pushF, if_neg h24]
  exact DLe.refl _

theorem refPush119 (f : Fr) (hs : shapedB f = true) (t : Ty) : PCall Try.prog 119 [.agg (eFr f), .int .u8 t.val] (.tup [.agg (eFr (pushF f t).1), .int .i64 (pushF f t).2]) := by
  obtain ⟨s1, s2, s3, s4⟩ := shaped_of hs
  have w1 : IntKind.wrap .i64 (f.loc + f.h) = f.loc + f.h := wrap_i64 (by omega) (by omega)
  have w2 : IntKind.wrap .i64 (f.h + 1) = f.h + 1 := wrap_i64 (by omega) (by omega)
  refine F119.pcall' rfl fun T hT => ?_
  simp -implicitDefEqProofs only [go_sem, Nat.reduceEqDiff, Nat.reduceLT, Nat.reduceLeDiff, Nat.reduceAdd, Nat.reduceSub, Nat.reduceMul, Nat.reduceBEq, ↓reduceIte, reduceCtorEq, Int.reduceEq, Int.reduceLT, Int.reduceLE, Int.reduceNeg, Int.reduceAdd, Int.reduceSub, Int.reduceToNat, rws_len, vc_cond, fr_zero, zFr_len, zFr_take, zFr_drop, c119, hT, eFr_len]
  intro b1 b2 n1 n2
  simp -implicitDefEqProofs only [go_sem, Nat.reduceEqDiff, Nat.reduceLT, Nat.reduceLeDiff, Nat.reduceAdd, Nat.reduceSub, Nat.reduceMul, Nat.reduceBEq, ↓reduceIte, reduceCtorEq, Int.reduceEq, Int.reduceLT, Int.reduceLE, Int.reduceNeg, Int.reduceAdd, Int.reduceSub, Int.reduceToNat, rws_len, vc_cond, fr_zero, zFr_len, zFr_take, zFr_drop, hT, eFr_len, eFr_take, n1, n2]
  refine callB_pure (refShape86 f) ?_
  by_cases h24 : f.loc + f.h = 24
  · have h24' : (f.loc + f.h = 24) = True := by simp [h24]
    simp -implicitDefEqProofs only [go_sem, Nat.reduceEqDiff, Nat.reduceLT, Nat.reduceLeDiff, Nat.reduceAdd, Nat.reduceSub, Nat.reduceMul, Nat.reduceBEq, ↓reduceIte, reduceCtorEq, Int.reduceEq, Int.reduceLT, Int.reduceLE, Int.reduceNeg, Int.reduceAdd, Int.reduceSub, Int.reduceToNat, rws_len, vc_cond, fr_zero, zFr_len, zFr_take, zFr_drop, hT, hs, eFr_len, eFr_take, n1, n2, fr_0, fr_1, w1, h24', resM_cell, set_set, List.getElem?_drop]
    rw [pushF, if_pos h24, fr_fr0]
    exact DLe.refl _
  simp -implicitDefEqProofs only [go_sem, Nat.reduceEqDiff, Nat.reduceLT, Nat.reduceLeDiff, Nat.reduceAdd, Nat.reduceSub, Nat.reduceMul, Nat.reduceBEq, ↓reduceIte, reduceCtorEq, Int.reduceEq, Int.reduceLT, Int.reduceLE, Int.reduceNeg, Int.reduceAdd, Int.reduceSub, Int.reduceToNat, rws_len, vc_cond, fr_zero, zFr_len, zFr_take, zFr_drop, hT, hs, eFr_len, eFr_take, n1, n2, fr_0, fr_1, w1, h24, resM_cell, set_set, List.getElem?_drop]
  refine callB_pure (refBare151 f hs) ?_
  have hst := fr_setF (f := bareF f) (a := f.loc + f.h) (t := t) (by omega) (by omega)
  simp -implicitDefEqProofs only [go_sem, Nat.reduceEqDiff, Nat.reduceLT, Nat.reduceLeDiff, Nat.reduceAdd, Nat.reduceSub, Nat.reduceMul, Nat.reduceBEq, ↓reduceIte, reduceCtorEq, Int.reduceEq, Int.reduceLT, Int.reduceLE, Int.reduceNeg, Int.reduceAdd, Int.reduceSub, Int.reduceToNat, rws_len, vc_cond, fr_zero, zFr_len, zFr_take, zFr_drop, hT, eFr_len, eFr_take, n1, n2, set_set, eFr_drop, List.append_nil, fr_0, fr_1, bare_loc, bare_h, w1, hst, setF_loc, setF_h, bare_loc, bare_h, w2, fr_h, Nat.mul_one, resM_cell, List.getElem?_drop]
  refine ⟨by omega, by omega, ?_⟩
  rw [pushF, if_neg h24]
  exact DLe.refl _
end Go.AL
