import Derived.Test.YtanhkkillmbkhaaPc
namespace Go.AL
open Go.Proofs
set_option linter.unusedSimpArgs false
set_option linter.unusedVariables false
set_option maxRecDepth 100000

set_option maxHeartbeats 2000000 in
theorem check64 (l : List Cl) (o : Own) (hw : Wide l) : PCall Try.prog 64 [.slice o (rws eC l)] (.tup [.int .i64 (checkL isWordB l).1, .int .i64 (checkL isWordB l).2]) := by
  have hw1 := hw.1
  refine F64.pcall' rfl fun T hT => ?_
  simp -implicitDefEqProofs only [go_sem, Nat.reduceEqDiff, Nat.reduceLT, Nat.reduceLeDiff, Nat.reduceAdd, Nat.reduceSub, Nat.reduceMul, Nat.reduceBEq, ↓reduceIte, reduceCtorEq, Int.reduceEq, Int.reduceLT, Int.reduceLE, Int.reduceNeg, Int.reduceAdd, Int.reduceSub, Int.reduceToNat, rws_len, vc_cond, c64, hT]
  refine loopL F64 (fun i : Nat => [(0, .slice o (rws eC l)), (7, .slice o (rws eC l)), (8, .int .i64 l.length), (9, .int .i64 i)]) (fun _ => {}) (fun i => i ≤ l.length ∧ Right isWordB l i ∧ checkL isWordB l = checkFrom isWordB l (l.length - i) i) (fun i => l.length - i) 0
    ⟨Nat.zero_le _, fun i h h' => by omega, rfl⟩ ?_ (St.le.refl _) ?_
  · simp -implicitDefEqProofs only [go_sem, Nat.reduceEqDiff, Nat.reduceLT, Nat.reduceLeDiff, Nat.reduceAdd, Nat.reduceSub, Nat.reduceMul, Nat.reduceBEq, ↓reduceIte, reduceCtorEq, Int.reduceEq, Int.reduceLT, Int.reduceLE, Int.reduceNeg, Int.reduceAdd, Int.reduceSub, Int.reduceToNat, rws_len, vc_cond, hT, Int.ofNat_zero]
  clear hT T
  rintro i ⟨hi, hr, heq⟩ T hT
  by_cases h : i < l.length
  · have h1 : ((i : Int) < l.length) = True := by simp; omega
    have hwc := hw.2 l[i] (by simp)
    rw [show l.length - i = (l.length - (i + 1)) + 1 by omega, checkFrom, dif_pos h] at heq
    have hf := fields104 l o i h hw hr
    have next : classErr isWordB l i l[i] = 0 → ∃ y : Nat, (y ≤ l.length ∧ Right isWordB l y ∧ checkL isWordB l = checkFrom isWordB l (l.length - y) y) ∧ l.length - y < l.length - i ∧ D.int .i64 (IntKind.wrap .i64 ((i : Int) + 1)) = D.int .i64 (y : Int) := fun he =>
      ⟨i + 1, ⟨by omega, fun j hj hj' => by
        rcases Nat.lt_or_eq_of_le (Nat.le_of_lt_succ hj') with hj' | rfl
        · exact hr j hj hj'
        · exact he, by rw [if_pos he] at heq; exact heq⟩, by omega, by rw [wrap_i64 (by omega) (by omega)]; simp⟩
    have stop : ∀ e : Nat, e ≠ 0 → classErr isWordB l i l[i] = e → DLe (.tup [.int .i64 i, .int .i64 e]) (.tup [.int .i64 (checkL isWordB l).1, .int .i64 (checkL isWordB l).2]) := fun e h0 he => by
      rw [if_neg (by rw [he]; exact h0), he] at heq
      rw [heq]; exact DLe.refl _
    generalize hx : l[i] = x at *
    have hR : (rws eC l)[i]?.getD [] = eC x := by rw [rws_at h, hx]
    simp -implicitDefEqProofs only [go_sem, Nat.reduceEqDiff, Nat.reduceLT, Nat.reduceLeDiff, Nat.reduceAdd, Nat.reduceSub, Nat.reduceMul, Nat.reduceBEq, ↓reduceIte, reduceCtorEq, Int.reduceEq, Int.reduceLT, Int.reduceLE, Int.reduceNeg, Int.reduceAdd, Int.reduceSub, Int.reduceToNat, rws_len, vc_cond, hT, h1, hR, eC, eC_len]
    refine ⟨by omega, fun b5 => ?_⟩
    by_cases h32 : 32 ≤ i
    · have h2 : ((32 : Int) ≤ i) = True := by simp; omega
      simp -implicitDefEqProofs only [go_sem, Nat.reduceEqDiff, Nat.reduceLT, Nat.reduceLeDiff, Nat.reduceAdd, Nat.reduceSub, Nat.reduceMul, Nat.reduceBEq, ↓reduceIte, reduceCtorEq, Int.reduceEq, Int.reduceLT, Int.reduceLE, Int.reduceNeg, Int.reduceAdd, Int.reduceSub, Int.reduceToNat, rws_len, vc_cond, hT, h1, hR, eC, h2, set_set]
      exact stop 4 (by decide) (by simp [classErr, h32])
    have h2 : ((32 : Int) ≤ i) = False := by simp; omega
    simp -implicitDefEqProofs only [go_sem, Nat.reduceEqDiff, Nat.reduceLT, Nat.reduceLeDiff, Nat.reduceAdd, Nat.reduceSub, Nat.reduceMul, Nat.reduceBEq, ↓reduceIte, reduceCtorEq, Int.reduceEq, Int.reduceLT, Int.reduceLE, Int.reduceNeg, Int.reduceAdd, Int.reduceSub, Int.reduceToNat, rws_len, vc_cond, hT, h1, hR, eC, h2, set_set]
    refine ⟨fun _ h => h, callB_pure (isName99 x.name) ?_⟩
    cases hN : isNameB x.name
    · simp -implicitDefEqProofs only [go_sem, Nat.reduceEqDiff, Nat.reduceLT, Nat.reduceLeDiff, Nat.reduceAdd, Nat.reduceSub, Nat.reduceMul, Nat.reduceBEq, ↓reduceIte, reduceCtorEq, Int.reduceEq, Int.reduceLT, Int.reduceLE, Int.reduceNeg, Int.reduceAdd, Int.reduceSub, Int.reduceToNat, rws_len, vc_cond, hT, h1, eC, h2, set_set]
      exact stop 6 (by decide) (by simp [classErr, h32, hN])
    simp -implicitDefEqProofs only [go_sem, Nat.reduceEqDiff, Nat.reduceLT, Nat.reduceLeDiff, Nat.reduceAdd, Nat.reduceSub, Nat.reduceMul, Nat.reduceBEq, ↓reduceIte, reduceCtorEq, Int.reduceEq, Int.reduceLT, Int.reduceLE, Int.reduceNeg, Int.reduceAdd, Int.reduceSub, Int.reduceToNat, rws_len, vc_cond, hT, h1, eC, h2, set_set]
    refine callB_pure words101 ?_
    simp -implicitDefEqProofs only [go_sem, Nat.reduceEqDiff, Nat.reduceLT, Nat.reduceLeDiff, Nat.reduceAdd, Nat.reduceSub, Nat.reduceMul, Nat.reduceBEq, ↓reduceIte, reduceCtorEq, Int.reduceEq, Int.reduceLT, Int.reduceLE, Int.reduceNeg, Int.reduceAdd, Int.reduceSub, Int.reduceToNat, rws_len, vc_cond, hT, h1, eC, h2, set_set]
    refine callB_pure (contains100 wordsL .no x.name (by decide)) ?_
    have hWe : hasN wordsL x.name = isWordB x.name := rfl
    rw [hWe]
    cases hW : isWordB x.name
    case true =>
      simp -implicitDefEqProofs only [go_sem, Nat.reduceEqDiff, Nat.reduceLT, Nat.reduceLeDiff, Nat.reduceAdd, Nat.reduceSub, Nat.reduceMul, Nat.reduceBEq, ↓reduceIte, reduceCtorEq, Int.reduceEq, Int.reduceLT, Int.reduceLE, Int.reduceNeg, Int.reduceAdd, Int.reduceSub, Int.reduceToNat, rws_len, vc_cond, hT, h1, eC, h2, set_set]
      exact stop 6 (by decide) (by simp [classErr, h32, hW])
    simp -implicitDefEqProofs only [go_sem, Nat.reduceEqDiff, Nat.reduceLT, Nat.reduceLeDiff, Nat.reduceAdd, Nat.reduceSub, Nat.reduceMul, Nat.reduceBEq, ↓reduceIte, reduceCtorEq, Int.reduceEq, Int.reduceLT, Int.reduceLE, Int.reduceNeg, Int.reduceAdd, Int.reduceSub, Int.reduceToNat, rws_len, vc_cond, hT, h1, eC, h2, set_set, rws_take]
    refine ⟨⟨by omega, by simp [rws, eC_len]⟩, ?_⟩
    have hpre : (l.take i).map (fun t : Cl => eC t) = rws eC (l.take i) := rfl
    refine callB_all (contFunc102 (l.take i) .no 103 [] [.ptr b5 0] (fun t => decide (t.name = x.name)) _ (by simp; omega) fun t _ => same103 t x b5 _ (by simp [St.set_box, eC])) ?_
    rintro d s' ⟨rfl, rfl⟩
    cases hA : (l.take i).any fun t => decide (t.name = x.name)
    case true =>
      simp -implicitDefEqProofs only [go_sem, Nat.reduceEqDiff, Nat.reduceLT, Nat.reduceLeDiff, Nat.reduceAdd, Nat.reduceSub, Nat.reduceMul, Nat.reduceBEq, ↓reduceIte, reduceCtorEq, Int.reduceEq, Int.reduceLT, Int.reduceLE, Int.reduceNeg, Int.reduceAdd, Int.reduceSub, Int.reduceToNat, rws_len, vc_cond, hT, h1, eC, h2, set_set]
      exact stop 20 (by decide) (by simp [classErr, h32, hN, hW, hA])
    have pre : ∀ e : Nat, (if x.parent < -1 ∨ (i : Int) ≤ x.parent then 21 else fieldsErr l.length (namesUp l x.parent) [] x.fields) = e → classErr isWordB l i x = e := fun e he => by
      rw [classErr, if_neg h32, if_neg (by simp [hN, hW]), if_neg (by simp [hA]), he]
    by_cases hp : x.parent < -1 ∨ (i : Int) ≤ x.parent
    · have hp' : (decide (x.parent < -1) || decide ((i : Int) ≤ x.parent)) = true := by simpa using hp
      simp -implicitDefEqProofs only [go_sem, Nat.reduceEqDiff, Nat.reduceLT, Nat.reduceLeDiff, Nat.reduceAdd, Nat.reduceSub, Nat.reduceMul, Nat.reduceBEq, ↓reduceIte, reduceCtorEq, Int.reduceEq, Int.reduceLT, Int.reduceLE, Int.reduceNeg, Int.reduceAdd, Int.reduceSub, Int.reduceToNat, rws_len, vc_condQ, w_guardO, ite_and, ite_or, ite_nor, ite_nand, ite_aor, ite_aand, ite_same, gm_move, gm_assign, gm_pick, gm_bin_t, gm_bin_i, gm_bin_b, gm_bin_s, gm_un, gm_conv, gm_iface, gm_func, gm_extract, gm_field, gm_faddr, gm_iaddr, gm_idx, gm_nilc, gm_len, gm_slice, gm_load, hT, h1, eC, h2, set_set, hp']
      exact stop 21 (by decide) (pre 21 (if_pos hp))
    have hp' : (decide (x.parent < -1) || decide ((i : Int) ≤ x.parent)) = false := by simpa using hp
    replace pre := fun e he => pre e ((if_neg hp).trans he)
    simp -implicitDefEqProofs only [go_sem, Nat.reduceEqDiff, Nat.reduceLT, Nat.reduceLeDiff, Nat.reduceAdd, Nat.reduceSub, Nat.reduceMul, Nat.reduceBEq, ↓reduceIte, reduceCtorEq, Int.reduceEq, Int.reduceLT, Int.reduceLE, Int.reduceNeg, Int.reduceAdd, Int.reduceSub, Int.reduceToNat, rws_len, vc_condQ, w_guardO, ite_and, ite_or, ite_nor, ite_nand, ite_aor, ite_aand, ite_same, gm_move, gm_assign, gm_pick, gm_bin_t, gm_bin_i, gm_bin_b, gm_bin_s, gm_un, gm_conv, gm_iface, gm_func, gm_extract, gm_field, gm_faddr, gm_iaddr, gm_idx, gm_nilc, gm_len, gm_slice, gm_load, hT, h1, eC, h2, set_set, hp']
    refine callB_pure (hf (by omega)) ?_
    by_cases he : fieldsErr l.length (namesUp l x.parent) [] x.fields = 0
    · simp -implicitDefEqProofs only [go_sem, Nat.reduceEqDiff, Nat.reduceLT, Nat.reduceLeDiff, Nat.reduceAdd, Nat.reduceSub, Nat.reduceMul, Nat.reduceBEq, ↓reduceIte, reduceCtorEq, Int.reduceEq, Int.reduceLT, Int.reduceLE, Int.reduceNeg, Int.reduceAdd, Int.reduceSub, Int.reduceToNat, rws_len, vc_condQ, w_guardO, ite_and, ite_or, ite_nor, ite_nand, ite_aor, ite_aand, ite_same, gm_move, gm_assign, gm_pick, gm_bin_t, gm_bin_i, gm_bin_b, gm_bin_s, gm_un, gm_conv, gm_iface, gm_func, gm_extract, gm_field, gm_faddr, gm_iaddr, gm_idx, gm_nilc, gm_len, gm_slice, gm_load, hT, h1, he]
      obtain ⟨y, h1, h2, h3⟩ := next (pre 0 he)
      exact ⟨y, h1, h2, h3, St.le.nil _⟩
    · have h3 : (((fieldsErr l.length (namesUp l x.parent) [] x.fields : Nat) : Int) = 0) = False := by simp; omega
      simp -implicitDefEqProofs only [go_sem, Nat.reduceEqDiff, Nat.reduceLT, Nat.reduceLeDiff, Nat.reduceAdd, Nat.reduceSub, Nat.reduceMul, Nat.reduceBEq, ↓reduceIte, reduceCtorEq, Int.reduceEq, Int.reduceLT, Int.reduceLE, Int.reduceNeg, Int.reduceAdd, Int.reduceSub, Int.reduceToNat, rws_len, vc_condQ, w_guardO, ite_and, ite_or, ite_nor, ite_nand, ite_aor, ite_aand, ite_same, gm_move, gm_assign, gm_pick, gm_bin_t, gm_bin_i, gm_bin_b, gm_bin_s, gm_un, gm_conv, gm_iface, gm_func, gm_extract, gm_field, gm_faddr, gm_iaddr, gm_idx, gm_nilc, gm_len, gm_slice, gm_load, hT, h1, h3]
      exact stop _ he (pre _ rfl)
  · have h1 : ((i : Int) < l.length) = False := by simp; omega
    rw [show l.length - i = 0 by omega, checkFrom] at heq
    simp -implicitDefEqProofs only [go_sem, Nat.reduceEqDiff, Nat.reduceLT, Nat.reduceLeDiff, Nat.reduceAdd, Nat.reduceSub, Nat.reduceMul, Nat.reduceBEq, ↓reduceIte, reduceCtorEq, Int.reduceEq, Int.reduceLT, Int.reduceLE, Int.reduceNeg, Int.reduceAdd, Int.reduceSub, Int.reduceToNat, rws_len, vc_cond, hT, h1]
    rw [heq]
    exact DLe.refl _
end Go.AL
namespace Go.AL
open Go.Proofs
set_option linter.unusedSimpArgs false
set_option linter.unusedVariables false
set_option maxRecDepth 100000

theorem clone98 (xs : List Fd) (o : Own) (h0 : nilOk o xs.length) (hl : xs.length * 24 ≤ 140737488355328) : PCall Try.prog 98 [.slice o (rws eF xs)] (.slice .no (rws eF xs)) := by
  refine F98.pcall' rfl fun T hT => ?_
  simp -implicitDefEqProofs only [go_sem, Nat.reduceEqDiff, Nat.reduceLT, Nat.reduceLeDiff, Nat.reduceAdd, Nat.reduceSub, Nat.reduceMul, Nat.reduceBEq, ↓reduceIte, reduceCtorEq, Int.reduceEq, Int.reduceLT, Int.reduceLE, Int.reduceNeg, Int.reduceAdd, Int.reduceSub, Int.reduceToNat, rws_len, vc_cond, c98, hT]
  intro r hr
  refine br_split (fun h => ?_) fun h => ?_
  · exact DLe_nils (nilR_nil hr h fun h => by simpa [rws_nil] using h0 h)
  · simp -implicitDefEqProofs only [go_sem, Nat.reduceEqDiff, Nat.reduceLT, Nat.reduceLeDiff, Nat.reduceAdd, Nat.reduceSub, Nat.reduceMul, Nat.reduceBEq, ↓reduceIte, reduceCtorEq, Int.reduceEq, Int.reduceLT, Int.reduceLE, Int.reduceNeg, Int.reduceAdd, Int.reduceSub, Int.reduceToNat, rws_len, vc_cond, hT, rws_one eF_len, rws_len, rws_nil, hl]
    rintro rfl
    exact DLe_nils rfl

end Go.AL
namespace Go.AL
open Go.Proofs
set_option linter.unusedSimpArgs false
set_option linter.unusedVariables false
set_option maxRecDepth 100000

theorem classes63 (l : List Cl) (o : Own) (hw : Wide l) : PCall Try.prog 63 [.slice o (rws eC l)] (.slice .no (rws eC l)) := by
  have hw1 := hw.1
  refine F63.pcall' rfl fun T hT => ?_
  simp -implicitDefEqProofs only [go_sem, Nat.reduceEqDiff, Nat.reduceLT, Nat.reduceLeDiff, Nat.reduceAdd, Nat.reduceSub, Nat.reduceMul, Nat.reduceBEq, ↓reduceIte, reduceCtorEq, Int.reduceEq, Int.reduceLT, Int.reduceLE, Int.reduceNeg, Int.reduceAdd, Int.reduceSub, Int.reduceToNat, rws_len, vc_cond, c63, hT]
  refine loopL F63 (fun x : Nat × Option Nat => [(3, grD 3 x.2 (rws eC (l.take x.1))), (6, .slice o (rws eC l)), (7, .int .i64 l.length), (8, .int .i64 x.1)]) (fun x => grS 3 x.1 x.2 {}) (fun x => x.1 ≤ l.length ∧ (x.2 = none → x.1 = 0)) (fun x => l.length - x.1) (0, none)
    ⟨Nat.zero_le _, fun _ => rfl⟩ ?_ (St.le.refl _) ?_
  · simp -implicitDefEqProofs only [go_sem, Nat.reduceEqDiff, Nat.reduceLT, Nat.reduceLeDiff, Nat.reduceAdd, Nat.reduceSub, Nat.reduceMul, Nat.reduceBEq, ↓reduceIte, reduceCtorEq, Int.reduceEq, Int.reduceLT, Int.reduceLE, Int.reduceNeg, Int.reduceAdd, Int.reduceSub, Int.reduceToNat, rws_len, vc_cond, hT, Int.ofNat_zero]
    rfl
  clear hT T
  rintro ⟨i, ob⟩ ⟨hi, hok⟩ T hT
  simp only at hi hok hT ⊢
  by_cases h : i < l.length
  · have h1 : ((i : Int) < l.length) = True := by simp; omega
    have hwf := hw.2 l[i] (by simp)
    have htake : l.take (i + 1) = l.take i ++ [l[i]] := List.take_succ_eq_append_getElem h
    have hR : (rws eC l)[i]?.getD [] = eC l[i] := rws_at h
    generalize l[i] = x at *
    have htl : (l.take i).length = i := by simp; omega
    simp -implicitDefEqProofs only [go_sem, Nat.reduceEqDiff, Nat.reduceLT, Nat.reduceLeDiff, Nat.reduceAdd, Nat.reduceSub, Nat.reduceMul, Nat.reduceBEq, ↓reduceIte, reduceCtorEq, Int.reduceEq, Int.reduceLT, Int.reduceLE, Int.reduceNeg, Int.reduceAdd, Int.reduceSub, Int.reduceToNat, rws_len, vc_cond, hT, h1, hR, eC, eC_len]
    refine ⟨by omega, fun b hb => ?_⟩
    simp -implicitDefEqProofs only [go_sem, Nat.reduceEqDiff, Nat.reduceLT, Nat.reduceLeDiff, Nat.reduceAdd, Nat.reduceSub, Nat.reduceMul, Nat.reduceBEq, ↓reduceIte, reduceCtorEq, Int.reduceEq, Int.reduceLT, Int.reduceLE, Int.reduceNeg, Int.reduceAdd, Int.reduceSub, Int.reduceToNat, rws_len, vc_cond, hT, eC, set_set]
    refine callB_pure (clone98 x.fields .no (by simp [nilOk]) (by omega)) ?_
    simp -implicitDefEqProofs only [go_sem, Nat.reduceEqDiff, Nat.reduceLT, Nat.reduceLeDiff, Nat.reduceAdd, Nat.reduceSub, Nat.reduceMul, Nat.reduceBEq, ↓reduceIte, reduceCtorEq, Int.reduceEq, Int.reduceLT, Int.reduceLE, Int.reduceNeg, Int.reduceAdd, Int.reduceSub, Int.reduceToNat, rws_len, vc_cond, hT, eC, set_set, frz]
    refine app_gr' Try.sli52 Try.sz107 Try.by107 Try.zero107 rfl (n := i) (m := 1) (base := {}) (by rw [rws_len, htl]) rfl (le_add hb) grN_nil hok (by simp) (by omega) fun o' σ' hbox hle _ hno => ?_
    simp -implicitDefEqProofs only [go_sem, Nat.reduceEqDiff, Nat.reduceLT, Nat.reduceLeDiff, Nat.reduceAdd, Nat.reduceSub, Nat.reduceMul, Nat.reduceBEq, ↓reduceIte, reduceCtorEq, Int.reduceEq, Int.reduceLT, Int.reduceLE, Int.reduceNeg, Int.reduceAdd, Int.reduceSub, Int.reduceToNat, rws_len, vc_cond, hT]
    refine ⟨(i + 1, o'), ⟨by omega, by simpa using hno⟩, by omega, ⟨?_, ?_⟩, hle⟩
    · rw [htake]; simp [rws, eC]
    · rw [wrap_i64 (by omega) (by omega)]; simp
  · have h1 : ((i : Int) < l.length) = False := by simp; omega
    simp -implicitDefEqProofs only [go_sem, Nat.reduceEqDiff, Nat.reduceLT, Nat.reduceLeDiff, Nat.reduceAdd, Nat.reduceSub, Nat.reduceMul, Nat.reduceBEq, ↓reduceIte, reduceCtorEq, Int.reduceEq, Int.reduceLT, Int.reduceLE, Int.reduceNeg, Int.reduceAdd, Int.reduceSub, Int.reduceToNat, rws_len, vc_cond, hT, h1]
    rw [List.take_of_length_le (by omega)]
    exact grD_le
end Go.AL
namespace Go.AL
open Go.Proofs
set_option linter.unusedSimpArgs false
set_option linter.unusedVariables false
set_option maxRecDepth 100000

structure En where
  cs : List Cl
  sgs : List Sg
  fn : Int
  deriving DecidableEq
def eEn (e : En) : List D := [.slice .no (rws eC e.cs), .slice .no (rws eSg e.sgs), .int .i64 e.fn]
theorem eEn_len (e : En) : (eEn e).length = 3 := rfl
def WideE (e : En) : Prop := Wide e.cs ∧ e.sgs.length * 32 ≤ 140737488351232 ∧ ∀ s ∈ e.sgs, s.ps.length ≤ 140737488351232

def envB (b1 b2 b3 : Nat) (e : En) (i : Nat) (ob : Option Nat) : St := ((({} : St).set b1 (eEn e)).set b2 [.slice .nil [], .slice .nil [], .int .i64 0]).set b3 [.slice .no (rws eC e.cs), grD 2 ob (rws eSg (e.sgs.take i)), .int .i64 e.fn]
def envS (b1 b2 b3 : Nat) (e : En) (i : Nat) (ob : Option Nat) : St := grS 2 i ob (envB b1 b2 b3 e i ob)
theorem envS_3 {b1 b2 b3 : Nat} {e : En} {i : Nat} {ob : Option Nat} : (envS b1 b2 b3 e i ob).box b3 = some [.slice .no (rws eC e.cs), grD 2 ob (rws eSg (e.sgs.take i)), .int .i64 e.fn] := by simp [envS, envB, grS_boxa, St.set_box]
theorem envS_2 {b1 b2 b3 : Nat} {e : En} {i : Nat} {ob : Option Nat} (h : b2 ≠ b3) : (envS b1 b2 b3 e i ob).box b2 = some [.slice .nil [], .slice .nil [], .int .i64 0] := by simp [envS, envB, grS_boxa, St.set_box, h]

theorem env30 (e : En) (hw : WideE e) : PCall Try.prog 30 [.agg (eEn e)] (.agg (eEn e)) := by
  obtain ⟨hw1, hw2, hw3⟩ := hw
  refine F30.pcall' rfl fun T hT => ?_
  simp -implicitDefEqProofs only [go_sem, Nat.reduceEqDiff, Nat.reduceLT, Nat.reduceLeDiff, Nat.reduceAdd, Nat.reduceSub, Nat.reduceMul, Nat.reduceBEq, ↓reduceIte, reduceCtorEq, Int.reduceEq, Int.reduceLT, Int.reduceLE, Int.reduceNeg, Int.reduceAdd, Int.reduceSub, Int.reduceToNat, rws_len, vc_cond, c30, hT, eEn]
  intro b1 b2 h1 h2
  have hne : ¬ b1 = b2 := h2
  simp -implicitDefEqProofs only [go_sem, Nat.reduceEqDiff, Nat.reduceLT, Nat.reduceLeDiff, Nat.reduceAdd, Nat.reduceSub, Nat.reduceMul, Nat.reduceBEq, ↓reduceIte, reduceCtorEq, Int.reduceEq, Int.reduceLT, Int.reduceLE, Int.reduceNeg, Int.reduceAdd, Int.reduceSub, Int.reduceToNat, rws_len, vc_cond, hT, eEn, h1, h2]
  refine ⟨by rintro b rfl; simp, callB_pure (classes63 e.cs .no hw1) ?_⟩
  simp -implicitDefEqProofs only [go_sem, Nat.reduceEqDiff, Nat.reduceLT, Nat.reduceLeDiff, Nat.reduceAdd, Nat.reduceSub, Nat.reduceMul, Nat.reduceBEq, ↓reduceIte, reduceCtorEq, Int.reduceEq, Int.reduceLT, Int.reduceLE, Int.reduceNeg, Int.reduceAdd, Int.reduceSub, Int.reduceToNat, rws_len, vc_cond, hT, eEn, h1, h2]
  intro b3 n1 n2 n3 n4
  simp -implicitDefEqProofs only [go_sem, Nat.reduceEqDiff, Nat.reduceLT, Nat.reduceLeDiff, Nat.reduceAdd, Nat.reduceSub, Nat.reduceMul, Nat.reduceBEq, ↓reduceIte, reduceCtorEq, Int.reduceEq, Int.reduceLT, Int.reduceLE, Int.reduceNeg, Int.reduceAdd, Int.reduceSub, Int.reduceToNat, rws_len, vc_cond, hT, eEn, h1, h2, n1, n2, n3, n4, set_set]
  refine loopL F30 (fun x : Nat × Option Nat => [(2, .ptr b2 0), (3, .ptr b3 0), (13, .slice .no (rws eSg e.sgs)), (14, .int .i64 e.sgs.length), (15, .int .i64 x.1)]) (fun x => envS b1 b2 b3 e x.1 x.2)
    (fun x => x.1 ≤ e.sgs.length ∧ (x.2 = none → x.1 = 0) ∧ grN x.2 (envB b1 b2 b3 e x.1 x.2)) (fun x => e.sgs.length - x.1) (0, none)
    ⟨Nat.zero_le _, fun _ => rfl, grN_none⟩ ?_ (St.le.refl _) ?_
  · simp -implicitDefEqProofs only [go_sem, Nat.reduceEqDiff, Nat.reduceLT, Nat.reduceLeDiff, Nat.reduceAdd, Nat.reduceSub, Nat.reduceMul, Nat.reduceBEq, ↓reduceIte, reduceCtorEq, Int.reduceEq, Int.reduceLT, Int.reduceLE, Int.reduceNeg, Int.reduceAdd, Int.reduceSub, Int.reduceToNat, rws_len, vc_cond, hT, Int.ofNat_zero]
  clear hT T
  rintro ⟨i, ob⟩ ⟨hi, hok, hgr⟩ T hT
  simp only at hi hok hgr hT ⊢
  by_cases h : i < e.sgs.length
  · have h3 : ((i : Int) < e.sgs.length) = True := by simp; omega
    have hwf := hw3 e.sgs[i] (by simp)
    have htake : e.sgs.take (i + 1) = e.sgs.take i ++ [e.sgs[i]] := List.take_succ_eq_append_getElem h
    have hR : (rws eSg e.sgs)[i]?.getD [] = eSg e.sgs[i] := rws_at h
    have htl : (e.sgs.take i).length = i := by simp; omega
    generalize e.sgs[i] = x at *
    simp -implicitDefEqProofs only [go_sem, Nat.reduceEqDiff, Nat.reduceLT, Nat.reduceLeDiff, Nat.reduceAdd, Nat.reduceSub, Nat.reduceMul, Nat.reduceBEq, ↓reduceIte, reduceCtorEq, Int.reduceEq, Int.reduceLT, Int.reduceLE, Int.reduceNeg, Int.reduceAdd, Int.reduceSub, Int.reduceToNat, rws_len, vc_cond, hT, h3, hR, eSg_len, eSg]
    refine ⟨by omega, fun b5 hb5 => ?_⟩
    have f3 : ¬ b3 = b5 := fun he => by subst he; exact hb5 (.inl (by rw [envS_3]; simp))
    simp -implicitDefEqProofs only [go_sem, Nat.reduceEqDiff, Nat.reduceLT, Nat.reduceLeDiff, Nat.reduceAdd, Nat.reduceSub, Nat.reduceMul, Nat.reduceBEq, ↓reduceIte, reduceCtorEq, Int.reduceEq, Int.reduceLT, Int.reduceLE, Int.reduceNeg, Int.reduceAdd, Int.reduceSub, Int.reduceToNat, rws_len, vc_cond, hT, f3, envS_3, set_set, eSg]
    refine ⟨by rintro b rfl; simp [envS_3], ?_⟩
    refine callB_pure (sig11 x (by omega)) ?_
    simp -implicitDefEqProofs only [go_sem, Nat.reduceEqDiff, Nat.reduceLT, Nat.reduceLeDiff, Nat.reduceAdd, Nat.reduceSub, Nat.reduceMul, Nat.reduceBEq, ↓reduceIte, reduceCtorEq, Int.reduceEq, Int.reduceLT, Int.reduceLE, Int.reduceNeg, Int.reduceAdd, Int.reduceSub, Int.reduceToNat, rws_len, vc_cond, hT, f3, envS_3, set_set, eSg, frz]
    refine app_gr' Try.sli49 Try.sz25 Try.by25 Try.zero25 rfl (n := i) (m := 1) (base := envB b1 b2 b3 e i ob) (by rw [rws_len, htl]) rfl (le_add hb5) hgr hok (by simp) (by omega) fun o' σ' hbox hle hn hno => ?_
    simp -implicitDefEqProofs only [go_sem, Nat.reduceEqDiff, Nat.reduceLT, Nat.reduceLeDiff, Nat.reduceAdd, Nat.reduceSub, Nat.reduceMul, Nat.reduceBEq, ↓reduceIte, reduceCtorEq, Int.reduceEq, Int.reduceLT, Int.reduceLE, Int.reduceNeg, Int.reduceAdd, Int.reduceSub, Int.reduceToNat, rws_len, vc_cond, hT, hbox, f3, envS_3, set_set]
    have hle' := le_set (b := b3) (cs := [.slice .no (rws eC e.cs), grD 2 o' (rws eSg (e.sgs.take i) ++ [[.slice .no (rws eT x.ps), .int .u8 x.r.val]]), .int .i64 e.fn]) hle
    rw [grS_set, envB, set_set] at hle'
    have happ : rws eSg (e.sgs.take i) ++ [[.slice .no (rws eT x.ps), .int .u8 x.r.val]] = rws eSg (e.sgs.take (i + 1)) := by rw [htake]; simp [rws, eSg]
    rw [happ] at hle' ⊢
    refine ⟨(i + 1, o'), ⟨by omega, by simpa using hno, fun b hb hin => hn b hb ?_⟩, by omega, ?_, hle'⟩
    · simp only [envB, has_set] at hin ⊢; exact hin
    · rw [wrap_i64 (by omega) (by omega)]; simp
  · have h3 : ((i : Int) < e.sgs.length) = False := by simp; omega
    have hne2 : b2 ≠ b3 := n2
    simp -implicitDefEqProofs only [go_sem, Nat.reduceEqDiff, Nat.reduceLT, Nat.reduceLeDiff, Nat.reduceAdd, Nat.reduceSub, Nat.reduceMul, Nat.reduceBEq, ↓reduceIte, reduceCtorEq, Int.reduceEq, Int.reduceLT, Int.reduceLE, Int.reduceNeg, Int.reduceAdd, Int.reduceSub, Int.reduceToNat, rws_len, vc_cond, hT, h3, envS_3, envS_2 hne2]
    rw [List.take_of_length_le (by omega)]
    exact DLe.agg (.cons (.refl _) (.cons grD_le (.cons (.refl _) .nil)))

end Go.AL
