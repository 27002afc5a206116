import Derived.Test.YtanhkkillmbkhaaPq
import Derived.Test.YtanhkkillmbkhaaPj
namespace Go.AL
open Go.Proofs
set_option linter.unusedSimpArgs false
set_option linter.unusedVariables false
set_option maxRecDepth 100000
set_option maxHeartbeats 4000000

theorem wantedAll_iff {l : List Cl} {tk had : List Ty} (hl : tk.length = had.length) : wantedAll l tk had = true ↔ ∀ k, k < tk.length → wantedB l ((had[k]?).getD 0) ((tk[k]?).getD 0) = true := by
  unfold wantedAll
  rw [List.all_eq_true]
  constructor
  · intro h k hk
    have hk' : k < had.length := by omega
    rw [List.getElem?_eq_getElem hk, List.getElem?_eq_getElem hk']
    exact h (tk[k], had[k]) (by
      refine List.mem_of_getElem? (i := k) ?_
      rw [List.getElem?_zip_eq_some]; simp [hk, hk'])
  · intro h p hp
    obtain ⟨k, hk⟩ := List.getElem?_of_mem hp
    rw [List.getElem?_zip_eq_some] at hk
    obtain ⟨h1, h2⟩ := hk
    have := h k (List.getElem?_eq_some_iff.1 h1).1
    rw [h1, h2] at this
    exact this
structure SubF (l : List Cl) (a b : Fr) : Prop where
  ca : checkF l.length a = 0
  cb : checkF l.length b = 0
  loc : a.loc = b.loc
  h : a.h = b.h
  sl : ∀ i, i < 24 → subB l (slAt a i) (slAt b i) = true
theorem subFr_iff {l : List Cl} {a b : Fr} : subFr l a b = true ↔ SubF l a b := by
  simp only [subFr, Bool.and_eq_true, decide_eq_true_eq, List.all_eq_true, List.mem_range]
  exact ⟨fun ⟨⟨h1, h2, h3, h4⟩, h5⟩ => ⟨h1, h2, h3, h4, h5⟩, fun h => ⟨⟨h.ca, h.cb, h.loc, h.h⟩, h.sl⟩⟩

theorem had_mono {l : List Cl} {a b : Fr} (h : SubF l a b) {n : Nat} (hn : (n : Int) ≤ a.h) (k : Nat) : subB l (((hadL a n)[k]?).getD 0) (((hadL b n)[k]?).getD 0) = true := by
  obtain ⟨s1, s2, s3, s4⟩ := shaped_of (checkF_shape h.ca)
  by_cases hk : k < n
  · rw [hadL_at hk, hadL_at hk, ← h.loc, ← h.h]
    exact h.sl _ (by omega)
  · rw [List.getElem?_eq_none (by rw [hadL_len]; omega), List.getElem?_eq_none (by rw [hadL_len]; omega)]
    exact subB_zero l
theorem head_mono {l : List Cl} {a b : Fr} (h : SubF l a b) {n : Nat} (hn : (n : Int) ≤ a.h) : subB l ((hadL a n).headD 0) ((hadL b n).headD 0) = true := by
  have e : ∀ L : List Ty, L.headD 0 = (L[0]?).getD 0 := fun L => by cases L <;> rfl
  rw [e, e]; exact had_mono h hn 0

theorem mono {e : En} {f g : Fr} {i : Ins} (hw : WideE e) (hd : Done e g i) (hs : SubF e.cs f g) : Done e f i ∧ SubF e.cs (applyR e f i).1 (applyR e g i).1 := by
  obtain ⟨s1, s2, s3, s4⟩ := shaped_of (checkF_shape hs.ca)
  have hloc := hs.loc
  have hh := hs.h
  have hun : ((takesO e i i.op.val).length : Int) ≤ f.h := by rw [hh]; exact hd.under
  have hl : i.op.val = 4 ∨ i.op.val = 5 → 0 ≤ i.a ∧ i.a < f.loc := fun h => by have := hd.loc h; omega
  have h16 : i.op.val = 16 → (takesO e i i.op.val).length = 2 := fun h => by rw [h]; rfl
  have df : Done e f i := by
    refine ⟨hd.can, hs.ca, hd.op, hl, hd.opnd, hun, ?_, fun h => ?_, fun h => ?_, by rw [hh]; exact hd.ret, ?_⟩
    · rw [wantedAll_iff (by rw [hadL_len])]
      intro k hk
      have := (wantedAll_iff (by rw [hadL_len])).1 hd.want k hk
      exact wanted_mono (had_mono hs hun k) this
    · have h2 := h16 h
      rw [h2] at hun
      have := hd.same h
      simp only [sameB, decide_eq_true_eq] at this ⊢
      obtain ⟨t1, t2⟩ := this
      have e0 := small_mono (had_mono hs hun 0) t2
      have e1 := small_mono (had_mono hs hun 1) (by rw [← t1]; exact t2)
      rw [e0, e1]
      exact ⟨t1, t2⟩
    · have := hl (.inl h)
      exact known_mono (hs.sl _ (by omega)) (hd.known h)
    · have := hd.over
      rw [givesR_len] at this ⊢
      omega
  refine ⟨df, done_check hw df, done_check hw hd, ?_, ?_, fun k hk => ?_⟩
  · rw [(done_behind df).loc, (done_behind hd).loc, hloc]
  · rw [(done_behind df).h, (done_behind hd).h, givesR_len, givesR_len, hh]
  · rw [(done_behind df).sl k hk, (done_behind hd).sl k hk, hloc, hh]
    split
    · split
      · exact head_mono hs hun
      · exact hs.sl k hk
    · generalize k - (g.loc + g.h - (takesO e i i.op.val).length).toNat = j
      have hv := givesR_valid hw df
      unfold givesR at hv ⊢
      split
      · rename_i h4
        have := hl (.inl h4)
        cases j with
        | zero => exact hs.sl _ (by omega)
        | succ j => simp only [List.getElem?_cons_succ, List.getElem?_nil, Option.getD_none]; exact subB_zero _
      rename_i n4
      rw [if_neg n4] at hv
      split
      · match j with
        | 0 => exact head_mono hs hun
        | 1 => exact head_mono hs hun
        | j + 2 => simp only [List.getElem?_cons_succ, List.getElem?_nil, Option.getD_none]; exact subB_zero _
      rename_i n7
      rw [if_neg n7] at hv
      split
      · match j with
        | 0 => exact had_mono hs hun 1
        | 1 => exact head_mono hs hun
        | j + 2 => simp only [List.getElem?_cons_succ, List.getElem?_nil, Option.getD_none]; exact subB_zero _
      rename_i n8
      rw [if_neg n8] at hv
      cases hg : (givesO e i i.op.val)[j]? with
      | none => exact subB_zero _
      | some t => exact subB_refl (hv t (List.mem_of_getElem? hg))

theorem law7 (e : En) (f g : Fr) (i : Ins) (hw : WideE e) : PCall Try.prog 7 [.agg (eEn e), .agg (eFr f), .agg (eFr g), .agg (eIn i)] (.bool true) := by
  have hef := apply_eq e f i hw
  have heg := apply_eq e g i hw
  have e0 : (eEn e)[0]? = some (.slice .no (rws eC e.cs)) := rfl
  refine F7.pcall' rfl fun T hT => ?_
  simp -implicitDefEqProofs only [go_sem, Nat.reduceEqDiff, Nat.reduceLT, Nat.reduceLeDiff, Nat.reduceAdd, Nat.reduceSub, Nat.reduceMul, Nat.reduceBEq, ↓reduceIte, reduceCtorEq, Int.reduceEq, Int.reduceLT, Int.reduceLE, Int.reduceNeg, Int.reduceAdd, Int.reduceSub, Int.reduceToNat, rws_len, vc_cond, c7, hT, fr_zero, zFr_len, zFr_take, zFr_drop, eEn_len, eIn_len, eFr_len, eEn_take, eIn_take, eFr_take, eFr_drop, List.append_nil]
  intro b4 b5 n1 n2 b6 n3 n4 n5 n6 b7 n7 n8 n9 n10 n11 n12
  simp -implicitDefEqProofs only [go_sem, Nat.reduceEqDiff, Nat.reduceLT, Nat.reduceLeDiff, Nat.reduceAdd, Nat.reduceSub, Nat.reduceMul, Nat.reduceBEq, ↓reduceIte, reduceCtorEq, Int.reduceEq, Int.reduceLT, Int.reduceLE, Int.reduceNeg, Int.reduceAdd, Int.reduceSub, Int.reduceToNat, rws_len, vc_cond, hT, fr_zero, zFr_len, zFr_take, zFr_drop, eEn_len, eIn_len, eFr_len, eEn_take, eIn_take, eFr_take, eFr_drop, List.append_nil, n1, n2, n3, n4, n5, n6, n7, n8, n9, n10, n11, n12]
  refine callB_pure (refApply37 e g i hw) ?_
  simp -implicitDefEqProofs only [go_sem, Nat.reduceEqDiff, Nat.reduceLT, Nat.reduceLeDiff, Nat.reduceAdd, Nat.reduceSub, Nat.reduceMul, Nat.reduceBEq, ↓reduceIte, reduceCtorEq, Int.reduceEq, Int.reduceLT, Int.reduceLE, Int.reduceNeg, Int.reduceAdd, Int.reduceSub, Int.reduceToNat, rws_len, vc_cond, hT, fr_zero, zFr_len, zFr_take, zFr_drop, eEn_len, eIn_len, eFr_len, eEn_take, eIn_take, eFr_take, eFr_drop, List.append_nil, n1, n2, n3, n4, n5, n6, n7, n8, n9, n10, n11, n12]
  intro b9 m1 m2 m3 m4 m5 m6 m7 m8
  have fin : (applyR e g i).2 ≠ 0 ∨ subFr e.cs f g = false → True := fun _ => trivial
  by_cases h0 : (applyR e g i).2 = 0
  case neg =>
    have h0' : (((applyR e g i).2 : Int) = 0) = False := by simp; omega
    simp -implicitDefEqProofs only [go_sem, Nat.reduceEqDiff, Nat.reduceLT, Nat.reduceLeDiff, Nat.reduceAdd, Nat.reduceSub, Nat.reduceMul, Nat.reduceBEq, ↓reduceIte, reduceCtorEq, Int.reduceEq, Int.reduceLT, Int.reduceLE, Int.reduceNeg, Int.reduceAdd, Int.reduceSub, Int.reduceToNat, rws_len, vc_cond, hT, fr_zero, zFr_len, zFr_take, zFr_drop, eEn_len, eIn_len, eFr_len, eEn_take, eIn_take, eFr_take, eFr_drop, List.append_nil, n1, n2, n3, n4, n5, n6, n7, n8, n9, n10, n11, n12, m1, m2, m3, m4, m5, m6, m7, m8, set_set, h0']
    refine ⟨by rintro b (rfl | rfl) <;> simp [St.set_box, n1, n2, n3, n4, n5, n6, n7, n8, n9, n10, n11, n12, m1, m2, m3, m4, m5, m6, m7, m8], callB_pure (env30 e hw) ?_⟩
    simp -implicitDefEqProofs only [go_sem, Nat.reduceEqDiff, Nat.reduceLT, Nat.reduceLeDiff, Nat.reduceAdd, Nat.reduceSub, Nat.reduceMul, Nat.reduceBEq, ↓reduceIte, reduceCtorEq, Int.reduceEq, Int.reduceLT, Int.reduceLE, Int.reduceNeg, Int.reduceAdd, Int.reduceSub, Int.reduceToNat, rws_len, vc_cond, hT, fr_zero, zFr_len, zFr_take, zFr_drop, eEn_len, eIn_len, eFr_len, eEn_take, eIn_take, eFr_take, eFr_drop, List.append_nil, n1, n2, n3, n4, n5, n6, n7, n8, n9, n10, n11, n12, m1, m2, m3, m4, m5, m6, m7, m8]
    refine callB_pure (apply39 e g i hw) ?_
    simp -implicitDefEqProofs only [go_sem, Nat.reduceEqDiff, Nat.reduceLT, Nat.reduceLeDiff, Nat.reduceAdd, Nat.reduceSub, Nat.reduceMul, Nat.reduceBEq, ↓reduceIte, reduceCtorEq, Int.reduceEq, Int.reduceLT, Int.reduceLE, Int.reduceNeg, Int.reduceAdd, Int.reduceSub, Int.reduceToNat, rws_len, vc_cond, hT, fr_zero, zFr_len, zFr_take, zFr_drop, eEn_len, eIn_len, eFr_len, eEn_take, eIn_take, eFr_take, eFr_drop, List.append_nil, n1, n2, n3, n4, n5, n6, n7, n8, n9, n10, n11, n12, m1, m2, m3, m4, m5, m6, m7, m8, heg]
    intro b11 q1 q2 q3 q4 q5 q6 q7 q8 q9 q10
    simp -implicitDefEqProofs only [go_sem, Nat.reduceEqDiff, Nat.reduceLT, Nat.reduceLeDiff, Nat.reduceAdd, Nat.reduceSub, Nat.reduceMul, Nat.reduceBEq, ↓reduceIte, reduceCtorEq, Int.reduceEq, Int.reduceLT, Int.reduceLE, Int.reduceNeg, Int.reduceAdd, Int.reduceSub, Int.reduceToNat, rws_len, vc_cond, hT, fr_zero, zFr_len, zFr_take, zFr_drop, eEn_len, eIn_len, eFr_len, eEn_take, eIn_take, eFr_take, eFr_drop, List.append_nil, n1, n2, n3, n4, n5, n6, n7, n8, n9, n10, n11, n12, m1, m2, m3, m4, m5, m6, m7, m8, q1, q2, q3, q4, q5, q6, q7, q8, q9, q10, set_set]
  have h0' : (((applyR e g i).2 : Int) = 0) = True := by simp; omega
  have dg := done_iff.1 h0
  have hc := canB_can hw dg.can
  have hlen : e.cs.length * 48 ≤ 140737488355328 := by have := hc.cls; omega
  simp -implicitDefEqProofs only [go_sem, Nat.reduceEqDiff, Nat.reduceLT, Nat.reduceLeDiff, Nat.reduceAdd, Nat.reduceSub, Nat.reduceMul, Nat.reduceBEq, ↓reduceIte, reduceCtorEq, Int.reduceEq, Int.reduceLT, Int.reduceLE, Int.reduceNeg, Int.reduceAdd, Int.reduceSub, Int.reduceToNat, rws_len, vc_cond, hT, fr_zero, zFr_len, zFr_take, zFr_drop, eEn_len, eIn_len, eFr_len, eEn_take, eIn_take, eFr_take, eFr_drop, List.append_nil, n1, n2, n3, n4, n5, n6, n7, n8, n9, n10, n11, n12, m1, m2, m3, m4, m5, m6, m7, m8, set_set, h0', e0]
  refine callB_pure (refSub38 e.cs .no f g hc.right.falls hlen) ?_
  cases hsub : subFr e.cs f g
  · simp -implicitDefEqProofs only [go_sem, Nat.reduceEqDiff, Nat.reduceLT, Nat.reduceLeDiff, Nat.reduceAdd, Nat.reduceSub, Nat.reduceMul, Nat.reduceBEq, ↓reduceIte, reduceCtorEq, Int.reduceEq, Int.reduceLT, Int.reduceLE, Int.reduceNeg, Int.reduceAdd, Int.reduceSub, Int.reduceToNat, rws_len, vc_cond, hT, fr_zero, zFr_len, zFr_take, zFr_drop, eEn_len, eIn_len, eFr_len, eEn_take, eIn_take, eFr_take, eFr_drop, List.append_nil, n1, n2, n3, n4, n5, n6, n7, n8, n9, n10, n11, n12, m1, m2, m3, m4, m5, m6, m7, m8]
    refine ⟨by rintro b (rfl | rfl) <;> simp [St.set_box, n1, n2, n3, n4, n5, n6, n7, n8, n9, n10, n11, n12, m1, m2, m3, m4, m5, m6, m7, m8], callB_pure (env30 e hw) ?_⟩
    simp -implicitDefEqProofs only [go_sem, Nat.reduceEqDiff, Nat.reduceLT, Nat.reduceLeDiff, Nat.reduceAdd, Nat.reduceSub, Nat.reduceMul, Nat.reduceBEq, ↓reduceIte, reduceCtorEq, Int.reduceEq, Int.reduceLT, Int.reduceLE, Int.reduceNeg, Int.reduceAdd, Int.reduceSub, Int.reduceToNat, rws_len, vc_cond, hT, fr_zero, zFr_len, zFr_take, zFr_drop, eEn_len, eIn_len, eFr_len, eEn_take, eIn_take, eFr_take, eFr_drop, List.append_nil, n1, n2, n3, n4, n5, n6, n7, n8, n9, n10, n11, n12, m1, m2, m3, m4, m5, m6, m7, m8]
    refine callB_pure (apply39 e g i hw) ?_
    simp -implicitDefEqProofs only [go_sem, Nat.reduceEqDiff, Nat.reduceLT, Nat.reduceLeDiff, Nat.reduceAdd, Nat.reduceSub, Nat.reduceMul, Nat.reduceBEq, ↓reduceIte, reduceCtorEq, Int.reduceEq, Int.reduceLT, Int.reduceLE, Int.reduceNeg, Int.reduceAdd, Int.reduceSub, Int.reduceToNat, rws_len, vc_cond, hT, fr_zero, zFr_len, zFr_take, zFr_drop, eEn_len, eIn_len, eFr_len, eEn_take, eIn_take, eFr_take, eFr_drop, List.append_nil, n1, n2, n3, n4, n5, n6, n7, n8, n9, n10, n11, n12, m1, m2, m3, m4, m5, m6, m7, m8, heg]
    intro b11 q1 q2 q3 q4 q5 q6 q7 q8 q9 q10
    simp -implicitDefEqProofs only [go_sem, Nat.reduceEqDiff, Nat.reduceLT, Nat.reduceLeDiff, Nat.reduceAdd, Nat.reduceSub, Nat.reduceMul, Nat.reduceBEq, ↓reduceIte, reduceCtorEq, Int.reduceEq, Int.reduceLT, Int.reduceLE, Int.reduceNeg, Int.reduceAdd, Int.reduceSub, Int.reduceToNat, rws_len, vc_cond, hT, fr_zero, zFr_len, zFr_take, zFr_drop, eEn_len, eIn_len, eFr_len, eEn_take, eIn_take, eFr_take, eFr_drop, List.append_nil, n1, n2, n3, n4, n5, n6, n7, n8, n9, n10, n11, n12, m1, m2, m3, m4, m5, m6, m7, m8, q1, q2, q3, q4, q5, q6, q7, q8, q9, q10, set_set]
  obtain ⟨df, hs2⟩ := mono hw dg (subFr_iff.1 hsub)
  have hf0 := done_iff.2 df
  have hs3 := subFr_iff.2 hs2
  simp -implicitDefEqProofs only [go_sem, Nat.reduceEqDiff, Nat.reduceLT, Nat.reduceLeDiff, Nat.reduceAdd, Nat.reduceSub, Nat.reduceMul, Nat.reduceBEq, ↓reduceIte, reduceCtorEq, Int.reduceEq, Int.reduceLT, Int.reduceLE, Int.reduceNeg, Int.reduceAdd, Int.reduceSub, Int.reduceToNat, rws_len, vc_cond, hT, fr_zero, zFr_len, zFr_take, zFr_drop, eEn_len, eIn_len, eFr_len, eEn_take, eIn_take, eFr_take, eFr_drop, List.append_nil, n1, n2, n3, n4, n5, n6, n7, n8, n9, n10, n11, n12, m1, m2, m3, m4, m5, m6, m7, m8]
  refine ⟨by rintro b (rfl | rfl) <;> simp [St.set_box, n1, n2, n3, n4, n5, n6, n7, n8, n9, n10, n11, n12, m1, m2, m3, m4, m5, m6, m7, m8], callB_pure (env30 e hw) ?_⟩
  simp -implicitDefEqProofs only [go_sem, Nat.reduceEqDiff, Nat.reduceLT, Nat.reduceLeDiff, Nat.reduceAdd, Nat.reduceSub, Nat.reduceMul, Nat.reduceBEq, ↓reduceIte, reduceCtorEq, Int.reduceEq, Int.reduceLT, Int.reduceLE, Int.reduceNeg, Int.reduceAdd, Int.reduceSub, Int.reduceToNat, rws_len, vc_cond, hT, fr_zero, zFr_len, zFr_take, zFr_drop, eEn_len, eIn_len, eFr_len, eEn_take, eIn_take, eFr_take, eFr_drop, List.append_nil, n1, n2, n3, n4, n5, n6, n7, n8, n9, n10, n11, n12, m1, m2, m3, m4, m5, m6, m7, m8]
  refine callB_pure (apply39 e f i hw) ?_
  simp -implicitDefEqProofs only [go_sem, Nat.reduceEqDiff, Nat.reduceLT, Nat.reduceLeDiff, Nat.reduceAdd, Nat.reduceSub, Nat.reduceMul, Nat.reduceBEq, ↓reduceIte, reduceCtorEq, Int.reduceEq, Int.reduceLT, Int.reduceLE, Int.reduceNeg, Int.reduceAdd, Int.reduceSub, Int.reduceToNat, rws_len, vc_cond, hT, fr_zero, zFr_len, zFr_take, zFr_drop, eEn_len, eIn_len, eFr_len, eEn_take, eIn_take, eFr_take, eFr_drop, List.append_nil, n1, n2, n3, n4, n5, n6, n7, n8, n9, n10, n11, n12, m1, m2, m3, m4, m5, m6, m7, m8, hef, hf0, Int.ofNat_zero]
  intro b13 q1 q2 q3 q4 q5 q6 q7 q8 q9 q10
  simp -implicitDefEqProofs only [go_sem, Nat.reduceEqDiff, Nat.reduceLT, Nat.reduceLeDiff, Nat.reduceAdd, Nat.reduceSub, Nat.reduceMul, Nat.reduceBEq, ↓reduceIte, reduceCtorEq, Int.reduceEq, Int.reduceLT, Int.reduceLE, Int.reduceNeg, Int.reduceAdd, Int.reduceSub, Int.reduceToNat, rws_len, vc_cond, hT, fr_zero, zFr_len, zFr_take, zFr_drop, eEn_len, eIn_len, eFr_len, eEn_take, eIn_take, eFr_take, eFr_drop, List.append_nil, n1, n2, n3, n4, n5, n6, n7, n8, n9, n10, n11, n12, m1, m2, m3, m4, m5, m6, m7, m8, q1, q2, q3, q4, q5, q6, q7, q8, q9, q10, set_set]
  refine ⟨by rintro b (rfl | rfl) <;> simp [St.set_box, n1, n2, n3, n4, n5, n6, n7, n8, n9, n10, n11, n12, m1, m2, m3, m4, m5, m6, m7, m8, q1, q2, q3, q4, q5, q6, q7, q8, q9, q10], callB_pure (env30 e hw) ?_⟩
  simp -implicitDefEqProofs only [go_sem, Nat.reduceEqDiff, Nat.reduceLT, Nat.reduceLeDiff, Nat.reduceAdd, Nat.reduceSub, Nat.reduceMul, Nat.reduceBEq, ↓reduceIte, reduceCtorEq, Int.reduceEq, Int.reduceLT, Int.reduceLE, Int.reduceNeg, Int.reduceAdd, Int.reduceSub, Int.reduceToNat, rws_len, vc_cond, hT, fr_zero, zFr_len, zFr_take, zFr_drop, eEn_len, eIn_len, eFr_len, eEn_take, eIn_take, eFr_take, eFr_drop, List.append_nil, n1, n2, n3, n4, n5, n6, n7, n8, n9, n10, n11, n12, m1, m2, m3, m4, m5, m6, m7, m8, q1, q2, q3, q4, q5, q6, q7, q8, q9, q10]
  refine callB_pure (apply39 e g i hw) ?_
  simp -implicitDefEqProofs only [go_sem, Nat.reduceEqDiff, Nat.reduceLT, Nat.reduceLeDiff, Nat.reduceAdd, Nat.reduceSub, Nat.reduceMul, Nat.reduceBEq, ↓reduceIte, reduceCtorEq, Int.reduceEq, Int.reduceLT, Int.reduceLE, Int.reduceNeg, Int.reduceAdd, Int.reduceSub, Int.reduceToNat, rws_len, vc_cond, hT, fr_zero, zFr_len, zFr_take, zFr_drop, eEn_len, eIn_len, eFr_len, eEn_take, eIn_take, eFr_take, eFr_drop, List.append_nil, n1, n2, n3, n4, n5, n6, n7, n8, n9, n10, n11, n12, m1, m2, m3, m4, m5, m6, m7, m8, q1, q2, q3, q4, q5, q6, q7, q8, q9, q10, heg, h0, Int.ofNat_zero]
  intro b15 r1 r2 r3 r4 r5 r6 r7 r8 r9 r10 r11 r12
  simp -implicitDefEqProofs only [go_sem, Nat.reduceEqDiff, Nat.reduceLT, Nat.reduceLeDiff, Nat.reduceAdd, Nat.reduceSub, Nat.reduceMul, Nat.reduceBEq, ↓reduceIte, reduceCtorEq, Int.reduceEq, Int.reduceLT, Int.reduceLE, Int.reduceNeg, Int.reduceAdd, Int.reduceSub, Int.reduceToNat, rws_len, vc_cond, hT, fr_zero, zFr_len, zFr_take, zFr_drop, eEn_len, eIn_len, eFr_len, eEn_take, eIn_take, eFr_take, eFr_drop, List.append_nil, n1, n2, n3, n4, n5, n6, n7, n8, n9, n10, n11, n12, m1, m2, m3, m4, m5, m6, m7, m8, q1, q2, q3, q4, q5, q6, q7, q8, q9, q10, r1, r2, r3, r4, r5, r6, r7, r8, r9, r10, r11, r12, set_set, eq_fr, e0]
  refine callB_pure (refSub38 e.cs .no (applyR e f i).1 (applyR e g i).1 hc.right.falls hlen) ?_
  simp -implicitDefEqProofs only [go_sem, Nat.reduceEqDiff, Nat.reduceLT, Nat.reduceLeDiff, Nat.reduceAdd, Nat.reduceSub, Nat.reduceMul, Nat.reduceBEq, ↓reduceIte, reduceCtorEq, Int.reduceEq, Int.reduceLT, Int.reduceLE, Int.reduceNeg, Int.reduceAdd, Int.reduceSub, Int.reduceToNat, rws_len, vc_cond, hT, hs3]
end Go.AL
namespace Go.AL
open Go.Proofs
set_option linter.unusedSimpArgs false
set_option linter.unusedVariables false
set_option maxRecDepth 100000
set_option maxHeartbeats 4000000

theorem law9 (e : En) (f : Fr) (i : Ins) (hw : WideE e) : PCall Try.prog 9 [.agg (eEn e), .agg (eFr f), .agg (eIn i)] (.bool true) := by
  have hef := apply_eq e f i hw
  have e0 : (eEn e)[0]? = some (.slice .no (rws eC e.cs)) := rfl
  refine F9.pcall' rfl fun T hT => ?_
  simp -implicitDefEqProofs only [go_sem, Nat.reduceEqDiff, Nat.reduceLT, Nat.reduceLeDiff, Nat.reduceAdd, Nat.reduceSub, Nat.reduceMul, Nat.reduceBEq, ↓reduceIte, reduceCtorEq, Int.reduceEq, Int.reduceLT, Int.reduceLE, Int.reduceNeg, Int.reduceAdd, Int.reduceSub, Int.reduceToNat, rws_len, vc_cond, c9, hT, fr_zero, zFr_len, zFr_take, zFr_drop, eEn_len, eIn_len, eFr_len, eEn_take, eIn_take, eFr_take, eFr_drop, List.append_nil, fr_0, fr_1]
  intro b3 b4 n1 n2 b5 n3 n4 n5 n6
  simp -implicitDefEqProofs only [go_sem, Nat.reduceEqDiff, Nat.reduceLT, Nat.reduceLeDiff, Nat.reduceAdd, Nat.reduceSub, Nat.reduceMul, Nat.reduceBEq, ↓reduceIte, reduceCtorEq, Int.reduceEq, Int.reduceLT, Int.reduceLE, Int.reduceNeg, Int.reduceAdd, Int.reduceSub, Int.reduceToNat, rws_len, vc_cond, hT, fr_zero, zFr_len, zFr_take, zFr_drop, eEn_len, eIn_len, eFr_len, eEn_take, eIn_take, eFr_take, eFr_drop, List.append_nil, fr_0, fr_1, n1, n2, n3, n4, n5, n6]
  refine ⟨by rintro b (rfl | rfl) <;> simp [St.set_box, n1, n2, n3, n4, n5, n6], callB_pure (env30 e hw) ?_⟩
  simp -implicitDefEqProofs only [go_sem, Nat.reduceEqDiff, Nat.reduceLT, Nat.reduceLeDiff, Nat.reduceAdd, Nat.reduceSub, Nat.reduceMul, Nat.reduceBEq, ↓reduceIte, reduceCtorEq, Int.reduceEq, Int.reduceLT, Int.reduceLE, Int.reduceNeg, Int.reduceAdd, Int.reduceSub, Int.reduceToNat, rws_len, vc_cond, hT, fr_zero, zFr_len, zFr_take, zFr_drop, eEn_len, eIn_len, eFr_len, eEn_take, eIn_take, eFr_take, eFr_drop, List.append_nil, fr_0, fr_1, n1, n2, n3, n4, n5, n6]
  refine callB_pure (apply39 e f i hw) ?_
  simp -implicitDefEqProofs only [go_sem, Nat.reduceEqDiff, Nat.reduceLT, Nat.reduceLeDiff, Nat.reduceAdd, Nat.reduceSub, Nat.reduceMul, Nat.reduceBEq, ↓reduceIte, reduceCtorEq, Int.reduceEq, Int.reduceLT, Int.reduceLE, Int.reduceNeg, Int.reduceAdd, Int.reduceSub, Int.reduceToNat, rws_len, vc_cond, hT, fr_zero, zFr_len, zFr_take, zFr_drop, eEn_len, eIn_len, eFr_len, eEn_take, eIn_take, eFr_take, eFr_drop, List.append_nil, fr_0, fr_1, n1, n2, n3, n4, n5, n6, hef]
  intro b7 m1 m2 m3 m4 m5 m6
  simp -implicitDefEqProofs only [go_sem, Nat.reduceEqDiff, Nat.reduceLT, Nat.reduceLeDiff, Nat.reduceAdd, Nat.reduceSub, Nat.reduceMul, Nat.reduceBEq, ↓reduceIte, reduceCtorEq, Int.reduceEq, Int.reduceLT, Int.reduceLE, Int.reduceNeg, Int.reduceAdd, Int.reduceSub, Int.reduceToNat, rws_len, vc_cond, hT, fr_zero, zFr_len, zFr_take, zFr_drop, eEn_len, eIn_len, eFr_len, eEn_take, eIn_take, eFr_take, eFr_drop, List.append_nil, fr_0, fr_1, n1, n2, n3, n4, n5, n6, m1, m2, m3, m4, m5, m6, set_set]
  refine callB_pure (refApply37 e f i hw) ?_
  simp -implicitDefEqProofs only [go_sem, Nat.reduceEqDiff, Nat.reduceLT, Nat.reduceLeDiff, Nat.reduceAdd, Nat.reduceSub, Nat.reduceMul, Nat.reduceBEq, ↓reduceIte, reduceCtorEq, Int.reduceEq, Int.reduceLT, Int.reduceLE, Int.reduceNeg, Int.reduceAdd, Int.reduceSub, Int.reduceToNat, rws_len, vc_cond, hT, fr_zero, zFr_len, zFr_take, zFr_drop, eEn_len, eIn_len, eFr_len, eEn_take, eIn_take, eFr_take, eFr_drop, List.append_nil, fr_0, fr_1, n1, n2, n3, n4, n5, n6, m1, m2, m3, m4, m5, m6]
  intro b9 q1 q2 q3 q4 q5 q6 q7 q8
  by_cases h0 : (applyR e f i).2 = 0
  case neg =>
    have h0' : (((applyR e f i).2 : Int) = 0) = False := by simp; omega
    simp -implicitDefEqProofs only [go_sem, Nat.reduceEqDiff, Nat.reduceLT, Nat.reduceLeDiff, Nat.reduceAdd, Nat.reduceSub, Nat.reduceMul, Nat.reduceBEq, ↓reduceIte, reduceCtorEq, Int.reduceEq, Int.reduceLT, Int.reduceLE, Int.reduceNeg, Int.reduceAdd, Int.reduceSub, Int.reduceToNat, rws_len, vc_cond, hT, fr_zero, zFr_len, zFr_take, zFr_drop, eEn_len, eIn_len, eFr_len, eEn_take, eIn_take, eFr_take, eFr_drop, List.append_nil, fr_0, fr_1, n1, n2, n3, n4, n5, n6, m1, m2, m3, m4, m5, m6, q1, q2, q3, q4, q5, q6, q7, q8, set_set, h0']
  have h0' : (((applyR e f i).2 : Int) = 0) = True := by simp; omega
  have df := done_iff.1 h0
  have hc := canB_can hw df.can
  have hcnt := done_counts hw df
  have hb := done_behind df
  have hloc := hb.loc
  have hh := hb.h
  rw [givesR_len] at hh
  have hchk := done_check hw df
  have hun := df.under
  obtain ⟨s1, s2, s3, s4⟩ := shaped_of (checkF_shape df.chk)
  have hov := df.over
  rw [givesR_len] at hov
  have t1 := takes34 e i hw
  have t2 := gives35 e i hw
  rw [hcnt] at t1 t2
  generalize (takesO e i i.op.val).length = n at *
  generalize (givesO e i i.op.val).length = m at *
  have w1 : IntKind.wrap .i64 (f.h - n) = f.h - n := wrap_i64 (by omega) (by omega)
  have w2 : IntKind.wrap .i64 (f.h - n + m) = f.h - n + m := wrap_i64 (by omega) (by omega)
  simp -implicitDefEqProofs only [go_sem, Nat.reduceEqDiff, Nat.reduceLT, Nat.reduceLeDiff, Nat.reduceAdd, Nat.reduceSub, Nat.reduceMul, Nat.reduceBEq, ↓reduceIte, reduceCtorEq, Int.reduceEq, Int.reduceLT, Int.reduceLE, Int.reduceNeg, Int.reduceAdd, Int.reduceSub, Int.reduceToNat, rws_len, vc_cond, hT, fr_zero, zFr_len, zFr_take, zFr_drop, eEn_len, eIn_len, eFr_len, eEn_take, eIn_take, eFr_take, eFr_drop, List.append_nil, fr_0, fr_1, n1, n2, n3, n4, n5, n6, m1, m2, m3, m4, m5, m6, q1, q2, q3, q4, q5, q6, q7, q8, set_set, h0, Int.ofNat_zero]
  refine ⟨by rintro b rfl; simp [St.set_box, n1, n2, n3, n4, n5, n6, m1, m2, m3, m4, m5, m6, q1, q2, q3, q4, q5, q6, q7, q8], callB_pure (env30 e hw) ?_⟩
  simp -implicitDefEqProofs only [go_sem, Nat.reduceEqDiff, Nat.reduceLT, Nat.reduceLeDiff, Nat.reduceAdd, Nat.reduceSub, Nat.reduceMul, Nat.reduceBEq, ↓reduceIte, reduceCtorEq, Int.reduceEq, Int.reduceLT, Int.reduceLE, Int.reduceNeg, Int.reduceAdd, Int.reduceSub, Int.reduceToNat, rws_len, vc_cond, hT, fr_zero, zFr_len, zFr_take, zFr_drop, eEn_len, eIn_len, eFr_len, eEn_take, eIn_take, eFr_take, eFr_drop, List.append_nil, fr_0, fr_1, n1, n2, n3, n4, n5, n6, m1, m2, m3, m4, m5, m6, q1, q2, q3, q4, q5, q6, q7, q8]
  refine callB_pure t1 ?_
  simp -implicitDefEqProofs only [go_sem, Nat.reduceEqDiff, Nat.reduceLT, Nat.reduceLeDiff, Nat.reduceAdd, Nat.reduceSub, Nat.reduceMul, Nat.reduceBEq, ↓reduceIte, reduceCtorEq, Int.reduceEq, Int.reduceLT, Int.reduceLE, Int.reduceNeg, Int.reduceAdd, Int.reduceSub, Int.reduceToNat, rws_len, vc_cond, hT, fr_zero, zFr_len, zFr_take, zFr_drop, eEn_len, eIn_len, eFr_len, eEn_take, eIn_take, eFr_take, eFr_drop, List.append_nil, fr_0, fr_1, n1, n2, n3, n4, n5, n6, m1, m2, m3, m4, m5, m6, q1, q2, q3, q4, q5, q6, q7, q8, Int.ofNat_zero]
  refine ⟨by rintro b rfl; simp [St.set_box, n1, n2, n3, n4, n5, n6, m1, m2, m3, m4, m5, m6, q1, q2, q3, q4, q5, q6, q7, q8], callB_pure (env30 e hw) ?_⟩
  simp -implicitDefEqProofs only [go_sem, Nat.reduceEqDiff, Nat.reduceLT, Nat.reduceLeDiff, Nat.reduceAdd, Nat.reduceSub, Nat.reduceMul, Nat.reduceBEq, ↓reduceIte, reduceCtorEq, Int.reduceEq, Int.reduceLT, Int.reduceLE, Int.reduceNeg, Int.reduceAdd, Int.reduceSub, Int.reduceToNat, rws_len, vc_cond, hT, fr_zero, zFr_len, zFr_take, zFr_drop, eEn_len, eIn_len, eFr_len, eEn_take, eIn_take, eFr_take, eFr_drop, List.append_nil, fr_0, fr_1, n1, n2, n3, n4, n5, n6, m1, m2, m3, m4, m5, m6, q1, q2, q3, q4, q5, q6, q7, q8]
  refine callB_pure t2 ?_
  simp -implicitDefEqProofs only [go_sem, Nat.reduceEqDiff, Nat.reduceLT, Nat.reduceLeDiff, Nat.reduceAdd, Nat.reduceSub, Nat.reduceMul, Nat.reduceBEq, ↓reduceIte, reduceCtorEq, Int.reduceEq, Int.reduceLT, Int.reduceLE, Int.reduceNeg, Int.reduceAdd, Int.reduceSub, Int.reduceToNat, rws_len, vc_cond, hT, fr_zero, zFr_len, zFr_take, zFr_drop, eEn_len, eIn_len, eFr_len, eEn_take, eIn_take, eFr_take, eFr_drop, List.append_nil, fr_0, fr_1, n1, n2, n3, n4, n5, n6, m1, m2, m3, m4, m5, m6, q1, q2, q3, q4, q5, q6, q7, q8, Int.ofNat_zero, hloc, hh, w1, w2, e0, List.getElem?_drop]
  refine callB_pure (refCheck40 e.cs .no (applyR e f i).1) ?_
  simp -implicitDefEqProofs only [go_sem, Nat.reduceEqDiff, Nat.reduceLT, Nat.reduceLeDiff, Nat.reduceAdd, Nat.reduceSub, Nat.reduceMul, Nat.reduceBEq, ↓reduceIte, reduceCtorEq, Int.reduceEq, Int.reduceLT, Int.reduceLE, Int.reduceNeg, Int.reduceAdd, Int.reduceSub, Int.reduceToNat, rws_len, vc_cond, hT, hchk, Int.ofNat_zero]
end Go.AL
