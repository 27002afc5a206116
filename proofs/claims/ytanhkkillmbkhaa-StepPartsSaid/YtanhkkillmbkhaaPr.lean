import Derived.Test.YtanhkkillmbkhaaPq
namespace Go.AL
open Go.Proofs
set_option linter.unusedSimpArgs false
set_option linter.unusedVariables false
set_option maxRecDepth 100000
set_option maxHeartbeats 4000000

theorem wantedAll_iff {l : List Cl} {tk had : List Ty} (hl : tk.length = had.length) : wantedAll l tk had = true ↔ ∀ k, k < tk.length → wantedB l ((had[k]?).getD 0) ((tk[k]?).getD 0) = true := by
  unfold wantedAll
  rw [List.all_eq_true]
  constructor
  · intro h k hk
    have hk' : k < had.length := by omega
    rw [List.getElem?_eq_getElem hk, List.getElem?_eq_getElem hk']
    exact h (tk[k], had[k]) (by
      refine List.mem_of_getElem? (i := k) ?_
      rw [List.getElem?_zip_eq_some]; simp [hk, hk'])
  · intro h p hp
    obtain ⟨k, hk⟩ := List.getElem?_of_mem hp
    rw [List.getElem?_zip_eq_some] at hk
    obtain ⟨h1, h2⟩ := hk
    have := h k (List.getElem?_eq_some_iff.1 h1).1
    rw [h1, h2] at this
    exact this
structure SubF (l : List Cl) (a b : Fr) : Prop where
  ca : checkF l.length a = 0
  cb : checkF l.length b = 0
  loc : a.loc = b.loc
  h : a.h = b.h
  sl : ∀ i, i < 24 → subB l (slAt a i) (slAt b i) = true
theorem had_mono {l : List Cl} {a b : Fr} (h : SubF l a b) {n : Nat} (hn : (n : Int) ≤ a.h) (k : Nat) : subB l (((hadL a n)[k]?).getD 0) (((hadL b n)[k]?).getD 0) = true := by
  obtain ⟨s1, s2, s3, s4⟩ := shaped_of (checkF_shape h.ca)
  by_cases hk : k < n
  · rw [hadL_at hk, hadL_at hk, ← h.loc, ← h.h]
    exact h.sl _ (by omega)
  · rw [List.getElem?_eq_none (by rw [hadL_len]; omega), List.getElem?_eq_none (by rw [hadL_len]; omega)]
    exact subB_zero l
theorem head_mono {l : List Cl} {a b : Fr} (h : SubF l a b) {n : Nat} (hn : (n : Int) ≤ a.h) : subB l ((hadL a n).headD 0) ((hadL b n).headD 0) = true := by
  have e : ∀ L : List Ty, L.headD 0 = (L[0]?).getD 0 := fun L => by cases L <;> rfl
  rw [e, e]; exact had_mono h hn 0

theorem mono {e : En} {f g : Fr} {i : Ins} (hw : WideE e) (hd : Done e g i) (hs : SubF e.cs f g) : Done e f i ∧ SubF e.cs (applyR e f i).1 (applyR e g i).1 := by
  obtain ⟨s1, s2, s3, s4⟩ := shaped_of (checkF_shape hs.ca)
  have hloc := hs.loc
  have hh := hs.h
  have hun : ((takesO e i i.op.val).length : Int) ≤ f.h := by rw [hh]; exact hd.under
  have hl : i.op.val = 4 ∨ i.op.val = 5 → 0 ≤ i.a ∧ i.a < f.loc := fun h => by have := hd.loc h; omega
  have h16 : i.op.val = 16 → (takesO e i i.op.val).length = 2 := fun h => by rw [h]; rfl
  have df : Done e f i := by
    refine ⟨hd.can, hs.ca, hd.op, hl, hd.opnd, hun, ?_, fun h => ?_, fun h => ?_, by rw [hh]; exact hd.ret, ?_⟩
    · rw [wantedAll_iff (by rw [hadL_len])]
      intro k hk
      have := (wantedAll_iff (by rw [hadL_len])).1 hd.want k hk
      exact wanted_mono (had_mono hs hun k) this
    · have h2 := h16 h
      rw [h2] at hun
      have := hd.same h
      simp only [sameB, decide_eq_true_eq] at this ⊢
      obtain ⟨t1, t2⟩ := this
      have e0 := small_mono (had_mono hs hun 0) t2
      have e1 := small_mono (had_mono hs hun 1) (by rw [← t1]; exact t2)
      rw [e0, e1]
      exact ⟨t1, t2⟩
    · have := hl (.inl h)
      exact known_mono (hs.sl _ (by omega)) (hd.known h)
    · have := hd.over
      rw [givesR_len] at this ⊢
      omega
  refine ⟨df, done_check hw df, done_check hw hd, ?_, ?_, fun k hk => ?_⟩
  · rw [(done_behind df).loc, (done_behind hd).loc, hloc]
  · rw [(done_behind df).h, (done_behind hd).h, givesR_len, givesR_len, hh]
  · rw [(done_behind df).sl k hk, (done_behind hd).sl k hk, hloc, hh]
    split
    · split
      · exact head_mono hs hun
      · exact hs.sl k hk
    · generalize k - (g.loc + g.h - (takesO e i i.op.val).length).toNat = j
      have hv := givesR_valid hw df
      unfold givesR at hv ⊢
      split
      · rename_i h4
        have := hl (.inl h4)
        cases j with
        | zero => exact hs.sl _ (by omega)
        | succ j => simp only [List.getElem?_cons_succ, List.getElem?_nil, Option.getD_none]; exact subB_zero _
      rename_i n4
      rw [if_neg n4] at hv
      split
      · match j with
        | 0 => exact head_mono hs hun
        | 1 => exact head_mono hs hun
        | j + 2 => simp only [List.getElem?_cons_succ, List.getElem?_nil, Option.getD_none]; exact subB_zero _
      rename_i n7
      rw [if_neg n7] at hv
      split
      · match j with
        | 0 => exact had_mono hs hun 1
        | 1 => exact head_mono hs hun
        | j + 2 => simp only [List.getElem?_cons_succ, List.getElem?_nil, Option.getD_none]; exact subB_zero _
      rename_i n8
      rw [if_neg n8] at hv
      cases hg : (givesO e i i.op.val)[j]? with
      | none => exact subB_zero _
      | some t => exact subB_refl (hv t (List.mem_of_getElem? hg))

end Go.AL
