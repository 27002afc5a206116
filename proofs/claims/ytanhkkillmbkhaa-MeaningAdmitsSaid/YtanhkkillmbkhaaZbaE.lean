import Derived.Test.YtanhkkillmbkhaaZbaD
namespace Go.AL
set_option linter.unusedVariables false
set_option linter.unusedSimpArgs false

section
variable {P : Program} {N : Nat} {T : Env} {σ : St} {K K' : Env → St → Prop} {Q : XA → Env → St → Prop} {B : List Nat}

def keepK (B : List Nat) : Kd → St → St → Prop
  | .C => keepB B
  | .A => keepA
  | _ => fun σ σ' => σ' = σ

theorem pure_mono {op : Op} {dst : Option Nat} (h : match pureD P op T with | some (side, d) => side ∧ putK N dst d K T σ | none => False) (hk : ∀ v, K (aput T dst v) σ → K' (aput T dst v) σ) :
    match pureD P op T with | some (side, d) => side ∧ putK N dst d K' T σ | none => False := by
  split at h
  · exact ⟨h.1, putK_cases h.2 (hk _)⟩
  · exact h.elim

theorem mono_core {fl st : Bool} {o : AO} (hg : good B σ) (h : dcore P N B fl st o Q K T σ) (hk : ∀ v σ', keepK B (kd o.op) σ σ' → good B σ' → K (aput T o.d v) σ' → K' (aput T o.d v) σ') : dcore P N B fl st o Q K' T σ := by
  obtain ⟨dst, op, g⟩ := o
  simp only at hk
  cases op
  case load t x =>
    rw [load_core] at h ⊢
    split at h
    · exact putK_cases h (hk _ σ rfl hg)
    · exact h.elim
  case store t x y =>
    simp only [dcore, aop] at h ⊢
    cases hx : ev T x <;> simp only [hx] at h ⊢
    rename_i b off
    obtain ⟨hb, h⟩ := h
    refine ⟨hb, ?_⟩
    split at h
    · rename_i cs vs hcs hvs
      exact ⟨h.1, putK_cases h.2 (hk _ _ (keepB_set hb) (good_set hg (keepB_set hb)))⟩
    · exact h.elim
  case alloc t =>
    simp only [dcore, aop] at h ⊢
    split at h
    · exact fun b hb => putK_cases (h b hb) (hk _ _ (keepA_set hb) (good_set hg ((keepA_set hb).toB hg)))
    · exact h.elim
  case box t x =>
    simp only [dcore, aop] at h ⊢
    split at h
    · exact fun b hb => putK_cases (h b hb) (hk _ _ (keepA_set hb) (good_set hg ((keepA_set hb).toB hg)))
    · exact h.elim
  case buildSlice t len parts =>
    have hF : kd (Op.buildSlice t len parts) = .F := rfl
    rw [kdF_eq hF] at h ⊢
    split at h
    · exact ⟨h.1, putK_cases h.2 (hk _ σ rfl hg)⟩
    · exact h.elim
  case panic x => exact h
  case binOp bop xt x y yt =>
    have hk' : ∀ v, K (aput T dst v) σ → K' (aput T dst v) σ := fun v => hk v σ (by simp only [kd]; split <;> rfl) hg
    simp only [dcore, aop, binA] at h ⊢
    split at h
    · split at h
      · exact fun r hr => putK_cases (h r hr) (hk' _)
      · exact h.elim
    · split at h
      · exact fun r hr => putK_cases (h r hr) (hk' _)
      · exact h.elim
    · split at h
      · exact ⟨h.1, putK_cases h.2 (hk' _)⟩
      · exact h.elim
  case call c =>
    obtain ⟨callee, args, argTypes⟩ := c
    cases callee with
    | value f =>
      simp only [dcore] at h ⊢
      split at h
      · obtain ⟨s, fr, R, h1, h2, h3, h4, h5⟩ := h
        refine ⟨s, fr, R, h1, h2, h3, h4, fun x s' hR hap hf => ?_⟩
        have := h5 x s' hR hap hf
        cases x with
        | pan d => exact this
        | ret d => exact putK_cases this (hk _ _ (keepB_join h1 h2 hg hap) ((keepB_join h1 h2 hg hap).good hg (fin_join hf (fin_right (by rw [← h1.eq]; exact hg.1)))))
      · exact h.elim
    | invoke r m => exact (show False by simp [dcore, aop, pureD] at h).elim
    | builtin b =>
      cases b
      case append =>
        simp only [dcore, aop] at h ⊢
        split at h
        · exact append_mono hg h fun v σ' hb hg' => hk v σ' hb hg'
        · exact h.elim
      case len =>
        rw [kdF_eq rfl] at h ⊢
        split at h
        · exact ⟨h.1, putK_cases h.2 (hk _ σ rfl hg)⟩
        · exact h.elim
      case min =>
        rw [kdF_eq rfl] at h ⊢
        split at h
        · exact ⟨h.1, putK_cases h.2 (hk _ σ rfl hg)⟩
        · exact h.elim
      case max =>
        rw [kdF_eq rfl] at h ⊢
        split at h
        · exact ⟨h.1, putK_cases h.2 (hk _ σ rfl hg)⟩
        · exact h.elim
      all_goals exact (show False by simp [dcore, aop, pureD] at h).elim
  all_goals first
    | (rw [kdF_eq rfl] at h ⊢
       split at h
       · exact ⟨h.1, putK_cases h.2 (hk _ σ rfl hg)⟩
       · exact h.elim)
    | (simp [dcore, aop, pureD] at h; done)

theorem keepK_refl (k : Kd) : keepK B k σ σ := by
  cases k <;> first | rfl | exact fun _ _ => rfl

theorem mono_dop {fl st : Bool} {o : AO} : MonoT (keepK B (kd o.op)) B (dop P N B fl st o Q) o.d := by
  intro K K' T σ hg h hk
  unfold dop at h ⊢
  cases hgo : o.g with
  | none => rw [hgo] at h; exact mono_core hg h hk
  | some p =>
    obtain ⟨u, w⟩ := p
    rw [hgo] at h
    simp only at h ⊢
    cases hT : gq (T u) w <;> simp only [hT] at h ⊢
    rename_i b
    simp only [br] at h ⊢
    split at h
    · rename_i hb; rw [if_pos hb]; exact mono_core hg h hk
    · rename_i hb; rw [if_neg hb]; exact putK_cases h (hk _ σ (keepK_refl _) hg)

theorem kd_cases {op : Op} (h : kd op = .C ∨ kd op = .A) : (∃ t x v, op = .store t x v) ∨ (∃ f args ts, op = .call { callee := .value f, args, argTypes := ts }) ∨ (∃ args ts, op = .call { callee := .builtin .append, args, argTypes := ts }) ∨ (∃ t, op = .alloc t) ∨ ∃ t x, op = .box t x := by
  cases op
  case call c =>
    obtain ⟨callee, args, argTypes⟩ := c
    cases callee with
    | value f => exact .inr (.inl ⟨f, args, argTypes, rfl⟩)
    | invoke r m => rcases h with h | h <;> (simp only [kd] at h; cases h)
    | builtin b =>
      cases b
      case append => exact .inr (.inr (.inl ⟨args, argTypes, rfl⟩))
      all_goals (rcases h with h | h <;> (simp only [kd] at h; cases h))
  case store t x v => exact .inl ⟨t, x, v, rfl⟩
  case alloc t => exact .inr (.inr (.inr (.inl ⟨t, rfl⟩)))
  case box t x => exact .inr (.inr (.inr (.inr ⟨t, x, rfl⟩)))
  case binOp bop xt x y yt =>
    simp only [kd] at h
    split at h <;> (rcases h with h | h <;> cases h)
  all_goals (rcases h with h | h <;> (simp only [kd] at h; cases h))

theorem set_box_ne {b z : Nat} {cs : List D} (h : b ≠ z) : (σ.set b cs).box z = σ.box z := by
  simp only [St.set]; rw [if_neg (Ne.symm h)]

theorem split_box {s fr s' : St} (hs : St.split σ s fr) {z : Nat} (hz : σ.box z = none ∨ ¬ s.has z) (hap : St.apart s' fr) (hz' : s'.box z = none) : (St.join s' fr).box z = σ.box z := by
  have h3 : σ.box z = (s.box z).or (fr.box z) := by rw [hs.eq]; rfl
  have h4 : s.box z = none := by
    rcases hz with hz | hz
    · rw [hz] at h3
      cases hc : s.box z with
      | none => rfl
      | some c => rw [hc] at h3; simp at h3
    · cases hc : s.box z with
      | none => rfl
      | some c => exact absurd (has_box hc) hz
  rw [h3, h4]; simp [St.join, hz']

/-- It comes to something. -/
theorem ex_core {fl : Bool} {o : AO} (ho : kd o.op = .C ∨ kd o.op = .A) (hg : good B σ) (h : dcore P N B fl true o Q K T σ) : ∀ z, (kd o.op = .C → z ∈ B ∨ σ.box z = none → True) → ∃ v σ', keepK B (kd o.op) σ σ' ∧ (kd o.op = .A → σ'.box z = σ.box z) ∧ good B σ' ∧ K (aput T o.d v) σ' := by
  intro z _
  obtain ⟨dst, op, g⟩ := o
  simp only at ho ⊢
  rcases kd_cases ho with ⟨t, x, v, rfl⟩ | ⟨f, args, ts, rfl⟩ | ⟨args, ts, rfl⟩ | ⟨t, rfl⟩ | ⟨t, x, rfl⟩
  · simp only [dcore, aop] at h
    cases hx : ev T x <;> simp only [hx] at h
    rename_i b off
    obtain ⟨hb, h⟩ := h
    split at h
    · exact ⟨_, _, keepB_set hb, fun hk => (by cases hk), good_set hg (keepB_set hb), (putK_aput.1 h.2).2⟩
    · exact h.elim
  · simp only [dcore] at h
    split at h
    · obtain ⟨s, fr, R, h1, h2, h3, h4, h5⟩ := h
      obtain ⟨⟨d, s', hR, hin, hf⟩, _⟩ := h4 rfl
      have hap : St.apart s' fr := fun b hb => h1.apart b (hin b hb)
      have hk := keepB_join h1 h2 hg hap
      exact ⟨_, _, hk, fun hk => (by cases hk), hk.good hg (fin_join hf (fin_right (by rw [← h1.eq]; exact hg.1))), (putK_aput.1 (h5 (.ret d) s' hR hap hf)).2⟩
    · exact h.elim
  · simp only [dcore, aop] at h
    split at h
    · obtain ⟨v, σ', h1, _, h2, h3⟩ := append_ex hg h z
      exact ⟨v, σ', h1, fun hk => (by cases hk), h2, h3⟩
    · exact h.elim
  · simp only [dcore, aop] at h
    split at h
    · obtain ⟨b, hb, hbz⟩ := fin_fresh hg.1 z
      exact ⟨_, _, keepA_set hb, fun _ => set_box_ne hbz, good_set hg ((keepA_set hb).toB hg), (putK_aput.1 (h b hb)).2⟩
    · exact h.elim
  · simp only [dcore, aop] at h
    split at h
    · obtain ⟨b, hb, hbz⟩ := fin_fresh hg.1 z
      exact ⟨_, _, keepA_set hb, fun _ => set_box_ne hbz, good_set hg ((keepA_set hb).toB hg), (putK_aput.1 (h b hb)).2⟩
    · exact h.elim

/-! #### a new box that comes behind may come ahead -/
theorem set_has {b x : Nat} {cs : List D} : (σ.set b cs).has x ↔ x = b ∨ σ.has x := by
  simp only [St.has, St.set]
  by_cases h : x = b <;> simp [h]

theorem set_comm {a b : Nat} {cs ds : List D} (h : a ≠ b) : (σ.set a cs).set b ds = (σ.set b ds).set a cs := by
  ext x l
  · simp only [St.set]
    by_cases h1 : x = a <;> by_cases h2 : x = b <;> simp_all
  · rfl

theorem setBuf_has {b x s n : Nat} : (σ.setBuf b s n).has x ↔ x = b ∨ σ.has x := by
  simp only [St.has, St.setBuf]
  by_cases h : x = b <;> simp [h]

/-- 'f' behind a new box does what it does ahead of it. -/
def AddT (B : List Nat) (f : Tr) : Prop := ∀ (K : Env → St → Prop) (T : Env) (σ : St) (b : Nat) (z : List D), good B σ → ¬ σ.has b → f (fun T' σ' => ¬ σ'.has b → K T' (σ'.set b z)) T σ → f K T (σ.set b z)

theorem add_append {t t' : TypeId} {x y : D} {dst : Option Nat} {b : Nat} {z : List D} (hb : ¬ σ.has b) (h : appendA P N dst t t' x y (fun T' σ' => ¬ σ'.has b → K T' (σ'.set b z)) T σ) : appendA P N dst t t' x y K T (σ.set b z) := by
  have put : ∀ {v : D} {σ₁ σ₂ : St}, putK N dst v (fun T' σ' => ¬ σ'.has b → K T' (σ'.set b z)) T σ₁ → ¬ σ₁.has b → σ₁.set b z = σ₂ → putK N dst v K T σ₂ := by
    intro v σ₁ σ₂ h h1 h2
    subst h2
    obtain ⟨h3, h4⟩ := putK_aput.1 h
    exact putK_aput.2 ⟨h3, h4 h1⟩
  unfold appendA at h ⊢
  split at h
  · obtain ⟨h0, h⟩ := h
    refine ⟨h0, ?_⟩
    split at h
    · obtain ⟨h1, h2, h3, h4, h5, h⟩ := h
      refine ⟨h1, h2, h3, h4, h5, ?_⟩
      rename_i ow xs ow' ys e e' he he' _ _ _ s by' zz _ _ _
      cases ow with
      | buf a s' =>
        refine ⟨h.1, h.2.1, fun b' hb' => ?_⟩
        have hne : b' ≠ b := fun he => hb' (by subst he; exact .inl (by simp [St.set, St.dropBuf]))
        refine put (h.2.2 b' ?_) ?_ ?_
        · intro hin
          refine hb' ?_
          rcases hin with hin | hin
          · refine .inl ?_; simp only [St.set, St.dropBuf] at hin ⊢; rw [if_neg hne]; exact hin
          · exact .inr hin
        · intro hin
          rcases setBuf_has.1 hin with h6 | h6
          · exact hne h6.symm
          · exact hb (dropBuf_has h6)
        · rfl
      | nil =>
        refine ⟨fun hy => put (h.1 hy) hb rfl, fun hy b' hb' => ?_⟩
        have hne : b' ≠ b := fun he => hb' (set_has.2 (.inl he))
        refine put (h.2 hy b' fun hin => hb' (set_has.2 (.inr hin))) ?_ rfl
        intro hin
        rcases setBuf_has.1 hin with h6 | h6
        · exact hne h6.symm
        · exact hb h6
      | exact =>
        refine ⟨h.1, fun hy => put (h.2.1 hy) hb rfl, fun hy b' hb' => ?_⟩
        have hne : b' ≠ b := fun he => hb' (set_has.2 (.inl he))
        refine put (h.2.2 hy b' fun hin => hb' (set_has.2 (.inr hin))) ?_ rfl
        intro hin
        rcases setBuf_has.1 hin with h6 | h6
        · exact hne h6.symm
        · exact hb h6
      | no => exact h.elim
    · exact h.elim
  · exact h.elim

theorem add_core {fl st : Bool} {o : AO} (ho : kd o.op = .C ∨ kd o.op = .A) : AddT B (dcore P N B fl st o Q) := by
  intro K T σ b z hg hb h
  obtain ⟨dst, op, g⟩ := o
  simp only at ho
  rcases kd_cases ho with ⟨t, x, v, rfl⟩ | ⟨f, args, ts, rfl⟩ | ⟨args, ts, rfl⟩ | ⟨t, rfl⟩ | ⟨t, x, rfl⟩
  · simp only [dcore, aop] at h ⊢
    cases hx : ev T x <;> simp only [hx] at h ⊢
    rename_i c off
    obtain ⟨hcB, h⟩ := h
    refine ⟨hcB, ?_⟩
    split at h
    · rename_i cs vs hcs hvs
      have hne : c ≠ b := fun he => hb (by subst he; exact has_box hcs)
      rw [set_box_ne (Ne.symm hne), hcs, hvs]
      refine ⟨h.1, ?_⟩
      obtain ⟨h1, h2⟩ := putK_aput.1 h.2
      refine putK_aput.2 ⟨h1, ?_⟩
      rw [set_comm (Ne.symm hne)]
      exact h2 fun hin => by
        rcases set_has.1 hin with h3 | h3
        · exact hne h3.symm
        · exact hb h3
    · exact h.elim
  · simp only [dcore] at h ⊢
    split at h
    · rename_i gf fi ca hf
      obtain ⟨s, fr, R, h1, h2, h3, h4, h5⟩ := h
      have hsb : ¬ s.has b := fun hin => hb (by rw [h1.eq]; exact (join_has b).2 (.inl hin))
      have hfb : ¬ fr.has b := fun hin => hb (by rw [h1.eq]; exact (join_has b).2 (.inr hin))
      have heq : ∀ s₁ : St, ¬ s₁.has b → (St.join s₁ fr).set b z = St.join s₁ (fr.set b z) := fun s₁ hs₁ => by
        ext x l
        · simp only [St.set, St.join]
          by_cases hx : x = b
          · subst hx
            have : s₁.box x = none := by
              cases hc : s₁.box x with
              | none => rfl
              | some c => exact absurd (has_box hc) hs₁
            simp [this]
          · simp [hx]
        · rfl
      refine ⟨s, fr.set b z, R, ⟨by rw [h1.eq, heq s hsb], fun x hx hin => ?_⟩, h2, h3, h4, fun x s' hR hap hf => ?_⟩
      · rcases set_has.1 hin with h6 | h6
        · subst h6; exact hsb hx
        · exact h1.apart x hx h6
      · have hap' : St.apart s' fr := fun y hy hin => hap y hy (set_has.2 (.inr hin))
        have hs'b : ¬ s'.has b := fun hin => hap b hin (set_has.2 (.inl rfl))
        have := h5 x s' hR hap' hf
        cases x with
        | ret d =>
          obtain ⟨r1, r2⟩ := putK_aput.1 this
          refine putK_aput.2 ⟨r1, ?_⟩
          rw [← heq s' hs'b]
          exact r2 fun hin => by
            rcases (join_has b).1 hin with h6 | h6
            · exact hs'b h6
            · exact hfb h6
        | pan d =>
          obtain ⟨s₁, r1, r2⟩ := this
          refine ⟨s₁, r1.trans ?_, r2⟩
          rw [← heq s' hs'b]
          refine ⟨fun y cs hy => ?_, fun y p hy => hy⟩
          have hne : y ≠ b := fun he => by
            subst he
            rcases (join_has y).1 (has_box hy) with h6 | h6
            · exact hs'b h6
            · exact hfb h6
          rw [set_box_ne (Ne.symm hne)]; exact hy
    · exact h.elim
  · simp only [dcore, aop] at h ⊢
    split at h
    · rename_i x y t t' ha ht
      exact add_append hb h
    · exact h.elim
  · simp only [dcore, aop] at h ⊢
    split at h
    · rename_i zz hz
      intro c hc
      have hne : c ≠ b := fun he => hc (set_has.2 (.inl he))
      have hc' : ¬ σ.has c := fun hin => hc (set_has.2 (.inr hin))
      obtain ⟨h1, h2⟩ := putK_aput.1 (h c hc')
      refine putK_aput.2 ⟨h1, ?_⟩
      rw [set_comm (Ne.symm hne)]
      exact h2 fun hin => by
        rcases set_has.1 hin with h3 | h3
        · exact hne h3.symm
        · exact hb h3
    · exact h.elim
  · simp only [dcore, aop] at h ⊢
    split at h
    · rename_i zz hz
      intro c hc
      have hne : c ≠ b := fun he => hc (set_has.2 (.inl he))
      have hc' : ¬ σ.has c := fun hin => hc (set_has.2 (.inr hin))
      obtain ⟨h1, h2⟩ := putK_aput.1 (h c hc')
      refine putK_aput.2 ⟨h1, ?_⟩
      rw [set_comm (Ne.symm hne)]
      exact h2 fun hin => by
        rcases set_has.1 hin with h3 | h3
        · exact hne h3.symm
        · exact hb h3
    · exact h.elim
end
end Go.AL
