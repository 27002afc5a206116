import Derived.Test.YtanhkkillmbkhaaZbaC
namespace Go.AL
set_option linter.unusedVariables false
set_option linter.unusedSimpArgs false

section
variable {P : Program} {N : Nat} {T : Env} {σ : St} {K K' : Env → St → Prop} {Q : XA → Env → St → Prop} {B : List Nat}

/-! #### loads -/
def whichL (o : AO) (T : Env) : Option Nat :=
  let w := match o.op with
    | .load _ x => match ev T x with
      | .ptr b _ => some b
      | _ => none
    | _ => none
  match o.g with
  | none => w
  | some (t, want) => match gq (T t) want with
    | some c => if c = true then w else none
    | none => none

def detL (P : Program) (fl : Bool) (B : List Nat) (o : AO) (T : Env) (σ : St) : Option D :=
  let r := match o.op with
    | .load t x => match ev T x with
      | .ptr b off => if fl = true → b ∈ B then match σ.box b with
        | some cs => partD P t (cs.drop off) 0
        | none => none
        else none
      | .eptr cs => partD P t cs 0
      | _ => none
    | _ => none
  match o.g with
  | none => r
  | some (t, want) => match gq (T t) want with
    | some c => if c = true then r else some (.tup [])
    | none => none

theorem load_core {fl st : Bool} {dst : Option Nat} {g : Option (Nat × Bool)} {t : TypeId} {x : Operand} : dcore P N B fl st ⟨dst, .load t x, g⟩ Q K T σ ↔
    match (match ev T x with
      | .ptr b off => if fl = true → b ∈ B then match σ.box b with
        | some cs => partD P t (cs.drop off) 0
        | none => none
        else none
      | .eptr cs => partD P t cs 0
      | _ => none) with | some d => putK N dst d K T σ | none => False := by
  simp only [dcore, aop]
  cases ev T x <;> try exact Iff.rfl
  rename_i b off
  simp only
  by_cases hb : fl = true → b ∈ B
  · rw [if_pos hb]
    cases σ.box b with
    | none => simp
    | some cs => exact ⟨fun h => h.2, fun h => ⟨hb, h⟩⟩
  · rw [if_neg hb]
    simp [hb]

theorem load_dop {fl st : Bool} {o : AO} (h : kd o.op = .L) : LoadT N (dop P N B fl st o Q) o.d (looksO o) (whichL o) (detL P fl B o) := by
  obtain ⟨dst, op, g⟩ := o
  cases op <;> simp only [kd, reduceCtorEq] at h
  case binOp => split at h <;> cases h
  case call c =>
    obtain ⟨callee, args, argTypes⟩ := c
    cases callee with
    | builtin b => cases b <;> simp only [kd, reduceCtorEq] at h
    | _ => simp only [kd, reduceCtorEq] at h
  case load t x =>
    refine ⟨fun K T σ => ?_, fun T u d σ hu => ?_, fun T σ σ' hs => ?_⟩
    · cases g with
      | none => exact load_core (st := st)
      | some p =>
        obtain ⟨u, w⟩ := p
        simp only [dop, detL]
        cases hT : gq (T u) w <;> try exact Iff.rfl
        rename_i b
        simp only [br]
        by_cases hb : b = true
        · simp only [hb, if_true]; exact load_core (st := st)
        · simp only [hb, if_false]; exact Iff.rfl
    · have hx : ev (upd T u d) x = ev T x := ev_upd (tmpsOf_ne (looks_tmps hu) x (by simp [opndsOf, Op.operands]))
      cases g with
      | none => simp only [detL, whichL, hx, and_self]
      | some p =>
        obtain ⟨v, w⟩ := p
        have hv : upd T u d v = T v := by simp [upd, looks_guard hu rfl]
        simp only [detL, whichL, hx, hv, and_self]
    · have key : ∀ b, (match ev T x with | .ptr b _ => some b | _ => none) = some b → σ'.box b = σ.box b → (match ev T x with
          | .ptr b off => if fl = true → b ∈ B then match σ'.box b with
            | some cs => partD P t (cs.drop off) 0
            | none => none
            else none
          | .eptr cs => partD P t cs 0
          | _ => none) = (match ev T x with
          | .ptr b off => if fl = true → b ∈ B then match σ.box b with
            | some cs => partD P t (cs.drop off) 0
            | none => none
            else none
          | .eptr cs => partD P t cs 0
          | _ => none) := by
        intro b hb hs
        cases hx : ev T x <;> simp only [hx, reduceCtorEq, Option.some.injEq] at hb
        subst hb
        simp only [hs]
      have key' : (∀ b, (match ev T x with | .ptr b _ => some b | _ => none) = some b → σ'.box b = σ.box b) → (match ev T x with
          | .ptr b off => if fl = true → b ∈ B then match σ'.box b with
            | some cs => partD P t (cs.drop off) 0
            | none => none
            else none
          | .eptr cs => partD P t cs 0
          | _ => none) = (match ev T x with
          | .ptr b off => if fl = true → b ∈ B then match σ.box b with
            | some cs => partD P t (cs.drop off) 0
            | none => none
            else none
          | .eptr cs => partD P t cs 0
          | _ => none) := by
        intro hs
        cases hx : ev T x <;> try rfl
        rename_i b off
        have := key b (by rw [hx]) (hs b (by rw [hx]))
        rw [hx] at this
        exact this
      cases g with
      | none =>
        simp only [detL, whichL] at hs ⊢
        exact key' hs
      | some p =>
        obtain ⟨v, w⟩ := p
        simp only [detL, whichL] at hs ⊢
        cases hT : gq (T v) w <;> try rfl
        rename_i b
        simp only [hT] at hs ⊢
        by_cases hb : b = true
        · simp only [hb, if_true] at hs ⊢
          exact key' hs
        · simp only [hb, if_false]; rfl

theorem which_some {fl : Bool} {o : AO} {d : D} (h : detL P fl B o T σ = some d) : ∀ b, whichL o T = some b → σ.box b ≠ none ∧ (fl = true → b ∈ B) := by
  intro b hb
  obtain ⟨dst, op, g⟩ := o
  unfold detL at h
  unfold whichL at hb
  cases g with
  | none =>
    simp only at h hb
    cases op <;> simp only [reduceCtorEq] at hb
    rename_i t x
    cases hx : ev T x <;> simp only [hx, reduceCtorEq, Option.some.injEq] at h hb
    subst hb
    split at h
    · rename_i hf
      split at h
      · rename_i hc; exact ⟨by simp [hc], hf⟩
      · cases h
    · cases h
  | some p =>
    obtain ⟨v, w⟩ := p
    simp only at h hb
    cases hT : gq (T v) w <;> simp only [hT, reduceCtorEq] at h hb
    rename_i q
    by_cases hq : q = true
    · simp only [hq, if_true] at h hb
      cases op <;> simp only [reduceCtorEq] at hb
      rename_i t x
      cases hx : ev T x <;> simp only [hx, reduceCtorEq, Option.some.injEq] at h hb
      subst hb
      split at h
      · rename_i hf
        split at h
        · rename_i hc; exact ⟨by simp [hc], hf⟩
        · cases h
      · cases h
    · simp [hq] at hb

/-! #### what stands behind -/
theorem putK_cases {dst : Option Nat} {v : D} {σ' : St} (h : putK N dst v K T σ') (hk : K (aput T dst v) σ' → K' (aput T dst v) σ') : putK N dst v K' T σ' := putK_mono h hk

theorem keepB_set {b : Nat} {cs : List D} (hb : b ∉ B) : keepB B σ (σ.set b cs) := fun x hx => by
  simp only [St.set]
  rw [if_neg (fun he => hb (by rw [← he]; exact hx))]

theorem keepA_set {b : Nat} {cs : List D} (hb : ¬ σ.has b) : keepA σ (σ.set b cs) := fun x hx => by
  simp only [St.set]
  rw [if_neg (fun he => hb (by subst he; exact .inl hx))]

theorem keepB_join {s s' fr : St} (hs : St.split σ s fr) (hB : ∀ b ∈ B, ¬ s.has b) (hg : good B σ) (hap : St.apart s' fr) : keepB B σ (St.join s' fr) := fun b hb => by
  have h1 := hg.2 b hb
  have h2 : s.box b = none := by
    cases hc : s.box b with
    | none => rfl
    | some c => exact absurd (has_box hc) (hB b hb)
  have h3 : σ.box b = fr.box b := by rw [hs.eq]; simp [St.join, h2]
  have h4 : s'.box b = none := by
    cases hc : s'.box b with
    | none => rfl
    | some c => exact absurd (.inl (by rw [← h3]; exact h1)) (hap b (has_box hc))
  rw [h3]; simp [St.join, h4]

theorem good_set {b : Nat} {cs : List D} (hg : good B σ) (hk : keepB B σ (σ.set b cs)) : good B (σ.set b cs) := hk.good hg (fin_set hg.1 b cs)

theorem append_mono {t t' : TypeId} {x y : D} {dst : Option Nat} (hg : good B σ) (h : appendA P N dst t t' x y K T σ) (hk : ∀ v σ', keepB B σ σ' → good B σ' → K (aput T dst v) σ' → K' (aput T dst v) σ') : appendA P N dst t t' x y K' T σ := by
  have still : ∀ v, putK N dst v K T σ → putK N dst v K' T σ := fun v hv => putK_cases hv (hk v σ (fun _ _ => rfl) hg)
  have grown : ∀ v b s n, putK N dst v K T (σ.setBuf b s n) → putK N dst v K' T (σ.setBuf b s n) := fun v b s n hv =>
    putK_cases hv (hk v _ (fun _ _ => rfl) ⟨fin_setBuf hg.1 b s n, hg.2⟩)
  have moved : ∀ v a b s n, putK N dst v K T ((σ.dropBuf a).setBuf b s n) → putK N dst v K' T ((σ.dropBuf a).setBuf b s n) := fun v a b s n hv =>
    putK_cases hv (hk v _ (fun _ _ => rfl) ⟨fin_setBuf (fin_dropBuf hg.1 a) b s n, hg.2⟩)
  unfold appendA at h ⊢
  split at h
  · rename_i ow xs ow' ys e e' he he'
    obtain ⟨h0, h⟩ := h
    refine ⟨h0, ?_⟩
    split at h
    · obtain ⟨h1, h2, h3, h4, h5, h⟩ := h
      refine ⟨h1, h2, h3, h4, h5, ?_⟩
      cases ow with
      | buf b s' => exact ⟨h.1, h.2.1, fun b' hb' => moved _ _ _ _ _ (h.2.2 b' hb')⟩
      | nil => exact ⟨fun hy => still _ (h.1 hy), fun hy b' hb' => grown _ _ _ _ (h.2 hy b' hb')⟩
      | exact => exact ⟨h.1, fun hy => still _ (h.2.1 hy), fun hy b' hb' => grown _ _ _ _ (h.2.2 hy b' hb')⟩
      | no => exact h.elim
    · exact h.elim
  · exact h.elim

theorem append_ex {t t' : TypeId} {x y : D} {dst : Option Nat} (hg : good B σ) (h : appendA P N dst t t' x y K T σ) (z : Nat) : ∃ v σ', keepB B σ σ' ∧ σ'.box z = σ.box z ∧ good B σ' ∧ K (aput T dst v) σ' := by
  unfold appendA at h
  split at h
  · rename_i ow xs ow' ys e e' he he'
    obtain ⟨h0, h⟩ := h
    split at h
    · obtain ⟨h1, h2, h3, h4, h5, h⟩ := h
      cases ow with
      | buf b s' =>
        obtain ⟨b', hb', _⟩ := fin_fresh (fin_dropBuf hg.1 b) 0
        exact ⟨_, (σ.dropBuf b).setBuf b' _ _, (fun _ _ => rfl), rfl, ⟨fin_setBuf (fin_dropBuf hg.1 b) _ _ _, hg.2⟩, (putK_aput.1 (h.2.2 b' hb')).2⟩
      | nil =>
        by_cases hy : ys = []
        · exact ⟨_, _, (fun _ _ => rfl), rfl, hg, (putK_aput.1 (h.1 hy)).2⟩
        · obtain ⟨b', hb', _⟩ := fin_fresh hg.1 0
          exact ⟨_, σ.setBuf b' _ _, (fun _ _ => rfl), rfl, ⟨fin_setBuf hg.1 _ _ _, hg.2⟩, (putK_aput.1 (h.2 hy b' hb')).2⟩
      | exact =>
        by_cases hy : ys = []
        · exact ⟨_, _, (fun _ _ => rfl), rfl, hg, (putK_aput.1 (h.2.1 hy)).2⟩
        · obtain ⟨b', hb', _⟩ := fin_fresh hg.1 0
          exact ⟨_, σ.setBuf b' _ _, (fun _ _ => rfl), rfl, ⟨fin_setBuf hg.1 _ _ _, hg.2⟩, (putK_aput.1 (h.2.2 hy b' hb')).2⟩
      | no => exact h.elim
    · exact h.elim
  · exact h.elim
end
end Go.AL
