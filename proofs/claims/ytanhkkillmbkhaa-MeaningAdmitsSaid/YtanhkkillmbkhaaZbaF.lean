import Derived.Test.YtanhkkillmbkhaaZbaE
namespace Go.AL
set_option linter.unusedVariables false
set_option linter.unusedSimpArgs false

/-- The guard's slot in the place of its operation's number. -/
def stripO (ops : List Oper) (o : Oper) : AO := ⟨o.dst, o.op, match o.guard with | none => none | some (j, w) => some (((ops[j]?).bind (·.dst)).getD 1000000, w)⟩

structure DO where
  o : AO
  fl : Bool
  st : Bool

def apartO (x y : AO) : Bool :=
  (match x.d with | some d => !(looksO y).contains d && y.d != some d | none => true) && (match y.d with | some d => !(looksO x).contains d | none => true)

theorem apartO_spec {x y : AO} (h : apartO x y = true) : ApartT x.d y.d (looksO x) (looksO y) := by
  unfold apartO at h
  simp only [Bool.and_eq_true] at h
  obtain ⟨h1, h2⟩ := h
  refine ⟨fun t ht => ?_, fun t ht => ?_, fun t ht => ?_⟩
  · rw [ht] at h1; simp at h1; exact h1.1
  · rw [ht] at h2; simpa using h2
  · rw [ht] at h1; simp at h1; exact h1.2

/-- May stand in either order, the first one ahead in the text. -/
def swapOk (x y : DO) : Bool := apartO x.o y.o && match kd x.o.op, kd y.o.op with
  | .L, .C => x.fl
  | .C, .F => x.st
  | .C, .L => y.fl && x.st
  | .C, .A => x.st
  | .F, _ | .L, .F | .L, .L | .L, .A | .A, .F | .A, .L | .A, .A => true
  | _, _ => false

section
variable {P : Program} {N : Nat} {T : Env} {σ : St} {K K' : Env → St → Prop} {Q : XA → Env → St → Prop} {B : List Nat}

def dO (P : Program) (N : Nat) (B : List Nat) (Q : XA → Env → St → Prop) (x : DO) : Tr := dop P N B x.fl x.st x.o Q

theorem ex_dop {fl : Bool} {o : AO} (ho : kd o.op = .C ∨ kd o.op = .A) (hg : good B σ) (h : dop P N B fl true o Q K T σ) (z : Nat) : ∃ v σ', keepK B (kd o.op) σ σ' ∧ (kd o.op = .A → σ'.box z = σ.box z) ∧ good B σ' ∧ K (aput T o.d v) σ' := by
  unfold dop at h
  cases hgo : o.g with
  | none => rw [hgo] at h; exact ex_core ho hg h z (fun _ _ => trivial)
  | some p =>
    obtain ⟨u, w⟩ := p
    rw [hgo] at h
    simp only at h
    cases hT : gq (T u) w <;> simp only [hT] at h
    rename_i b
    simp only [br] at h
    split at h
    · exact ex_core ho hg h z (fun _ _ => trivial)
    · exact ⟨_, _, keepK_refl _, fun _ => rfl, hg, (putK_aput.1 h).2⟩

theorem add_dop {fl st : Bool} {o : AO} (ho : kd o.op = .C ∨ kd o.op = .A) : AddT B (dop P N B fl st o Q) := by
  intro K T σ b z hg hb h
  unfold dop at h ⊢
  cases hgo : o.g with
  | none => rw [hgo] at h; exact add_core ho K T σ b z hg hb h
  | some p =>
    obtain ⟨u, w⟩ := p
    rw [hgo] at h
    simp only at h ⊢
    cases hT : gq (T u) w <;> simp only [hT] at h ⊢
    rename_i c
    simp only [br] at h ⊢
    split at h
    · rename_i hb'; rw [if_pos hb']; exact add_core ho K T σ b z hg hb h
    · rename_i hb'; rw [if_neg hb']
      obtain ⟨h1, h2⟩ := putK_aput.1 h
      exact putK_aput.2 ⟨h1, h2 hb⟩

/-- strictness only says more -/
theorem dop_alloc_st {fl st st' : Bool} {o : AO} (ho : kd o.op = .A) (h : dop P N B fl st o Q K T σ) : dop P N B fl st' o Q K T σ := by
  obtain ⟨d, op, g⟩ := o
  simp only at ho
  have key : dcore P N B fl st ⟨d, op, g⟩ Q K T σ = dcore P N B fl st' ⟨d, op, g⟩ Q K T σ := by
    rcases kd_cases (.inr ho) with ⟨t, x, v, rfl⟩ | ⟨f, args, ts, rfl⟩ | ⟨args, ts, rfl⟩ | ⟨t, rfl⟩ | ⟨t, x, rfl⟩ <;> first | rfl | (simp only [kd] at ho; cases ho)
  unfold dop at h ⊢
  rw [← key]; exact h

/-- What a new box comes to. -/
def zOf (P : Program) (op : Op) (T : Env) : Option (List D) :=
  match op with
  | .alloc t => zeroP P t
  | .box t x => cellsD P t (ev T x)
  | _ => none
def allocZ (P : Program) (o : AO) (T : Env) : Option (Option (List D)) :=
  match o.g with
  | none => (zOf P o.op T).map some
  | some (t, want) => match gq (T t) want with
    | some c => if c = true then (zOf P o.op T).map some else some none
    | none => none

theorem alloc_dop {fl st : Bool} {o : AO} (ho : kd o.op = .A) : dop P N B fl st o Q K T σ ↔ match allocZ P o T with
    | none => False
    | some none => putK N o.d (.tup []) K T σ
    | some (some z) => ∀ b, ¬ σ.has b → putK N o.d (.ptr b 0) K T (σ.set b z) := by
  obtain ⟨d, op, g⟩ := o
  simp only at ho
  have key : dcore P N B fl st ⟨d, op, g⟩ Q K T σ ↔ match zOf P op T with
      | none => False
      | some z => ∀ b, ¬ σ.has b → putK N d (.ptr b 0) K T (σ.set b z) := by
    rcases kd_cases (.inr ho) with ⟨t, x, v, rfl⟩ | ⟨f, args, ts, rfl⟩ | ⟨args, ts, rfl⟩ | ⟨t, rfl⟩ | ⟨t, x, rfl⟩ <;> first
      | (simp only [kd] at ho; cases ho; done)
      | skip
    · simp only [dcore, aop, zOf]; cases zeroP P t <;> exact Iff.rfl
    · simp only [dcore, aop, zOf]; cases cellsD P t (ev T x) <;> exact Iff.rfl
  unfold dop allocZ
  cases g with
  | none =>
    simp only
    rw [key]
    generalize zOf P op T = z
    cases z <;> exact Iff.rfl
  | some p =>
    obtain ⟨u, w⟩ := p
    simp only
    cases hT : gq (T u) w <;> try exact Iff.rfl
    rename_i b
    simp only [br]
    by_cases hb : b = true
    · rw [if_pos hb, if_pos hb, key]
      generalize zOf P op T = z
      cases z <;> exact Iff.rfl
    · rw [if_neg hb, if_neg hb]

theorem allocZ_aput {o : AO} {dx : Option Nat} {d : D} (h : notIn dx (looksO o)) (ho : kd o.op = .A) : allocZ P o (aput T dx d) = allocZ P o T := by
  cases dx with
  | none => rfl
  | some t =>
    have ht := h t rfl
    obtain ⟨dd, op, g⟩ := o
    have hop : zOf P op (upd T t d) = zOf P op T := by
      cases op <;> try rfl
      rename_i ty x
      simp only [zOf, ev_upd (tmpsOf_ne (looks_tmps ht) x (by simp [opndsOf, Op.operands]))]
    unfold allocZ
    simp only [aput, hop]
    cases g with
    | none => rfl
    | some p =>
      obtain ⟨u, w⟩ := p
      have hu : upd T t d u = T u := by simp [upd, looks_guard ht rfl]
      simp only [hu]

/-- A box that is made behind may be made ahead. -/
theorem swap_any_alloc {x y : DO} (hap : ApartT x.o.d y.o.d (looksO x.o) (looksO y.o)) (hx : kd x.o.op = .C ∨ kd x.o.op = .A) (hy : kd y.o.op = .A) (hz : ∀ z, keepK B (kd x.o.op) σ z → True) (hg : good B σ)
    (hex : ∃ v σ', good B σ' ∧ dO P N B Q y K (aput T x.o.d v) σ')
    (h : dO P N B Q x (fun T' σ' => good B σ' → dO P N B Q y K T' σ') T σ) : dO P N B Q y (fun T' σ' => good B σ' → dO P N B Q x K T' σ') T σ := by
  obtain ⟨v, σ₁, hg₁, h1⟩ := hex
  unfold dO at h1 ⊢
  rw [alloc_dop hy, allocZ_aput hap.xy hy] at h1
  rw [alloc_dop hy]
  cases hza : allocZ P y.o T with
  | none => rw [hza] at h1; exact h1.elim
  | some oz =>
    rw [hza] at h1
    cases oz with
    | none =>
      have hn := (putK_aput.1 h1).1
      refine putK_aput.2 ⟨hn, fun _ => ?_⟩
      refine (frame_aput frame_dop hap.yx hap.ne').2 (mono_dop _ _ _ _ hg h fun u σ' _ hg' hK => ?_)
      have h3 := hK hg'
      unfold dO at h3
      rw [alloc_dop hy, allocZ_aput hap.xy hy, hza] at h3
      exact (putK_aput.1 h3).2
    | some z =>
      obtain ⟨b₁, hb₁, _⟩ := fin_fresh hg₁.1 0
      have hn := (putK_aput.1 (h1 b₁ hb₁)).1
      intro b hb
      refine putK_aput.2 ⟨hn, fun _ => ?_⟩
      refine (frame_aput frame_dop hap.yx hap.ne').2 ?_
      refine add_dop hx _ _ _ _ _ hg hb (mono_dop _ _ _ _ hg h fun u σ' _ hg' hK hbn => ?_)
      have h3 := hK hg'
      unfold dO at h3
      rw [alloc_dop hy, allocZ_aput hap.xy hy, hza] at h3
      exact (putK_aput.1 (h3 b hbn)).2

theorem ex_C {x : DO} (hk : kd x.o.op = .C) (hst : x.st = true) : ExT (keepK B .C) False B (dO P N B Q x) x.o.d := fun K T σ hg h z => by
  unfold dO at h
  rw [hst] at h
  obtain ⟨v, σ', h1, _, h2, h3⟩ := ex_dop (.inl hk) hg h z
  rw [hk] at h1
  exact ⟨v, σ', h1, fun h => h.elim, h2, h3⟩

theorem ex_A {x : DO} (hk : kd x.o.op = .A) : ExT (keepK B .A) True B (dO P N B Q x) x.o.d := fun K T σ hg h z => by
  unfold dO at h
  obtain ⟨v, σ', h1, h0, h2, h3⟩ := ex_dop (.inr hk) hg (dop_alloc_st (st' := true) hk h) z
  rw [hk] at h1
  exact ⟨v, σ', h1, fun _ => h0 hk, h2, h3⟩

theorem load_hyp {y : DO} (hky : kd y.o.op = .L) : LoadT N (dO P N B Q y) y.o.d (looksO y.o) (whichL y.o) (detL P y.fl B y.o) := load_dop hky

theorem dop_swap {x y : DO} (hok : swapOk x y = true) (hg : good B σ) (h : dO P N B Q x (fun T' σ' => good B σ' → dO P N B Q y K T' σ') T σ) : dO P N B Q y (fun T' σ' => good B σ' → dO P N B Q x K T' σ') T σ := by
  simp only [swapOk, Bool.and_eq_true] at hok
  obtain ⟨ha, hok⟩ := hok
  have hap := apartO_spec ha
  have hm : MonoT (keepK B (kd x.o.op)) B (dO P N B Q x) x.o.d := mono_dop
  cases hkx : kd x.o.op
  case F => exact swap_det_any hap (det_dop hkx) frame_dop mono_dop hg h
  case L =>
    refine swap_load_any hap (load_hyp hkx) frame_dop mono_dop (fun σ' hg' ht hk b hb => ?_) hg h
    -- the box that is read
    have hd : ∃ d, detL P x.fl B x.o T σ = some d := by
      rw [(load_hyp (P := P) (N := N) (B := B) (Q := Q) hkx).1] at ht
      cases hd : detL P x.fl B x.o T σ with
      | none => rw [hd] at ht; exact ht.elim
      | some d => exact ⟨d, rfl⟩
    obtain ⟨d, hd⟩ := hd
    obtain ⟨h1, h2⟩ := which_some hd b hb
    cases hky : kd y.o.op <;> rw [hkx, hky] at hok <;> rw [hky] at hk <;> simp only [keepK] at hk <;> first
      | (cases hok; done)
      | (rw [hk]; done)
      | exact hk b h1
      | exact hk b (h2 hok)
  case C =>
    rw [hkx] at hm
    cases hky : kd y.o.op <;> rw [hkx, hky] at hok <;> try (cases hok; done)
    case F => exact swap_any_det hap frame_dop hm (ex_C hkx hok) (det_dop hky) hg h
    case L =>
      simp only [Bool.and_eq_true] at hok
      refine swap_any_load hap frame_dop hm (ex_C hkx hok.2) (load_hyp hky) (fun σ' d hk _ hd b hb => ?_) (fun σ' d hk hd b hb => ?_) hg h
      · exact hk b ((which_some hd b hb).2 hok.1)
      · exact hk b ((which_some hd b hb).2 hok.1)
    case A =>
      obtain ⟨v, σ', _, _, h2, h3⟩ := ex_C hkx hok _ _ _ hg h 0
      exact swap_any_alloc hap (.inl hkx) hky (fun _ _ => trivial) hg ⟨v, σ', h2, h3 h2⟩ h
  case A =>
    rw [hkx] at hm
    cases hky : kd y.o.op <;> rw [hkx, hky] at hok <;> try (cases hok; done)
    case F => exact swap_any_det hap frame_dop hm (ex_A hkx) (det_dop hky) hg h
    case L =>
      refine swap_any_load hap frame_dop hm (ex_A hkx) (load_hyp hky) (fun σ' d hk hz hd b hb => ?_) (fun σ' d hk hd b hb => hk b (which_some hd b hb).1) hg h
      have := hz trivial
      rw [hb] at this
      exact this
    case A =>
      obtain ⟨v, σ', _, _, h2, h3⟩ := ex_A hkx _ _ _ hg h 0
      exact swap_any_alloc hap (.inr hkx) hky (fun _ _ => trivial) hg ⟨v, σ', h2, h3 h2⟩ h
  case X => rw [hkx] at hok; cases hok
end
end Go.AL
