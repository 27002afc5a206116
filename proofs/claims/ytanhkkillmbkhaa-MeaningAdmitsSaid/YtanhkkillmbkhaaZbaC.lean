import Derived.Test.YtanhkkillmbkhaaZbaB
namespace Go.AL
set_option linter.unusedVariables false
set_option linter.unusedSimpArgs false

/-- An operation without its edges: where it writes, what it does, under which guard. -/
structure AO where
  d : Option Nat
  op : Op
  g : Option (Nat × Bool)

inductive Kd where
  | F | L | A | C | X
  deriving DecidableEq

def kd : Op → Kd
  | .load _ _ => .L
  | .alloc _ | .box _ _ => .A
  | .store _ _ _ => .C
  | .call { callee := .value _, .. } => .C
  | .call { callee := .builtin .append, .. } => .C
  | .call { callee := .builtin .len, .. } | .call { callee := .builtin .min, .. } | .call { callee := .builtin .max, .. } => .F
  | .binOp _ _ _ y _ => if nilOpnd y then .X else .F
  | .move _ | .assign _ | .pick _ _ _ | .unOp _ _ _ | .convert _ _ _ | .makeInterface _ _ | .makeFunc _ _ _ | .extract _ _ | .field _ _ _ | .fieldAddr _ _ _ | .indexAddr _ _ _ | .index _ _ _ | .nilCheck _
  | .build _ _ | .buildSlice _ _ _ | .slice _ _ _ _ _ => .F
  | _ => .X

def tmpsOf (op : Op) : List Nat := (opndsOf op).filterMap fun | .tmp t => some t | _ => none
def looksO (o : AO) : List Nat := (match o.g with | some (t, _) => [t] | none => []) ++ tmpsOf o.op

theorem tmpsOf_ne {op : Op} {t : Nat} (h : t ∉ tmpsOf op) : ∀ x ∈ opndsOf op, x ≠ .tmp t := fun x hx he => h (by
  subst he
  exact List.mem_filterMap.2 ⟨_, hx, rfl⟩)

section
variable {P : Program} {N : Nat} {T : Env} {σ : St} {K K' : Env → St → Prop} {Q : XA → Env → St → Prop} {B : List Nat}

def callB (P : Program) (N : Nat) (B : List Nat) (st : Bool) (dst : Option Nat) (g : FuncId) (ds : List D) (K : Env → St → Prop) (Q : XA → Env → St → Prop) (T : Env) (σ : St) : Prop :=
  ∃ s fr R, St.split σ s fr ∧ (∀ b ∈ B, ¬ s.has b) ∧ ACall P g ds s R ∧ (st = true → (∃ d s', R (.ret d) s' ∧ (∀ b, s'.has b → s.has b) ∧ St.fin s') ∧ ∀ d s', ¬ R (.pan d) s') ∧
    ∀ x s', R x s' → St.apart s' fr → St.fin s' → match x with
      | .ret d => putK N dst d K T (St.join s' fr)
      | .pan d => panK Q d (St.join s' fr)

def dcore (P : Program) (N : Nat) (B : List Nat) (fl st : Bool) (o : AO) (Q : XA → Env → St → Prop) : Tr := fun K T σ =>
  match o.op with
  | .load t x => match ev T x with
    | .ptr b off => (fl = true → b ∈ B) ∧ aop P N o.d (.load t x) K Q T σ
    | _ => aop P N o.d (.load t x) K Q T σ
  | .store t x v => match ev T x with
    | .ptr b off => b ∉ B ∧ aop P N o.d (.store t x v) K Q T σ
    | _ => False
  | .call { callee := .value f, args, .. } => match ev T f with
    | .func (.func g) fi ca => callB P N B st o.d g (fi ++ args.toList.map (ev T) ++ ca) K Q T σ
    | _ => False
  | op => aop P N o.d op K Q T σ

def dop (P : Program) (N : Nat) (B : List Nat) (fl st : Bool) (o : AO) (Q : XA → Env → St → Prop) : Tr := fun K T σ =>
  match o.g with
  | none => dcore P N B fl st o Q K T σ
  | some (t, w) => match gq (T t) w with
    | some c => br c (dcore P N B fl st o Q K T σ) (putK N o.d (.tup []) K T σ)
    | none => False

theorem callB_callA {st : Bool} {dst : Option Nat} {g : FuncId} {ds : List D} (h : callB P N B st dst g ds K Q T σ) : callA P N dst g ds K Q T σ := by
  obtain ⟨s, fr, R, h1, _, h2, _, h3⟩ := h
  exact ⟨s, fr, R, h1, h2, h3⟩

theorem dcore_aop {fl st : Bool} {o : AO} (h : dcore P N B fl st o Q K T σ) : aop P N o.d o.op K Q T σ := by
  obtain ⟨d, op, g⟩ := o
  unfold dcore at h
  simp only at h ⊢
  split at h
  · split at h
    · exact h.2
    · exact h
  · split at h
    · exact h.2
    · exact h.elim
  · split at h
    · rename_i hf
      simp only [aop, hf]
      exact callB_callA h
    · exact h.elim
  · exact h

/-! #### what hangs on slots alone -/
def detF (P : Program) (op : Op) (T : Env) : Option (Prop × D) :=
  match op with
  | .binOp bop xt x y _ => binD P bop xt (ev T x) (ev T y)
  | .buildSlice t len parts => match sliP P t with
    | some e => match szP P e, zeroP P e with
      | some s, some z => match fillD (fun i => some (i * s, e)) P T frz parts.toList (List.replicate len z).flatten with
        | some cs => some (z.length = s ∧ len * s ≤ 16777216, .slice .exact (chunks s len cs))
        | none => none
      | _, _ => none
    | none => none
  | op => pureD P op T

theorem detF_env {op : Op} {t : Nat} {d : D} (h : t ∉ tmpsOf op) : detF P op (upd T t d) = detF P op T := by
  have hne := tmpsOf_ne h
  have hp := pureD_env (P := P) (T := T) (d := d) hne
  cases op <;> first
    | exact hp
    | skip
  case buildSlice ty len parts =>
    simp only [opndsOf, Op.operands] at hne
    have hpp : ∀ p ∈ parts.toList, p.2 ≠ .tmp t := fun p hp => hne p.2 (by simp; exact ⟨p.1, by simpa using hp⟩)
    simp only [detF, fillD_env _ _ hpp]

theorem kdF_eq {fl st : Bool} {o : AO} (h : kd o.op = .F) : dcore P N B fl st o Q K T σ ↔ match detF P o.op T with | some (side, d) => side ∧ putK N o.d d K T σ | none => False := by
  obtain ⟨dst, op, g⟩ := o
  simp only at h
  cases op <;> simp only [kd, reduceCtorEq] at h <;> try exact Iff.rfl
  case binOp bop xt x y yt =>
    split at h
    · cases h
    · rename_i hn
      have hn' : nilOpnd y = false := by simpa using hn
      simp only [dcore, aop, binA, hn', detF]
      exact Iff.rfl
  case buildSlice t len parts =>
    simp only [dcore, aop, detF]
    cases sliP P t with
    | none => exact Iff.rfl
    | some e =>
      simp only
      cases szP P e with
      | none => exact Iff.rfl
      | some s =>
        cases zeroP P e with
        | none => exact Iff.rfl
        | some z =>
          simp only
          cases fillD (fun i => some (i * s, e)) P T frz parts.toList (List.replicate len z).flatten with
          | none => simp
          | some cs => simp only [and_assoc]
  case call c =>
    obtain ⟨callee, args, argTypes⟩ := c
    cases callee with
    | value f => simp only [kd] at h; cases h
    | invoke r m => simp only [kd] at h; cases h
    | builtin b =>
      cases b <;> first
        | exact Iff.rfl
        | (simp only [kd] at h; cases h)

def detG (P : Program) (o : AO) (T : Env) : Option (Prop × D) :=
  match o.g with
  | none => detF P o.op T
  | some (t, w) => match gq (T t) w with
    | some c => if c = true then detF P o.op T else some (True, .tup [])
    | none => none

theorem looks_tmps {o : AO} {t : Nat} (h : t ∉ looksO o) : t ∉ tmpsOf o.op := fun h' => h (List.mem_append.2 (.inr h'))
theorem looks_guard {o : AO} {t u : Nat} {w : Bool} (h : t ∉ looksO o) (hg : o.g = some (u, w)) : u ≠ t := fun he => h (by simp [looksO, hg, he])

theorem det_dop {fl st : Bool} {o : AO} (h : kd o.op = .F) : DetT N (dop P N B fl st o Q) o.d (looksO o) (detG P o) := by
  refine ⟨fun K T σ => ?_, fun T t d ht => ?_⟩
  · unfold dop detG
    cases hg : o.g with
    | none => exact kdF_eq h
    | some p =>
      obtain ⟨t, w⟩ := p
      simp only
      cases hT : gq (T t) w <;> try exact Iff.rfl
      rename_i b
      simp only [br]
      by_cases hb : b = true
      · rw [if_pos hb, if_pos hb]; exact kdF_eq h
      · rw [if_neg hb, if_neg hb]; simp
  · unfold detG
    cases hg : o.g with
    | none => exact detF_env (looks_tmps ht)
    | some p =>
      obtain ⟨u, w⟩ := p
      have hu : upd T t d u = T u := by simp [upd, looks_guard ht hg]
      simp only [hu, detF_env (looks_tmps ht)]

/-! #### the frame of slots -/
theorem callB_env {t : Nat} {d : D} {dst : Option Nat} (hd : dst ≠ some t) {st : Bool} {g : FuncId} {ds : List D} : callB P N B st dst g ds K Q (upd T t d) σ ↔ callB P N B st dst g ds (fun T' σ' => K (upd T' t d) σ') Q T σ := by
  simp only [callB, putK_env hd]

theorem dcore_env {fl st : Bool} {o : AO} {t : Nat} {d : D} (h : t ∉ tmpsOf o.op) (hd : o.d ≠ some t) : dcore P N B fl st o Q K (upd T t d) σ ↔ dcore P N B fl st o Q (fun T' σ' => K (upd T' t d) σ') T σ := by
  obtain ⟨dst, op, g⟩ := o
  have hne := tmpsOf_ne h
  simp only at hd hne
  have ha := aop_env (P := P) (N := N) (K := K) (Q := Q) (T := T) (σ := σ) (d := d) hne hd
  cases op <;> try exact ha
  case load ty x =>
    simp only [opndsOf, Op.operands] at hne
    have hx := ev_upd (T := T) (d := d) (hne x (by simp))
    simp only [dcore, hx, ha]
  case store ty x y =>
    simp only [opndsOf, Op.operands] at hne
    have hx := ev_upd (T := T) (d := d) (hne x (by simp))
    simp only [dcore, hx, ha]
  case call c =>
    obtain ⟨callee, args, argTypes⟩ := c
    cases callee with
    | value f =>
      simp only [opndsOf, Op.operands, Call.operands] at hne
      have hf := ev_upd (T := T) (d := d) (hne f (by simp))
      have har : ∀ x ∈ args.toList, x ≠ .tmp t := fun x hx => hne x (by simp only [Array.toList_append, List.mem_append]; exact .inr hx)
      simp only [dcore, hf, ev_map har, callB_env hd]
    | invoke r m => exact ha
    | builtin b => exact ha

theorem frame_dop {fl st : Bool} {o : AO} : FrameT (dop P N B fl st o Q) o.d (looksO o) := by
  intro K T σ t d ht hd
  unfold dop
  cases hg : o.g with
  | none => exact dcore_env (looks_tmps ht) hd
  | some p =>
    obtain ⟨u, w⟩ := p
    have hu : upd T t d u = T u := by simp [upd, looks_guard ht hg]
    simp only [hu]
    cases gq (T u) w <;> try exact Iff.rfl
    simp only [br, dcore_env (looks_tmps ht) hd, putK_env hd]
end
end Go.AL
