import Derived.Test.YtanhkkillmbkhaaZaaD
namespace Go.AL

/-- What is owned: boxes (variables, structs behind a pointer) with their cells; rows that are appended to: cells an element, elements in use. -/
@[ext] structure St where
  box : Nat → Option (List D) := fun _ => none
  buf : Nat → Option (Nat × Nat) := fun _ => none

def St.has (σ : St) (b : Nat) : Prop := σ.box b ≠ none ∨ σ.buf b ≠ none

def BoxAt (M : MMap) (w : World) (b : Nat) (cs : List D) : Prop :=
  M b = some .box ∧ ∃ c e, w.heap[b]? = some (.cells c e (0, 0)) ∧ RepAll M w cs c.toList ∧ ∀ u ∈ c.toList, u.oneCell' = true

def BufAt (M : MMap) (w : World) (b size n : Nat) : Prop :=
  M b = some (.buf (n * size)) ∧ ∃ c e cap, w.heap[b]? = some (.cells c e (0, 0)) ∧ c.size = cap * size ∧ n ≤ cap

structure Inv (M : MMap) (σ : St) (w : World) : Prop where
  box : ∀ b cs, σ.box b = some cs → BoxAt M w b cs
  buf : ∀ b s n, σ.buf b = some (s, n) → BufAt M w b s n
  dom : ∀ b, M b ≠ none → b < w.heap.size

structure KeepF (M : MMap) (σ : St) (w : World) (M' : MMap) (σ' : St) (w' : World) : Prop extends Keep M w M' w' where
  frame : ∀ b, M b ≠ none → ¬ σ.has b → M' b = M b ∧ w'.heap[b]? = w.heap[b]?
  fresh : ∀ b, σ'.has b → σ.has b ∨ w.heap.size ≤ b

theorem Inv.lt {M : MMap} {σ : St} {w : World} (h : Inv M σ w) {b : Nat} (hb : σ.has b) : M b ≠ none := by
  rcases hb with hb | hb
  · cases hc : σ.box b with
    | none => exact absurd hc hb
    | some cs => simp [(h.box b cs hc).1]
  · cases hc : σ.buf b with
    | none => exact absurd hc hb
    | some p => simp [(h.buf b p.1 p.2 hc).1]

theorem KeepF.refl (M : MMap) (σ : St) (w : World) : KeepF M σ w M σ w :=
  { Keep.refl M w with frame := fun _ _ _ => ⟨rfl, rfl⟩, fresh := fun _ h => .inl h }

theorem KeepF.trans {M M₁ M₂ : MMap} {σ σ₁ σ₂ : St} {w w₁ w₂ : World} (hd : ∀ b, M b ≠ none → b < w.heap.size) (h : KeepF M σ w M₁ σ₁ w₁) (k : KeepF M₁ σ₁ w₁ M₂ σ₂ w₂) : KeepF M σ w M₂ σ₂ w₂ :=
  { h.toKeep.trans k.toKeep with
    frame := fun b hM hb => by
      obtain ⟨h1, h2⟩ := h.frame b hM hb
      have hb' : ¬ σ₁.has b := fun hin => by
        rcases h.fresh b hin with h' | h'
        · exact hb h'
        · have := hd b hM; omega
      obtain ⟨k1, k2⟩ := k.frame b (by rw [h1]; exact hM) hb'
      exact ⟨k1.trans h1, k2.trans h2⟩
    fresh := fun b hb => by
      rcases k.fresh b hb with h' | h'
      · exact h.fresh b h'
      · exact .inr (Nat.le_trans h.size h') }

abbrev Env := Nat → D

def upd (T : Env) (t : Nat) (d : D) : Env := fun u => if u = t then d else T u

def aput (T : Env) (dst : Option Nat) (d : D) : Env := match dst with | some t => upd T t d | none => T

structure AInv (N : Nat) (M : MMap) (T : Env) (σ : St) (a : Act) (w : World) : Prop where
  inv : Inv M σ w
  size : a.tmps.size = N
  defers : a.defers = []
  env : ∀ t, Rep M w (T t) (a.tmps.getD t undef)

theorem AInv.put {N : Nat} {M : MMap} {T : Env} {σ : St} {a : Act} {w : World} (h : AInv N M T σ a w) {dst : Option Nat} {d : D} {v : Value}
    (hd : ∀ t, dst = some t → t < N) (hr : Rep M w d v) : AInv N M (aput T dst d) σ (a.put dst v) w := by
  cases dst with
  | none => exact h
  | some t =>
    have ht := hd t rfl
    refine ⟨h.inv, by simp [Act.put, h.size], h.defers, fun u => ?_⟩
    simp only [aput, upd, Act.put]
    by_cases hu : u = t
    · subst hu
      simp only [if_true]
      have hlt : u < a.tmps.size := by rw [h.size]; exact ht
      simp [hlt, hr]
    · simp only [hu, if_false]
      have := h.env u
      simpa [Array.getElem?_setIfInBounds_ne (Ne.symm hu)] using this

theorem AInv.keep {N : Nat} {M M' : MMap} {T : Env} {σ σ' : St} {a : Act} {w w' : World} (h : AInv N M T σ a w) (hk : Keep M w M' w') (hi : Inv M' σ' w') : AInv N M' T σ' a w' :=
  ⟨hi, h.size, h.defers, fun t => (h.env t).keep hk⟩

inductive XA where
  | normal | exit (id : Nat) | goto (l : Nat) | ret | panic (d : D)

def RepX (M : MMap) (w : World) : XA → Exit → Prop
  | .normal, e => e = .normal
  | .exit id, e => e = .exit id
  | .goto l, e => e = .goto l
  | .ret, e => e = .ret
  | .panic d, e => ∃ v, e = .panic [{ v, recovered := false }] ∧ Rep M w d v

def Post (N : Nat) (M : MMap) (σ : St) (w : World) (Q : XA → Env → St → Prop) (e : Exit) (a' : Act) (w' : World) : Prop :=
  ∃ M' T' σ' x, RepX M' w' x e ∧ AInv N M' T' σ' a' w' ∧ KeepF M σ w M' σ' w' ∧ Q x T' σ'

def awp (P : Program) (N : Nat) (c : Code) (Q : XA → Env → St → Prop) (T : Env) (σ : St) : Prop :=
  ∀ M a w, AInv N M T σ a w → c.wp P (Post N M σ w Q) a w

section
variable {P : Program} {N : Nat} {Q Q' : XA → Env → St → Prop} {T : Env} {σ : St}

theorem Post.mono {M : MMap} {w : World} {e : Exit} {a' : Act} {w' : World} (hq : ∀ x T σ, Q x T σ → Q' x T σ) (h : Post N M σ w Q e a' w') : Post N M σ w Q' e a' w' := by
  obtain ⟨M', T', σ', x, h1, h2, h3, h4⟩ := h
  exact ⟨M', T', σ', x, h1, h2, h3, hq _ _ _ h4⟩

theorem Post.trans {M M₁ : MMap} {σ₁ : St} {w w₁ : World} {e : Exit} {a' : Act} {w' : World} (hd : ∀ b, M b ≠ none → b < w.heap.size) (hk : KeepF M σ w M₁ σ₁ w₁) (h : Post N M₁ σ₁ w₁ Q e a' w') : Post N M σ w Q e a' w' := by
  obtain ⟨M', T', σ', x, h1, h2, h3, h4⟩ := h
  exact ⟨M', T', σ', x, h1, h2, hk.trans hd h3, h4⟩

theorem awp_mono {c : Code} (h : awp P N c Q T σ) (hq : ∀ x T σ, Q x T σ → Q' x T σ) : awp P N c Q' T σ :=
  fun M a w hi => wp_mono (h M a w hi) fun _ _ _ hp => hp.mono hq

def thenA (next : Env → St → Prop) (Q : XA → Env → St → Prop) : XA → Env → St → Prop
  | .normal, T, σ => next T σ
  | .exit id, T, σ => Q (.exit id) T σ
  | .goto l, T, σ => Q (.goto l) T σ
  | .ret, T, σ => Q .ret T σ
  | .panic d, T, σ => Q (.panic d) T σ

set_option linter.unusedVariables false
theorem awp_skip (h : Q .normal T σ) : awp P N .skip Q T σ :=
  fun M a w hi => wp_skip ⟨M, T, σ, .normal, rfl, hi, KeepF.refl _ _ _, h⟩
theorem awp_exit {id : Nat} (h : Q (.exit id) T σ) : awp P N (.exit id) Q T σ :=
  fun M a w hi => wp_exit ⟨M, T, σ, .exit id, rfl, hi, KeepF.refl _ _ _, h⟩
theorem awp_ret (h : Q .ret T σ) : awp P N .ret Q T σ :=
  fun M a w hi => wp_ret ⟨M, T, σ, .ret, rfl, hi, KeepF.refl _ _ _, h⟩

theorem awp_seq {x y : Code} (h : awp P N x (thenA (awp P N y Q) Q) T σ) : awp P N (.seq x y) Q T σ := by
  intro M a w hi
  refine wp_seq (wp_mono (h M a w hi) fun e a' w' hp => ?_)
  obtain ⟨M', T', σ', x', h1, h2, h3, h4⟩ := hp
  cases x' with
  | normal =>
    obtain rfl := h1
    exact wp_mono (h4 M' a' w' h2) fun e a'' w'' hp' => hp'.trans hi.inv.dom h3
  | exit id => obtain rfl := h1; exact ⟨M', T', σ', .exit id, rfl, h2, h3, h4⟩
  | goto l => obtain rfl := h1; exact ⟨M', T', σ', .goto l, rfl, h2, h3, h4⟩
  | ret => obtain rfl := h1; exact ⟨M', T', σ', .ret, rfl, h2, h3, h4⟩
  | panic d => obtain ⟨v, rfl, hr⟩ := h1; exact ⟨M', T', σ', .panic d, ⟨v, rfl, hr⟩, h2, h3, h4⟩

def blockA (id : Nat) (Q : XA → Env → St → Prop) : XA → Env → St → Prop
  | .normal, T, σ => Q .normal T σ
  | .exit id', T, σ => if id' = id then Q .normal T σ else Q (.exit id') T σ
  | .goto l, T, σ => Q (.goto l) T σ
  | .ret, T, σ => Q .ret T σ
  | .panic d, T, σ => Q (.panic d) T σ

theorem awp_block {id : Nat} {c : Code} (h : awp P N c (blockA id Q) T σ) : awp P N (.block id c) Q T σ := by
  intro M a w hi
  refine wp_block (wp_mono (h M a w hi) fun e a' w' hp => ?_)
  obtain ⟨M', T', σ', x', h1, h2, h3, h4⟩ := hp
  cases x' with
  | normal => obtain rfl := h1; exact ⟨M', T', σ', .normal, rfl, h2, h3, h4⟩
  | exit id' =>
    obtain rfl := h1
    simp only [blockA] at h4
    simp only [Exit.inBlock]
    by_cases hid : id' = id
    · rw [if_pos hid] at h4 ⊢; exact ⟨M', T', σ', .normal, rfl, h2, h3, h4⟩
    · rw [if_neg hid] at h4 ⊢; exact ⟨M', T', σ', .exit id', rfl, h2, h3, h4⟩
  | goto l => obtain rfl := h1; exact ⟨M', T', σ', .goto l, rfl, h2, h3, h4⟩
  | ret => obtain rfl := h1; exact ⟨M', T', σ', .ret, rfl, h2, h3, h4⟩
  | panic d => obtain ⟨v, rfl, hr⟩ := h1; exact ⟨M', T', σ', .panic d, ⟨v, rfl, hr⟩, h2, h3, h4⟩

/-- A constant of the code as data. -/
def cD : Value → D
  | .bool b => .bool b
  | .int k n => .int k n
  | .string s => .str s
  | .pointer none => .nilptr
  | .slice none 0 0 => .slice .nil []
  | .nilFunc => .nilfunc
  | .nilIface => .niliface
  | _ => .any

set_option linter.unusedVariables false
theorem cD_rep (M : MMap) (w : World) (v : Value) : Rep M w (cD v) v := by
  unfold cD
  split <;> simp [Rep]

def ev (T : Env) : Operand → D
  | .tmp t => T t
  | .const v => cD v
  | .global _ => .any
  | .func f => .func (.func f) [] []

theorem ev_rep {M : MMap} {a : Act} {w : World} (h : AInv N M T σ a w) (x : Operand) : Rep M w (ev T x) (a.eval x) := by
  cases x with
  | tmp t => exact h.env t
  | const v => exact cD_rep _ _ _
  | global g => trivial
  | func f => exact ⟨#[], #[], rfl, rfl, rfl⟩

theorem awp_cond {c : Operand} {x y : Code} {t : Bool} (hc : ev T c = .bool t) (h : if t = true then awp P N x Q T σ else awp P N y Q T σ) : awp P N (.cond c x y) Q T σ := by
  intro M a w hi
  have hr := ev_rep hi c
  rw [hc] at hr
  refine wp_cond (t := t) hr ?_
  cases t
  · exact h M a w hi
  · exact h M a w hi

/-- Less is known: slots forgotten, boxes and rows let go. -/
def Env.le (E T : Env) : Prop := ∀ t, E t = .any ∨ E t = T t
structure St.le (s σ : St) : Prop where
  box : ∀ b cs, s.box b = some cs → σ.box b = some cs
  buf : ∀ b p, s.buf b = some p → σ.buf b = some p

theorem St.le.refl (σ : St) : St.le σ σ := ⟨fun _ _ h => h, fun _ _ h => h⟩
theorem St.le.trans {s σ τ : St} (h : St.le s σ) (k : St.le σ τ) : St.le s τ := ⟨fun b cs x => k.box b cs (h.box b cs x), fun b p x => k.buf b p (h.buf b p x)⟩

theorem St.le.has {s σ : St} (h : St.le s σ) {b : Nat} (hb : s.has b) : σ.has b := by
  rcases hb with hb | hb
  · cases hc : s.box b with
    | none => exact absurd hc hb
    | some cs => exact .inl (by rw [h.box b cs hc]; simp)
  · cases hc : s.buf b with
    | none => exact absurd hc hb
    | some p => exact .inr (by rw [h.buf b p hc]; simp)

theorem St.le.nil (σ : St) : St.le {} σ := ⟨fun _ _ h => (by cases h), fun _ _ h => (by cases h)⟩

theorem AInv.forget {M : MMap} {a : Act} {w : World} {E : Env} {s : St} (h : AInv N M T σ a w) (he : Env.le E T) (hs : St.le s σ) : AInv N M E s a w :=
  ⟨⟨fun b cs hb => h.inv.box b cs (hs.box b cs hb), fun b s n hb => h.inv.buf b s n (hs.buf b _ hb), h.inv.dom⟩, h.size, h.defers, fun t => by
    rcases he t with h' | h'
    · rw [h']; trivial
    · rw [h']; exact h.env t⟩

theorem awp_forget {c : Code} {E : Env} {s : St} (he : Env.le E T) (hs : St.le s σ) (h : awp P N c Q E s) : awp P N c Q T σ := by
  intro M a w hi
  refine wp_mono (h M a w (hi.forget he hs)) fun e a' w' hp => ?_
  obtain ⟨M', T', σ', x', h1, h2, h3, h4⟩ := hp
  refine ⟨M', T', σ', x', h1, h2, { h3.toKeep with frame := fun b hM hb => h3.frame b hM (fun hin => hb (hs.has hin)), fresh := fun b hb => ?_ }, h4⟩
  rcases h3.fresh b hb with h' | h'
  · exact .inl (hs.has h')
  · exact .inr h'

theorem awp_loop {α : Type} {c : Code} (E : α → Env) (S : α → St) (ok : α → Prop) (μ : α → Nat) (x₀ : α) (h₀ : ok x₀) (he : Env.le (E x₀) T) (hs : St.le (S x₀) σ)
    (round : ∀ x, ok x → awp P N c (thenA (fun T' σ' => ∃ y, ok y ∧ μ y < μ x ∧ Env.le (E y) T' ∧ St.le (S y) σ') Q) (E x) (S x)) : awp P N (.loop c) Q T σ := by
  refine awp_forget he hs ?_
  intro M a w hi
  -- the relation of the concrete loop: somewhere behind, what has been kept since the loop's begin
  intro b k cs
  have key : ∀ n x a₁ w₁ M₁, μ x = n → ok x → AInv N M₁ (E x) (S x) a₁ w₁ → KeepF M (S x₀) w M₁ (S x) w₁ →
      ∃ e a' w', Post N M (S x₀) w Q e a' w' ∧ Arrives P (lone (b.at a₁ (.code c :: .inLoop c :: k)) cs w₁) b k cs e a' w' := by
    intro n
    induction n using Nat.strongRecOn with
    | _ n ih =>
      intro x a₁ w₁ M₁ hn hok hi₁ hk₁
      obtain ⟨e, a₂, w₂, hq, harr⟩ := round x hok M₁ a₁ w₁ hi₁ b (.inLoop c :: k) cs
      obtain ⟨M', T', σ', x', g1, g2, g3, g4⟩ := hq
      have hk₂ := hk₁.trans hi.inv.dom g3
      cases x' with
      | normal =>
        obtain rfl := g1
        obtain ⟨y, hy, hlt, hye, hys⟩ := g4
        have hf : KeepF M (S x₀) w M' (S y) w₂ := { hk₂.toKeep with frame := hk₂.frame, fresh := fun b hb => hk₂.fresh b (hys.has hb) }
        obtain ⟨e₂, a₃, w₃, hq₂, harr₂⟩ := ih (μ y) (hn ▸ hlt) y a₂ w₂ M' rfl hy (g2.forget hye hys) hf
        exact ⟨e₂, a₃, w₃, hq₂, .of_steps (Steps.trans harr (.one step_inLoop)) harr₂⟩
      | exit id => obtain rfl := g1; exact ⟨_, a₂, w₂, ⟨M', T', σ', .exit id, rfl, g2, hk₂, g4⟩, .pass (x := .inLoop c) rfl (fun _ _ => .inl (by simp)) harr⟩
      | goto l => obtain rfl := g1; exact ⟨_, a₂, w₂, ⟨M', T', σ', .goto l, rfl, g2, hk₂, g4⟩, .pass (x := .inLoop c) rfl (fun _ _ => .inl (by simp)) harr⟩
      | ret => obtain rfl := g1; exact ⟨_, a₂, w₂, ⟨M', T', σ', .ret, rfl, g2, hk₂, g4⟩, .pass (x := .inLoop c) rfl (fun _ _ => .inl (by simp)) harr⟩
      | panic d => obtain ⟨v, rfl, hr⟩ := g1; exact ⟨_, a₂, w₂, ⟨M', T', σ', .panic d, ⟨v, rfl, hr⟩, g2, hk₂, g4⟩, .pass (x := .inLoop c) rfl (fun _ _ => .inl (by simp)) harr⟩
  obtain ⟨e, a', w', hq, harr⟩ := key _ x₀ a w M rfl h₀ hi (KeepF.refl _ _ _)
  exact ⟨e, a', w', hq, .of_steps (.one step_loop) harr⟩
end
end Go.AL
