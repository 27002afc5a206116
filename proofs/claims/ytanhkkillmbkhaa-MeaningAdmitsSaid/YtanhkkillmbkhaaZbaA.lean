import Derived.Test.YtanhkkillmbkhaaZaaZ
namespace Go.AL
set_option linter.unusedVariables false
set_option linter.unusedSimpArgs false

/-! ### Regions that draw their order -/
section
variable {P : Program} {N : Nat} {T : Env} {σ : St} {K K' : Env → St → Prop} {Q : XA → Env → St → Prop}

def opndsOf (op : Op) : List Operand := op.operands.toList

theorem upd_comm (T : Env) {t u : Nat} (h : t ≠ u) (x y : D) : upd (upd T t x) u y = upd (upd T u y) t x := by
  funext v
  simp only [upd]
  by_cases h1 : v = u <;> by_cases h2 : v = t <;> simp_all

theorem ev_upd {T : Env} {t : Nat} {d : D} {x : Operand} (h : x ≠ .tmp t) : ev (upd T t d) x = ev T x := by
  cases x with
  | tmp u =>
    have : u ≠ t := fun he => h (by rw [he])
    simp [ev, upd, this]
  | _ => rfl

theorem ev_map {T : Env} {t : Nat} {d : D} {l : List Operand} (h : ∀ x ∈ l, x ≠ .tmp t) : l.map (ev (upd T t d)) = l.map (ev T) :=
  List.map_congr_left fun x hx => ev_upd (h x hx)

theorem putK_env {t : Nat} {d v : D} {dst : Option Nat} (hd : dst ≠ some t) : putK N dst v K (upd T t d) σ = putK N dst v (fun T' σ' => K (upd T' t d) σ') T σ := by
  cases dst with
  | none => rfl
  | some u =>
    have : t ≠ u := fun he => hd (by rw [he])
    simp only [putK, upd_comm T this]

theorem fillD_env {place : Nat → Option (Nat × TypeId)} {fz : D → D} {t : Nat} {d : D} : ∀ (parts : List (Nat × Operand)) (cells : List D), (∀ p ∈ parts, p.2 ≠ .tmp t) → fillD place P (upd T t d) fz parts cells = fillD place P T fz parts cells
  | [], _, _ => rfl
  | (i, x) :: rest, cells, h => by
    simp only [fillD, ev_upd (h (i, x) (by simp))]
    cases hp : place i with
    | none => rfl
    | some p =>
      obtain ⟨off, ty⟩ := p
      cases hc : cellsD P ty (ev T x) with
      | none => simp [hc]
      | some cs =>
        simp only [hc]
        split
        · exact fillD_env rest _ fun p hp => h p (by simp [hp])
        · rfl

theorem pureD_env {op : Op} {t : Nat} {d : D} (h : ∀ x ∈ opndsOf op, x ≠ .tmp t) : pureD P op (upd T t d) = pureD P op T := by
  cases op <;> simp only [opndsOf, Op.operands] at h
  case build ty parts =>
    have hp : ∀ p ∈ parts.toList, p.2 ≠ .tmp t := fun p hp => h p.2 (by simp; exact ⟨p.1, by simpa using hp⟩)
    simp only [pureD, fillD_env _ _ hp]
  case makeFunc fn first captured =>
    have h1 := ev_map (T := T) (t := t) (d := d) (l := first.toList) fun x hx => h x (by simp only [Array.toList_append, List.mem_append]; exact .inl hx)
    have h2 := ev_map (T := T) (t := t) (d := d) (l := captured.toList) fun x hx => h x (by simp only [Array.toList_append, List.mem_append]; exact .inr hx)
    simp only [pureD, h1, h2]
  case slice ty x lo hi mx =>
    have h0 := ev_upd (T := T) (d := d) (h x (by simp))
    have h1 : ∀ l, lo = some l → ev (upd T t d) l = ev T l := fun l hl => ev_upd (h l (by simp [hl]))
    have h2 : ∀ l, hi = some l → ev (upd T t d) l = ev T l := fun l hl => ev_upd (h l (by simp [hl]))
    cases mx with
    | some m => simp only [pureD]
    | none => cases lo <;> cases hi <;> simp only [pureD, h0] <;> simp_all
  case call c =>
    obtain ⟨callee, args, argTypes⟩ := c
    cases callee with
    | value f => simp only [pureD]
    | invoke r m => simp only [pureD]
    | builtin b =>
      have ha : ∀ x ∈ args.toList, ev (upd T t d) x = ev T x := fun x hx => ev_upd (h x (by simp only [Call.operands, Array.toList_append, List.mem_append]; exact .inr hx))
      cases b <;> simp only [pureD] <;> (split <;> first | rfl | (rename_i hl; simp_all))
  all_goals first
    | (simp only [pureD]; done)
    | (simp at h; simp only [pureD]; simp_all [ev_upd])

theorem callA_env {t : Nat} {d : D} {dst : Option Nat} (hd : dst ≠ some t) {g : FuncId} {ds : List D} : callA P N dst g ds K Q (upd T t d) σ ↔ callA P N dst g ds (fun T' σ' => K (upd T' t d) σ') Q T σ := by
  simp only [callA, putK_env hd]

theorem appendA_env {t : Nat} {d : D} {dst : Option Nat} (hd : dst ≠ some t) {ty ty' : TypeId} {x y : D} : appendA P N dst ty ty' x y K (upd T t d) σ ↔ appendA P N dst ty ty' x y (fun T' σ' => K (upd T' t d) σ') T σ := by
  simp only [appendA, putK_env hd]

theorem aop_env {t : Nat} {d : D} {dst : Option Nat} {op : Op} (h : ∀ x ∈ opndsOf op, x ≠ .tmp t) (hd : dst ≠ some t) :
    aop P N dst op K Q (upd T t d) σ ↔ aop P N dst op (fun T' σ' => K (upd T' t d) σ') Q T σ := by
  have hp := pureD_env (P := P) (T := T) (d := d) h
  have hk := fun v σ => putK_env (N := N) (T := T) (σ := σ) (K := K) (d := d) (v := v) hd
  unfold aop
  cases op
  case call c =>
    obtain ⟨callee, args, argTypes⟩ := c
    simp only [opndsOf, Op.operands, Call.operands] at h
    have ha : ∀ x ∈ args.toList, x ≠ .tmp t := fun x hx => h x (by simp only [Array.toList_append, List.mem_append]; exact .inr hx)
    cases callee with
    | value f =>
      have hf := ev_upd (T := T) (d := d) (h f (by simp))
      simp only [hf, ev_map ha, callA_env hd]
    | invoke r m => simp only [hp, hk]
    | builtin b =>
      cases b
      case append =>
        simp only
        split
        · rename_i x y t1 t2 hx hy
          rw [ev_upd (ha x (by simp [hx])), ev_upd (ha y (by simp [hx])), appendA_env hd]
        · rfl
      all_goals simp only [hp, hk]
  case load ty x =>
    simp only [opndsOf, Op.operands] at h
    have hx := ev_upd (T := T) (d := d) (h x (by simp))
    simp only [hx, hk]
  case store ty x y =>
    simp only [opndsOf, Op.operands] at h
    have hx := ev_upd (T := T) (d := d) (h x (by simp))
    have hy := ev_upd (T := T) (d := d) (h y (by simp))
    simp only [hx, hy, hk]
  case alloc ty => simp only [hk]
  case box ty x =>
    simp only [opndsOf, Op.operands] at h
    have hx := ev_upd (T := T) (d := d) (h x (by simp))
    simp only [hx, hk]
  case buildSlice ty len parts =>
    simp only [opndsOf, Op.operands] at h
    have hpp : ∀ p ∈ parts.toList, p.2 ≠ .tmp t := fun p hp => h p.2 (by simp; exact ⟨p.1, by simpa using hp⟩)
    simp only [hk, fillD_env _ _ hpp]
  case panic x =>
    simp only [opndsOf, Op.operands] at h
    have hx := ev_upd (T := T) (d := d) (h x (by simp))
    simp only [hx]
  case binOp bop xt x y yt =>
    simp only [opndsOf, Op.operands] at h
    have hx := ev_upd (T := T) (d := d) (h x (by simp))
    have hy := ev_upd (T := T) (d := d) (h y (by simp))
    simp only [binA, hx, hy, hk]
  all_goals simp only [hp, hk]

/-- What stands behind need hold only where the operation's slot is written, and the store is one that it may leave. -/
theorem putK_mono {dst : Option Nat} {v : D} (h : putK N dst v K T σ) (hk : K (aput T dst v) σ → K' (aput T dst v) σ) : putK N dst v K' T σ := by
  cases dst with
  | none => exact hk h
  | some t => exact ⟨h.1, hk h.2⟩
end
end Go.AL
