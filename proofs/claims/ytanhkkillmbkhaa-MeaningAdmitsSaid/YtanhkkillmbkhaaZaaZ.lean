import Derived.Test.YtanhkkillmbkhaaZaaY
namespace Go.AL
set_option linter.unusedVariables false
set_option linter.unusedSimpArgs false

section
variable {P : Program} {N : Nat}

/-- What is to be shown of code: loops and regions that draw their order are left for rules of their own. -/
def vc (P : Program) (N : Nat) : Code → (XA → Env → St → Prop) → Env → St → Prop
  | .skip, Q, T, σ => Q .normal T σ
  | .region id ops draw, Q, T, σ => if draw = true then awp P N (.region id ops true) Q T σ else aops P N ops.toList ops.toList Q T σ
  | .seq a b, Q, T, σ => vc P N a (thenA (vc P N b Q) Q) T σ
  | .cond c a b, Q, T, σ => match ev T c with
    | .bool t => br t (vc P N a Q T σ) (vc P N b Q T σ)
    | _ => False
  | .block id c, Q, T, σ => vc P N c (blockA id Q) T σ
  | .exit id, Q, T, σ => Q (.exit id) T σ
  | .ret, Q, T, σ => Q .ret T σ
  | .loop c, Q, T, σ => awp P N (.loop c) Q T σ
  | .rangeFunc f ps as body, Q, T, σ => awp P N (.rangeFunc f ps as body) Q T σ
  | .scope c, Q, T, σ => awp P N (.scope c) Q T σ
  | .label l, Q, T, σ => awp P N (.label l) Q T σ
  | .goto l, Q, T, σ => awp P N (.goto l) Q T σ
  | .refuse _, _, _, _ => False

theorem vc_sound : ∀ (c : Code) {Q : XA → Env → St → Prop} {T : Env} {σ : St}, vc P N c Q T σ → awp P N c Q T σ
  | .skip, _, _, _, h => awp_skip h
  | .region id ops draw, _, _, _, h => by
    simp only [vc] at h
    cases draw
    · exact awp_region (by simpa using h)
    · simpa using h
  | .seq a b, Q, _, _, h => awp_seq (awp_mono (vc_sound a h) fun x T σ hq => by
      cases x with
      | normal => exact vc_sound b hq
      | _ => exact hq)
  | .cond c a b, _, _, _, h => by
    simp only [vc] at h
    split at h
    · rename_i t ht
      refine awp_cond ht ?_
      unfold br at h
      split at h
      · rename_i hb; rw [if_pos hb]; exact vc_sound a h
      · rename_i hb; rw [if_neg hb]; exact vc_sound b h
    · exact h.elim
  | .block id c, _, _, _, h => awp_block (vc_sound c h)
  | .exit id, _, _, _, h => awp_exit h
  | .ret, _, _, _, h => awp_ret h
  | .loop c, _, _, _, h => h
  | .rangeFunc _ _ _ _, _, _, _, h => h
  | .scope _, _, _, _, h => h
  | .label _, _, _, _, h => h
  | .goto _, _, _, _, h => h
  | .refuse _, _, _, _, h => h.elim

theorem pcall_of {f : FuncId} {fn : Func} {c : Code} {ds : List D} {d : D} (hf : P.funcs[f]? = some fn) (hb : fn.body = some c) (hn : (fn.name == "runtime.NumGoroutine") = false)
    (hN : fn.ntmps = N) (hl : decide (ds.length ≤ N) = true) (h : vc P N c (bodyA P fn.results.toList fun x s => x = .ret d ∧ s = {}) (envOf ds) {}) : PCall P f ds d :=
  acall_of_body hf hb hn hN (of_decide_eq_true hl) (vc_sound c h)

theorem upd_same (T : Env) (t : Nat) (d : D) : upd T t d t = d := by simp [upd]
theorem upd_ne {T : Env} {t u : Nat} (d : D) (h : (u == t) = false) : upd T t d u = T u := by
  have : u ≠ t := by simpa using h
  simp [upd, this]
theorem upd_app (T : Env) (t : Nat) (d : D) (u : Nat) : upd T t d u = if u = t then d else T u := rfl
end
end Go.AL
