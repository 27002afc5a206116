import Derived.Test.YtanhkkillmbkhaaZaaX
namespace Go.AL
set_option linter.unusedVariables false
set_option linter.unusedSimpArgs false

section
variable {P : Program} {N : Nat} {M : MMap} {T : Env} {σ : St} {a : Act} {w : World} {K : Env → St → Prop} {Q : XA → Env → St → Prop}

theorem guardA_sound {ops : Array Oper} {o : Oper} {g : Bool} (h : guardA ops.toList T o = some g) (hi : AInv N M T σ a w) : Region.wanted o (yielded ops a.tmps) = g := by
  unfold guardA at h
  unfold Region.wanted
  split at h
  · rename_i hg
    rw [hg]; simp at h ⊢; exact h
  · rename_i j want hg
    rw [hg]
    split at h
    · rename_i t ht
      have hr := hi.env t
      have hdst : (ops[j]?).bind (·.dst) = some t := by simpa using ht
      cases hT : T t <;> rw [hT] at h hr <;> simp only [gq, reduceCtorEq, Option.some.injEq] at h
      · rename_i b
        simp only [Rep] at hr
        have hy : yielded ops a.tmps j = some b := by
          unfold yielded
          simp only [Option.bind_eq_some_iff] at hdst
          obtain ⟨oj, ho, hd⟩ := hdst
          simp only [ho, Option.bind_some, hd]
          have hlt : t < a.tmps.size := by
            rcases Nat.lt_or_ge t a.tmps.size with h1 | h1
            · exact h1
            · simp [Array.getElem?_eq_none h1, undef] at hr
          simp [hlt] at hr
          simp [hlt, hr]
        show (yielded ops a.tmps j == some want) = g
        rw [hy, ← h]
        rfl
      · obtain ⟨ar, hr, _⟩ := hr
        have hy : yielded ops a.tmps j = none := by
          unfold yielded
          simp only [Option.bind_eq_some_iff] at hdst
          obtain ⟨oj, ho, hd⟩ := hdst
          simp only [ho, Option.bind_some, hd]
          rcases Nat.lt_or_ge t a.tmps.size with h1 | h1
          · simp [h1] at hr
            simp [h1, hr]
          · simp [Array.getElem?_eq_none h1]
        show (yielded ops a.tmps j == some want) = g
        rw [hy, ← h]
        rfl
    · cases h

theorem wp_exits {o : Oper} {next : Act → World → Prop} {Q₁ Q₂ : Exit → Act → World → Prop} (h : o.wp P a w next Q₁) (hq : ∀ e a w, Q₁ e a w → Q₂ e a w) : o.wp P a w next Q₂ := by
  unfold Oper.wp at *
  generalize (execOp a.eval o).run P w = r at *
  cases r with
  | ok n w' =>
    cases n <;> simp only [Oper.upon] at h ⊢ <;> first
      | exact h
      | exact Calls.mono h (fun e w'' he => by
          cases e with
          | returned v => exact he
          | panicked c => exact hq _ _ _ he
          | outgrown => obtain ⟨a', w₁, h1⟩ := he; exact ⟨a', w₁, hq _ _ _ h1⟩)
  | halt x w' => cases x <;> simp only [Oper.upon] at h ⊢ <;> first | exact hq _ _ _ h | exact h

theorem aops_sound {ops : Array Oper} : ∀ (l : List Oper) {M : MMap} {T : Env} {σ : St} {a : Act} {w : World}, aops P N ops.toList l Q T σ → AInv N M T σ a w → ∀ {M₀ : MMap} {σ₀ : St} {w₀ : World}, (∀ b, M₀ b ≠ none → b < w₀.heap.size) → KeepF M₀ σ₀ w₀ M σ w →
    wpList P ops (Post N M₀ σ₀ w₀ Q) l a w
  | [], M, T, σ, a, w, h, hi, M₀, σ₀, w₀, hd, hk => ⟨M, T, σ, .normal, rfl, hi, hk, h⟩
  | o :: rest, M, T, σ, a, w, h, hi, M₀, σ₀, w₀, hd, hk => by
    simp only [aops] at h
    split at h
    · rename_i g hg
      have hw := guardA_sound hg hi
      unfold wpList
      rw [hw]
      cases g
      · simp only [br, Bool.false_eq_true, if_false] at h ⊢
        have := putK_sound (M := M) (σ := σ) (w := w) (v := undef) h hi (KeepF.refl _ _ _) ⟨#[], rfl, rfl⟩
        obtain ⟨M', T', σ', h1, h2, h3⟩ := this
        exact aops_sound rest h3 h1 hd (hk.trans hd h2)
      · simp only [br, if_true] at h ⊢
        left
        have := aop_sound h hi
        have hmono : o.wp P a w (wpList P ops (Post N M₀ σ₀ w₀ Q) rest) (Post N M σ w Q) := Oper.wp_mono (fun a' w' ⟨M', T', σ', h1, h2, h3⟩ => aops_sound rest h3 h1 hd (hk.trans hd h2)) this
        exact wp_exits hmono fun e a' w' hp => hp.trans hd hk
    · exact h.elim

theorem awp_region {id : Nat} {ops : Array Oper} (h : aops P N ops.toList ops.toList Q T σ) : awp P N (.region id ops false) Q T σ :=
  fun M a w hi => wp_region_list (aops_sound ops.toList h hi hi.inv.dom (KeepF.refl _ _ _))

/-! ### a function's body -/
def resOne (P : Program) (T : Env) (σ : St) : ResultVar → Option D
  | .tmp t => some (T t)
  | .cell a t => match T a with
    | .ptr b off => match σ.box b with
      | some cs => partD P t (cs.drop off) 0
      | none => none
    | _ => none

def resMany (P : Program) (T : Env) (σ : St) : List ResultVar → Option (List D)
  | [] => some []
  | r :: rs => match resOne P T σ r, resMany P T σ rs with
    | some d, some ds => some (d :: ds)
    | _, _ => none

def resA (P : Program) (T : Env) (σ : St) : List ResultVar → Option D
  | [r] => resOne P T σ r
  | rs => (resMany P T σ rs).map .tup

def DLe (d d' : D) : Prop := ∀ M w v, Rep M w d v → Rep M w d' v
theorem DLe.refl (d : D) : DLe d d := fun _ _ _ h => h
theorem DLe.frz (d : D) : DLe d (frz d) := fun _ _ _ h => frz_rep h
theorem DLe.slice (o : Own) (es : List (List D)) : DLe (.slice o es) (.slice .no es) := fun _ _ _ h => frz_rep (d := .slice o es) h
theorem DLe.any (d : D) : DLe d .any := fun _ _ _ _ => trivial
inductive DLes : List D → List D → Prop
  | nil : DLes [] []
  | cons {d d' : D} {ds ds' : List D} : DLe d d' → DLes ds ds' → DLes (d :: ds) (d' :: ds')
theorem DLes.rep {M : MMap} {w : World} {ds ds' : List D} (h : DLes ds ds') : ∀ {vs : List Value}, RepAll M w ds vs → RepAll M w ds' vs := by
  induction h with
  | nil => exact fun h => h
  | cons h1 _ ih => intro vs hr; obtain ⟨v, vs', rfl, r1, r2⟩ := hr; exact ⟨v, vs', rfl, h1 _ _ _ r1, ih r2⟩
theorem DLes.refl : ∀ ds, DLes ds ds
  | [] => .nil
  | d :: ds => .cons (.refl d) (DLes.refl ds)
theorem DLe.tup {ds ds' : List D} (h : DLes ds ds') : DLe (.tup ds) (.tup ds') := fun _ _ _ ⟨a, hv, hr⟩ => ⟨a, hv, h.rep hr⟩
theorem DLe.agg {ds ds' : List D} (h : DLes ds ds') : DLe (.agg ds) (.agg ds') := fun _ _ _ ⟨a, hv, hr, h1⟩ => ⟨a, hv, h.rep hr, h1⟩

def bodyA (P : Program) (rs : List ResultVar) (R : EA → St → Prop) : XA → Env → St → Prop
  | .normal, T, σ | .ret, T, σ => ∃ d d' s, resA P T σ rs = some d ∧ DLe d d' ∧ St.le s σ ∧ R (.ret d') s
  | .panic d, _, σ => ∃ d' s, DLe d d' ∧ St.le s σ ∧ R (.pan d') s
  | .exit _, _, _ | .goto _, _, _ => False

def envOf (ds : List D) : Env := fun t => (ds[t]?).getD .any

def resV (a : Act) : ResultVar → Sem Value
  | .tmp t => pure (a.tmps.getD t undef)
  | .cell x t => do loadVar t (← asAddr (a.tmps.getD x undef))

theorem resOne_sound {r : ResultVar} {d : D} (h : resOne P T σ r = some d) (hi : AInv N M T σ a w) :
    ∃ v, (resV a r).run P w = .ok v w ∧ Rep M w d v := by
  cases r with
  | tmp t => simp only [resOne, Option.some.injEq] at h; subst h; exact ⟨_, rfl, hi.env t⟩
  | cell x t =>
    simp only [resOne] at h
    split at h
    · rename_i b off hx
      split at h
      · rename_i cs hcs
        obtain ⟨v, h1, h2⟩ := loadBox_rep (P := P) hi.inv hcs h
        have hr := hi.env x
        rw [hx] at hr; simp only [Rep] at hr
        exact ⟨v, by simp only [resV, hr, asAddr, Sem.run_bind]; simpa using h1, h2⟩
      · cases h
    · cases h

inductive All2 {α β : Type} (R : α → β → Prop) : List α → List β → Prop
  | nil : All2 R [] []
  | cons {a : α} {b : β} {l : List α} {m : List β} : R a b → All2 R l m → All2 R (a :: l) (b :: m)
theorem All2.length_eq {α β : Type} {R : α → β → Prop} {l : List α} {m : List β} (h : All2 R l m) : l.length = m.length := by
  induction h with
  | nil => rfl
  | cons _ _ ih => simp [ih]

theorem run_mapM_ex {α β : Type} (f : α → Sem β) (R : α → β → Prop) : ∀ (l : List α), (∀ x ∈ l, ∃ y, (f x).run P w = .ok y w ∧ R x y) → ∃ ys : List β, (l.mapM f).run P w = .ok ys w ∧ All2 R l ys
  | [], _ => ⟨[], by simp, .nil⟩
  | x :: l, h => by
    obtain ⟨y, h1, h2⟩ := h x (by simp)
    obtain ⟨ys, h3, h4⟩ := run_mapM_ex f R l fun z hz => h z (by simp [hz])
    exact ⟨y :: ys, by simp [h1, h3], .cons h2 h4⟩

theorem resMany_some : ∀ {rs : List ResultVar} {ds : List D}, resMany P T σ rs = some ds → ∀ r ∈ rs, ∃ d, resOne P T σ r = some d
  | [], _, _, r, hr => by cases hr
  | x :: rs, ds, h, r, hr => by
    simp only [resMany] at h
    split at h
    · rename_i d ds' h1 h2
      simp only [List.mem_cons] at hr
      rcases hr with rfl | hr
      · exact ⟨d, h1⟩
      · exact resMany_some h2 r hr
    · cases h

theorem resMany_rep : ∀ {rs : List ResultVar} {ds : List D}, resMany P T σ rs = some ds → ∀ {vs : List Value}, All2 (fun r v => ∀ d, resOne P T σ r = some d → Rep M w d v) rs vs → RepAll M w ds vs
  | [], ds, h, vs, hf => by
    simp only [resMany, Option.some.injEq] at h; subst h
    cases hf; rfl
  | x :: rs, ds, h, vs, hf => by
    simp only [resMany] at h
    split at h
    · rename_i d ds' h1 h2
      cases h
      cases hf with
      | cons g1 g2 => exact ⟨_, _, rfl, g1 d h1, resMany_rep h2 g2⟩
    · cases h

theorem resA_sound {fn : Func} {d : D} (h : resA P T σ fn.results.toList = some d) (hi : AInv N M T σ a w) : ∃ v, (results fn a.tmps).run P w = .ok v w ∧ Rep M w d v := by
  have hmap : ∀ rs : List ResultVar, (∀ r ∈ rs, ∃ d, resOne P T σ r = some d) → ∃ vs : List Value,
      (rs.mapM (resV a)).run P w = .ok vs w ∧
      All2 (fun r v => ∀ d, resOne P T σ r = some d → Rep M w d v) rs vs := fun rs hrs => run_mapM_ex _ _ rs fun r hr => by
    obtain ⟨d, hd⟩ := hrs r hr
    obtain ⟨v, h1, h2⟩ := resOne_sound hd hi
    exact ⟨v, h1, fun d' hd' => by rw [hd] at hd'; cases hd'; exact h2⟩
  have hall : ∀ r ∈ fn.results.toList, ∃ d, resOne P T σ r = some d := by
    unfold resA at h
    split at h
    · rename_i r hr
      intro r' hr'
      rw [hr] at hr'
      simp at hr'; subst hr'
      exact ⟨d, h⟩
    · simp only [Option.map_eq_some_iff] at h
      obtain ⟨ds, h1, _⟩ := h
      exact resMany_some h1
  obtain ⟨vs, h1, h2⟩ := hmap _ hall
  have hrun : (results fn a.tmps).run P w = .ok (if h : vs.toArray.size = 1 then vs.toArray[0] else .tuple vs.toArray) w := by
    have hu : results fn a.tmps = (do let vs ← fn.results.mapM (resV a); pure (if h : vs.size = 1 then vs[0] else .tuple vs)) := by
      unfold results
      congr 1
    rw [hu, Array.mapM_eq_mapM_toList]
    simp only [Sem.run_bind]
    have : (List.toArray <$> (fn.results.toList.mapM (resV a)) : Sem (Array Value)).run P w = .ok vs.toArray w := by
      simp only [Sem.run_map, h1]
      simp
    rw [this]
    simp
  refine ⟨_, hrun, ?_⟩
  unfold resA at h
  split at h
  · rename_i r hr
    rw [hr] at h2
    cases h2 with
    | cons g1 g2 =>
      cases g2
      simpa using g1 d h
  · rename_i hne
    simp only [Option.map_eq_some_iff] at h
    obtain ⟨ds, h3, rfl⟩ := h
    have hlen := h2.length_eq
    have hsz : ¬ (vs.toArray.size = 1) := by
      intro h1'
      have : fn.results.toList.length = 1 := by rw [hlen]; simpa using h1'
      obtain ⟨r, hr⟩ := List.length_eq_one_iff.1 this
      exact hne r hr
    rw [dif_neg hsz]
    exact ⟨vs.toArray, rfl, by simpa using resMany_rep h3 h2⟩

theorem envOf_rep {ds : List D} {vs : List Value} (h : RepAll M w ds vs) (n : Nat) (t : Nat) : Rep M w (envOf ds t) ((vs.toArray ++ Array.replicate n undef).getD t undef) := by
  unfold envOf
  cases hd : ds[t]? with
  | none => trivial
  | some d =>
    obtain ⟨v, hv, hr⟩ := h.get hd
    have hlt : t < vs.length := (List.getElem?_eq_some_iff.1 hv).1
    have : (vs.toArray ++ Array.replicate n undef).getD t undef = v := by
      simp only [Array.getD_eq_getD_getElem?, Array.getElem?_append, List.size_toArray, hlt, if_true]
      simp [hv]
    rw [this]; exact hr

theorem acall_of_body {f : FuncId} {fn : Func} {c : Code} {ds : List D} {s : St} {R : EA → St → Prop} (hf : P.funcs[f]? = some fn) (hb : fn.body = some c) (hn : (fn.name == "runtime.NumGoroutine") = false)
    (hN : fn.ntmps = N) (hl : ds.length ≤ N) (h : awp P N c (bodyA P fn.results.toList R) (envOf ds) s) : ACall P f ds s R := by
  refine ⟨⟨fn, hf, hn, by rw [hb]; rfl⟩, fun M w vs hi hv => calls_of_wp hf hb ?_⟩
  have hlen := hv.length
  have hai : AInv N M (envOf ds) s { tmps := vs.toArray ++ Array.replicate (fn.ntmps - vs.toArray.size) undef, defers := [] } w :=
    ⟨hi, by simp; omega, rfl, fun t => envOf_rep hv _ t⟩
  refine wp_mono (h M _ w hai) fun e a' w' hp => ?_
  obtain ⟨M', T', σ', x, h1, h2, h3, h4⟩ := hp
  have fin : ∀ s' : St, St.le s' σ' → Inv M' s' w' ∧ KeepF M s w M' s' w' := fun s' hs =>
    ⟨(h2.forget (E := T') (fun _ => .inr rfl) hs).inv, { h3.toKeep with frame := h3.frame, fresh := fun b hb => h3.fresh b (hs.has hb) }⟩
  cases x with
  | normal =>
    obtain rfl := h1
    obtain ⟨d, d', s', g1, g2, g3, g4⟩ := h4
    obtain ⟨v, r1, r2⟩ := resA_sound g1 h2
    exact ⟨h2.defers, v, r1, M', s', .ret d', ⟨v, rfl, g2 _ _ _ r2⟩, (fin s' g3).1, (fin s' g3).2, g4⟩
  | ret =>
    obtain rfl := h1
    obtain ⟨d, d', s', g1, g2, g3, g4⟩ := h4
    obtain ⟨v, r1, r2⟩ := resA_sound g1 h2
    exact ⟨h2.defers, v, r1, M', s', .ret d', ⟨v, rfl, g2 _ _ _ r2⟩, (fin s' g3).1, (fin s' g3).2, g4⟩
  | panic d =>
    obtain ⟨v, rfl, hr⟩ := h1
    obtain ⟨d', s', g2, g3, g4⟩ := h4
    exact ⟨h2.defers, M', s', .pan d', ⟨v, rfl, g2 _ _ _ hr⟩, (fin s' g3).1, (fin s' g3).2, g4⟩
  | exit id => exact h4.elim
  | goto l => exact h4.elim
end
end Go.AL
