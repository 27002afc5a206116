import Derived.Test.YtanhkkillmbkhaaZaaV
namespace Go.AL
set_option linter.unusedVariables false
set_option linter.unusedSimpArgs false

section
variable {P : Program} {N : Nat} {M : MMap} {T : Env} {σ : St} {a : Act} {w : World} {K : Env → St → Prop} {Q : XA → Env → St → Prop}

def Nx (N : Nat) (M : MMap) (σ : St) (w : World) (K : Env → St → Prop) (a' : Act) (w' : World) : Prop :=
  ∃ M' T' σ', AInv N M' T' σ' a' w' ∧ KeepF M σ w M' σ' w' ∧ K T' σ'

theorem putK_sound {M' : MMap} {σ' : St} {w' : World} {dst : Option Nat} {d : D} {v : Value} (h : putK N dst d K T σ') (hi : AInv N M' T σ' a w') (hk : KeepF M σ w M' σ' w') (hr : Rep M' w' d v) :
    Nx N M σ w K (a.put dst v) w' := by
  cases dst with
  | none => exact ⟨M', T, σ', hi, hk, h⟩
  | some t =>
    obtain ⟨h1, h2⟩ := h
    exact ⟨M', upd T t d, σ', hi.put (dst := some t) (fun u hu => (by cases hu; exact h1)) hr, hk, h2⟩

theorem eval_const (a : Act) (v : Value) : a.eval (.const v) = v := rfl

theorem wp_value {o : Oper} {v : Value} {w' : World} {Qc : Exit → Act → World → Prop} {next : Act → World → Prop} (hrun : (execOp a.eval o).run P w = .ok (.value v) w') (h : next (a.put o.dst v) w') : o.wp P a w next Qc := by
  unfold Oper.wp; rw [hrun, Oper.upon_value]; exact h

theorem join_has {s fr : St} (b : Nat) : (St.join s fr).has b ↔ s.has b ∨ fr.has b := by
  simp only [St.has, St.join]
  cases s.box b <;> cases s.buf b <;> cases fr.box b <;> cases fr.buf b <;> simp

theorem split_inv {s fr : St} (hs : St.split σ s fr) (h : Inv M σ w) : Inv M s w ∧ Inv M fr w := by
  obtain ⟨rfl, hap⟩ := hs
  refine ⟨⟨fun b cs hb => h.box b cs (by simp [St.join, hb]), fun b t n hb => h.buf b t n (by simp [St.join, hb]), h.dom⟩, ⟨fun b cs hb => h.box b cs ?_, fun b t n hb => h.buf b t n ?_, h.dom⟩⟩
  · have : s.box b = none := by
      cases hc : s.box b with
      | none => rfl
      | some c => exact absurd (has_box hb) (hap b (has_box hc))
    simp [St.join, this, hb]
  · have : s.buf b = none := by
      cases hc : s.buf b with
      | none => rfl
      | some c => exact absurd (has_buf hb) (hap b (has_buf hc))
    simp [St.join, this, hb]

theorem join_inv {s fr s' : St} {M' : MMap} {w' : World} (hs : St.split σ s fr) (h : Inv M σ w) (h' : Inv M' s' w') (hk : KeepF M s w M' s' w') :
    Inv M' (St.join s' fr) w' ∧ KeepF M σ w M' (St.join s' fr) w' ∧ St.apart s' fr := by
  obtain ⟨i1, i2⟩ := split_inv hs h
  have hd : ∀ b, σ.has b ↔ s.has b ∨ fr.has b := fun b => by rw [hs.eq]; exact join_has b
  have hfr : ∀ b, fr.has b → M' b = M b ∧ w'.heap[b]? = w.heap[b]? := fun b hb => hk.frame b (i2.lt hb) fun hin => hs.apart b hin hb
  have hap' : St.apart s' fr := fun b hb hb' => by
    rcases hk.fresh b hb with h1 | h1
    · exact hs.apart b h1 hb'
    · have := i2.dom b (i2.lt hb'); omega
  refine ⟨⟨fun b cs hb => ?_, fun b t n hb => ?_, h'.dom⟩, { hk.toKeep with frame := fun b hM hb => hk.frame b hM fun hin => hb ((hd b).2 (.inl hin)), fresh := fun b hb => ?_ }, hap'⟩
  · cases hc : s'.box b with
    | some c => simp only [St.join, hc, Option.some_or] at hb; exact h'.box b cs (hc.trans hb)
    | none =>
      simp only [St.join, hc, Option.none_or] at hb
      exact (i2.box b cs hb).keep hk.toKeep (hfr _ (has_box hb)).1 (hfr _ (has_box hb)).2
  · cases hc : s'.buf b with
    | some c => simp only [St.join, hc, Option.some_or] at hb; exact h'.buf b t n (hc.trans hb)
    | none =>
      simp only [St.join, hc, Option.none_or] at hb
      exact (i2.buf b t n hb).keep (hfr _ (has_buf hb)).1 (hfr _ (has_buf hb)).2
  · rcases (join_has b).1 hb with hb | hb
    · rcases hk.fresh b hb with h1 | h1
      · exact .inl ((hd b).2 (.inl h1))
      · exact .inr h1
    · exact .inl ((hd b).2 (.inr hb))

theorem panK_sound {d : D} {v : Value} {M' : MMap} {σ' : St} {w' : World} (h : panK Q d σ') (hi : AInv N M' T σ' a w') (hk : KeepF M σ w M' σ' w') (hr : Rep M' w' d v) :
    Post N M σ w Q (.panic [{ v, recovered := false }]) a w' := by
  obtain ⟨s, hs, hq⟩ := h
  exact ⟨M', fun _ => .any, s, .panic d, ⟨v, rfl, hr⟩, hi.forget (fun _ => .inl rfl) hs, { hk.toKeep with frame := hk.frame, fresh := fun b hb => hk.fresh b (hs.has hb) }, hq⟩

theorem callFunc_run {f : FuncId} (h : Enters P f) (args : Array Value) (w : World) : (callFunc f args).run P w = .ok (.enter f args) w := by
  obtain ⟨fn, hf, hn, hb⟩ := h
  have hn' : fn.name ≠ "runtime.NumGoroutine" := by simpa using hn
  have hb' : fn.body ≠ none := fun h0 => by rw [h0] at hb; cases hb
  simp [callFunc, hf, hn', hb']

theorem callA_sound {o : Oper} {g : FuncId} {ds : List D} {vs : Array Value} (h : callA P N o.dst g ds K Q T σ) (hi : AInv N M T σ a w)
    (hr : RepAll M w ds vs.toList) (hrun : Enters P g → (execOp a.eval o).run P w = .ok (.enter g vs) w) : o.wp P a w (Nx N M σ w K) (Post N M σ w Q) := by
  obtain ⟨s, fr, R, hs, hc, hR⟩ := h
  obtain ⟨i1, i2⟩ := split_inv hs hi.inv
  unfold Oper.wp
  rw [hrun hc.enters, Oper.upon_enter]
  refine (hc.run M w vs.toList i1 hr).mono fun e w' ⟨M', s', x, h1, h2, h3, h4⟩ => ?_
  obtain ⟨j1, j2, j3⟩ := join_inv hs hi.inv h2 h3
  have hai : AInv N M' T (St.join s' fr) a w' := hi.keep j2.toKeep j1
  have := hR x s' h4 j3 ⟨w'.heap.size, fun b hb hin => by have := h2.dom b (h2.lt hin); omega⟩
  cases x with
  | ret d =>
    obtain ⟨v, rfl, hv⟩ := h1
    exact putK_sound this hai j2 hv
  | pan d =>
    obtain ⟨v, rfl, hv⟩ := h1
    exact panK_sound this hai j2 hv

theorem box_at (hi : Inv M σ w) {b : Nat} {cs : List D} (h : σ.box b = some cs) : ∃ c e, w.heap[b]? = some (.cells c e (0, 0)) ∧ RepAll M w cs c.toList ∧ ∀ u ∈ c.toList, u.oneCell' = true :=
  (hi.box _ _ h).2

theorem loadBox_rep (hi : Inv M σ w) {b off : Nat} {cs : List D} (h : σ.box b = some cs) {t : TypeId} {d : D} (hp : partD P t (cs.drop off) 0 = some d) :
    ∃ v, (loadVar t ⟨b, off, none⟩).run P w = .ok v w ∧ Rep M w d v := by
  obtain ⟨c, e, hc, hr, h1⟩ := box_at hi h
  have hr' := hr.drop off
  unfold partD at hp
  split at hp
  · rename_i n hg hs
    split at hp
    · rename_i hle
      cases hp
      have hlen : n ≤ (cs.drop off).length := by omega
      have hl := run_loadCells_list (P := P) w ⟨b, off, none⟩ ((c.toList.drop off).take n) (fun j v hv => by
        rw [addr_add]
        refine cell_of hc ?_
        rw [List.getElem?_take] at hv
        split at hv
        · rw [List.getElem?_drop] at hv; simpa using hv
        · cases hv)
      have hln : ((c.toList.drop off).take n).length = n := by have := hr'.length; rw [List.length_take]; omega
      rw [hln] at hl
      refine ⟨_, by simp [loadVar, run_isAgg hg, run_sizeOf hs, hl]; rfl, _, rfl, ?_, ?_⟩
      · simpa using hr'.take n
      · intro u hu
        have hu' : u ∈ (c.toList.drop off).take n := by simpa using hu
        exact h1 u (List.mem_of_mem_drop (List.mem_of_mem_take hu'))
    · cases hp
  · rename_i n hg hs
    obtain ⟨v, hv, hr2⟩ := hr'.get hp
    have hcell : w.cell? ⟨b, off, none⟩ = some v := cell_of hc (by rw [List.getElem?_drop] at hv; simpa using hv)
    exact ⟨v, by simp [loadVar, run_isAgg hg, load, Sem.run, hcell], hr2⟩
  · cases hp

theorem pureK_sound {o : Oper} (h : match pureD P o.op T with | some (side, d) => side ∧ putK N o.dst d K T σ | none => False) (hi : AInv N M T σ a w) : o.wp P a w (Nx N M σ w K) (Post N M σ w Q) := by
  split at h
  · rename_i side d hp
    obtain ⟨v, h1, h2⟩ := pureD_sound hp h.1 hi
    exact wp_value h1 (putK_sound h.2 hi (KeepF.refl _ _ _) h2)
  · exact h.elim

theorem nil_run {xt e : TypeId} (he : sliP P xt = some e) {o : Own} {es : List (List D)} {v : Value} (hr : Rep M w (.slice o es) v) : ∃ r, (Op.equal xt v (.slice none 0 0)).run P w = .ok r w ∧ nilR o es r := by
  have key : ∀ (b : Option Addr) (l c : Nat), (Op.equal xt (.slice b l c) (.slice none 0 0)).run P w = .ok b.isNone w := fun b l c => by
    show (Op.equalIn (9999 + 1) xt (.slice b l c) (.slice none 0 0)).run P w = _
    rw [Op.equalIn]
    cases b <;> simp [run_underlying (und_of_sli he)]
  cases o with
  | nil => obtain ⟨rfl, _⟩ := hr; exact ⟨true, key _ _ _, rfl⟩
  | exact => obtain ⟨b, off, s, rfl, _⟩ := hr; exact ⟨false, key _ _ _, rfl⟩
  | buf b s => obtain ⟨cap, _, _, _, rfl, _⟩ := hr; exact ⟨false, key _ _ _, rfl⟩
  | no =>
    rcases hr with ⟨rfl, rfl⟩ | ⟨b, off, cap, s, rfl, _⟩ | ⟨a, cap, rfl, rfl⟩
    · exact ⟨true, key _ _ _, fun h => absurd rfl h⟩
    · exact ⟨false, key _ _ _, fun _ => rfl⟩
    · exact ⟨false, key _ _ _, fun _ => rfl⟩

theorem chunks_flat {s : Nat} : ∀ (n : Nat) (l : List D), l.length = n * s → (chunks s n l).flatten = l ∧ (∀ r ∈ chunks s n l, r.length = s) ∧ (chunks s n l).length = n
  | 0, l, h => by
    have : l = [] := List.eq_nil_of_length_eq_zero (by simpa using h)
    subst this; simp [chunks]
  | n + 1, l, h => by
    rw [Nat.add_mul] at h
    obtain ⟨h1, h2, h3⟩ := chunks_flat (s := s) n (l.drop s) (by simp; omega)
    refine ⟨by simp [chunks, h1], fun r hr => ?_, by simp [chunks, h3]⟩
    simp only [chunks, List.mem_cons] at hr
    rcases hr with rfl | hr
    · simp; omega
    · exact h2 r hr

theorem zeroCells_list (z : Array Value) : ∀ n, (Builtin.zeroCells z n).toList = (List.replicate n z.toList).flatten
  | 0 => by simp [Builtin.zeroCells]
  | n + 1 => by
    have ih := zeroCells_list z n
    simp only [Builtin.zeroCells, Array.toList_map, Array.toList_range] at ih ⊢
    rw [List.replicate_succ', List.flatten_append, ← ih, Nat.add_mul, Nat.one_mul, List.range_add, List.map_append, List.map_map]
    congr 1
    simp only [List.flatten_cons, List.flatten_nil, List.append_nil]
    apply List.ext_getElem
    · simp
    · intro i h1 h2
      simp at h1
      simp [Nat.mul_add_mod', Nat.mod_eq_of_lt h1, h1, Nat.add_mod]

theorem replicate_rep {ds : List D} {vs : List Value} (h : RepAll M w ds vs) : ∀ n, RepAll M w (List.replicate n ds).flatten (List.replicate n vs).flatten
  | 0 => rfl
  | n + 1 => by
    simp only [List.replicate_succ, List.flatten_cons]
    exact h.append (replicate_rep h n)

theorem fillD_length {place : Nat → Option (Nat × TypeId)} {fz : D → D} : ∀ (parts : List (Nat × Operand)) (cells out : List D), fillD place P T fz parts cells = some out → out.length = cells.length
  | [], cells, out, h => by simp only [fillD, Option.some.injEq] at h; subst h; rfl
  | (i, x) :: rest, cells, out, h => by
    simp only [fillD] at h
    split at h
    · cases h
    · split at h
      · split at h
        · rename_i hle
          rw [fillD_length rest _ out h]
          simp only [layD, List.length_append, List.length_take, List.length_map, List.length_drop]
          omega
        · cases h
      · cases h

theorem wp_skip' {o : Oper} {w' : World} {Qc : Exit → Act → World → Prop} {next : Act → World → Prop} (hrun : (execOp a.eval o).run P w = .ok .skip w') (h : next (a.put o.dst undef) w') : o.wp P a w next Qc := by
  unfold Oper.wp; rw [hrun, Oper.upon_skip]; exact h

theorem appendA_sound {o : Oper} {t t' ty : TypeId} {dx dy : D} {x y : Value} (h : appendA P N o.dst t t' dx dy K T σ) (hi : AInv N M T σ a w) (rx : Rep M w dx x) (ry : Rep M w dy y)
    (hrun : ∀ v w', (Builtin.append_ #[t, t'] ty #[x, y]).run P w = .ok v w' → (execOp a.eval o).run P w = .ok (.value v) w') : o.wp P a w (Nx N M σ w K) (Post N M σ w Q) := by
  unfold appendA at h
  split at h
  · rename_i ow xs ow' ys e e' he he'
    obtain ⟨rfl, h⟩ := h
    split at h
    · rename_i s by' z hs hb hz
      obtain ⟨rfl, hpos, hb0, hys, hbound, h⟩ := h
      obtain ⟨zl, hzl, hzlen⟩ := Option.map_eq_some_iff.1 hz
      have H : AppT P t t' e zl.length by' := ⟨he, he', by rw [hzlen]; exact hs, by rw [hzlen]; exact hpos, hb, zl, hzl, rfl⟩
      rw [hzlen] at H
      have fin : ∀ {σ₀ : St} {es : List (List D)}, AppPost P M σ σ₀ w z t t' ty x y es → (∀ b', ¬ σ₀.has b' → putK N o.dst (.slice (.buf b' z) es) K T (σ₀.setBuf b' z es.length)) → o.wp P a w (Nx N M σ w K) (Post N M σ w Q) := by
        intro σ₀ es hp hk
        obtain ⟨v, w', M', b, h1, h2, h3, h4, h5⟩ := hp
        exact wp_value (hrun _ _ h1) (putK_sound (hk b h3) (hi.keep h5.toKeep h4) h5 h2)
      have still : ∀ {base : Option Addr} {len cap : Nat}, x = .slice base len cap → len ≤ cap → ys = [] → (Builtin.append_ #[t, t'] ty #[x, y]).run P w = .ok x w := by
        intro base len cap hx hle hys0
        subst hys0
        obtain ⟨l, l1, _, _, ⟨b', c', hy⟩, l5⟩ := first_run (P := P) ry (s := z) (by simp)
        have := l5 w rfl
        have hl : l = [] := List.eq_nil_of_length_eq_zero (by simpa using l1)
        subst hl
        subst hx
        exact append_still H hle hy this ty
      split at h
      · rename_i b s'
        obtain ⟨rfl, hbuf, h⟩ := h
        refine fin (append_own H rx ry hys hb0 hbound hi.inv hbuf ty) fun b' hb' => ?_
        rw [List.length_append]; exact h b' hb'
      · obtain ⟨rfl, rfl⟩ := rx
        by_cases hy0 : ys = []
        · exact wp_value (hrun _ _ (still rfl (Nat.le_refl _) hy0)) (putK_sound (h.1 hy0) hi (KeepF.refl _ _ _) ⟨rfl, rfl⟩)
        · have hl : 0 < ys.length := by cases ys with | nil => exact absurd rfl hy0 | cons a l => simp
          have := append_new H rfl (o := .nil) (xs := []) ⟨rfl, rfl⟩ ry rfl (by simp) hys (by omega) hb0 hbound hi.inv hi.inv (fun _ h => h) ty
          simp only [List.nil_append] at this
          exact fin this (h.2 hy0)
      · obtain ⟨hxs, h⟩ := h
        obtain ⟨b, off, size, hx, hrow⟩ := id rx
        by_cases hy0 : ys = []
        · exact wp_value (hrun _ _ (still hx (Nat.le_refl _) hy0)) (putK_sound (h.1 hy0) hi (KeepF.refl _ _ _) rx)
        · have hl : 0 < ys.length := by cases ys with | nil => exact absurd rfl hy0 | cons a l => simp
          refine fin (append_new H hx rx ry rfl hxs hys (by omega) hb0 hbound hi.inv hi.inv (fun _ h => h) ty) fun b' hb' => ?_
          rw [List.length_append]; exact h.2 hy0 b' hb'
      · exact h.elim
    · exact h.elim
  · exact h.elim

theorem aop_sound {o : Oper} (h : aop P N o.dst o.op K Q T σ) (hi : AInv N M T σ a w) : o.wp P a w (Nx N M σ w K) (Post N M σ w Q) := by
  obtain ⟨dst, op, type, pos, after, guard⟩ := o
  unfold aop at h
  simp only at h
  split at h
  · -- load
    rename_i t x
    have hr := ev_rep hi x
    split at h
    · rename_i b off hx
      rw [hx] at hr; simp only [Rep] at hr
      split at h
      · rename_i cs hcs
        split at h
        · rename_i d hd
          obtain ⟨v, h1, h2⟩ := loadBox_rep (P := P) hi.inv hcs hd
          exact wp_value (v := v) (w' := w) (by simp [execOp, hr, Instr.loadAt, Instr.sureAddr, h1]) (putK_sound h hi (KeepF.refl _ _ _) h2)
        · exact h.elim
      · exact h.elim
    · rename_i cs hx
      rw [hx] at hr
      obtain ⟨b, off, hr, hc⟩ := hr
      split at h
      · rename_i d hd
        obtain ⟨v, h1, h2⟩ := load_rep hd hc
        exact wp_value (v := v) (w' := w) (by simp [execOp, hr, Instr.loadAt, Instr.sureAddr, h1]) (putK_sound h hi (KeepF.refl _ _ _) h2)
      · exact h.elim
    · exact h.elim
  · -- store
    rename_i t x y
    have hr := ev_rep hi x
    split at h
    · rename_i b off hx
      rw [hx] at hr; simp only [Rep] at hr
      split at h
      · rename_i cs vs hcs hvs
        obtain ⟨hle, h⟩ := h
        obtain ⟨c1, c2, c3⟩ := cellsD_rep hvs (ev_rep hi y)
        obtain ⟨c, e, hc, hrc, h1⟩ := box_at hi.inv hcs
        have hlen := hrc.length
        have hvl := c1.length
        obtain ⟨c', r1, r2⟩ := run_store_cells (P := P) b off e (a.eval y).cells.toList 0 c w hc (by simp at hlen hvl ⊢; omega) c2
        have hrep : RepAll M w (layD cs off vs) c'.toList := by
          rw [r2, Nat.add_zero, ← hvl]
          exact ((hrc.take _).append c1).append (hrc.drop _)
        have hone : ∀ u ∈ c'.toList, u.oneCell' = true := by
          rw [r2]
          intro u hu
          simp only [List.mem_append] at hu
          rcases hu with (hu | hu) | hu
          · exact h1 u (List.mem_of_mem_take hu)
          · exact c2 u hu
          · exact h1 u (List.mem_of_mem_drop hu)
        obtain ⟨i1, i2⟩ := hi.inv.setBox hcs ⟨c, hc⟩ hrep hone
        refine wp_skip' (w' := setRow w b c' e) ?_ (putK_sound h (hi.keep i2.toKeep i1) i2 trivial)
        simp [execOp, hr, Instr.storeAt, Instr.sureAddr, storeVar, run_sizeOf c3, r1]
      · exact h.elim
    · exact h.elim
  · -- alloc
    rename_i t
    split at h
    · rename_i z hz
      obtain ⟨zv, h1, _, h3, h4⟩ := cD_zero hz M w
      obtain ⟨i1, i2⟩ := hi.inv.addBox t h3 h4
      exact wp_value (v := .pointer (some ⟨w.heap.size, 0, none⟩)) (w' := w.alloc (.cells zv.cells t)) (by simp [execOp, Instr.alloc, h1, newVar, newRow]) (putK_sound (h _ hi.inv.fresh) (hi.keep i2.toKeep i1) i2 rfl)
    · exact h.elim
  · -- box
    rename_i t x
    split at h
    · rename_i z hz
      obtain ⟨c1, c2, c3⟩ := cellsD_rep hz (ev_rep hi x)
      obtain ⟨i1, i2⟩ := hi.inv.addBox t c1 c2
      exact wp_value (v := .pointer (some ⟨w.heap.size, 0, none⟩)) (w' := w.alloc (.cells (a.eval x).cells t)) (by simp [execOp, Instr.box, newVar, newRow]) (putK_sound (h _ hi.inv.fresh) (hi.keep i2.toKeep i1) i2 rfl)
    · exact h.elim
  · -- buildSlice
    rename_i t len parts
    split at h
    · rename_i e he
      split at h
      · rename_i s z hs hz
        obtain ⟨hzl, hmax, h⟩ := h
        split at h
        · rename_i cs hcs
          obtain ⟨zv, h1, _, h3, h4⟩ := cD_zero hz M w
          have hzs : zv.cells.size = s := by have := h3.length; simp at this; omega
          have hz' : RepAll M w (List.replicate len z).flatten ((Array.range (len * s)).map (zv.cells[· % zv.cells.size]!)).toList ∧ ∀ u ∈ ((Array.range (len * s)).map (zv.cells[· % zv.cells.size]!)).toList, u.oneCell' = true := by
            have hcl : ((Array.range (len * s)).map (zv.cells[· % zv.cells.size]!)).toList = (List.replicate len zv.cells.toList).flatten := by
              have := zeroCells_list zv.cells len
              simp only [Builtin.zeroCells, hzs] at this
              rw [hzs]; exact this
            rw [hcl]
            refine ⟨replicate_rep h3 len, fun u hu => ?_⟩
            simp only [List.mem_flatten, List.mem_replicate] at hu
            obtain ⟨l, ⟨_, rfl⟩, hu⟩ := hu
            exact h4 u hu
          obtain ⟨res, g1, g2, g3⟩ := fill_sound (place := fun i => some (i * s, e)) (fz := frz) (pl := fun i => some (i * s, s)) (fun _ _ h => frz_rep h) (fun i off ty hp => by
            simp only [Option.some.injEq, Prod.mk.injEq] at hp
            obtain ⟨rfl, rfl⟩ := hp
            exact ⟨s, rfl, hs⟩) hi parts.toList _ cs hcs _ hz'.1 hz'.2
          have hclen : cs.length = len * s := by
            rw [fillD_length _ _ _ hcs]; simp [hzl]
          obtain ⟨f1, f2, f3⟩ := chunks_flat len cs hclen
          obtain ⟨i1, i2⟩ := hi.inv.addImm (.cells res e)
          refine wp_value (v := .slice (some ⟨w.heap.size, 0, none⟩) len len) (w' := w.alloc (.cells res e)) ?_ (putK_sound h (hi.keep i2.toKeep i1) i2 ?_)
          · by_cases h0 : len * s = 0
            · rw [h0] at g1
              have er : ∀ f : Nat → Value, Array.map f (Array.range 0) = #[] := fun f => by apply Array.ext'; simp
              rw [er] at g1
              simp [er, execOp, Instr.buildSlice, run_underlying (und_of_sli he), run_sizeOf hs, h0, newRow, g1]
            · have h0' : ¬ (len = 0 ∨ s = 0) := fun h => h0 (Nat.mul_eq_zero.2 h)
              simp only [List.map_map] at g1
              simp [execOp, Instr.buildSlice, run_underlying (und_of_sli he), run_sizeOf hs, show ¬ (16777216 < len * s) by omega, h0', newRow, h1, g1]
              exact fun h => absurd h h0
          · refine ⟨w.heap.size, 0, s, by rw [f3], rows_of f2 (by rw [f1]; exact RepAll.keep i2.toKeep _ _ g2) fun j v hv => ?_⟩
            refine ⟨cell_of (heap_alloc_new _ _) (by simpa using hv), g3 v (List.mem_of_getElem? hv), ?_⟩
            simp only [ImmAt]
            cases hm : M w.heap.size with
            | none => trivial
            | some m => have := hi.inv.dom w.heap.size (by simp [hm]); omega
        · exact h.elim
      · exact h.elim
    · exact h.elim
  · -- panic
    rename_i x
    split at h
    · rename_i t d hx
      have hr := ev_rep hi x
      rw [hx] at hr
      obtain ⟨u, hu, hr'⟩ := id hr
      unfold Oper.wp
      have : (execOp a.eval { dst, op := .panic x, type, pos, after, guard }).run P w = .halt (.panic (.iface t u)) w := by
        simp [execOp, hu, Instr.panic, goPanic, Sem.run]
      rw [this, Oper.upon_panic]
      exact panK_sound h hi (KeepF.refl _ _ _) ⟨u, rfl, hr'⟩
    · exact h.elim
  · -- call of a value
    rename_i f args argTypes
    split at h
    · rename_i g fi ca hf
      have hr := ev_rep hi f
      rw [hf] at hr
      obtain ⟨vf, vc, hv, r1, r2⟩ := hr
      refine callA_sound (vs := vf ++ args.map a.eval ++ vc) h hi ?_ fun he => ?_
      · simp only [Array.toList_append, Array.toList_map]
        exact (r1.append (repAll_ops hi _)).append r2
      · have := callFunc_run he (vf ++ args.map a.eval ++ vc) w
        rw [Array.append_assoc] at this ⊢
        simp [execOp, resolve, hv, Deferred.ofValue, invoke, this]
    · exact h.elim
  · -- append
    rename_i args argTypes
    split at h
    · rename_i x y t t' ha ht
      have ha' : args = #[x, y] := by rw [← Array.toList_inj]; simpa using ha
      have ht' : argTypes = #[t, t'] := by rw [← Array.toList_inj]; simpa using ht
      subst ha'; subst ht'
      exact appendA_sound (ty := type) h hi (ev_rep hi x) (ev_rep hi y) fun v w' hv => by simp [execOp, resolve, invoke, builtin, hv]
    · exact h.elim
  · -- two operands
    rename_i bop xt x y yt
    have nilv : nilOpnd y = true → a.eval y = .slice none 0 0 := by
      intro hn
      unfold nilOpnd at hn
      split at hn
      · rfl
      · cases hn
    unfold binA at h
    split at h
    · rename_i ow es hn hx
      split at h
      · rename_i e he
        have hr := ev_rep hi x
        rw [hx] at hr
        obtain ⟨r, h1, h2⟩ := nil_run (P := P) he hr
        refine wp_value (v := .bool r) (w' := w) ?_ (putK_sound (h r h2) hi (KeepF.refl _ _ _) rfl)
        rcases rows_of_slice hr with ⟨hv, _⟩ | ⟨_, _, _, _, hv, _⟩ | ⟨_, _, hv, _⟩ <;> rw [hv] at h1 <;> simp [execOp, hv, nilv hn, eqGuard, binOp, h1]
      · exact h.elim
    · rename_i ow es hn hx
      split at h
      · rename_i e he
        have hr := ev_rep hi x
        rw [hx] at hr
        obtain ⟨r, h1, h2⟩ := nil_run (P := P) he hr
        refine wp_value (v := .bool (!r)) (w' := w) ?_ (putK_sound (h r h2) hi (KeepF.refl _ _ _) rfl)
        rcases rows_of_slice hr with ⟨hv, _⟩ | ⟨_, _, _, _, hv, _⟩ | ⟨_, _, hv, _⟩ <;> rw [hv] at h1 <;> simp [execOp, hv, nilv hn, eqGuard, binOp, h1]
      · exact h.elim
    · exact pureK_sound (o := { dst, op := .binOp _ xt x y yt, type, pos, after, guard }) h hi
  · exact pureK_sound h hi
end
end Go.AL
