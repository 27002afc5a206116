import Derived.Test.YtanhkkillmbkhaaLa
import Derived.Laws.MakeOwn
namespace Go.AL
set_option linter.unusedVariables false
set_option linter.unusedSimpArgs false

section
variable {P : Program} {N : Nat} {M : MMap} {T : Env} {σ : St} {a : Act} {w : World} {K : Env → St → Prop} {Q : XA → Env → St → Prop}

def Nx (N : Nat) (M : MMap) (σ : St) (w : World) (K : Env → St → Prop) (a' : Act) (w' : World) : Prop :=
  ∃ M' T' σ', AInv N M' T' σ' a' w' ∧ KeepF M σ w M' σ' w' ∧ K T' σ'

theorem putK_sound {M' : MMap} {σ' : St} {w' : World} {dst : Option Nat} {d : D} {v : Value} (h : putK N dst d K T σ') (hi : AInv N M' T σ' a w') (hk : KeepF M σ w M' σ' w') (hr : Rep M' w' d v) :
    Nx N M σ w K (a.put dst v) w' := by
  cases dst with
  | none => exact ⟨M', T, σ', hi, hk, h⟩
  | some t =>
    obtain ⟨h1, h2⟩ := h
    exact ⟨M', upd T t d, σ', hi.put (dst := some t) (fun u hu => (by cases hu; exact h1)) hr, hk, h2⟩

theorem eval_const (a : Act) (v : Value) : a.eval (.const v) = v := rfl

theorem wp_value {o : Oper} {v : Value} {w' : World} {Qc : Exit → Act → World → Prop} {next : Act → World → Prop} (hrun : (execOp a.eval o).run P w = .ok (.value v) w') (h : next (a.put o.dst v) w') : o.wp P a w next Qc := by
  unfold Oper.wp; rw [hrun, Oper.upon_value]; exact h

theorem join_has {s fr : St} (b : Nat) : (St.join s fr).has b ↔ s.has b ∨ fr.has b := by
  simp only [St.has, St.join]
  cases s.box b <;> cases s.buf b <;> cases fr.box b <;> cases fr.buf b <;> simp

theorem split_inv {s fr : St} (hs : St.split σ s fr) (h : Inv M σ w) : Inv M s w ∧ Inv M fr w := by
  obtain ⟨rfl, hap⟩ := hs
  refine ⟨⟨fun b cs hb => h.box b cs (by simp [St.join, hb]), fun b t n hb => h.buf b t n (by simp [St.join, hb]), h.dom⟩, ⟨fun b cs hb => h.box b cs ?_, fun b t n hb => h.buf b t n ?_, h.dom⟩⟩
  · have : s.box b = none := by
      cases hc : s.box b with
      | none => rfl
      | some c => exact absurd (has_box hb) (hap b (has_box hc))
    simp [St.join, this, hb]
  · have : s.buf b = none := by
      cases hc : s.buf b with
      | none => rfl
      | some c => exact absurd (has_buf hb) (hap b (has_buf hc))
    simp [St.join, this, hb]

theorem join_inv {s fr s' : St} {M' : MMap} {w' : World} (hs : St.split σ s fr) (h : Inv M σ w) (h' : Inv M' s' w') (hk : KeepF M s w M' s' w') :
    Inv M' (St.join s' fr) w' ∧ KeepF M σ w M' (St.join s' fr) w' ∧ St.apart s' fr := by
  obtain ⟨i1, i2⟩ := split_inv hs h
  have hd : ∀ b, σ.has b ↔ s.has b ∨ fr.has b := fun b => by rw [hs.eq]; exact join_has b
  have hfr : ∀ b, fr.has b → M' b = M b ∧ w'.heap[b]? = w.heap[b]? := fun b hb => hk.frame b (i2.lt hb) fun hin => hs.apart b hin hb
  have hap' : St.apart s' fr := fun b hb hb' => by
    rcases hk.fresh b hb with h1 | h1
    · exact hs.apart b h1 hb'
    · have := i2.dom b (i2.lt hb'); omega
  refine ⟨⟨fun b cs hb => ?_, fun b t n hb => ?_, h'.dom⟩, { hk.toKeep with frame := fun b hM hb => hk.frame b hM fun hin => hb ((hd b).2 (.inl hin)), fresh := fun b hb => ?_ }, hap'⟩
  · cases hc : s'.box b with
    | some c => simp only [St.join, hc, Option.some_or] at hb; exact h'.box b cs (hc.trans hb)
    | none =>
      simp only [St.join, hc, Option.none_or] at hb
      exact (i2.box b cs hb).keep hk.toKeep (hfr _ (has_box hb)).1 (hfr _ (has_box hb)).2
  · cases hc : s'.buf b with
    | some c => simp only [St.join, hc, Option.some_or] at hb; exact h'.buf b t n (hc.trans hb)
    | none =>
      simp only [St.join, hc, Option.none_or] at hb
      exact (i2.buf b t n hb).keep (hfr _ (has_buf hb)).1 (hfr _ (has_buf hb)).2
  · rcases (join_has b).1 hb with hb | hb
    · rcases hk.fresh b hb with h1 | h1
      · exact .inl ((hd b).2 (.inl h1))
      · exact .inr h1
    · exact .inl ((hd b).2 (.inr hb))

theorem panK_sound {d : D} {v : Value} {M' : MMap} {σ' : St} {w' : World} (h : panK Q d σ') (hi : AInv N M' T σ' a w') (hk : KeepF M σ w M' σ' w') (hr : Rep M' w' d v) :
    Post N M σ w Q (.panic [{ v, recovered := false }]) a w' := by
  obtain ⟨s, hs, hq⟩ := h
  exact ⟨M', fun _ => .any, s, .panic d, ⟨v, rfl, hr⟩, hi.forget (fun _ => .inl rfl) hs, { hk.toKeep with frame := hk.frame, fresh := fun b hb => hk.fresh b (hs.has hb) }, hq⟩

theorem callFunc_run {f : FuncId} (h : Enters P f) (args : Array Value) (w : World) : (callFunc f args).run P w = .ok (.enter f args) w := by
  obtain ⟨fn, hf, hn, hb⟩ := h
  have hn' : fn.name ≠ "runtime.NumGoroutine" := by simpa using hn
  have hb' : fn.body ≠ none := fun h0 => by rw [h0] at hb; cases hb
  simp [callFunc, hf, hn', hb']

theorem callA_sound {o : Oper} {g : FuncId} {ds : List D} {vs : Array Value} (h : callA P N o.dst g ds K Q T σ) (hi : AInv N M T σ a w)
    (hr : RepAll M w ds vs.toList) (hrun : Enters P g → (execOp a.eval o).run P w = .ok (.enter g vs) w) : o.wp P a w (Nx N M σ w K) (Post N M σ w Q) := by
  obtain ⟨s, fr, R, hs, hc, hR⟩ := h
  obtain ⟨i1, i2⟩ := split_inv hs hi.inv
  unfold Oper.wp
  rw [hrun hc.enters, Oper.upon_enter]
  refine (hc.run M w vs.toList i1 hr).mono fun e w' ⟨M', s', x, h1, h2, h3, h4⟩ => ?_
  obtain ⟨j1, j2, j3⟩ := join_inv hs hi.inv h2 h3
  have hai : AInv N M' T (St.join s' fr) a w' := hi.keep j2.toKeep j1
  have := hR x s' h4 j3 ⟨w'.heap.size, fun b hb hin => by have := h2.dom b (h2.lt hin); omega⟩
  cases x with
  | ret d =>
    obtain ⟨v, rfl, hv⟩ := h1
    exact putK_sound this hai j2 hv
  | pan d =>
    obtain ⟨v, rfl, hv⟩ := h1
    exact panK_sound this hai j2 hv

theorem box_at (hi : Inv M σ w) {b : Nat} {cs : List D} (h : σ.box b = some cs) : ∃ c e, w.heap[b]? = some (.cells c e (0, 0)) ∧ RepAll M w cs c.toList ∧ ∀ u ∈ c.toList, u.oneCell' = true :=
  (hi.box _ _ h).2

theorem loadBox_rep (hi : Inv M σ w) {b off : Nat} {cs : List D} (h : σ.box b = some cs) {t : TypeId} {d : D} (hp : partD P t (cs.drop off) 0 = some d) :
    ∃ v, (loadVar t ⟨b, off, none⟩).run P w = .ok v w ∧ Rep M w d v := by
  obtain ⟨c, e, hc, hr, h1⟩ := box_at hi h
  have hr' := hr.drop off
  unfold partD at hp
  split at hp
  · rename_i n hg hs
    split at hp
    · rename_i hle
      cases hp
      have hlen : n ≤ (cs.drop off).length := by omega
      have hl := run_loadCells_list (P := P) w ⟨b, off, none⟩ ((c.toList.drop off).take n) (fun j v hv => by
        rw [addr_add]
        refine cell_of hc ?_
        rw [List.getElem?_take] at hv
        split at hv
        · rw [List.getElem?_drop] at hv; simpa using hv
        · cases hv)
      have hln : ((c.toList.drop off).take n).length = n := by have := hr'.length; rw [List.length_take]; omega
      rw [hln] at hl
      refine ⟨_, by simp [loadVar, run_isAgg hg, run_sizeOf hs, hl]; rfl, _, rfl, ?_, ?_⟩
      · simpa using hr'.take n
      · intro u hu
        have hu' : u ∈ (c.toList.drop off).take n := by simpa using hu
        exact h1 u (List.mem_of_mem_drop (List.mem_of_mem_take hu'))
    · cases hp
  · rename_i n hg hs
    obtain ⟨v, hv, hr2⟩ := hr'.get hp
    have hcell : w.cell? ⟨b, off, none⟩ = some v := cell_of hc (by rw [List.getElem?_drop] at hv; simpa using hv)
    exact ⟨v, by simp [loadVar, run_isAgg hg, load, Sem.run, hcell], hr2⟩
  · cases hp

theorem pureK_sound {o : Oper} (h : match pureD P o.op T with | some (side, d) => side ∧ putK N o.dst d K T σ | none => False) (hi : AInv N M T σ a w) : o.wp P a w (Nx N M σ w K) (Post N M σ w Q) := by
  split at h
  · rename_i side d hp
    obtain ⟨v, h1, h2⟩ := pureD_sound hp h.1 hi
    exact wp_value h1 (putK_sound h.2 hi (KeepF.refl _ _ _) h2)
  · exact h.elim

theorem nil_run {xt e : TypeId} (he : sliP P xt = some e) {o : Own} {es : List (List D)} {v : Value} (hr : Rep M w (.slice o es) v) : ∃ r, (Op.equal xt v (.slice none 0 0)).run P w = .ok r w ∧ nilR o es r := by
  have key : ∀ (b : Option Addr) (l c : Nat), (Op.equal xt (.slice b l c) (.slice none 0 0)).run P w = .ok b.isNone w := fun b l c => by
    show (Op.equalIn (9999 + 1) xt (.slice b l c) (.slice none 0 0)).run P w = _
    rw [Op.equalIn]
    cases b <;> simp [run_underlying (und_of_sli he)]
  cases o with
  | nil => obtain ⟨rfl, _⟩ := hr; exact ⟨true, key _ _ _, rfl⟩
  | exact => obtain ⟨b, off, s, rfl, _⟩ := hr; exact ⟨false, key _ _ _, rfl⟩
  | buf b s => obtain ⟨cap, _, _, _, rfl, _⟩ := hr; exact ⟨false, key _ _ _, rfl⟩
  | no =>
    rcases hr with ⟨rfl, rfl⟩ | ⟨b, off, cap, s, rfl, _⟩ | ⟨a, cap, rfl, rfl⟩
    · exact ⟨true, key _ _ _, fun h => absurd rfl h⟩
    · exact ⟨false, key _ _ _, fun _ => rfl⟩
    · exact ⟨false, key _ _ _, fun _ => rfl⟩

theorem chunks_flat {s : Nat} : ∀ (n : Nat) (l : List D), l.length = n * s → (chunks s n l).flatten = l ∧ (∀ r ∈ chunks s n l, r.length = s) ∧ (chunks s n l).length = n
  | 0, l, h => by
    have : l = [] := List.eq_nil_of_length_eq_zero (by simpa using h)
    subst this; simp [chunks]
  | n + 1, l, h => by
    rw [Nat.add_mul] at h
    obtain ⟨h1, h2, h3⟩ := chunks_flat (s := s) n (l.drop s) (by simp; omega)
    refine ⟨by simp [chunks, h1], fun r hr => ?_, by simp [chunks, h3]⟩
    simp only [chunks, List.mem_cons] at hr
    rcases hr with rfl | hr
    · simp; omega
    · exact h2 r hr

theorem zeroCells_list (z : Array Value) : ∀ n, (Builtin.zeroCells z n).toList = (List.replicate n z.toList).flatten
  | 0 => by simp [Builtin.zeroCells]
  | n + 1 => by
    have ih := zeroCells_list z n
    simp only [Builtin.zeroCells, Array.toList_map, Array.toList_range] at ih ⊢
    rw [List.replicate_succ', List.flatten_append, ← ih, Nat.add_mul, Nat.one_mul, List.range_add, List.map_append, List.map_map]
    congr 1
    simp only [List.flatten_cons, List.flatten_nil, List.append_nil]
    apply List.ext_getElem
    · simp
    · intro i h1 h2
      simp at h1
      simp [Nat.mul_add_mod', Nat.mod_eq_of_lt h1, h1, Nat.add_mod]

theorem replicate_rep {ds : List D} {vs : List Value} (h : RepAll M w ds vs) : ∀ n, RepAll M w (List.replicate n ds).flatten (List.replicate n vs).flatten
  | 0 => rfl
  | n + 1 => by
    simp only [List.replicate_succ, List.flatten_cons]
    exact h.append (replicate_rep h n)

theorem fillD_length {place : Nat → Option (Nat × TypeId)} {fz : D → D} : ∀ (parts : List (Nat × Operand)) (cells out : List D), fillD place P T fz parts cells = some out → out.length = cells.length
  | [], cells, out, h => by simp only [fillD, Option.some.injEq] at h; subst h; rfl
  | (i, x) :: rest, cells, out, h => by
    simp only [fillD] at h
    split at h
    · cases h
    · split at h
      · split at h
        · rename_i hle
          rw [fillD_length rest _ out h]
          simp only [layD, List.length_append, List.length_take, List.length_map, List.length_drop]
          omega
        · cases h
      · cases h

theorem wp_skip' {o : Oper} {w' : World} {Qc : Exit → Act → World → Prop} {next : Act → World → Prop} (hrun : (execOp a.eval o).run P w = .ok .skip w') (h : next (a.put o.dst undef) w') : o.wp P a w next Qc := by
  unfold Oper.wp; rw [hrun, Oper.upon_skip]; exact h

theorem appendA_sound {o : Oper} {t t' ty : TypeId} {dx dy : D} {x y : Value} (h : appendA P N o.dst t t' dx dy K T σ) (hi : AInv N M T σ a w) (rx : Rep M w dx x) (ry : Rep M w dy y)
    (hrun : ∀ v w', (Builtin.append_ #[t, t'] ty #[x, y]).run P w = .ok v w' → (execOp a.eval o).run P w = .ok (.value v) w') : o.wp P a w (Nx N M σ w K) (Post N M σ w Q) := by
  unfold appendA at h
  split at h
  · rename_i ow xs ow' ys e e' he he'
    obtain ⟨rfl, h⟩ := h
    split at h
    · rename_i s by' z hs hb hz
      obtain ⟨rfl, hpos, hb0, hys, hbound, h⟩ := h
      obtain ⟨zl, hzl, hzlen⟩ := Option.map_eq_some_iff.1 hz
      have H : AppT P t t' e zl.length by' := ⟨he, he', by rw [hzlen]; exact hs, by rw [hzlen]; exact hpos, hb, zl, hzl, rfl⟩
      rw [hzlen] at H
      have fin : ∀ {σ₀ : St} {es : List (List D)}, AppPost P M σ σ₀ w z t t' ty x y es → (∀ b', ¬ σ₀.has b' → putK N o.dst (.slice (.buf b' z) es) K T (σ₀.setBuf b' z es.length)) → o.wp P a w (Nx N M σ w K) (Post N M σ w Q) := by
        intro σ₀ es hp hk
        obtain ⟨v, w', M', b, h1, h2, h3, h4, h5⟩ := hp
        exact wp_value (hrun _ _ h1) (putK_sound (hk b h3) (hi.keep h5.toKeep h4) h5 h2)
      have still : ∀ {base : Option Addr} {len cap : Nat}, x = .slice base len cap → len ≤ cap → ys = [] → (Builtin.append_ #[t, t'] ty #[x, y]).run P w = .ok x w := by
        intro base len cap hx hle hys0
        subst hys0
        obtain ⟨l, l1, _, _, ⟨b', c', hy⟩, l5⟩ := first_run (P := P) ry (s := z) (by simp)
        have := l5 w rfl
        have hl : l = [] := List.eq_nil_of_length_eq_zero (by simpa using l1)
        subst hl
        subst hx
        exact append_still H hle hy this ty
      split at h
      · rename_i b s'
        obtain ⟨rfl, hbuf, h⟩ := h
        refine fin (append_own H rx ry hys hb0 hbound hi.inv hbuf ty) fun b' hb' => ?_
        rw [List.length_append]; exact h b' hb'
      · obtain ⟨rfl, rfl⟩ := rx
        by_cases hy0 : ys = []
        · exact wp_value (hrun _ _ (still rfl (Nat.le_refl _) hy0)) (putK_sound (h.1 hy0) hi (KeepF.refl _ _ _) ⟨rfl, rfl⟩)
        · have hl : 0 < ys.length := by cases ys with | nil => exact absurd rfl hy0 | cons a l => simp
          have := append_new H rfl (o := .nil) (xs := []) ⟨rfl, rfl⟩ ry rfl (by simp) hys (by omega) hb0 hbound hi.inv hi.inv (fun _ h => h) ty
          simp only [List.nil_append] at this
          exact fin this (h.2 hy0)
      · obtain ⟨hxs, h⟩ := h
        obtain ⟨b, off, size, hx, hrow⟩ := id rx
        by_cases hy0 : ys = []
        · exact wp_value (hrun _ _ (still hx (Nat.le_refl _) hy0)) (putK_sound (h.1 hy0) hi (KeepF.refl _ _ _) rx)
        · have hl : 0 < ys.length := by cases ys with | nil => exact absurd rfl hy0 | cons a l => simp
          refine fin (append_new H hx rx ry rfl hxs hys (by omega) hb0 hbound hi.inv hi.inv (fun _ h => h) ty) fun b' hb' => ?_
          rw [List.length_append]; exact h.2 hy0 b' hb'
      · exact h.elim
    · exact h.elim
  · rename_i b s k xs ow' ys e e' he he'
    obtain ⟨rfl, hs, hby, hz, hpos, hys, hk, hbuf, h⟩ := h
    obtain ⟨by', hby⟩ := Option.isSome_iff_exists.1 hby
    obtain ⟨zl, hzl, hzlen⟩ := Option.map_eq_some_iff.1 hz
    obtain ⟨v, w', M', h1, h2, h3, h4⟩ := append_roomy ⟨he, he', hs, hpos, hby, zl, hzl, hzlen⟩ rx ry hys hk hi.inv hbuf ty
    exact wp_value (hrun _ _ h1) (putK_sound h (hi.keep h4.toKeep h3) h4 h2)
  · exact h.elim

theorem aop_sound {o : Oper} (h : aop P N o.dst o.op K Q T σ) (hi : AInv N M T σ a w) : o.wp P a w (Nx N M σ w K) (Post N M σ w Q) := by
  obtain ⟨dst, op, type, pos, after, guard⟩ := o
  unfold aop at h
  simp only at h
  split at h
  · -- load
    rename_i t x
    have hr := ev_rep hi x
    split at h
    · rename_i b off hx
      rw [hx] at hr; simp only [Rep] at hr
      split at h
      · rename_i cs hcs
        split at h
        · rename_i d hd
          obtain ⟨v, h1, h2⟩ := loadBox_rep (P := P) hi.inv hcs hd
          exact wp_value (v := v) (w' := w) (by simp [execOp, hr, Instr.loadAt, Instr.sureAddr, h1]) (putK_sound h hi (KeepF.refl _ _ _) h2)
        · exact h.elim
      · exact h.elim
    · rename_i cs hx
      rw [hx] at hr
      obtain ⟨b, off, hr, hc⟩ := hr
      split at h
      · rename_i d hd
        obtain ⟨v, h1, h2⟩ := load_rep hd hc
        exact wp_value (v := v) (w' := w) (by simp [execOp, hr, Instr.loadAt, Instr.sureAddr, h1]) (putK_sound h hi (KeepF.refl _ _ _) h2)
      · exact h.elim
    · exact h.elim
  · -- store
    rename_i t x y
    have hr := ev_rep hi x
    split at h
    · rename_i b off hx
      rw [hx] at hr; simp only [Rep] at hr
      split at h
      · rename_i cs vs hcs hvs
        obtain ⟨hle, h⟩ := h
        obtain ⟨c1, c2, c3⟩ := cellsD_rep hvs (ev_rep hi y)
        obtain ⟨c, e, hc, hrc, h1⟩ := box_at hi.inv hcs
        have hlen := hrc.length
        have hvl := c1.length
        obtain ⟨c', r1, r2⟩ := run_store_cells (P := P) b off e (a.eval y).cells.toList 0 c w hc (by simp at hlen hvl ⊢; omega) c2
        have hrep : RepAll M w (layD cs off vs) c'.toList := by
          rw [r2, Nat.add_zero, ← hvl]
          exact ((hrc.take _).append c1).append (hrc.drop _)
        have hone : ∀ u ∈ c'.toList, u.oneCell' = true := by
          rw [r2]
          intro u hu
          simp only [List.mem_append] at hu
          rcases hu with (hu | hu) | hu
          · exact h1 u (List.mem_of_mem_take hu)
          · exact c2 u hu
          · exact h1 u (List.mem_of_mem_drop hu)
        obtain ⟨i1, i2⟩ := hi.inv.setBox hcs ⟨c, hc⟩ hrep hone
        refine wp_skip' (w' := setRow w b c' e) ?_ (putK_sound h (hi.keep i2.toKeep i1) i2 trivial)
        simp [execOp, hr, Instr.storeAt, Instr.sureAddr, storeVar, run_sizeOf c3, r1]
      · exact h.elim
    · exact h.elim
  · -- alloc
    rename_i t
    split at h
    · rename_i z hz
      obtain ⟨zv, h1, _, h3, h4⟩ := cD_zero hz M w
      obtain ⟨i1, i2⟩ := hi.inv.addBox t h3 h4
      exact wp_value (v := .pointer (some ⟨w.heap.size, 0, none⟩)) (w' := w.alloc (.cells zv.cells t)) (by simp [execOp, Instr.alloc, h1, newVar, newRow]) (putK_sound (h _ hi.inv.fresh) (hi.keep i2.toKeep i1) i2 rfl)
    · exact h.elim
  · -- box
    rename_i t x
    split at h
    · rename_i z hz
      obtain ⟨c1, c2, c3⟩ := cellsD_rep hz (ev_rep hi x)
      obtain ⟨i1, i2⟩ := hi.inv.addBox t c1 c2
      exact wp_value (v := .pointer (some ⟨w.heap.size, 0, none⟩)) (w' := w.alloc (.cells (a.eval x).cells t)) (by simp [execOp, Instr.box, newVar, newRow]) (putK_sound (h _ hi.inv.fresh) (hi.keep i2.toKeep i1) i2 rfl)
    · exact h.elim
  · -- buildSlice
    rename_i t len parts
    split at h
    · rename_i e he
      split at h
      · rename_i s z hs hz
        obtain ⟨hzl, hmax, h⟩ := h
        split at h
        · rename_i cs hcs
          obtain ⟨zv, h1, _, h3, h4⟩ := cD_zero hz M w
          have hzs : zv.cells.size = s := by have := h3.length; simp at this; omega
          have hz' : RepAll M w (List.replicate len z).flatten ((Array.range (len * s)).map (zv.cells[· % zv.cells.size]!)).toList ∧ ∀ u ∈ ((Array.range (len * s)).map (zv.cells[· % zv.cells.size]!)).toList, u.oneCell' = true := by
            have hcl : ((Array.range (len * s)).map (zv.cells[· % zv.cells.size]!)).toList = (List.replicate len zv.cells.toList).flatten := by
              have := zeroCells_list zv.cells len
              simp only [Builtin.zeroCells, hzs] at this
              rw [hzs]; exact this
            rw [hcl]
            refine ⟨replicate_rep h3 len, fun u hu => ?_⟩
            simp only [List.mem_flatten, List.mem_replicate] at hu
            obtain ⟨l, ⟨_, rfl⟩, hu⟩ := hu
            exact h4 u hu
          obtain ⟨res, g1, g2, g3⟩ := fill_sound (place := fun i => some (i * s, e)) (fz := frz) (pl := fun i => some (i * s, s)) (fun _ _ h => frz_rep h) (fun i off ty hp => by
            simp only [Option.some.injEq, Prod.mk.injEq] at hp
            obtain ⟨rfl, rfl⟩ := hp
            exact ⟨s, rfl, hs⟩) hi parts.toList _ cs hcs _ hz'.1 hz'.2
          have hclen : cs.length = len * s := by
            rw [fillD_length _ _ _ hcs]; simp [hzl]
          obtain ⟨f1, f2, f3⟩ := chunks_flat len cs hclen
          obtain ⟨i1, i2⟩ := hi.inv.addImm (.cells res e)
          refine wp_value (v := .slice (some ⟨w.heap.size, 0, none⟩) len len) (w' := w.alloc (.cells res e)) ?_ (putK_sound h (hi.keep i2.toKeep i1) i2 ?_)
          · by_cases h0 : len * s = 0
            · rw [h0] at g1
              have er : ∀ f : Nat → Value, Array.map f (Array.range 0) = #[] := fun f => by apply Array.ext'; simp
              rw [er] at g1
              simp [er, execOp, Instr.buildSlice, run_underlying (und_of_sli he), run_sizeOf hs, h0, newRow, g1]
            · have h0' : ¬ (len = 0 ∨ s = 0) := fun h => h0 (Nat.mul_eq_zero.2 h)
              simp only [List.map_map] at g1
              simp [execOp, Instr.buildSlice, run_underlying (und_of_sli he), run_sizeOf hs, show ¬ (16777216 < len * s) by omega, h0', newRow, h1, g1]
              exact fun h => absurd h h0
          · refine ⟨w.heap.size, 0, s, by rw [f3], rows_of f2 (by rw [f1]; exact RepAll.keep i2.toKeep _ _ g2) fun j v hv => ?_⟩
            refine ⟨cell_of (heap_alloc_new _ _) (by simpa using hv), g3 v (List.mem_of_getElem? hv), ?_⟩
            simp only [ImmAt]
            cases hm : M w.heap.size with
            | none => trivial
            | some m => have := hi.inv.dom w.heap.size (by simp [hm]); omega
        · exact h.elim
      · exact h.elim
    · exact h.elim
  · -- makeSlice
    rename_i t l c
    split at h
    · rename_i side d hm
      obtain ⟨hs, h⟩ := h
      unfold makeA at hm
      split at hm
      · rename_i k n k' m e hl hc he
        split at hm
        · rename_i s z by' hsz hz hby
          simp only [Option.some.injEq, Prod.mk.injEq] at hm
          obtain ⟨rfl, rfl⟩ := hm
          obtain ⟨hzl, rfl, h0, h63, hb⟩ := hs
          obtain ⟨zv, g1, _, g3, g4⟩ := cD_zero hz M w
          simp only [szP, Option.map_eq_some_iff] at hsz
          obtain ⟨i, hinfo, rfl⟩ := hsz
          have hiz : i.zero = some zv := by
            cases hq : i.zero with
            | none => simp [zeroValue, typeInfo, hinfo, hq] at g1
            | some q => simp [zeroValue, typeInfo, hinfo, hq] at g1; rw [g1]
          have hbi : i.bytes = by' := by simpa [bytesP, hinfo] using hby
          have rl := ev_rep hi l
          rw [hl] at rl; simp only [Rep] at rl
          have rc := ev_rep hi c
          rw [hc] at rc; simp only [Rep] at rc
          have hzs : zv.cells.size = i.size := by have := g3.length; simp at this; omega
          have hrun := run_make (P := P) w t e i zv (und_of_sli he) hinfo hiz k k' n n h0 (Int.le_refl _) (by rw [hbi]; omega) h63
          have hcl : (madeCells zv.cells (n.toNat * i.size)).toList = (List.replicate n.toNat zv.cells.toList).flatten := by
            rw [← hzs]
            exact zeroCells_list zv.cells n.toNat
          have hcells : RepAll M w (List.replicate n.toNat z).flatten (madeCells zv.cells (n.toNat * i.size)).toList := by rw [hcl]; exact replicate_rep g3 _
          obtain ⟨i1, i2⟩ := hi.inv.addImm (.cells (madeCells zv.cells (n.toNat * i.size)) e)
          refine wp_value (v := .slice (some ⟨w.heap.size, 0, none⟩) n.toNat n.toNat) (w' := w.alloc (.cells (madeCells zv.cells (n.toNat * i.size)) e)) (by simp [execOp, rl, rc, hrun]) (putK_sound h (hi.keep i2.toKeep i1) i2 ?_)
          refine ⟨w.heap.size, 0, i.size, by simp, rows_of (fun r hr => by rw [List.eq_of_mem_replicate hr]; exact hzl) (RepAll.keep i2.toKeep _ _ hcells) fun j v hv => ?_⟩
          refine ⟨cell_of (heap_alloc_new _ _) (by simpa using hv), ?_, ?_⟩
          · have := List.mem_of_getElem? hv
            rw [hcl] at this
            simp only [List.mem_flatten, List.mem_replicate] at this
            obtain ⟨l', ⟨_, rfl⟩, hu⟩ := this
            exact g4 v hu
          · simp only [ImmAt]
            cases hm : M w.heap.size with
            | none => trivial
            | some m => have := hi.inv.dom w.heap.size (by simp [hm]); omega
        · cases hm
      · cases hm
    · exact h.elim
  · -- panic
    rename_i x
    split at h
    · rename_i t d hx
      have hr := ev_rep hi x
      rw [hx] at hr
      obtain ⟨u, hu, hr'⟩ := id hr
      unfold Oper.wp
      have : (execOp a.eval { dst, op := .panic x, type, pos, after, guard }).run P w = .halt (.panic (.iface t u)) w := by
        simp [execOp, hu, Instr.panic, goPanic, Sem.run]
      rw [this, Oper.upon_panic]
      exact panK_sound h hi (KeepF.refl _ _ _) ⟨u, rfl, hr'⟩
    · exact h.elim
  · -- call of a value
    rename_i f args argTypes
    split at h
    · rename_i g fi ca hf
      have hr := ev_rep hi f
      rw [hf] at hr
      obtain ⟨vf, vc, hv, r1, r2⟩ := hr
      refine callA_sound (vs := vf ++ args.map a.eval ++ vc) h hi ?_ fun he => ?_
      · simp only [Array.toList_append, Array.toList_map]
        exact (r1.append (repAll_ops hi _)).append r2
      · have := callFunc_run he (vf ++ args.map a.eval ++ vc) w
        rw [Array.append_assoc] at this ⊢
        simp [execOp, resolve, hv, Deferred.ofValue, invoke, this]
    · exact h.elim
  · -- append
    rename_i args argTypes
    split at h
    · rename_i x y t t' ha ht
      have ha' : args = #[x, y] := by rw [← Array.toList_inj]; simpa using ha
      have ht' : argTypes = #[t, t'] := by rw [← Array.toList_inj]; simpa using ht
      subst ha'; subst ht'
      exact appendA_sound (ty := type) h hi (ev_rep hi x) (ev_rep hi y) fun v w' hv => by simp [execOp, resolve, invoke, builtin, hv]
    · exact h.elim
  · -- copy
    rename_i args argTypes
    split at h
    · rename_i x y t t' ha ht
      have ha' : args = #[x, y] := by rw [← Array.toList_inj]; simpa using ha
      have ht' : argTypes = #[t, t'] := by rw [← Array.toList_inj]; simpa using ht
      subst ha'; subst ht'
      unfold copyA at h
      split at h
      · rename_i b o l c b' o' l' c' e hx hy he
        split at h
        · rename_i cs cs' hsz hcs hcs'
          obtain ⟨h1, h2, h⟩ := h
          have rx := ev_rep hi x
          rw [hx] at rx; simp only [Rep] at rx
          have ry := ev_rep hi y
          rw [hy] at ry; simp only [Rep] at ry
          obtain ⟨cc, e1, hc, hrc, ho1⟩ := box_at hi.inv hcs
          obtain ⟨cc', e1', hc', hrc', ho1'⟩ := box_at hi.inv hcs'
          have hlen := hrc.length
          have hlen' := hrc'.length
          obtain ⟨vals, hvals⟩ : ∃ vals, vals = (cc'.toList.drop o').take (min l' l) := ⟨_, rfl⟩
          have hvl : vals.length = min l' l := by rw [hvals, List.length_take, List.length_drop]; simp at hlen' ⊢; omega
          have hrv : RepAll M w ((cs'.drop o').take (min l' l)) vals := by rw [hvals]; exact (hrc'.drop _).take _
          have hov : ∀ u ∈ vals, u.oneCell' = true := fun u hu => by rw [hvals] at hu; exact ho1' u (List.mem_of_mem_drop (List.mem_of_mem_take hu))
          have hld := run_loadCells_list (P := P) w ⟨b', o', none⟩ vals (fun j v hv => by
            rw [addr_add]
            refine cell_of hc' ?_
            rw [hvals, List.getElem?_take] at hv
            split at hv
            · rw [List.getElem?_drop] at hv; simpa using hv
            · cases hv)
          obtain ⟨c2, r1, r2⟩ := run_store_cells (P := P) b o e1 vals 0 cc w hc (by rw [hvl]; simp at hlen ⊢; omega) hov
          have hrep : RepAll M w (layD cs o ((cs'.drop o').take (min l' l))) c2.toList := by
            rw [r2, Nat.add_zero]
            simp only [layD, hrv.length]
            exact ((hrc.take _).append hrv).append (hrc.drop _)
          have hone : ∀ u ∈ c2.toList, u.oneCell' = true := by
            rw [r2]
            intro u hu
            simp only [List.mem_append] at hu
            rcases hu with (hu | hu) | hu
            · exact ho1 u (List.mem_of_mem_take hu)
            · exact hov u hu
            · exact ho1 u (List.mem_of_mem_drop hu)
          obtain ⟨i1, i2⟩ := hi.inv.setBox hcs ⟨cc, hc⟩ hrep hone
          refine wp_value (v := .int .i64 (min l' l : Nat)) (w' := setRow w b c2 e1) ?_ (putK_sound h (hi.keep i2.toKeep i1) i2 rfl)
          have hld' : (loadCells ⟨b', o', none⟩ (Nat.min l' l)).run P w = .ok vals.toArray w := by
            have e3 : Nat.min l' l = vals.length := hvl.symm
            rw [e3]; exact hld
          simp [execOp, resolve, invoke, builtin, rx, ry, Builtin.copy_, run_underlying (und_of_sli he), Builtin.lenOf, Builtin.firstCells, run_sizeOf hsz, hld', r1, goInt]
        · exact h.elim
      · exact h.elim
    · exact h.elim
  · -- two operands
    rename_i bop xt x y yt
    have nilv : nilOpnd y = true → a.eval y = .slice none 0 0 := by
      intro hn
      unfold nilOpnd at hn
      split at hn
      · rfl
      · cases hn
    unfold binA at h
    split at h
    · rename_i ow es hn hx
      split at h
      · rename_i e he
        have hr := ev_rep hi x
        rw [hx] at hr
        obtain ⟨r, h1, h2⟩ := nil_run (P := P) he hr
        refine wp_value (v := .bool r) (w' := w) ?_ (putK_sound (h r h2) hi (KeepF.refl _ _ _) rfl)
        rcases rows_of_slice hr with ⟨hv, _⟩ | ⟨_, _, _, _, hv, _⟩ | ⟨_, _, hv, _⟩ <;> rw [hv] at h1 <;> simp [execOp, hv, nilv hn, eqGuard, binOp, h1]
      · exact h.elim
    · rename_i ow es hn hx
      split at h
      · rename_i e he
        have hr := ev_rep hi x
        rw [hx] at hr
        obtain ⟨r, h1, h2⟩ := nil_run (P := P) he hr
        refine wp_value (v := .bool (!r)) (w' := w) ?_ (putK_sound (h r h2) hi (KeepF.refl _ _ _) rfl)
        rcases rows_of_slice hr with ⟨hv, _⟩ | ⟨_, _, _, _, hv, _⟩ | ⟨_, _, hv, _⟩ <;> rw [hv] at h1 <;> simp [execOp, hv, nilv hn, eqGuard, binOp, h1]
      · exact h.elim
    · exact pureK_sound (o := { dst, op := .binOp _ xt x y yt, type, pos, after, guard }) h hi
  · exact pureK_sound h hi
end
end Go.AL
namespace Go.AL
set_option linter.unusedVariables false
set_option linter.unusedSimpArgs false

section
variable {P : Program} {N : Nat} {M : MMap} {T : Env} {σ : St} {a : Act} {w : World} {K : Env → St → Prop} {Q : XA → Env → St → Prop}

theorem guardA_sound {ops : Array Oper} {o : Oper} {g : Bool} (h : guardA ops.toList T o = some g) (hi : AInv N M T σ a w) : Region.wanted o (yielded ops a.tmps) = g := by
  unfold guardA at h
  unfold Region.wanted
  split at h
  · rename_i hg
    rw [hg]; simp at h ⊢; exact h
  · rename_i j want hg
    rw [hg]
    split at h
    · rename_i t ht
      have hr := hi.env t
      have hdst : (ops[j]?).bind (·.dst) = some t := by simpa using ht
      cases hT : T t <;> rw [hT] at h hr <;> simp only [gq, reduceCtorEq, Option.some.injEq] at h
      · rename_i b
        simp only [Rep] at hr
        have hy : yielded ops a.tmps j = some b := by
          unfold yielded
          simp only [Option.bind_eq_some_iff] at hdst
          obtain ⟨oj, ho, hd⟩ := hdst
          simp only [ho, Option.bind_some, hd]
          have hlt : t < a.tmps.size := by
            rcases Nat.lt_or_ge t a.tmps.size with h1 | h1
            · exact h1
            · simp [Array.getElem?_eq_none h1, undef] at hr
          simp [hlt] at hr
          simp [hlt, hr]
        show (yielded ops a.tmps j == some want) = g
        rw [hy, ← h]
        rfl
      · obtain ⟨ar, hr, _⟩ := hr
        have hy : yielded ops a.tmps j = none := by
          unfold yielded
          simp only [Option.bind_eq_some_iff] at hdst
          obtain ⟨oj, ho, hd⟩ := hdst
          simp only [ho, Option.bind_some, hd]
          rcases Nat.lt_or_ge t a.tmps.size with h1 | h1
          · simp [h1] at hr
            simp [h1, hr]
          · simp [Array.getElem?_eq_none h1]
        show (yielded ops a.tmps j == some want) = g
        rw [hy, ← h]
        rfl
    · cases h

theorem wp_exits {o : Oper} {next : Act → World → Prop} {Q₁ Q₂ : Exit → Act → World → Prop} (h : o.wp P a w next Q₁) (hq : ∀ e a w, Q₁ e a w → Q₂ e a w) : o.wp P a w next Q₂ := by
  unfold Oper.wp at *
  generalize (execOp a.eval o).run P w = r at *
  cases r with
  | ok n w' =>
    cases n <;> simp only [Oper.upon] at h ⊢ <;> first
      | exact h
      | exact Calls.mono h (fun e w'' he => by
          cases e with
          | returned v => exact he
          | panicked c => exact hq _ _ _ he
          | outgrown => obtain ⟨a', w₁, h1⟩ := he; exact ⟨a', w₁, hq _ _ _ h1⟩)
  | halt x w' => cases x <;> simp only [Oper.upon] at h ⊢ <;> first | exact hq _ _ _ h | exact h

theorem aops_sound {ops : Array Oper} : ∀ (l : List Oper) {M : MMap} {T : Env} {σ : St} {a : Act} {w : World}, aops P N ops.toList l Q T σ → AInv N M T σ a w → ∀ {M₀ : MMap} {σ₀ : St} {w₀ : World}, (∀ b, M₀ b ≠ none → b < w₀.heap.size) → KeepF M₀ σ₀ w₀ M σ w →
    wpList P ops (Post N M₀ σ₀ w₀ Q) l a w
  | [], M, T, σ, a, w, h, hi, M₀, σ₀, w₀, hd, hk => ⟨M, T, σ, .normal, rfl, hi, hk, h⟩
  | o :: rest, M, T, σ, a, w, h, hi, M₀, σ₀, w₀, hd, hk => by
    simp only [aops] at h
    split at h
    · rename_i g hg
      have hw := guardA_sound hg hi
      unfold wpList
      rw [hw]
      cases g
      · simp only [br, Bool.false_eq_true, if_false] at h ⊢
        have := putK_sound (M := M) (σ := σ) (w := w) (v := undef) h hi (KeepF.refl _ _ _) ⟨#[], rfl, rfl⟩
        obtain ⟨M', T', σ', h1, h2, h3⟩ := this
        exact aops_sound rest h3 h1 hd (hk.trans hd h2)
      · simp only [br, if_true] at h ⊢
        left
        have := aop_sound h hi
        have hmono : o.wp P a w (wpList P ops (Post N M₀ σ₀ w₀ Q) rest) (Post N M σ w Q) := Oper.wp_mono (fun a' w' ⟨M', T', σ', h1, h2, h3⟩ => aops_sound rest h3 h1 hd (hk.trans hd h2)) this
        exact wp_exits hmono fun e a' w' hp => hp.trans hd hk
    · exact h.elim

theorem awp_region {id : Nat} {ops : Array Oper} (h : aops P N ops.toList ops.toList Q T σ) : awp P N (.region id ops false) Q T σ :=
  fun M a w hi => wp_region_list (aops_sound ops.toList h hi hi.inv.dom (KeepF.refl _ _ _))

/-! ### a function's body -/
def resOne (P : Program) (T : Env) (σ : St) : ResultVar → Option D
  | .tmp t => some (T t)
  | .cell a t => match T a with
    | .ptr b off => match σ.box b with
      | some cs => partD P t (cs.drop off) 0
      | none => none
    | _ => none

def resMany (P : Program) (T : Env) (σ : St) : List ResultVar → Option (List D)
  | [] => some []
  | r :: rs => match resOne P T σ r, resMany P T σ rs with
    | some d, some ds => some (d :: ds)
    | _, _ => none

def resA (P : Program) (T : Env) (σ : St) : List ResultVar → Option D
  | [r] => resOne P T σ r
  | rs => (resMany P T σ rs).map .tup

def DLe (d d' : D) : Prop := ∀ M w v, Rep M w d v → Rep M w d' v
theorem DLe.refl (d : D) : DLe d d := fun _ _ _ h => h
theorem DLe.frz (d : D) : DLe d (frz d) := fun _ _ _ h => frz_rep h
theorem DLe.slice (o : Own) (es : List (List D)) : DLe (.slice o es) (.slice .no es) := fun _ _ _ h => frz_rep (d := .slice o es) h
theorem DLe.any (d : D) : DLe d .any := fun _ _ _ _ => trivial
inductive DLes : List D → List D → Prop
  | nil : DLes [] []
  | cons {d d' : D} {ds ds' : List D} : DLe d d' → DLes ds ds' → DLes (d :: ds) (d' :: ds')
theorem DLes.rep {M : MMap} {w : World} {ds ds' : List D} (h : DLes ds ds') : ∀ {vs : List Value}, RepAll M w ds vs → RepAll M w ds' vs := by
  induction h with
  | nil => exact fun h => h
  | cons h1 _ ih => intro vs hr; obtain ⟨v, vs', rfl, r1, r2⟩ := hr; exact ⟨v, vs', rfl, h1 _ _ _ r1, ih r2⟩
theorem DLes.refl : ∀ ds, DLes ds ds
  | [] => .nil
  | d :: ds => .cons (.refl d) (DLes.refl ds)
theorem DLe.tup {ds ds' : List D} (h : DLes ds ds') : DLe (.tup ds) (.tup ds') := fun _ _ _ ⟨a, hv, hr⟩ => ⟨a, hv, h.rep hr⟩
theorem DLe.agg {ds ds' : List D} (h : DLes ds ds') : DLe (.agg ds) (.agg ds') := fun _ _ _ ⟨a, hv, hr, h1⟩ => ⟨a, hv, h.rep hr, h1⟩

def bodyA (P : Program) (rs : List ResultVar) (R : EA → St → Prop) : XA → Env → St → Prop
  | .normal, T, σ | .ret, T, σ => ∃ d d' s, resA P T σ rs = some d ∧ DLe d d' ∧ St.le s σ ∧ R (.ret d') s
  | .panic d, _, σ => ∃ d' s, DLe d d' ∧ St.le s σ ∧ R (.pan d') s
  | .exit _, _, _ | .goto _, _, _ => False

def envOf (ds : List D) : Env := fun t => (ds[t]?).getD .any

def resV (a : Act) : ResultVar → Sem Value
  | .tmp t => pure (a.tmps.getD t undef)
  | .cell x t => do loadVar t (← asAddr (a.tmps.getD x undef))

theorem resOne_sound {r : ResultVar} {d : D} (h : resOne P T σ r = some d) (hi : AInv N M T σ a w) :
    ∃ v, (resV a r).run P w = .ok v w ∧ Rep M w d v := by
  cases r with
  | tmp t => simp only [resOne, Option.some.injEq] at h; subst h; exact ⟨_, rfl, hi.env t⟩
  | cell x t =>
    simp only [resOne] at h
    split at h
    · rename_i b off hx
      split at h
      · rename_i cs hcs
        obtain ⟨v, h1, h2⟩ := loadBox_rep (P := P) hi.inv hcs h
        have hr := hi.env x
        rw [hx] at hr; simp only [Rep] at hr
        exact ⟨v, by simp only [resV, hr, asAddr, Sem.run_bind]; simpa using h1, h2⟩
      · cases h
    · cases h

inductive All2 {α β : Type} (R : α → β → Prop) : List α → List β → Prop
  | nil : All2 R [] []
  | cons {a : α} {b : β} {l : List α} {m : List β} : R a b → All2 R l m → All2 R (a :: l) (b :: m)
theorem All2.length_eq {α β : Type} {R : α → β → Prop} {l : List α} {m : List β} (h : All2 R l m) : l.length = m.length := by
  induction h with
  | nil => rfl
  | cons _ _ ih => simp [ih]

theorem run_mapM_ex {α β : Type} (f : α → Sem β) (R : α → β → Prop) : ∀ (l : List α), (∀ x ∈ l, ∃ y, (f x).run P w = .ok y w ∧ R x y) → ∃ ys : List β, (l.mapM f).run P w = .ok ys w ∧ All2 R l ys
  | [], _ => ⟨[], by simp, .nil⟩
  | x :: l, h => by
    obtain ⟨y, h1, h2⟩ := h x (by simp)
    obtain ⟨ys, h3, h4⟩ := run_mapM_ex f R l fun z hz => h z (by simp [hz])
    exact ⟨y :: ys, by simp [h1, h3], .cons h2 h4⟩

theorem resMany_some : ∀ {rs : List ResultVar} {ds : List D}, resMany P T σ rs = some ds → ∀ r ∈ rs, ∃ d, resOne P T σ r = some d
  | [], _, _, r, hr => by cases hr
  | x :: rs, ds, h, r, hr => by
    simp only [resMany] at h
    split at h
    · rename_i d ds' h1 h2
      simp only [List.mem_cons] at hr
      rcases hr with rfl | hr
      · exact ⟨d, h1⟩
      · exact resMany_some h2 r hr
    · cases h

theorem resMany_rep : ∀ {rs : List ResultVar} {ds : List D}, resMany P T σ rs = some ds → ∀ {vs : List Value}, All2 (fun r v => ∀ d, resOne P T σ r = some d → Rep M w d v) rs vs → RepAll M w ds vs
  | [], ds, h, vs, hf => by
    simp only [resMany, Option.some.injEq] at h; subst h
    cases hf; rfl
  | x :: rs, ds, h, vs, hf => by
    simp only [resMany] at h
    split at h
    · rename_i d ds' h1 h2
      cases h
      cases hf with
      | cons g1 g2 => exact ⟨_, _, rfl, g1 d h1, resMany_rep h2 g2⟩
    · cases h

theorem resA_sound {fn : Func} {d : D} (h : resA P T σ fn.results.toList = some d) (hi : AInv N M T σ a w) : ∃ v, (results fn a.tmps).run P w = .ok v w ∧ Rep M w d v := by
  have hmap : ∀ rs : List ResultVar, (∀ r ∈ rs, ∃ d, resOne P T σ r = some d) → ∃ vs : List Value,
      (rs.mapM (resV a)).run P w = .ok vs w ∧
      All2 (fun r v => ∀ d, resOne P T σ r = some d → Rep M w d v) rs vs := fun rs hrs => run_mapM_ex _ _ rs fun r hr => by
    obtain ⟨d, hd⟩ := hrs r hr
    obtain ⟨v, h1, h2⟩ := resOne_sound hd hi
    exact ⟨v, h1, fun d' hd' => by rw [hd] at hd'; cases hd'; exact h2⟩
  have hall : ∀ r ∈ fn.results.toList, ∃ d, resOne P T σ r = some d := by
    unfold resA at h
    split at h
    · rename_i r hr
      intro r' hr'
      rw [hr] at hr'
      simp at hr'; subst hr'
      exact ⟨d, h⟩
    · simp only [Option.map_eq_some_iff] at h
      obtain ⟨ds, h1, _⟩ := h
      exact resMany_some h1
  obtain ⟨vs, h1, h2⟩ := hmap _ hall
  have hrun : (results fn a.tmps).run P w = .ok (if h : vs.toArray.size = 1 then vs.toArray[0] else .tuple vs.toArray) w := by
    have hu : results fn a.tmps = (do let vs ← fn.results.mapM (resV a); pure (if h : vs.size = 1 then vs[0] else .tuple vs)) := by
      unfold results
      congr 1
    rw [hu, Array.mapM_eq_mapM_toList]
    simp only [Sem.run_bind]
    have : (List.toArray <$> (fn.results.toList.mapM (resV a)) : Sem (Array Value)).run P w = .ok vs.toArray w := by
      simp only [Sem.run_map, h1]
      simp
    rw [this]
    simp
  refine ⟨_, hrun, ?_⟩
  unfold resA at h
  split at h
  · rename_i r hr
    rw [hr] at h2
    cases h2 with
    | cons g1 g2 =>
      cases g2
      simpa using g1 d h
  · rename_i hne
    simp only [Option.map_eq_some_iff] at h
    obtain ⟨ds, h3, rfl⟩ := h
    have hlen := h2.length_eq
    have hsz : ¬ (vs.toArray.size = 1) := by
      intro h1'
      have : fn.results.toList.length = 1 := by rw [hlen]; simpa using h1'
      obtain ⟨r, hr⟩ := List.length_eq_one_iff.1 this
      exact hne r hr
    rw [dif_neg hsz]
    exact ⟨vs.toArray, rfl, by simpa using resMany_rep h3 h2⟩

theorem envOf_rep {ds : List D} {vs : List Value} (h : RepAll M w ds vs) (n : Nat) (t : Nat) : Rep M w (envOf ds t) ((vs.toArray ++ Array.replicate n undef).getD t undef) := by
  unfold envOf
  cases hd : ds[t]? with
  | none => trivial
  | some d =>
    obtain ⟨v, hv, hr⟩ := h.get hd
    have hlt : t < vs.length := (List.getElem?_eq_some_iff.1 hv).1
    have : (vs.toArray ++ Array.replicate n undef).getD t undef = v := by
      simp only [Array.getD_eq_getD_getElem?, Array.getElem?_append, List.size_toArray, hlt, if_true]
      simp [hv]
    rw [this]; exact hr

theorem acall_of_body {f : FuncId} {fn : Func} {c : Code} {ds : List D} {s : St} {R : EA → St → Prop} (hf : P.funcs[f]? = some fn) (hb : fn.body = some c) (hn : (fn.name == "runtime.NumGoroutine") = false)
    (hN : fn.ntmps = N) (hl : ds.length ≤ N) (h : awp P N c (bodyA P fn.results.toList R) (envOf ds) s) : ACall P f ds s R := by
  refine ⟨⟨fn, hf, hn, by rw [hb]; rfl⟩, fun M w vs hi hv => calls_of_wp hf hb ?_⟩
  have hlen := hv.length
  have hai : AInv N M (envOf ds) s { tmps := vs.toArray ++ Array.replicate (fn.ntmps - vs.toArray.size) undef, defers := [] } w :=
    ⟨hi, by simp; omega, rfl, fun t => envOf_rep hv _ t⟩
  refine wp_mono (h M _ w hai) fun e a' w' hp => ?_
  obtain ⟨M', T', σ', x, h1, h2, h3, h4⟩ := hp
  have fin : ∀ s' : St, St.le s' σ' → Inv M' s' w' ∧ KeepF M s w M' s' w' := fun s' hs =>
    ⟨(h2.forget (E := T') (fun _ => .inr rfl) hs).inv, { h3.toKeep with frame := h3.frame, fresh := fun b hb => h3.fresh b (hs.has hb) }⟩
  cases x with
  | normal =>
    obtain rfl := h1
    obtain ⟨d, d', s', g1, g2, g3, g4⟩ := h4
    obtain ⟨v, r1, r2⟩ := resA_sound g1 h2
    exact ⟨h2.defers, v, r1, M', s', .ret d', ⟨v, rfl, g2 _ _ _ r2⟩, (fin s' g3).1, (fin s' g3).2, g4⟩
  | ret =>
    obtain rfl := h1
    obtain ⟨d, d', s', g1, g2, g3, g4⟩ := h4
    obtain ⟨v, r1, r2⟩ := resA_sound g1 h2
    exact ⟨h2.defers, v, r1, M', s', .ret d', ⟨v, rfl, g2 _ _ _ r2⟩, (fin s' g3).1, (fin s' g3).2, g4⟩
  | panic d =>
    obtain ⟨v, rfl, hr⟩ := h1
    obtain ⟨d', s', g2, g3, g4⟩ := h4
    exact ⟨h2.defers, M', s', .pan d', ⟨v, rfl, g2 _ _ _ hr⟩, (fin s' g3).1, (fin s' g3).2, g4⟩
  | exit id => exact h4.elim
  | goto l => exact h4.elim
end
end Go.AL
namespace Go.AL
set_option linter.unusedVariables false
set_option linter.unusedSimpArgs false

section
variable {P : Program} {N : Nat}

/-- What is to be shown of code: loops and regions that draw their order are left for rules of their own. -/
def vc (P : Program) (N : Nat) : Code → (XA → Env → St → Prop) → Env → St → Prop
  | .skip, Q, T, σ => Q .normal T σ
  | .region id ops draw, Q, T, σ => if draw = true then awp P N (.region id ops true) Q T σ else aops P N ops.toList ops.toList Q T σ
  | .seq a b, Q, T, σ => vc P N a (thenA (vc P N b Q) Q) T σ
  | .cond c a b, Q, T, σ => match ev T c with
    | .bool t => br t (vc P N a Q T σ) (vc P N b Q T σ)
    | _ => False
  | .block id c, Q, T, σ => vc P N c (blockA id Q) T σ
  | .exit id, Q, T, σ => Q (.exit id) T σ
  | .ret, Q, T, σ => Q .ret T σ
  | .loop c, Q, T, σ => awp P N (.loop c) Q T σ
  | .rangeFunc f ps as body, Q, T, σ => awp P N (.rangeFunc f ps as body) Q T σ
  | .scope c, Q, T, σ => awp P N (.scope c) Q T σ
  | .label l, Q, T, σ => awp P N (.label l) Q T σ
  | .goto l, Q, T, σ => awp P N (.goto l) Q T σ
  | .refuse _, _, _, _ => False

theorem vc_sound : ∀ (c : Code) {Q : XA → Env → St → Prop} {T : Env} {σ : St}, vc P N c Q T σ → awp P N c Q T σ
  | .skip, _, _, _, h => awp_skip h
  | .region id ops draw, _, _, _, h => by
    simp only [vc] at h
    cases draw
    · exact awp_region (by simpa using h)
    · simpa using h
  | .seq a b, Q, _, _, h => awp_seq (awp_mono (vc_sound a h) fun x T σ hq => by
      cases x with
      | normal => exact vc_sound b hq
      | _ => exact hq)
  | .cond c a b, _, _, _, h => by
    simp only [vc] at h
    split at h
    · rename_i t ht
      refine awp_cond ht ?_
      unfold br at h
      split at h
      · rename_i hb; rw [if_pos hb]; exact vc_sound a h
      · rename_i hb; rw [if_neg hb]; exact vc_sound b h
    · exact h.elim
  | .block id c, _, _, _, h => awp_block (vc_sound c h)
  | .exit id, _, _, _, h => awp_exit h
  | .ret, _, _, _, h => awp_ret h
  | .loop c, _, _, _, h => h
  | .rangeFunc _ _ _ _, _, _, _, h => h
  | .scope _, _, _, _, h => h
  | .label _, _, _, _, h => h
  | .goto _, _, _, _, h => h
  | .refuse _, _, _, _, h => h.elim

theorem pcall_of {f : FuncId} {fn : Func} {c : Code} {ds : List D} {d : D} (hf : P.funcs[f]? = some fn) (hb : fn.body = some c) (hn : (fn.name == "runtime.NumGoroutine") = false)
    (hN : fn.ntmps = N) (hl : decide (ds.length ≤ N) = true) (h : vc P N c (bodyA P fn.results.toList fun x s => x = .ret d ∧ s = {}) (envOf ds) {}) : PCall P f ds d :=
  acall_of_body hf hb hn hN (of_decide_eq_true hl) (vc_sound c h)

theorem upd_same (T : Env) (t : Nat) (d : D) : upd T t d t = d := by simp [upd]
theorem upd_ne {T : Env} {t u : Nat} (d : D) (h : (u == t) = false) : upd T t d u = T u := by
  have : u ≠ t := by simpa using h
  simp [upd, this]
theorem upd_app (T : Env) (t : Nat) (d : D) (u : Nat) : upd T t d u = if u = t then d else T u := rfl
end
end Go.AL
namespace Go.AL
set_option linter.unusedVariables false
set_option linter.unusedSimpArgs false

/-! ### Regions that draw their order -/
section
variable {P : Program} {N : Nat} {T : Env} {σ : St} {K K' : Env → St → Prop} {Q : XA → Env → St → Prop}

def opndsOf (op : Op) : List Operand := op.operands.toList

theorem upd_comm (T : Env) {t u : Nat} (h : t ≠ u) (x y : D) : upd (upd T t x) u y = upd (upd T u y) t x := by
  funext v
  simp only [upd]
  by_cases h1 : v = u <;> by_cases h2 : v = t <;> simp_all

theorem ev_upd {T : Env} {t : Nat} {d : D} {x : Operand} (h : x ≠ .tmp t) : ev (upd T t d) x = ev T x := by
  cases x with
  | tmp u =>
    have : u ≠ t := fun he => h (by rw [he])
    simp [ev, upd, this]
  | _ => rfl

theorem ev_map {T : Env} {t : Nat} {d : D} {l : List Operand} (h : ∀ x ∈ l, x ≠ .tmp t) : l.map (ev (upd T t d)) = l.map (ev T) :=
  List.map_congr_left fun x hx => ev_upd (h x hx)

theorem putK_env {t : Nat} {d v : D} {dst : Option Nat} (hd : dst ≠ some t) : putK N dst v K (upd T t d) σ = putK N dst v (fun T' σ' => K (upd T' t d) σ') T σ := by
  cases dst with
  | none => rfl
  | some u =>
    have : t ≠ u := fun he => hd (by rw [he])
    simp only [putK, upd_comm T this]

theorem fillD_env {place : Nat → Option (Nat × TypeId)} {fz : D → D} {t : Nat} {d : D} : ∀ (parts : List (Nat × Operand)) (cells : List D), (∀ p ∈ parts, p.2 ≠ .tmp t) → fillD place P (upd T t d) fz parts cells = fillD place P T fz parts cells
  | [], _, _ => rfl
  | (i, x) :: rest, cells, h => by
    simp only [fillD, ev_upd (h (i, x) (by simp))]
    cases hp : place i with
    | none => rfl
    | some p =>
      obtain ⟨off, ty⟩ := p
      cases hc : cellsD P ty (ev T x) with
      | none => simp [hc]
      | some cs =>
        simp only [hc]
        split
        · exact fillD_env rest _ fun p hp => h p (by simp [hp])
        · rfl

theorem pureD_env {op : Op} {t : Nat} {d : D} (h : ∀ x ∈ opndsOf op, x ≠ .tmp t) : pureD P op (upd T t d) = pureD P op T := by
  cases op <;> simp only [opndsOf, Op.operands] at h
  case build ty parts =>
    have hp : ∀ p ∈ parts.toList, p.2 ≠ .tmp t := fun p hp => h p.2 (by simp; exact ⟨p.1, by simpa using hp⟩)
    simp only [pureD, fillD_env _ _ hp]
  case makeFunc fn first captured =>
    have h1 := ev_map (T := T) (t := t) (d := d) (l := first.toList) fun x hx => h x (by simp only [Array.toList_append, List.mem_append]; exact .inl hx)
    have h2 := ev_map (T := T) (t := t) (d := d) (l := captured.toList) fun x hx => h x (by simp only [Array.toList_append, List.mem_append]; exact .inr hx)
    simp only [pureD, h1, h2]
  case slice ty x lo hi mx =>
    have h0 := ev_upd (T := T) (d := d) (h x (by simp))
    have h1 : ∀ l, lo = some l → ev (upd T t d) l = ev T l := fun l hl => ev_upd (h l (by simp [hl]))
    have h2 : ∀ l, hi = some l → ev (upd T t d) l = ev T l := fun l hl => ev_upd (h l (by simp [hl]))
    cases mx with
    | some m => simp only [pureD]
    | none => cases lo <;> cases hi <;> simp only [pureD, h0] <;> simp_all
  case call c =>
    obtain ⟨callee, args, argTypes⟩ := c
    cases callee with
    | value f => simp only [pureD]
    | invoke r m => simp only [pureD]
    | builtin b =>
      have ha : ∀ x ∈ args.toList, ev (upd T t d) x = ev T x := fun x hx => ev_upd (h x (by simp only [Call.operands, Array.toList_append, List.mem_append]; exact .inr hx))
      cases b <;> simp only [pureD] <;> (split <;> first | rfl | (rename_i hl; simp_all))
  all_goals first
    | (simp only [pureD]; done)
    | (simp at h; simp only [pureD]; simp_all [ev_upd])

theorem callA_env {t : Nat} {d : D} {dst : Option Nat} (hd : dst ≠ some t) {g : FuncId} {ds : List D} : callA P N dst g ds K Q (upd T t d) σ ↔ callA P N dst g ds (fun T' σ' => K (upd T' t d) σ') Q T σ := by
  simp only [callA, putK_env hd]

theorem appendA_env {t : Nat} {d : D} {dst : Option Nat} (hd : dst ≠ some t) {ty ty' : TypeId} {x y : D} : appendA P N dst ty ty' x y K (upd T t d) σ ↔ appendA P N dst ty ty' x y (fun T' σ' => K (upd T' t d) σ') T σ := by
  simp only [appendA, putK_env hd]

theorem copyA_env {t : Nat} {d : D} {dst : Option Nat} (hd : dst ≠ some t) {ty : TypeId} {x y : D} : copyA P N dst ty x y K (upd T t d) σ ↔ copyA P N dst ty x y (fun T' σ' => K (upd T' t d) σ') T σ := by
  simp only [copyA, putK_env hd]

theorem aop_env {t : Nat} {d : D} {dst : Option Nat} {op : Op} (h : ∀ x ∈ opndsOf op, x ≠ .tmp t) (hd : dst ≠ some t) :
    aop P N dst op K Q (upd T t d) σ ↔ aop P N dst op (fun T' σ' => K (upd T' t d) σ') Q T σ := by
  have hp := pureD_env (P := P) (T := T) (d := d) h
  have hk := fun v σ => putK_env (N := N) (T := T) (σ := σ) (K := K) (d := d) (v := v) hd
  unfold aop
  cases op
  case call c =>
    obtain ⟨callee, args, argTypes⟩ := c
    simp only [opndsOf, Op.operands, Call.operands] at h
    have ha : ∀ x ∈ args.toList, x ≠ .tmp t := fun x hx => h x (by simp only [Array.toList_append, List.mem_append]; exact .inr hx)
    cases callee with
    | value f =>
      have hf := ev_upd (T := T) (d := d) (h f (by simp))
      simp only [hf, ev_map ha, callA_env hd]
    | invoke r m => simp only [hp, hk]
    | builtin b =>
      cases b
      case append =>
        simp only
        split
        · rename_i x y t1 t2 hx hy
          rw [ev_upd (ha x (by simp [hx])), ev_upd (ha y (by simp [hx])), appendA_env hd]
        · rfl
      case copy =>
        simp only
        split
        · rename_i x y t1 t2 hx hy
          rw [ev_upd (ha x (by simp [hx])), ev_upd (ha y (by simp [hx])), copyA_env hd]
        · rfl
      all_goals simp only [hp, hk]
  case makeSlice ty l c =>
    simp only [opndsOf, Op.operands] at h
    have hl := ev_upd (T := T) (d := d) (h l (by simp))
    have hc := ev_upd (T := T) (d := d) (h c (by simp))
    simp only [hl, hc, hk]
  case load ty x =>
    simp only [opndsOf, Op.operands] at h
    have hx := ev_upd (T := T) (d := d) (h x (by simp))
    simp only [hx, hk]
  case store ty x y =>
    simp only [opndsOf, Op.operands] at h
    have hx := ev_upd (T := T) (d := d) (h x (by simp))
    have hy := ev_upd (T := T) (d := d) (h y (by simp))
    simp only [hx, hy, hk]
  case alloc ty => simp only [hk]
  case box ty x =>
    simp only [opndsOf, Op.operands] at h
    have hx := ev_upd (T := T) (d := d) (h x (by simp))
    simp only [hx, hk]
  case buildSlice ty len parts =>
    simp only [opndsOf, Op.operands] at h
    have hpp : ∀ p ∈ parts.toList, p.2 ≠ .tmp t := fun p hp => h p.2 (by simp; exact ⟨p.1, by simpa using hp⟩)
    simp only [hk, fillD_env _ _ hpp]
  case panic x =>
    simp only [opndsOf, Op.operands] at h
    have hx := ev_upd (T := T) (d := d) (h x (by simp))
    simp only [hx]
  case binOp bop xt x y yt =>
    simp only [opndsOf, Op.operands] at h
    have hx := ev_upd (T := T) (d := d) (h x (by simp))
    have hy := ev_upd (T := T) (d := d) (h y (by simp))
    simp only [binA, hx, hy, hk]
  all_goals simp only [hp, hk]

/-- What stands behind need hold only where the operation's slot is written, and the store is one that it may leave. -/
theorem putK_mono {dst : Option Nat} {v : D} (h : putK N dst v K T σ) (hk : K (aput T dst v) σ → K' (aput T dst v) σ) : putK N dst v K' T σ := by
  cases dst with
  | none => exact hk h
  | some t => exact ⟨h.1, hk h.2⟩
end
end Go.AL
namespace Go.AL
set_option linter.unusedVariables false
set_option linter.unusedSimpArgs false

section
variable {P : Program} {N : Nat} {T : Env} {σ : St} {K K' : Env → St → Prop} {Q : XA → Env → St → Prop} {B : List Nat}

abbrev Tr := (Env → St → Prop) → Env → St → Prop

def good (B : List Nat) (σ : St) : Prop := σ.fin ∧ ∀ b ∈ B, σ.box b ≠ none
def keepB (B : List Nat) (σ σ' : St) : Prop := ∀ b ∈ B, σ'.box b = σ.box b
def keepA (σ σ' : St) : Prop := ∀ b, σ.box b ≠ none → σ'.box b = σ.box b

theorem keepA.toB {σ σ' : St} (h : keepA σ σ') (hg : good B σ) : keepB B σ σ' := fun b hb => h b (hg.2 b hb)
theorem keepB.good {σ σ' : St} (h : keepB B σ σ') (hg : good B σ) (hf : σ'.fin) : good B σ' := ⟨hf, fun b hb => by rw [h b hb]; exact hg.2 b hb⟩

theorem fin_set {σ : St} (h : σ.fin) (b : Nat) (cs : List D) : (σ.set b cs).fin := by
  obtain ⟨n, hn⟩ := h
  refine ⟨n + b + 1, fun x hx hin => hn x (by omega) ?_⟩
  rcases hin with hin | hin
  · simp only [St.set, show x ≠ b by omega, if_false] at hin; exact .inl hin
  · exact .inr hin
theorem fin_setBuf {σ : St} (h : σ.fin) (b s n : Nat) : (σ.setBuf b s n).fin := by
  obtain ⟨m, hn⟩ := h
  refine ⟨m + b + 1, fun x hx hin => hn x (by omega) ?_⟩
  rcases hin with hin | hin
  · exact .inl hin
  · simp only [St.setBuf, show x ≠ b by omega, if_false] at hin; exact .inr hin
theorem fin_dropBuf {σ : St} (h : σ.fin) (b : Nat) : (σ.dropBuf b).fin := by
  obtain ⟨m, hn⟩ := h
  exact ⟨m, fun x hx hin => hn x hx (dropBuf_has hin)⟩
theorem fin_join {s fr : St} (h : s.fin) (h' : fr.fin) : (St.join s fr).fin := by
  obtain ⟨m, hm⟩ := h
  obtain ⟨n, hn⟩ := h'
  refine ⟨m + n, fun x hx hin => ?_⟩
  rcases (join_has x).1 hin with h1 | h1
  · exact hm x (by omega) h1
  · exact hn x (by omega) h1
theorem fin_right {s fr : St} (h : (St.join s fr).fin) : fr.fin := by
  obtain ⟨m, hm⟩ := h
  exact ⟨m, fun x hx hin => hm x hx ((join_has x).2 (.inr hin))⟩
theorem fin_fresh {σ : St} (h : σ.fin) (x : Nat) : ∃ b, ¬ σ.has b ∧ b ≠ x := by
  obtain ⟨n, hn⟩ := h
  exact ⟨n + x + 1, hn _ (by omega), by omega⟩

/-- It looks at no other slot than those of its list. -/
def FrameT (f : Tr) (dst : Option Nat) (looks : List Nat) : Prop :=
  ∀ (K : Env → St → Prop) (T : Env) (σ : St) (t : Nat) (d : D), t ∉ looks → dst ≠ some t → (f K (upd T t d) σ ↔ f (fun T' σ' => K (upd T' t d) σ') T σ)
def MonoT (keep : St → St → Prop) (B : List Nat) (f : Tr) (dst : Option Nat) : Prop :=
  ∀ (K K' : Env → St → Prop) (T : Env) (σ : St), good B σ → f K T σ → (∀ v σ', keep σ σ' → good B σ' → K (aput T dst v) σ' → K' (aput T dst v) σ') → f K' T σ
def ExT (keep : St → St → Prop) (kA : Prop) (B : List Nat) (f : Tr) (dst : Option Nat) : Prop :=
  ∀ (K : Env → St → Prop) (T : Env) (σ : St), good B σ → f K T σ → ∀ x, ∃ v σ', keep σ σ' ∧ (kA → σ'.box x = σ.box x) ∧ good B σ' ∧ K (aput T dst v) σ'
/-- Its answer hangs on its slots alone. -/
def DetT (N : Nat) (f : Tr) (dst : Option Nat) (looks : List Nat) (det : Env → Option (Prop × D)) : Prop :=
  (∀ K T σ, f K T σ ↔ match det T with | some (side, d) => side ∧ putK N dst d K T σ | none => False) ∧ ∀ T t d, t ∉ looks → det (upd T t d) = det T
/-- Its answer hangs on its slots and on one box. -/
def LoadT (N : Nat) (f : Tr) (dst : Option Nat) (looks : List Nat) (which : Env → Option Nat) (det : Env → St → Option D) : Prop :=
  (∀ K T σ, f K T σ ↔ match det T σ with | some d => putK N dst d K T σ | none => False) ∧ (∀ T t d σ, t ∉ looks → det (upd T t d) σ = det T σ ∧ which (upd T t d) = which T) ∧
  ∀ T σ σ', (∀ b, which T = some b → σ'.box b = σ.box b) → det T σ' = det T σ

theorem aput_comm {T : Env} {x y : Option Nat} (h : ∀ t, x = some t → y ≠ some t) (d e : D) : aput (aput T x d) y e = aput (aput T y e) x d := by
  cases x with
  | none => rfl
  | some t =>
    cases y with
    | none => rfl
    | some u => exact upd_comm T (fun he => h t rfl (by rw [he])) d e

def notIn (dst : Option Nat) (looks : List Nat) : Prop := ∀ t, dst = some t → t ∉ looks

theorem frame_aput {f : Tr} {dst : Option Nat} {looks : List Nat} (h : FrameT f dst looks) {dx : Option Nat} {d : D} (h1 : notIn dx looks) (h2 : ∀ t, dx = some t → dst ≠ some t) :
    f K (aput T dx d) σ ↔ f (fun T' σ' => K (aput T' dx d) σ') T σ := by
  cases dx with
  | none => exact Iff.rfl
  | some t => exact h K T σ t d (h1 t rfl) (h2 t rfl)

theorem putK_aput {dst : Option Nat} {d : D} : putK N dst d K T σ ↔ (∀ t, dst = some t → t < N) ∧ K (aput T dst d) σ := by
  cases dst <;> simp [putK, aput]

theorem det_aput {f : Tr} {dst : Option Nat} {looks : List Nat} {det : Env → Option (Prop × D)} (h : DetT N f dst looks det) {dx : Option Nat} {d : D} (h1 : notIn dx looks) : det (aput T dx d) = det T := by
  cases dx with
  | none => rfl
  | some t => exact h.2 T t d (h1 t rfl)

theorem load_aput {f : Tr} {dst : Option Nat} {looks : List Nat} {which : Env → Option Nat} {det : Env → St → Option D} (h : LoadT N f dst looks which det) {dx : Option Nat} {d : D} (h1 : notIn dx looks) :
    det (aput T dx d) σ = det T σ ∧ which (aput T dx d) = which T := by
  cases dx with
  | none => exact ⟨rfl, rfl⟩
  | some t => exact h.2.1 T t d σ (h1 t rfl)

structure ApartT (dx dy : Option Nat) (lx ly : List Nat) : Prop where
  xy : notIn dx ly
  yx : notIn dy lx
  ne : ∀ t, dx = some t → dy ≠ some t

theorem ApartT.ne' {dx dy : Option Nat} {lx ly : List Nat} (h : ApartT dx dy lx ly) : ∀ t, dy = some t → dx ≠ some t := fun t hy hx => h.ne t hx hy

/-- The one whose answer hangs on slots alone may come later. -/
theorem swap_det_any {f g : Tr} {dx dy : Option Nat} {lx ly : List Nat} {det : Env → Option (Prop × D)} (hap : ApartT dx dy lx ly) (hx : DetT N f dx lx det) (hfy : FrameT g dy ly) {keep : St → St → Prop} (hmy : MonoT keep B g dy)
    (hg : good B σ) (h : f (fun T' σ' => good B σ' → g K T' σ') T σ) : g (fun T' σ' => good B σ' → f K T' σ') T σ := by
  rw [hx.1] at h
  split at h
  · rename_i side d hd
    obtain ⟨hs, h⟩ := h
    obtain ⟨hn, h⟩ := putK_aput.1 h
    have h1 := (frame_aput hfy hap.xy hap.ne).1 (h hg)
    refine hmy _ _ _ _ hg h1 fun v σ' _ hg' hk _ => ?_
    rw [hx.1, det_aput hx hap.yx, hd]
    exact ⟨hs, putK_aput.2 ⟨hn, hk⟩⟩
  · exact h.elim

/-- The one whose answer hangs on slots alone may come first. -/
theorem swap_any_det {f g : Tr} {dx dy : Option Nat} {lx ly : List Nat} {det : Env → Option (Prop × D)} (hap : ApartT dx dy lx ly) (hfx : FrameT f dx lx) {keep : St → St → Prop} {kA : Prop} (hmx : MonoT keep B f dx) (hex : ExT keep kA B f dx)
    (hy : DetT N g dy ly det) (hg : good B σ) (h : f (fun T' σ' => good B σ' → g K T' σ') T σ) : g (fun T' σ' => good B σ' → f K T' σ') T σ := by
  obtain ⟨v, σ', _, _, hg', h1⟩ := hex _ _ _ hg h 0
  have h2 := h1 hg'
  rw [hy.1, det_aput hy hap.xy] at h2
  rw [hy.1]
  cases hd : det T with
  | none => rw [hd] at h2; exact h2.elim
  | some p =>
    obtain ⟨side, d⟩ := p
    rw [hd] at h2
    obtain ⟨hs, h2⟩ := h2
    have hn := (putK_aput.1 h2).1
    refine ⟨hs, putK_aput.2 ⟨hn, fun _ => ?_⟩⟩
    refine (frame_aput hfx hap.yx hap.ne').2 (hmx _ _ _ _ hg h fun u σ₁ _ hg₁ hk => ?_)
    have h3 := hk hg₁
    rw [hy.1, det_aput hy hap.xy, hd] at h3
    exact (putK_aput.1 h3.2).2

theorem swap_load_any {f g : Tr} {dx dy : Option Nat} {lx ly : List Nat} {which : Env → Option Nat} {det : Env → St → Option D} (hap : ApartT dx dy lx ly) (hx : LoadT N f dx lx which det) (hfy : FrameT g dy ly) {keep : St → St → Prop} (hmy : MonoT keep B g dy)
    (hkeep : ∀ σ', good B σ → f (fun _ _ => True) T σ → keep σ σ' → ∀ b, which T = some b → σ'.box b = σ.box b)
    (hg : good B σ) (h : f (fun T' σ' => good B σ' → g K T' σ') T σ) : g (fun T' σ' => good B σ' → f K T' σ') T σ := by
  have h' := h
  rw [hx.1] at h
  split at h
  · rename_i d hd
    obtain ⟨hn, h⟩ := putK_aput.1 h
    have htrue : f (fun _ _ => True) T σ := by rw [hx.1, hd]; exact putK_aput.2 ⟨hn, trivial⟩
    have h1 := (frame_aput hfy hap.xy hap.ne).1 (h hg)
    refine hmy _ _ _ _ hg h1 fun v σ' hk hg' hK _ => ?_
    rw [hx.1, (load_aput hx hap.yx).1, hx.2.2 T σ σ' (hkeep σ' hg htrue hk), hd]
    exact putK_aput.2 ⟨hn, hK⟩
  · exact h.elim

theorem swap_any_load {f g : Tr} {dx dy : Option Nat} {lx ly : List Nat} {which : Env → Option Nat} {det : Env → St → Option D} (hap : ApartT dx dy lx ly) (hfx : FrameT f dx lx) {keep : St → St → Prop} {kA : Prop} (hmx : MonoT keep B f dx) (hex : ExT keep kA B f dx)
    (hy : LoadT N g dy ly which det) (hout : ∀ σ' d, keep σ σ' → (kA → σ'.box ((which T).getD 0) = σ.box ((which T).getD 0)) → det T σ' = some d → ∀ b, which T = some b → σ'.box b = σ.box b)
    (hkeep : ∀ σ' d, keep σ σ' → det T σ = some d → ∀ b, which T = some b → σ'.box b = σ.box b)
    (hg : good B σ) (h : f (fun T' σ' => good B σ' → g K T' σ') T σ) : g (fun T' σ' => good B σ' → f K T' σ') T σ := by
  obtain ⟨v, σ', hk, hbx, hg', h1⟩ := hex _ _ _ hg h ((which T).getD 0)
  have h2 := h1 hg'
  rw [hy.1, (load_aput hy hap.xy).1] at h2
  have heq : ∀ b, which T = some b → σ'.box b = σ.box b := by
    cases hd : det T σ' with
    | none => rw [hd] at h2; exact h2.elim
    | some d => exact hout σ' d hk hbx hd
  rw [hy.2.2 T σ σ' heq] at h2
  rw [hy.1]
  cases hd : det T σ with
  | none => rw [hd] at h2; exact h2.elim
  | some d =>
    rw [hd] at h2
    have hn := (putK_aput.1 h2).1
    refine putK_aput.2 ⟨hn, fun _ => ?_⟩
    refine (frame_aput hfx hap.yx hap.ne').2 (hmx _ _ _ _ hg h fun u σ₁ hk₁ hg₁ hK => ?_)
    have h3 := hK hg₁
    rw [hy.1, (load_aput hy hap.xy).1, hy.2.2 T σ σ₁ (hkeep σ₁ d hk₁ hd), hd] at h3
    exact (putK_aput.1 h3).2
end
end Go.AL
namespace Go.AL
set_option linter.unusedVariables false
set_option linter.unusedSimpArgs false

/-- An operation without its edges: where it writes, what it does, under which guard. -/
structure AO where
  d : Option Nat
  op : Op
  g : Option (Nat × Bool)

inductive Kd where
  | F | L | A | C | X
  deriving DecidableEq

def kd : Op → Kd
  | .load _ _ => .L
  | .alloc _ | .box _ _ => .A
  | .store _ _ _ => .C
  | .call { callee := .value _, .. } => .C
  | .call { callee := .builtin .append, .. } => .C
  | .call { callee := .builtin .len, .. } | .call { callee := .builtin .min, .. } | .call { callee := .builtin .max, .. } => .F
  | .binOp _ _ _ y _ => if nilOpnd y then .X else .F
  | .move _ | .assign _ | .pick _ _ _ | .unOp _ _ _ | .convert _ _ _ | .makeInterface _ _ | .makeFunc _ _ _ | .extract _ _ | .field _ _ _ | .fieldAddr _ _ _ | .indexAddr _ _ _ | .index _ _ _ | .nilCheck _
  | .build _ _ | .buildSlice _ _ _ | .makeSlice _ _ _ | .slice _ _ _ _ _ => .F
  | _ => .X

def tmpsOf (op : Op) : List Nat := (opndsOf op).filterMap fun | .tmp t => some t | _ => none
def looksO (o : AO) : List Nat := (match o.g with | some (t, _) => [t] | none => []) ++ tmpsOf o.op

theorem tmpsOf_ne {op : Op} {t : Nat} (h : t ∉ tmpsOf op) : ∀ x ∈ opndsOf op, x ≠ .tmp t := fun x hx he => h (by
  subst he
  exact List.mem_filterMap.2 ⟨_, hx, rfl⟩)

section
variable {P : Program} {N : Nat} {T : Env} {σ : St} {K K' : Env → St → Prop} {Q : XA → Env → St → Prop} {B : List Nat}

def callB (P : Program) (N : Nat) (B : List Nat) (st : Bool) (dst : Option Nat) (g : FuncId) (ds : List D) (K : Env → St → Prop) (Q : XA → Env → St → Prop) (T : Env) (σ : St) : Prop :=
  ∃ s fr R, St.split σ s fr ∧ (∀ b ∈ B, ¬ s.has b) ∧ ACall P g ds s R ∧ (st = true → (∃ d s', R (.ret d) s' ∧ (∀ b, s'.has b → s.has b) ∧ St.fin s') ∧ ∀ d s', ¬ R (.pan d) s') ∧
    ∀ x s', R x s' → St.apart s' fr → St.fin s' → match x with
      | .ret d => putK N dst d K T (St.join s' fr)
      | .pan d => panK Q d (St.join s' fr)

def dcore (P : Program) (N : Nat) (B : List Nat) (fl st : Bool) (o : AO) (Q : XA → Env → St → Prop) : Tr := fun K T σ =>
  match o.op with
  | .load t x => match ev T x with
    | .ptr b off => (fl = true → b ∈ B) ∧ aop P N o.d (.load t x) K Q T σ
    | _ => aop P N o.d (.load t x) K Q T σ
  | .store t x v => match ev T x with
    | .ptr b off => b ∉ B ∧ aop P N o.d (.store t x v) K Q T σ
    | _ => False
  | .call { callee := .value f, args, .. } => match ev T f with
    | .func (.func g) fi ca => callB P N B st o.d g (fi ++ args.toList.map (ev T) ++ ca) K Q T σ
    | _ => False
  | op => aop P N o.d op K Q T σ

def dop (P : Program) (N : Nat) (B : List Nat) (fl st : Bool) (o : AO) (Q : XA → Env → St → Prop) : Tr := fun K T σ =>
  match o.g with
  | none => dcore P N B fl st o Q K T σ
  | some (t, w) => match gq (T t) w with
    | some c => br c (dcore P N B fl st o Q K T σ) (putK N o.d (.tup []) K T σ)
    | none => False

theorem callB_callA {st : Bool} {dst : Option Nat} {g : FuncId} {ds : List D} (h : callB P N B st dst g ds K Q T σ) : callA P N dst g ds K Q T σ := by
  obtain ⟨s, fr, R, h1, _, h2, _, h3⟩ := h
  exact ⟨s, fr, R, h1, h2, h3⟩

theorem dcore_aop {fl st : Bool} {o : AO} (h : dcore P N B fl st o Q K T σ) : aop P N o.d o.op K Q T σ := by
  obtain ⟨d, op, g⟩ := o
  unfold dcore at h
  simp only at h ⊢
  split at h
  · split at h
    · exact h.2
    · exact h
  · split at h
    · exact h.2
    · exact h.elim
  · split at h
    · rename_i hf
      simp only [aop, hf]
      exact callB_callA h
    · exact h.elim
  · exact h

/-! #### what hangs on slots alone -/
def detF (P : Program) (op : Op) (T : Env) : Option (Prop × D) :=
  match op with
  | .binOp bop xt x y _ => binD P bop xt (ev T x) (ev T y)
  | .buildSlice t len parts => match sliP P t with
    | some e => match szP P e, zeroP P e with
      | some s, some z => match fillD (fun i => some (i * s, e)) P T frz parts.toList (List.replicate len z).flatten with
        | some cs => some (z.length = s ∧ len * s ≤ 16777216, .slice .exact (chunks s len cs))
        | none => none
      | _, _ => none
    | none => none
  | .makeSlice t l c => makeA P t (ev T l) (ev T c)
  | op => pureD P op T

theorem detF_env {op : Op} {t : Nat} {d : D} (h : t ∉ tmpsOf op) : detF P op (upd T t d) = detF P op T := by
  have hne := tmpsOf_ne h
  have hp := pureD_env (P := P) (T := T) (d := d) hne
  cases op <;> first
    | exact hp
    | skip
  case makeSlice ty l c =>
    simp only [opndsOf, Op.operands] at hne
    simp only [detF, ev_upd (hne l (by simp)), ev_upd (hne c (by simp))]
  case buildSlice ty len parts =>
    simp only [opndsOf, Op.operands] at hne
    have hpp : ∀ p ∈ parts.toList, p.2 ≠ .tmp t := fun p hp => hne p.2 (by simp; exact ⟨p.1, by simpa using hp⟩)
    simp only [detF, fillD_env _ _ hpp]

theorem kdF_eq {fl st : Bool} {o : AO} (h : kd o.op = .F) : dcore P N B fl st o Q K T σ ↔ match detF P o.op T with | some (side, d) => side ∧ putK N o.d d K T σ | none => False := by
  obtain ⟨dst, op, g⟩ := o
  simp only at h
  cases op <;> simp only [kd, reduceCtorEq] at h <;> try exact Iff.rfl
  case binOp bop xt x y yt =>
    split at h
    · cases h
    · rename_i hn
      have hn' : nilOpnd y = false := by simpa using hn
      simp only [dcore, aop, binA, hn', detF]
      exact Iff.rfl
  case buildSlice t len parts =>
    simp only [dcore, aop, detF]
    cases sliP P t with
    | none => exact Iff.rfl
    | some e =>
      simp only
      cases szP P e with
      | none => exact Iff.rfl
      | some s =>
        cases zeroP P e with
        | none => exact Iff.rfl
        | some z =>
          simp only
          cases fillD (fun i => some (i * s, e)) P T frz parts.toList (List.replicate len z).flatten with
          | none => simp
          | some cs => simp only [and_assoc]
  case call c =>
    obtain ⟨callee, args, argTypes⟩ := c
    cases callee with
    | value f => simp only [kd] at h; cases h
    | invoke r m => simp only [kd] at h; cases h
    | builtin b =>
      cases b <;> first
        | exact Iff.rfl
        | (simp only [kd] at h; cases h)

def detG (P : Program) (o : AO) (T : Env) : Option (Prop × D) :=
  match o.g with
  | none => detF P o.op T
  | some (t, w) => match gq (T t) w with
    | some c => if c = true then detF P o.op T else some (True, .tup [])
    | none => none

theorem looks_tmps {o : AO} {t : Nat} (h : t ∉ looksO o) : t ∉ tmpsOf o.op := fun h' => h (List.mem_append.2 (.inr h'))
theorem looks_guard {o : AO} {t u : Nat} {w : Bool} (h : t ∉ looksO o) (hg : o.g = some (u, w)) : u ≠ t := fun he => h (by simp [looksO, hg, he])

theorem det_dop {fl st : Bool} {o : AO} (h : kd o.op = .F) : DetT N (dop P N B fl st o Q) o.d (looksO o) (detG P o) := by
  refine ⟨fun K T σ => ?_, fun T t d ht => ?_⟩
  · unfold dop detG
    cases hg : o.g with
    | none => exact kdF_eq h
    | some p =>
      obtain ⟨t, w⟩ := p
      simp only
      cases hT : gq (T t) w <;> try exact Iff.rfl
      rename_i b
      simp only [br]
      by_cases hb : b = true
      · rw [if_pos hb, if_pos hb]; exact kdF_eq h
      · rw [if_neg hb, if_neg hb]; simp
  · unfold detG
    cases hg : o.g with
    | none => exact detF_env (looks_tmps ht)
    | some p =>
      obtain ⟨u, w⟩ := p
      have hu : upd T t d u = T u := by simp [upd, looks_guard ht hg]
      simp only [hu, detF_env (looks_tmps ht)]

/-! #### the frame of slots -/
theorem callB_env {t : Nat} {d : D} {dst : Option Nat} (hd : dst ≠ some t) {st : Bool} {g : FuncId} {ds : List D} : callB P N B st dst g ds K Q (upd T t d) σ ↔ callB P N B st dst g ds (fun T' σ' => K (upd T' t d) σ') Q T σ := by
  simp only [callB, putK_env hd]

theorem dcore_env {fl st : Bool} {o : AO} {t : Nat} {d : D} (h : t ∉ tmpsOf o.op) (hd : o.d ≠ some t) : dcore P N B fl st o Q K (upd T t d) σ ↔ dcore P N B fl st o Q (fun T' σ' => K (upd T' t d) σ') T σ := by
  obtain ⟨dst, op, g⟩ := o
  have hne := tmpsOf_ne h
  simp only at hd hne
  have ha := aop_env (P := P) (N := N) (K := K) (Q := Q) (T := T) (σ := σ) (d := d) hne hd
  cases op <;> try exact ha
  case load ty x =>
    simp only [opndsOf, Op.operands] at hne
    have hx := ev_upd (T := T) (d := d) (hne x (by simp))
    simp only [dcore, hx, ha]
  case store ty x y =>
    simp only [opndsOf, Op.operands] at hne
    have hx := ev_upd (T := T) (d := d) (hne x (by simp))
    simp only [dcore, hx, ha]
  case call c =>
    obtain ⟨callee, args, argTypes⟩ := c
    cases callee with
    | value f =>
      simp only [opndsOf, Op.operands, Call.operands] at hne
      have hf := ev_upd (T := T) (d := d) (hne f (by simp))
      have har : ∀ x ∈ args.toList, x ≠ .tmp t := fun x hx => hne x (by simp only [Array.toList_append, List.mem_append]; exact .inr hx)
      simp only [dcore, hf, ev_map har, callB_env hd]
    | invoke r m => exact ha
    | builtin b => exact ha

theorem frame_dop {fl st : Bool} {o : AO} : FrameT (dop P N B fl st o Q) o.d (looksO o) := by
  intro K T σ t d ht hd
  unfold dop
  cases hg : o.g with
  | none => exact dcore_env (looks_tmps ht) hd
  | some p =>
    obtain ⟨u, w⟩ := p
    have hu : upd T t d u = T u := by simp [upd, looks_guard ht hg]
    simp only [hu]
    cases gq (T u) w <;> try exact Iff.rfl
    simp only [br, dcore_env (looks_tmps ht) hd, putK_env hd]
end
end Go.AL
namespace Go.AL
set_option linter.unusedVariables false
set_option linter.unusedSimpArgs false

section
variable {P : Program} {N : Nat} {T : Env} {σ : St} {K K' : Env → St → Prop} {Q : XA → Env → St → Prop} {B : List Nat}

/-! #### loads -/
def whichL (o : AO) (T : Env) : Option Nat :=
  let w := match o.op with
    | .load _ x => match ev T x with
      | .ptr b _ => some b
      | _ => none
    | _ => none
  match o.g with
  | none => w
  | some (t, want) => match gq (T t) want with
    | some c => if c = true then w else none
    | none => none

def detL (P : Program) (fl : Bool) (B : List Nat) (o : AO) (T : Env) (σ : St) : Option D :=
  let r := match o.op with
    | .load t x => match ev T x with
      | .ptr b off => if fl = true → b ∈ B then match σ.box b with
        | some cs => partD P t (cs.drop off) 0
        | none => none
        else none
      | .eptr cs => partD P t cs 0
      | _ => none
    | _ => none
  match o.g with
  | none => r
  | some (t, want) => match gq (T t) want with
    | some c => if c = true then r else some (.tup [])
    | none => none

theorem load_core {fl st : Bool} {dst : Option Nat} {g : Option (Nat × Bool)} {t : TypeId} {x : Operand} : dcore P N B fl st ⟨dst, .load t x, g⟩ Q K T σ ↔
    match (match ev T x with
      | .ptr b off => if fl = true → b ∈ B then match σ.box b with
        | some cs => partD P t (cs.drop off) 0
        | none => none
        else none
      | .eptr cs => partD P t cs 0
      | _ => none) with | some d => putK N dst d K T σ | none => False := by
  simp only [dcore, aop]
  cases ev T x <;> try exact Iff.rfl
  rename_i b off
  simp only
  by_cases hb : fl = true → b ∈ B
  · rw [if_pos hb]
    cases σ.box b with
    | none => simp
    | some cs => exact ⟨fun h => h.2, fun h => ⟨hb, h⟩⟩
  · rw [if_neg hb]
    simp [hb]

theorem load_dop {fl st : Bool} {o : AO} (h : kd o.op = .L) : LoadT N (dop P N B fl st o Q) o.d (looksO o) (whichL o) (detL P fl B o) := by
  obtain ⟨dst, op, g⟩ := o
  cases op <;> simp only [kd, reduceCtorEq] at h
  case binOp => split at h <;> cases h
  case call c =>
    obtain ⟨callee, args, argTypes⟩ := c
    cases callee with
    | builtin b => cases b <;> simp only [kd, reduceCtorEq] at h
    | _ => simp only [kd, reduceCtorEq] at h
  case load t x =>
    refine ⟨fun K T σ => ?_, fun T u d σ hu => ?_, fun T σ σ' hs => ?_⟩
    · cases g with
      | none => exact load_core (st := st)
      | some p =>
        obtain ⟨u, w⟩ := p
        simp only [dop, detL]
        cases hT : gq (T u) w <;> try exact Iff.rfl
        rename_i b
        simp only [br]
        by_cases hb : b = true
        · simp only [hb, if_true]; exact load_core (st := st)
        · simp only [hb, if_false]; exact Iff.rfl
    · have hx : ev (upd T u d) x = ev T x := ev_upd (tmpsOf_ne (looks_tmps hu) x (by simp [opndsOf, Op.operands]))
      cases g with
      | none => simp only [detL, whichL, hx, and_self]
      | some p =>
        obtain ⟨v, w⟩ := p
        have hv : upd T u d v = T v := by simp [upd, looks_guard hu rfl]
        simp only [detL, whichL, hx, hv, and_self]
    · have key : ∀ b, (match ev T x with | .ptr b _ => some b | _ => none) = some b → σ'.box b = σ.box b → (match ev T x with
          | .ptr b off => if fl = true → b ∈ B then match σ'.box b with
            | some cs => partD P t (cs.drop off) 0
            | none => none
            else none
          | .eptr cs => partD P t cs 0
          | _ => none) = (match ev T x with
          | .ptr b off => if fl = true → b ∈ B then match σ.box b with
            | some cs => partD P t (cs.drop off) 0
            | none => none
            else none
          | .eptr cs => partD P t cs 0
          | _ => none) := by
        intro b hb hs
        cases hx : ev T x <;> simp only [hx, reduceCtorEq, Option.some.injEq] at hb
        subst hb
        simp only [hs]
      have key' : (∀ b, (match ev T x with | .ptr b _ => some b | _ => none) = some b → σ'.box b = σ.box b) → (match ev T x with
          | .ptr b off => if fl = true → b ∈ B then match σ'.box b with
            | some cs => partD P t (cs.drop off) 0
            | none => none
            else none
          | .eptr cs => partD P t cs 0
          | _ => none) = (match ev T x with
          | .ptr b off => if fl = true → b ∈ B then match σ.box b with
            | some cs => partD P t (cs.drop off) 0
            | none => none
            else none
          | .eptr cs => partD P t cs 0
          | _ => none) := by
        intro hs
        cases hx : ev T x <;> try rfl
        rename_i b off
        have := key b (by rw [hx]) (hs b (by rw [hx]))
        rw [hx] at this
        exact this
      cases g with
      | none =>
        simp only [detL, whichL] at hs ⊢
        exact key' hs
      | some p =>
        obtain ⟨v, w⟩ := p
        simp only [detL, whichL] at hs ⊢
        cases hT : gq (T v) w <;> try rfl
        rename_i b
        simp only [hT] at hs ⊢
        by_cases hb : b = true
        · simp only [hb, if_true] at hs ⊢
          exact key' hs
        · simp only [hb, if_false]; rfl

theorem which_some {fl : Bool} {o : AO} {d : D} (h : detL P fl B o T σ = some d) : ∀ b, whichL o T = some b → σ.box b ≠ none ∧ (fl = true → b ∈ B) := by
  intro b hb
  obtain ⟨dst, op, g⟩ := o
  unfold detL at h
  unfold whichL at hb
  cases g with
  | none =>
    simp only at h hb
    cases op <;> simp only [reduceCtorEq] at hb
    rename_i t x
    cases hx : ev T x <;> simp only [hx, reduceCtorEq, Option.some.injEq] at h hb
    subst hb
    split at h
    · rename_i hf
      split at h
      · rename_i hc; exact ⟨by simp [hc], hf⟩
      · cases h
    · cases h
  | some p =>
    obtain ⟨v, w⟩ := p
    simp only at h hb
    cases hT : gq (T v) w <;> simp only [hT, reduceCtorEq] at h hb
    rename_i q
    by_cases hq : q = true
    · simp only [hq, if_true] at h hb
      cases op <;> simp only [reduceCtorEq] at hb
      rename_i t x
      cases hx : ev T x <;> simp only [hx, reduceCtorEq, Option.some.injEq] at h hb
      subst hb
      split at h
      · rename_i hf
        split at h
        · rename_i hc; exact ⟨by simp [hc], hf⟩
        · cases h
      · cases h
    · simp [hq] at hb

/-! #### what stands behind -/
theorem putK_cases {dst : Option Nat} {v : D} {σ' : St} (h : putK N dst v K T σ') (hk : K (aput T dst v) σ' → K' (aput T dst v) σ') : putK N dst v K' T σ' := putK_mono h hk

theorem keepB_set {b : Nat} {cs : List D} (hb : b ∉ B) : keepB B σ (σ.set b cs) := fun x hx => by
  simp only [St.set]
  rw [if_neg (fun he => hb (by rw [← he]; exact hx))]

theorem keepA_set {b : Nat} {cs : List D} (hb : ¬ σ.has b) : keepA σ (σ.set b cs) := fun x hx => by
  simp only [St.set]
  rw [if_neg (fun he => hb (by subst he; exact .inl hx))]

theorem keepB_join {s s' fr : St} (hs : St.split σ s fr) (hB : ∀ b ∈ B, ¬ s.has b) (hg : good B σ) (hap : St.apart s' fr) : keepB B σ (St.join s' fr) := fun b hb => by
  have h1 := hg.2 b hb
  have h2 : s.box b = none := by
    cases hc : s.box b with
    | none => rfl
    | some c => exact absurd (has_box hc) (hB b hb)
  have h3 : σ.box b = fr.box b := by rw [hs.eq]; simp [St.join, h2]
  have h4 : s'.box b = none := by
    cases hc : s'.box b with
    | none => rfl
    | some c => exact absurd (.inl (by rw [← h3]; exact h1)) (hap b (has_box hc))
  rw [h3]; simp [St.join, h4]

theorem good_set {b : Nat} {cs : List D} (hg : good B σ) (hk : keepB B σ (σ.set b cs)) : good B (σ.set b cs) := hk.good hg (fin_set hg.1 b cs)

theorem append_mono {t t' : TypeId} {x y : D} {dst : Option Nat} (hg : good B σ) (h : appendA P N dst t t' x y K T σ) (hk : ∀ v σ', keepB B σ σ' → good B σ' → K (aput T dst v) σ' → K' (aput T dst v) σ') : appendA P N dst t t' x y K' T σ := by
  have still : ∀ v, putK N dst v K T σ → putK N dst v K' T σ := fun v hv => putK_cases hv (hk v σ (fun _ _ => rfl) hg)
  have grown : ∀ v b s n, putK N dst v K T (σ.setBuf b s n) → putK N dst v K' T (σ.setBuf b s n) := fun v b s n hv =>
    putK_cases hv (hk v _ (fun _ _ => rfl) ⟨fin_setBuf hg.1 b s n, hg.2⟩)
  have moved : ∀ v a b s n, putK N dst v K T ((σ.dropBuf a).setBuf b s n) → putK N dst v K' T ((σ.dropBuf a).setBuf b s n) := fun v a b s n hv =>
    putK_cases hv (hk v _ (fun _ _ => rfl) ⟨fin_setBuf (fin_dropBuf hg.1 a) b s n, hg.2⟩)
  unfold appendA at h ⊢
  split at h
  · rename_i ow xs ow' ys e e' he he'
    obtain ⟨h0, h⟩ := h
    refine ⟨h0, ?_⟩
    split at h
    · obtain ⟨h1, h2, h3, h4, h5, h⟩ := h
      refine ⟨h1, h2, h3, h4, h5, ?_⟩
      cases ow with
      | buf b s' => exact ⟨h.1, h.2.1, fun b' hb' => moved _ _ _ _ _ (h.2.2 b' hb')⟩
      | nil => exact ⟨fun hy => still _ (h.1 hy), fun hy b' hb' => grown _ _ _ _ (h.2 hy b' hb')⟩
      | exact => exact ⟨h.1, fun hy => still _ (h.2.1 hy), fun hy b' hb' => grown _ _ _ _ (h.2.2 hy b' hb')⟩
      | no => exact h.elim
    · exact h.elim
  · obtain ⟨h1, h2, h3, h4, h5, h6, h7, h8, h⟩ := h
    exact ⟨h1, h2, h3, h4, h5, h6, h7, h8, moved _ _ _ _ _ h⟩
  · exact h.elim

theorem append_ex {t t' : TypeId} {x y : D} {dst : Option Nat} (hg : good B σ) (h : appendA P N dst t t' x y K T σ) (z : Nat) : ∃ v σ', keepB B σ σ' ∧ σ'.box z = σ.box z ∧ good B σ' ∧ K (aput T dst v) σ' := by
  unfold appendA at h
  split at h
  · rename_i ow xs ow' ys e e' he he'
    obtain ⟨h0, h⟩ := h
    split at h
    · obtain ⟨h1, h2, h3, h4, h5, h⟩ := h
      cases ow with
      | buf b s' =>
        obtain ⟨b', hb', _⟩ := fin_fresh (fin_dropBuf hg.1 b) 0
        exact ⟨_, (σ.dropBuf b).setBuf b' _ _, (fun _ _ => rfl), rfl, ⟨fin_setBuf (fin_dropBuf hg.1 b) _ _ _, hg.2⟩, (putK_aput.1 (h.2.2 b' hb')).2⟩
      | nil =>
        by_cases hy : ys = []
        · exact ⟨_, _, (fun _ _ => rfl), rfl, hg, (putK_aput.1 (h.1 hy)).2⟩
        · obtain ⟨b', hb', _⟩ := fin_fresh hg.1 0
          exact ⟨_, σ.setBuf b' _ _, (fun _ _ => rfl), rfl, ⟨fin_setBuf hg.1 _ _ _, hg.2⟩, (putK_aput.1 (h.2 hy b' hb')).2⟩
      | exact =>
        by_cases hy : ys = []
        · exact ⟨_, _, (fun _ _ => rfl), rfl, hg, (putK_aput.1 (h.2.1 hy)).2⟩
        · obtain ⟨b', hb', _⟩ := fin_fresh hg.1 0
          exact ⟨_, σ.setBuf b' _ _, (fun _ _ => rfl), rfl, ⟨fin_setBuf hg.1 _ _ _, hg.2⟩, (putK_aput.1 (h.2.2 hy b' hb')).2⟩
      | no => exact h.elim
    · exact h.elim
  · obtain ⟨h1, h2, h3, h4, h5, h6, h7, h8, h⟩ := h
    exact ⟨_, (σ.dropBuf _).setBuf _ _ _, (fun _ _ => rfl), rfl, ⟨fin_setBuf (fin_dropBuf hg.1 _) _ _ _, hg.2⟩, (putK_aput.1 h).2⟩
  · exact h.elim
end
end Go.AL
namespace Go.AL
set_option linter.unusedVariables false
set_option linter.unusedSimpArgs false

section
variable {P : Program} {N : Nat} {T : Env} {σ : St} {K K' : Env → St → Prop} {Q : XA → Env → St → Prop} {B : List Nat}

def keepK (B : List Nat) : Kd → St → St → Prop
  | .C => keepB B
  | .A => keepA
  | .X => fun _ _ => True
  | _ => fun σ σ' => σ' = σ

theorem pure_mono {op : Op} {dst : Option Nat} (h : match pureD P op T with | some (side, d) => side ∧ putK N dst d K T σ | none => False) (hk : ∀ v, K (aput T dst v) σ → K' (aput T dst v) σ) :
    match pureD P op T with | some (side, d) => side ∧ putK N dst d K' T σ | none => False := by
  split at h
  · exact ⟨h.1, putK_cases h.2 (hk _)⟩
  · exact h.elim

theorem mono_core {fl st : Bool} {o : AO} (hg : good B σ) (h : dcore P N B fl st o Q K T σ) (hk : ∀ v σ', keepK B (kd o.op) σ σ' → good B σ' → K (aput T o.d v) σ' → K' (aput T o.d v) σ') : dcore P N B fl st o Q K' T σ := by
  obtain ⟨dst, op, g⟩ := o
  simp only at hk
  cases op
  case load t x =>
    rw [load_core] at h ⊢
    split at h
    · exact putK_cases h (hk _ σ rfl hg)
    · exact h.elim
  case store t x y =>
    simp only [dcore, aop] at h ⊢
    cases hx : ev T x <;> simp only [hx] at h ⊢
    rename_i b off
    obtain ⟨hb, h⟩ := h
    refine ⟨hb, ?_⟩
    split at h
    · rename_i cs vs hcs hvs
      exact ⟨h.1, putK_cases h.2 (hk _ _ (keepB_set hb) (good_set hg (keepB_set hb)))⟩
    · exact h.elim
  case alloc t =>
    simp only [dcore, aop] at h ⊢
    split at h
    · exact fun b hb => putK_cases (h b hb) (hk _ _ (keepA_set hb) (good_set hg ((keepA_set hb).toB hg)))
    · exact h.elim
  case box t x =>
    simp only [dcore, aop] at h ⊢
    split at h
    · exact fun b hb => putK_cases (h b hb) (hk _ _ (keepA_set hb) (good_set hg ((keepA_set hb).toB hg)))
    · exact h.elim
  case buildSlice t len parts =>
    have hF : kd (Op.buildSlice t len parts) = .F := rfl
    rw [kdF_eq hF] at h ⊢
    split at h
    · exact ⟨h.1, putK_cases h.2 (hk _ σ rfl hg)⟩
    · exact h.elim
  case panic x => exact h
  case binOp bop xt x y yt =>
    have hk' : ∀ v, K (aput T dst v) σ → K' (aput T dst v) σ := fun v => hk v σ (by simp only [kd]; split <;> first | rfl | trivial) hg
    simp only [dcore, aop, binA] at h ⊢
    split at h
    · split at h
      · exact fun r hr => putK_cases (h r hr) (hk' _)
      · exact h.elim
    · split at h
      · exact fun r hr => putK_cases (h r hr) (hk' _)
      · exact h.elim
    · split at h
      · exact ⟨h.1, putK_cases h.2 (hk' _)⟩
      · exact h.elim
  case call c =>
    obtain ⟨callee, args, argTypes⟩ := c
    cases callee with
    | value f =>
      simp only [dcore] at h ⊢
      split at h
      · obtain ⟨s, fr, R, h1, h2, h3, h4, h5⟩ := h
        refine ⟨s, fr, R, h1, h2, h3, h4, fun x s' hR hap hf => ?_⟩
        have := h5 x s' hR hap hf
        cases x with
        | pan d => exact this
        | ret d => exact putK_cases this (hk _ _ (keepB_join h1 h2 hg hap) ((keepB_join h1 h2 hg hap).good hg (fin_join hf (fin_right (by rw [← h1.eq]; exact hg.1)))))
      · exact h.elim
    | invoke r m => exact (show False by simp [dcore, aop, pureD] at h).elim
    | builtin b =>
      cases b
      case append =>
        simp only [dcore, aop] at h ⊢
        split at h
        · exact append_mono hg h fun v σ' hb hg' => hk v σ' hb hg'
        · exact h.elim
      case len =>
        rw [kdF_eq rfl] at h ⊢
        split at h
        · exact ⟨h.1, putK_cases h.2 (hk _ σ rfl hg)⟩
        · exact h.elim
      case min =>
        rw [kdF_eq rfl] at h ⊢
        split at h
        · exact ⟨h.1, putK_cases h.2 (hk _ σ rfl hg)⟩
        · exact h.elim
      case max =>
        rw [kdF_eq rfl] at h ⊢
        split at h
        · exact ⟨h.1, putK_cases h.2 (hk _ σ rfl hg)⟩
        · exact h.elim
      case copy =>
        simp only [dcore, aop] at h ⊢
        split at h
        · unfold copyA at h ⊢
          split at h
          · rename_i b o l c b' o' l' c' e hx hy he
            split at h
            · rename_i cs cs' hsz hcs hcs'
              refine ⟨h.1, h.2.1, putK_cases h.2.2 (hk _ _ trivial ⟨fin_set hg.1 b _, fun x hx => ?_⟩)⟩
              simp only [St.set]
              split
              · simp
              · exact hg.2 x hx
            · exact h.elim
          · exact h.elim
        · exact h.elim
      all_goals exact (show False by simp [dcore, aop, pureD] at h).elim
  all_goals first
    | (rw [kdF_eq rfl] at h ⊢
       split at h
       · exact ⟨h.1, putK_cases h.2 (hk _ σ rfl hg)⟩
       · exact h.elim)
    | (simp [dcore, aop, pureD] at h; done)

theorem keepK_refl (k : Kd) : keepK B k σ σ := by
  cases k <;> first | rfl | exact fun _ _ => rfl | trivial

theorem mono_dop {fl st : Bool} {o : AO} : MonoT (keepK B (kd o.op)) B (dop P N B fl st o Q) o.d := by
  intro K K' T σ hg h hk
  unfold dop at h ⊢
  cases hgo : o.g with
  | none => rw [hgo] at h; exact mono_core hg h hk
  | some p =>
    obtain ⟨u, w⟩ := p
    rw [hgo] at h
    simp only at h ⊢
    cases hT : gq (T u) w <;> simp only [hT] at h ⊢
    rename_i b
    simp only [br] at h ⊢
    split at h
    · rename_i hb; rw [if_pos hb]; exact mono_core hg h hk
    · rename_i hb; rw [if_neg hb]; exact putK_cases h (hk _ σ (keepK_refl _) hg)

theorem kd_cases {op : Op} (h : kd op = .C ∨ kd op = .A) : (∃ t x v, op = .store t x v) ∨ (∃ f args ts, op = .call { callee := .value f, args, argTypes := ts }) ∨ (∃ args ts, op = .call { callee := .builtin .append, args, argTypes := ts }) ∨ (∃ t, op = .alloc t) ∨ ∃ t x, op = .box t x := by
  cases op
  case call c =>
    obtain ⟨callee, args, argTypes⟩ := c
    cases callee with
    | value f => exact .inr (.inl ⟨f, args, argTypes, rfl⟩)
    | invoke r m => rcases h with h | h <;> (simp only [kd] at h; cases h)
    | builtin b =>
      cases b
      case append => exact .inr (.inr (.inl ⟨args, argTypes, rfl⟩))
      all_goals (rcases h with h | h <;> (simp only [kd] at h; cases h))
  case store t x v => exact .inl ⟨t, x, v, rfl⟩
  case alloc t => exact .inr (.inr (.inr (.inl ⟨t, rfl⟩)))
  case box t x => exact .inr (.inr (.inr (.inr ⟨t, x, rfl⟩)))
  case binOp bop xt x y yt =>
    simp only [kd] at h
    split at h <;> (rcases h with h | h <;> cases h)
  all_goals (rcases h with h | h <;> (simp only [kd] at h; cases h))

theorem set_box_ne {b z : Nat} {cs : List D} (h : b ≠ z) : (σ.set b cs).box z = σ.box z := by
  simp only [St.set]; rw [if_neg (Ne.symm h)]

theorem split_box {s fr s' : St} (hs : St.split σ s fr) {z : Nat} (hz : σ.box z = none ∨ ¬ s.has z) (hap : St.apart s' fr) (hz' : s'.box z = none) : (St.join s' fr).box z = σ.box z := by
  have h3 : σ.box z = (s.box z).or (fr.box z) := by rw [hs.eq]; rfl
  have h4 : s.box z = none := by
    rcases hz with hz | hz
    · rw [hz] at h3
      cases hc : s.box z with
      | none => rfl
      | some c => rw [hc] at h3; simp at h3
    · cases hc : s.box z with
      | none => rfl
      | some c => exact absurd (has_box hc) hz
  rw [h3, h4]; simp [St.join, hz']

/-- It comes to something. -/
theorem ex_core {fl : Bool} {o : AO} (ho : kd o.op = .C ∨ kd o.op = .A) (hg : good B σ) (h : dcore P N B fl true o Q K T σ) : ∀ z, (kd o.op = .C → z ∈ B ∨ σ.box z = none → True) → ∃ v σ', keepK B (kd o.op) σ σ' ∧ (kd o.op = .A → σ'.box z = σ.box z) ∧ good B σ' ∧ K (aput T o.d v) σ' := by
  intro z _
  obtain ⟨dst, op, g⟩ := o
  simp only at ho ⊢
  rcases kd_cases ho with ⟨t, x, v, rfl⟩ | ⟨f, args, ts, rfl⟩ | ⟨args, ts, rfl⟩ | ⟨t, rfl⟩ | ⟨t, x, rfl⟩
  · simp only [dcore, aop] at h
    cases hx : ev T x <;> simp only [hx] at h
    rename_i b off
    obtain ⟨hb, h⟩ := h
    split at h
    · exact ⟨_, _, keepB_set hb, fun hk => (by cases hk), good_set hg (keepB_set hb), (putK_aput.1 h.2).2⟩
    · exact h.elim
  · simp only [dcore] at h
    split at h
    · obtain ⟨s, fr, R, h1, h2, h3, h4, h5⟩ := h
      obtain ⟨⟨d, s', hR, hin, hf⟩, _⟩ := h4 rfl
      have hap : St.apart s' fr := fun b hb => h1.apart b (hin b hb)
      have hk := keepB_join h1 h2 hg hap
      exact ⟨_, _, hk, fun hk => (by cases hk), hk.good hg (fin_join hf (fin_right (by rw [← h1.eq]; exact hg.1))), (putK_aput.1 (h5 (.ret d) s' hR hap hf)).2⟩
    · exact h.elim
  · simp only [dcore, aop] at h
    split at h
    · obtain ⟨v, σ', h1, _, h2, h3⟩ := append_ex hg h z
      exact ⟨v, σ', h1, fun hk => (by cases hk), h2, h3⟩
    · exact h.elim
  · simp only [dcore, aop] at h
    split at h
    · obtain ⟨b, hb, hbz⟩ := fin_fresh hg.1 z
      exact ⟨_, _, keepA_set hb, fun _ => set_box_ne hbz, good_set hg ((keepA_set hb).toB hg), (putK_aput.1 (h b hb)).2⟩
    · exact h.elim
  · simp only [dcore, aop] at h
    split at h
    · obtain ⟨b, hb, hbz⟩ := fin_fresh hg.1 z
      exact ⟨_, _, keepA_set hb, fun _ => set_box_ne hbz, good_set hg ((keepA_set hb).toB hg), (putK_aput.1 (h b hb)).2⟩
    · exact h.elim

/-! #### a new box that comes behind may come ahead -/
theorem set_has {b x : Nat} {cs : List D} : (σ.set b cs).has x ↔ x = b ∨ σ.has x := by
  simp only [St.has, St.set]
  by_cases h : x = b <;> simp [h]

theorem set_comm {a b : Nat} {cs ds : List D} (h : a ≠ b) : (σ.set a cs).set b ds = (σ.set b ds).set a cs := by
  ext x l
  · simp only [St.set]
    by_cases h1 : x = a <;> by_cases h2 : x = b <;> simp_all
  · rfl

theorem setBuf_has {b x s n : Nat} : (σ.setBuf b s n).has x ↔ x = b ∨ σ.has x := by
  simp only [St.has, St.setBuf]
  by_cases h : x = b <;> simp [h]

/-- 'f' behind a new box does what it does ahead of it. -/
def AddT (B : List Nat) (f : Tr) : Prop := ∀ (K : Env → St → Prop) (T : Env) (σ : St) (b : Nat) (z : List D), good B σ → ¬ σ.has b → f (fun T' σ' => ¬ σ'.has b → K T' (σ'.set b z)) T σ → f K T (σ.set b z)

theorem add_append {t t' : TypeId} {x y : D} {dst : Option Nat} {b : Nat} {z : List D} (hb : ¬ σ.has b) (h : appendA P N dst t t' x y (fun T' σ' => ¬ σ'.has b → K T' (σ'.set b z)) T σ) : appendA P N dst t t' x y K T (σ.set b z) := by
  have put : ∀ {v : D} {σ₁ σ₂ : St}, putK N dst v (fun T' σ' => ¬ σ'.has b → K T' (σ'.set b z)) T σ₁ → ¬ σ₁.has b → σ₁.set b z = σ₂ → putK N dst v K T σ₂ := by
    intro v σ₁ σ₂ h h1 h2
    subst h2
    obtain ⟨h3, h4⟩ := putK_aput.1 h
    exact putK_aput.2 ⟨h3, h4 h1⟩
  unfold appendA at h ⊢
  split at h
  · obtain ⟨h0, h⟩ := h
    refine ⟨h0, ?_⟩
    split at h
    · obtain ⟨h1, h2, h3, h4, h5, h⟩ := h
      refine ⟨h1, h2, h3, h4, h5, ?_⟩
      rename_i ow xs ow' ys e e' he he' _ _ _ s by' zz _ _ _
      cases ow with
      | buf a s' =>
        refine ⟨h.1, h.2.1, fun b' hb' => ?_⟩
        have hne : b' ≠ b := fun he => hb' (by subst he; exact .inl (by simp [St.set, St.dropBuf]))
        refine put (h.2.2 b' ?_) ?_ ?_
        · intro hin
          refine hb' ?_
          rcases hin with hin | hin
          · refine .inl ?_; simp only [St.set, St.dropBuf] at hin ⊢; rw [if_neg hne]; exact hin
          · exact .inr hin
        · intro hin
          rcases setBuf_has.1 hin with h6 | h6
          · exact hne h6.symm
          · exact hb (dropBuf_has h6)
        · rfl
      | nil =>
        refine ⟨fun hy => put (h.1 hy) hb rfl, fun hy b' hb' => ?_⟩
        have hne : b' ≠ b := fun he => hb' (set_has.2 (.inl he))
        refine put (h.2 hy b' fun hin => hb' (set_has.2 (.inr hin))) ?_ rfl
        intro hin
        rcases setBuf_has.1 hin with h6 | h6
        · exact hne h6.symm
        · exact hb h6
      | exact =>
        refine ⟨h.1, fun hy => put (h.2.1 hy) hb rfl, fun hy b' hb' => ?_⟩
        have hne : b' ≠ b := fun he => hb' (set_has.2 (.inl he))
        refine put (h.2.2 hy b' fun hin => hb' (set_has.2 (.inr hin))) ?_ rfl
        intro hin
        rcases setBuf_has.1 hin with h6 | h6
        · exact hne h6.symm
        · exact hb h6
      | no => exact h.elim
    · exact h.elim
  · obtain ⟨h1, h2, h3, h4, h5, h6, h7, h8, h⟩ := h
    refine ⟨h1, h2, h3, h4, h5, h6, h7, h8, put h ?_ rfl⟩
    intro hin
    rcases setBuf_has.1 hin with h9 | h9
    · subst h9; exact hb (has_buf h8)
    · exact hb (dropBuf_has h9)
  · exact h.elim

theorem add_core {fl st : Bool} {o : AO} (ho : kd o.op = .C ∨ kd o.op = .A) : AddT B (dcore P N B fl st o Q) := by
  intro K T σ b z hg hb h
  obtain ⟨dst, op, g⟩ := o
  simp only at ho
  rcases kd_cases ho with ⟨t, x, v, rfl⟩ | ⟨f, args, ts, rfl⟩ | ⟨args, ts, rfl⟩ | ⟨t, rfl⟩ | ⟨t, x, rfl⟩
  · simp only [dcore, aop] at h ⊢
    cases hx : ev T x <;> simp only [hx] at h ⊢
    rename_i c off
    obtain ⟨hcB, h⟩ := h
    refine ⟨hcB, ?_⟩
    split at h
    · rename_i cs vs hcs hvs
      have hne : c ≠ b := fun he => hb (by subst he; exact has_box hcs)
      rw [set_box_ne (Ne.symm hne), hcs, hvs]
      refine ⟨h.1, ?_⟩
      obtain ⟨h1, h2⟩ := putK_aput.1 h.2
      refine putK_aput.2 ⟨h1, ?_⟩
      rw [set_comm (Ne.symm hne)]
      exact h2 fun hin => by
        rcases set_has.1 hin with h3 | h3
        · exact hne h3.symm
        · exact hb h3
    · exact h.elim
  · simp only [dcore] at h ⊢
    split at h
    · rename_i gf fi ca hf
      obtain ⟨s, fr, R, h1, h2, h3, h4, h5⟩ := h
      have hsb : ¬ s.has b := fun hin => hb (by rw [h1.eq]; exact (join_has b).2 (.inl hin))
      have hfb : ¬ fr.has b := fun hin => hb (by rw [h1.eq]; exact (join_has b).2 (.inr hin))
      have heq : ∀ s₁ : St, ¬ s₁.has b → (St.join s₁ fr).set b z = St.join s₁ (fr.set b z) := fun s₁ hs₁ => by
        ext x l
        · simp only [St.set, St.join]
          by_cases hx : x = b
          · subst hx
            have : s₁.box x = none := by
              cases hc : s₁.box x with
              | none => rfl
              | some c => exact absurd (has_box hc) hs₁
            simp [this]
          · simp [hx]
        · rfl
      refine ⟨s, fr.set b z, R, ⟨by rw [h1.eq, heq s hsb], fun x hx hin => ?_⟩, h2, h3, h4, fun x s' hR hap hf => ?_⟩
      · rcases set_has.1 hin with h6 | h6
        · subst h6; exact hsb hx
        · exact h1.apart x hx h6
      · have hap' : St.apart s' fr := fun y hy hin => hap y hy (set_has.2 (.inr hin))
        have hs'b : ¬ s'.has b := fun hin => hap b hin (set_has.2 (.inl rfl))
        have := h5 x s' hR hap' hf
        cases x with
        | ret d =>
          obtain ⟨r1, r2⟩ := putK_aput.1 this
          refine putK_aput.2 ⟨r1, ?_⟩
          rw [← heq s' hs'b]
          exact r2 fun hin => by
            rcases (join_has b).1 hin with h6 | h6
            · exact hs'b h6
            · exact hfb h6
        | pan d =>
          obtain ⟨s₁, r1, r2⟩ := this
          refine ⟨s₁, r1.trans ?_, r2⟩
          rw [← heq s' hs'b]
          refine ⟨fun y cs hy => ?_, fun y p hy => hy⟩
          have hne : y ≠ b := fun he => by
            subst he
            rcases (join_has y).1 (has_box hy) with h6 | h6
            · exact hs'b h6
            · exact hfb h6
          rw [set_box_ne (Ne.symm hne)]; exact hy
    · exact h.elim
  · simp only [dcore, aop] at h ⊢
    split at h
    · rename_i x y t t' ha ht
      exact add_append hb h
    · exact h.elim
  · simp only [dcore, aop] at h ⊢
    split at h
    · rename_i zz hz
      intro c hc
      have hne : c ≠ b := fun he => hc (set_has.2 (.inl he))
      have hc' : ¬ σ.has c := fun hin => hc (set_has.2 (.inr hin))
      obtain ⟨h1, h2⟩ := putK_aput.1 (h c hc')
      refine putK_aput.2 ⟨h1, ?_⟩
      rw [set_comm (Ne.symm hne)]
      exact h2 fun hin => by
        rcases set_has.1 hin with h3 | h3
        · exact hne h3.symm
        · exact hb h3
    · exact h.elim
  · simp only [dcore, aop] at h ⊢
    split at h
    · rename_i zz hz
      intro c hc
      have hne : c ≠ b := fun he => hc (set_has.2 (.inl he))
      have hc' : ¬ σ.has c := fun hin => hc (set_has.2 (.inr hin))
      obtain ⟨h1, h2⟩ := putK_aput.1 (h c hc')
      refine putK_aput.2 ⟨h1, ?_⟩
      rw [set_comm (Ne.symm hne)]
      exact h2 fun hin => by
        rcases set_has.1 hin with h3 | h3
        · exact hne h3.symm
        · exact hb h3
    · exact h.elim
end
end Go.AL
namespace Go.AL
set_option linter.unusedVariables false
set_option linter.unusedSimpArgs false

/-- The guard's slot in the place of its operation's number. -/
def stripO (ops : List Oper) (o : Oper) : AO := ⟨o.dst, o.op, match o.guard with | none => none | some (j, w) => some (((ops[j]?).bind (·.dst)).getD 1000000, w)⟩

structure DO where
  o : AO
  fl : Bool
  st : Bool

def apartO (x y : AO) : Bool :=
  (match x.d with | some d => !(looksO y).contains d && y.d != some d | none => true) && (match y.d with | some d => !(looksO x).contains d | none => true)

theorem apartO_spec {x y : AO} (h : apartO x y = true) : ApartT x.d y.d (looksO x) (looksO y) := by
  unfold apartO at h
  simp only [Bool.and_eq_true] at h
  obtain ⟨h1, h2⟩ := h
  refine ⟨fun t ht => ?_, fun t ht => ?_, fun t ht => ?_⟩
  · rw [ht] at h1; simp at h1; exact h1.1
  · rw [ht] at h2; simpa using h2
  · rw [ht] at h1; simp at h1; exact h1.2

/-- May stand in either order, the first one ahead in the text. -/
def swapOk (x y : DO) : Bool := apartO x.o y.o && match kd x.o.op, kd y.o.op with
  | .L, .C => x.fl
  | .C, .F => x.st
  | .C, .L => y.fl && x.st
  | .C, .A => x.st
  | .F, _ | .L, .F | .L, .L | .L, .A | .A, .F | .A, .L | .A, .A => true
  | _, _ => false

section
variable {P : Program} {N : Nat} {T : Env} {σ : St} {K K' : Env → St → Prop} {Q : XA → Env → St → Prop} {B : List Nat}

def dO (P : Program) (N : Nat) (B : List Nat) (Q : XA → Env → St → Prop) (x : DO) : Tr := dop P N B x.fl x.st x.o Q

theorem ex_dop {fl : Bool} {o : AO} (ho : kd o.op = .C ∨ kd o.op = .A) (hg : good B σ) (h : dop P N B fl true o Q K T σ) (z : Nat) : ∃ v σ', keepK B (kd o.op) σ σ' ∧ (kd o.op = .A → σ'.box z = σ.box z) ∧ good B σ' ∧ K (aput T o.d v) σ' := by
  unfold dop at h
  cases hgo : o.g with
  | none => rw [hgo] at h; exact ex_core ho hg h z (fun _ _ => trivial)
  | some p =>
    obtain ⟨u, w⟩ := p
    rw [hgo] at h
    simp only at h
    cases hT : gq (T u) w <;> simp only [hT] at h
    rename_i b
    simp only [br] at h
    split at h
    · exact ex_core ho hg h z (fun _ _ => trivial)
    · exact ⟨_, _, keepK_refl _, fun _ => rfl, hg, (putK_aput.1 h).2⟩

theorem add_dop {fl st : Bool} {o : AO} (ho : kd o.op = .C ∨ kd o.op = .A) : AddT B (dop P N B fl st o Q) := by
  intro K T σ b z hg hb h
  unfold dop at h ⊢
  cases hgo : o.g with
  | none => rw [hgo] at h; exact add_core ho K T σ b z hg hb h
  | some p =>
    obtain ⟨u, w⟩ := p
    rw [hgo] at h
    simp only at h ⊢
    cases hT : gq (T u) w <;> simp only [hT] at h ⊢
    rename_i c
    simp only [br] at h ⊢
    split at h
    · rename_i hb'; rw [if_pos hb']; exact add_core ho K T σ b z hg hb h
    · rename_i hb'; rw [if_neg hb']
      obtain ⟨h1, h2⟩ := putK_aput.1 h
      exact putK_aput.2 ⟨h1, h2 hb⟩

/-- strictness only says more -/
theorem dop_alloc_st {fl st st' : Bool} {o : AO} (ho : kd o.op = .A) (h : dop P N B fl st o Q K T σ) : dop P N B fl st' o Q K T σ := by
  obtain ⟨d, op, g⟩ := o
  simp only at ho
  have key : dcore P N B fl st ⟨d, op, g⟩ Q K T σ = dcore P N B fl st' ⟨d, op, g⟩ Q K T σ := by
    rcases kd_cases (.inr ho) with ⟨t, x, v, rfl⟩ | ⟨f, args, ts, rfl⟩ | ⟨args, ts, rfl⟩ | ⟨t, rfl⟩ | ⟨t, x, rfl⟩ <;> first | rfl | (simp only [kd] at ho; cases ho)
  unfold dop at h ⊢
  rw [← key]; exact h

/-- What a new box comes to. -/
def zOf (P : Program) (op : Op) (T : Env) : Option (List D) :=
  match op with
  | .alloc t => zeroP P t
  | .box t x => cellsD P t (ev T x)
  | _ => none
def allocZ (P : Program) (o : AO) (T : Env) : Option (Option (List D)) :=
  match o.g with
  | none => (zOf P o.op T).map some
  | some (t, want) => match gq (T t) want with
    | some c => if c = true then (zOf P o.op T).map some else some none
    | none => none

theorem alloc_dop {fl st : Bool} {o : AO} (ho : kd o.op = .A) : dop P N B fl st o Q K T σ ↔ match allocZ P o T with
    | none => False
    | some none => putK N o.d (.tup []) K T σ
    | some (some z) => ∀ b, ¬ σ.has b → putK N o.d (.ptr b 0) K T (σ.set b z) := by
  obtain ⟨d, op, g⟩ := o
  simp only at ho
  have key : dcore P N B fl st ⟨d, op, g⟩ Q K T σ ↔ match zOf P op T with
      | none => False
      | some z => ∀ b, ¬ σ.has b → putK N d (.ptr b 0) K T (σ.set b z) := by
    rcases kd_cases (.inr ho) with ⟨t, x, v, rfl⟩ | ⟨f, args, ts, rfl⟩ | ⟨args, ts, rfl⟩ | ⟨t, rfl⟩ | ⟨t, x, rfl⟩ <;> first
      | (simp only [kd] at ho; cases ho; done)
      | skip
    · simp only [dcore, aop, zOf]; cases zeroP P t <;> exact Iff.rfl
    · simp only [dcore, aop, zOf]; cases cellsD P t (ev T x) <;> exact Iff.rfl
  unfold dop allocZ
  cases g with
  | none =>
    simp only
    rw [key]
    generalize zOf P op T = z
    cases z <;> exact Iff.rfl
  | some p =>
    obtain ⟨u, w⟩ := p
    simp only
    cases hT : gq (T u) w <;> try exact Iff.rfl
    rename_i b
    simp only [br]
    by_cases hb : b = true
    · rw [if_pos hb, if_pos hb, key]
      generalize zOf P op T = z
      cases z <;> exact Iff.rfl
    · rw [if_neg hb, if_neg hb]

theorem allocZ_aput {o : AO} {dx : Option Nat} {d : D} (h : notIn dx (looksO o)) (ho : kd o.op = .A) : allocZ P o (aput T dx d) = allocZ P o T := by
  cases dx with
  | none => rfl
  | some t =>
    have ht := h t rfl
    obtain ⟨dd, op, g⟩ := o
    have hop : zOf P op (upd T t d) = zOf P op T := by
      cases op <;> try rfl
      rename_i ty x
      simp only [zOf, ev_upd (tmpsOf_ne (looks_tmps ht) x (by simp [opndsOf, Op.operands]))]
    unfold allocZ
    simp only [aput, hop]
    cases g with
    | none => rfl
    | some p =>
      obtain ⟨u, w⟩ := p
      have hu : upd T t d u = T u := by simp [upd, looks_guard ht rfl]
      simp only [hu]

/-- A box that is made behind may be made ahead. -/
theorem swap_any_alloc {x y : DO} (hap : ApartT x.o.d y.o.d (looksO x.o) (looksO y.o)) (hx : kd x.o.op = .C ∨ kd x.o.op = .A) (hy : kd y.o.op = .A) (hz : ∀ z, keepK B (kd x.o.op) σ z → True) (hg : good B σ)
    (hex : ∃ v σ', good B σ' ∧ dO P N B Q y K (aput T x.o.d v) σ')
    (h : dO P N B Q x (fun T' σ' => good B σ' → dO P N B Q y K T' σ') T σ) : dO P N B Q y (fun T' σ' => good B σ' → dO P N B Q x K T' σ') T σ := by
  obtain ⟨v, σ₁, hg₁, h1⟩ := hex
  unfold dO at h1 ⊢
  rw [alloc_dop hy, allocZ_aput hap.xy hy] at h1
  rw [alloc_dop hy]
  cases hza : allocZ P y.o T with
  | none => rw [hza] at h1; exact h1.elim
  | some oz =>
    rw [hza] at h1
    cases oz with
    | none =>
      have hn := (putK_aput.1 h1).1
      refine putK_aput.2 ⟨hn, fun _ => ?_⟩
      refine (frame_aput frame_dop hap.yx hap.ne').2 (mono_dop _ _ _ _ hg h fun u σ' _ hg' hK => ?_)
      have h3 := hK hg'
      unfold dO at h3
      rw [alloc_dop hy, allocZ_aput hap.xy hy, hza] at h3
      exact (putK_aput.1 h3).2
    | some z =>
      obtain ⟨b₁, hb₁, _⟩ := fin_fresh hg₁.1 0
      have hn := (putK_aput.1 (h1 b₁ hb₁)).1
      intro b hb
      refine putK_aput.2 ⟨hn, fun _ => ?_⟩
      refine (frame_aput frame_dop hap.yx hap.ne').2 ?_
      refine add_dop hx _ _ _ _ _ hg hb (mono_dop _ _ _ _ hg h fun u σ' _ hg' hK hbn => ?_)
      have h3 := hK hg'
      unfold dO at h3
      rw [alloc_dop hy, allocZ_aput hap.xy hy, hza] at h3
      exact (putK_aput.1 (h3 b hbn)).2

theorem ex_C {x : DO} (hk : kd x.o.op = .C) (hst : x.st = true) : ExT (keepK B .C) False B (dO P N B Q x) x.o.d := fun K T σ hg h z => by
  unfold dO at h
  rw [hst] at h
  obtain ⟨v, σ', h1, _, h2, h3⟩ := ex_dop (.inl hk) hg h z
  rw [hk] at h1
  exact ⟨v, σ', h1, fun h => h.elim, h2, h3⟩

theorem ex_A {x : DO} (hk : kd x.o.op = .A) : ExT (keepK B .A) True B (dO P N B Q x) x.o.d := fun K T σ hg h z => by
  unfold dO at h
  obtain ⟨v, σ', h1, h0, h2, h3⟩ := ex_dop (.inr hk) hg (dop_alloc_st (st' := true) hk h) z
  rw [hk] at h1
  exact ⟨v, σ', h1, fun _ => h0 hk, h2, h3⟩

theorem load_hyp {y : DO} (hky : kd y.o.op = .L) : LoadT N (dO P N B Q y) y.o.d (looksO y.o) (whichL y.o) (detL P y.fl B y.o) := load_dop hky

theorem dop_swap {x y : DO} (hok : swapOk x y = true) (hg : good B σ) (h : dO P N B Q x (fun T' σ' => good B σ' → dO P N B Q y K T' σ') T σ) : dO P N B Q y (fun T' σ' => good B σ' → dO P N B Q x K T' σ') T σ := by
  simp only [swapOk, Bool.and_eq_true] at hok
  obtain ⟨ha, hok⟩ := hok
  have hap := apartO_spec ha
  have hm : MonoT (keepK B (kd x.o.op)) B (dO P N B Q x) x.o.d := mono_dop
  cases hkx : kd x.o.op
  case F => exact swap_det_any hap (det_dop hkx) frame_dop mono_dop hg h
  case L =>
    refine swap_load_any hap (load_hyp hkx) frame_dop mono_dop (fun σ' hg' ht hk b hb => ?_) hg h
    -- the box that is read
    have hd : ∃ d, detL P x.fl B x.o T σ = some d := by
      rw [(load_hyp (P := P) (N := N) (B := B) (Q := Q) hkx).1] at ht
      cases hd : detL P x.fl B x.o T σ with
      | none => rw [hd] at ht; exact ht.elim
      | some d => exact ⟨d, rfl⟩
    obtain ⟨d, hd⟩ := hd
    obtain ⟨h1, h2⟩ := which_some hd b hb
    cases hky : kd y.o.op <;> rw [hkx, hky] at hok <;> rw [hky] at hk <;> simp only [keepK] at hk <;> first
      | (cases hok; done)
      | (rw [hk]; done)
      | exact hk b h1
      | exact hk b (h2 hok)
  case C =>
    rw [hkx] at hm
    cases hky : kd y.o.op <;> rw [hkx, hky] at hok <;> try (cases hok; done)
    case F => exact swap_any_det hap frame_dop hm (ex_C hkx hok) (det_dop hky) hg h
    case L =>
      simp only [Bool.and_eq_true] at hok
      refine swap_any_load hap frame_dop hm (ex_C hkx hok.2) (load_hyp hky) (fun σ' d hk _ hd b hb => ?_) (fun σ' d hk hd b hb => ?_) hg h
      · exact hk b ((which_some hd b hb).2 hok.1)
      · exact hk b ((which_some hd b hb).2 hok.1)
    case A =>
      obtain ⟨v, σ', _, _, h2, h3⟩ := ex_C hkx hok _ _ _ hg h 0
      exact swap_any_alloc hap (.inl hkx) hky (fun _ _ => trivial) hg ⟨v, σ', h2, h3 h2⟩ h
  case A =>
    rw [hkx] at hm
    cases hky : kd y.o.op <;> rw [hkx, hky] at hok <;> try (cases hok; done)
    case F => exact swap_any_det hap frame_dop hm (ex_A hkx) (det_dop hky) hg h
    case L =>
      refine swap_any_load hap frame_dop hm (ex_A hkx) (load_hyp hky) (fun σ' d hk hz hd b hb => ?_) (fun σ' d hk hd b hb => hk b (which_some hd b hb).1) hg h
      have := hz trivial
      rw [hb] at this
      exact this
    case A =>
      obtain ⟨v, σ', _, _, h2, h3⟩ := ex_A hkx _ _ _ hg h 0
      exact swap_any_alloc hap (.inr hkx) hky (fun _ _ => trivial) hg ⟨v, σ', h2, h3 h2⟩ h
  case X => rw [hkx] at hok; cases hok
end
end Go.AL
namespace Go.AL
set_option linter.unusedVariables false
set_option linter.unusedSimpArgs false

/-! ### every order -/
def bindE (e : Edge) : Bool := Region.binds .any e

/-- What an operation waits for. -/
def waitsOf (o : Oper) : List Nat := (o.after.toList.filter bindE).map (·.on)

/-- 'A': whom each one waits for, however far: nothing is claimed too much. -/
def ancOk (ops : List Oper) (A : List Nat) : Bool :=
  (List.range ops.length).all fun j => match ops[j]? with
    | some o => (waitsOf o).all (· < j) && (List.range j).all fun i => !(A.getD j 0).testBit i || (waitsOf o).any fun e => e == i || (decide (i < e) && (A.getD e 0).testBit i)
    | none => true

def flagL (ks : List Kd) (A : List Nat) (i : Nat) : Bool :=
  (List.range ks.length).any fun j => ks.getD j .X == .C && ((i < j && !(A.getD j 0).testBit i) || (j < i && !(A.getD i 0).testBit j))
def flagC (ks : List Kd) (A : List Nat) (i : Nat) : Bool := (List.range ks.length).any fun j => i < j && !(A.getD j 0).testBit i

def dos (ops : List Oper) (A : List Nat) : List DO :=
  let ks := ops.map (kd ·.op)
  ops.zipIdx.map fun (o, i) => ⟨stripO ops o, flagL ks A i, flagC ks A i⟩

def pairsOk (l : List DO) (A : List Nat) : Bool :=
  (List.range l.length).all fun j => (List.range j).all fun i => (A.getD j 0).testBit i || match l[i]?, l[j]? with
    | some x, some y => swapOk x y
    | _, _ => true

section
variable {P : Program} {N : Nat} {T : Env} {σ : St} {K K' : Env → St → Prop} {Q : XA → Env → St → Prop} {B : List Nat}

def aopsD (P : Program) (N : Nat) (B : List Nat) : List DO → (XA → Env → St → Prop) → Env → St → Prop
  | [], Q, T, σ => Q .normal T σ
  | x :: rest, Q, T, σ => dO P N B Q x (aopsD P N B rest Q) T σ

def doAt (P : Program) (N : Nat) (B : List Nat) (Q : XA → Env → St → Prop) (l : List DO) (i : Nat) : Tr := match l[i]? with
  | some x => dO P N B Q x
  | none => fun K T σ => K T σ

/-- All that it waits for is done. -/
def rdy (ops : List Oper) (U : List Nat) (i : Nat) : Prop := ∀ o, ops[i]? = some o → ∀ e ∈ waitsOf o, e ∉ U

/-- The boxes that are looked at, as long as one of the first m operations is left. -/
def BU (m : Nat) (B U : List Nat) : List Nat := if U.any (fun i => decide (i < m)) = true then B else []
theorem BU_head {m i : Nat} {B r : List Nat} (h : i < m) : BU m B (i :: r) = B := by simp [BU, h]
theorem BU_mem {m j : Nat} {B r : List Nat} (h : j < m) (hj : j ∈ r) : BU m B r = B := by
  have : r.any (fun i => decide (i < m)) = true := List.any_eq_true.2 ⟨j, hj, by simpa using h⟩
  simp [BU, this]
theorem BU_late {m : Nat} {B r : List Nat} (h : ∀ x ∈ r, m ≤ x) : BU m B r = [] := by
  have : ¬ r.any (fun i => decide (i < m)) = true := fun h' => by
    obtain ⟨x, hx, h2⟩ := List.any_eq_true.1 h'
    have := h x hx
    simp at h2; omega
  simp [BU, this]
theorem good_sub {m : Nat} {B U V : List Nat} (hs : ∀ x ∈ V, x ∈ U) (h : good (BU m B U) σ) : good (BU m B V) σ := by
  by_cases hv : V.any (fun i => decide (i < m)) = true
  · obtain ⟨x, hx, h2⟩ := List.any_eq_true.1 hv
    rw [BU_mem (by simpa using h2) (hs x hx)] at h
    rw [BU_mem (by simpa using h2) hx]; exact h
  · rw [show BU m B V = [] by simp only [BU, if_neg hv]]
    exact ⟨h.1, fun b hb => by cases hb⟩

def aU (P : Program) (N : Nat) (m : Nat) (B : List Nat) (Q : XA → Env → St → Prop) (ops : List Oper) (l : List DO) : Nat → List Nat → Env → St → Prop
  | 0, U, T, σ => good (BU m B U) σ → Q .normal T σ
  | n + 1, U, T, σ => good (BU m B U) σ → ∀ i ∈ U, rdy ops U i → doAt P N (BU m B U) Q l i (aU P N m B Q ops l n (U.erase i)) T σ

/-- The operations from m on wait for all ahead of m. -/
def lateOk (A : List Nat) (m n : Nat) : Bool := (List.range n).all fun j => decide (j < m) || (List.range m).all fun i => (A.getD j 0).testBit i

def Closed (ops : List Oper) (U : List Nat) : Prop := ∀ k, k ∉ U → rdy ops U k

theorem anc_out {ops : List Oper} {A : List Nat} (hA : ancOk ops A = true) {U : List Nat} (hc : Closed ops U) : ∀ j, j < ops.length → (j ∉ U ∨ rdy ops U j) → ∀ i, i < j → (A.getD j 0).testBit i = true → i ∉ U := by
  intro j
  induction j using Nat.strongRecOn with
  | _ j ih =>
    intro hj hr i hi hb
    have hr' : rdy ops U j := hr.elim (hc j) id
    have h1 := List.all_eq_true.1 hA j (List.mem_range.2 hj)
    have ho : ops[j]? = some ops[j] := by simp [hj]
    rw [ho] at h1
    simp only [Bool.and_eq_true] at h1
    have h2 := List.all_eq_true.1 h1.2 i (List.mem_range.2 hi)
    simp only [hb, Bool.not_true, Bool.false_or] at h2
    obtain ⟨e, he, h3⟩ := List.any_eq_true.1 h2
    have heU := hr' _ ho e he
    simp only [Bool.or_eq_true, beq_iff_eq] at h3
    rcases h3 with h3 | h3
    · subst h3; exact heU
    · have hej : e < j := by
        have := List.all_eq_true.1 h1.1 e he
        simpa using this
      simp only [Bool.and_eq_true, decide_eq_true_eq] at h3
      exact ih e hej (by omega) (.inl heU) i h3.1 h3.2

theorem doAt_mono {l : List DO} {i : Nat} (hg : good B σ) (h : doAt P N B Q l i K T σ) (hk : ∀ T' σ', good B σ' → K T' σ' → K' T' σ') : doAt P N B Q l i K' T σ := by
  unfold doAt at h ⊢
  cases hx : l[i]? with
  | some x => rw [hx] at h; exact mono_dop _ _ _ _ hg h fun v σ' _ hg' hK => hk _ _ hg' hK
  | none => rw [hx] at h; exact hk _ _ hg h

theorem delay {ops : List Oper} {A : List Nat} (hA : ancOk ops A = true) {l : List DO} (hl : l.length = ops.length) (hp : pairsOk l A = true) {m : Nat} (hm : lateOk A m ops.length = true) :
    ∀ (n : Nat) (i : Nat) (rest : List Nat) (T : Env) (σ : St), (i :: rest).Pairwise (· < ·) → (∀ j ∈ i :: rest, j < ops.length) → Closed ops (i :: rest) → rdy ops (i :: rest) i → rest.length = n →
      good (BU m B (i :: rest)) σ → doAt P N (BU m B (i :: rest)) Q l i (aU P N m B Q ops l n rest) T σ → aU P N m B Q ops l (n + 1) (i :: rest) T σ := by
  intro n
  induction n with
  | zero =>
    intro i rest T σ hs hlt hc hr hn hg h _ j hj hrj
    have : rest = [] := List.eq_nil_of_length_eq_zero hn
    subst this
    simp at hj; subst hj
    simpa using h
  | succ n ih =>
    intro i rest T σ hs hlt hc hr hn hg h _ j hj hrj
    by_cases hji : j = i
    · subst hji; simpa using h
    · have hjr : j ∈ rest := by simpa [hji] using hj
      have hij : i < j := (List.pairwise_cons.1 hs).1 j hjr
      have hjl := hlt j hj
      have hnot : (A.getD j 0).testBit i = false := by
        cases hb : (A.getD j 0).testBit i with
        | false => rfl
        | true => exact absurd (List.mem_cons_self) (anc_out hA hc j hjl (.inr hrj) i hij hb)
      have hjm : i < m → j < m := fun him => by
        have h1 := List.all_eq_true.1 hm j (List.mem_range.2 hjl)
        simp only [Bool.or_eq_true, decide_eq_true_eq] at h1
        rcases h1 with h1 | h1
        · exact h1
        · have := List.all_eq_true.1 h1 i (List.mem_range.2 him)
          rw [hnot] at this; cases this
      have hrest : BU m B rest = BU m B (i :: rest) ∧ BU m B (i :: rest.erase j) = BU m B (i :: rest) := by
        by_cases him : i < m
        · rw [BU_head him, BU_head him, BU_mem (hjm him) hjr]; exact ⟨rfl, rfl⟩
        · have hlate : ∀ x ∈ rest, m ≤ x := fun x hx => by have := (List.pairwise_cons.1 hs).1 x hx; omega
          rw [BU_late hlate, BU_late (fun x hx => by
            simp only [List.mem_cons] at hx
            rcases hx with rfl | hx
            · omega
            · exact hlate x hx), BU_late (fun x hx => by
            simp only [List.mem_cons] at hx
            rcases hx with rfl | hx
            · omega
            · exact hlate x (List.mem_of_mem_erase hx))]
          exact ⟨rfl, rfl⟩
      have hil : i < l.length := by omega
      have hjl' : j < l.length := by omega
      have hok : swapOk l[i] l[j] = true := by
        have h1 := List.all_eq_true.1 hp j (List.mem_range.2 hjl')
        have h2 := List.all_eq_true.1 h1 i (List.mem_range.2 hij)
        rw [hnot] at h2
        simpa [hil, hjl'] using h2
      have hrj' : rdy ops rest j := fun o ho e he hin => hrj o ho e he (List.mem_cons_of_mem _ hin)
      have herase : (i :: rest).erase j = i :: rest.erase j := by
        rw [List.erase_cons_tail]
        simpa using fun h => hji h.symm
      rw [herase]
      generalize hBB : BU m B (i :: rest) = BB at *
      -- i, then j
      have h1 : dO P N BB Q l[i] (fun T' σ' => good BB σ' → dO P N BB Q l[j] (aU P N m B Q ops l n (rest.erase j)) T' σ') T σ := by
        have : doAt P N BB Q l i = dO P N BB Q l[i] := by simp [doAt, hil]
        rw [this] at h
        refine mono_dop _ _ _ _ hg h fun v σ' _ hg' hK hg'' => ?_
        have := hK (by rw [hrest.1]; exact hg') j hjr hrj'
        rw [hrest.1] at this
        simpa [doAt, hjl'] using this
      have h2 := dop_swap hok hg h1
      have h3 : doAt P N BB Q l j (fun T' σ' => good BB σ' → dO P N BB Q l[i] (aU P N m B Q ops l n (rest.erase j)) T' σ') T σ := by
        simpa [doAt, hjl'] using h2
      refine doAt_mono hg h3 fun T' σ' hg' hK => ?_
      have hsub : ∀ x ∈ rest.erase j, x ∈ rest := fun x hx => List.mem_of_mem_erase hx
      refine ih i (rest.erase j) T' σ' ?_ ?_ ?_ ?_ ?_ (by rw [hrest.2]; exact hg') ?_
      · exact List.pairwise_cons.2 ⟨fun x hx => (List.pairwise_cons.1 hs).1 x (hsub x hx), (List.pairwise_cons.1 hs).2.sublist List.erase_sublist⟩
      · intro x hx
        simp only [List.mem_cons] at hx
        rcases hx with rfl | hx
        · exact hlt _ List.mem_cons_self
        · exact hlt x (List.mem_cons_of_mem _ (hsub x hx))
      · intro k hk o ho e he hin
        have hin' : e ∈ i :: rest := by
          simp only [List.mem_cons] at hin ⊢
          exact hin.imp id (hsub e)
        by_cases hkj : k = j
        · subst hkj; exact hrj o ho e he hin'
        · refine hc k (fun hk' => hk ?_) o ho e he hin'
          simp only [List.mem_cons] at hk' ⊢
          exact hk'.imp id fun h => (List.mem_erase_of_ne hkj).2 h
      · exact fun o ho e he hin => hr o ho e he (by
          simp only [List.mem_cons] at hin ⊢
          exact hin.imp id (hsub e))
      · rw [List.length_erase_of_mem hjr]; omega
      · rw [hrest.2]; simpa [doAt, hil] using hK hg'

/-- The list walked in its order, the boxes looked at among the first m. -/
def aopsX (P : Program) (N : Nat) (B : List Nat) (m : Nat) : Nat → List DO → (XA → Env → St → Prop) → Env → St → Prop
  | _, [], Q, T, σ => Q .normal T σ
  | k, x :: rest, Q, T, σ => dO P N (if k < m then B else []) Q x (aopsX P N B m (k + 1) rest Q) T σ

theorem aU_of {ops : List Oper} {A : List Nat} (hA : ancOk ops A = true) {l : List DO} (hl : l.length = ops.length) (hp : pairsOk l A = true) {m : Nat} (hm : lateOk A m ops.length = true) : ∀ (n k : Nat) (T : Env) (σ : St), k + n = ops.length →
    aopsX P N B m k (l.drop k) Q T σ → aU P N m B Q ops l n (List.range' k n) T σ
  | 0, k, T, σ, hk, h => fun _ => by
    have : l.drop k = [] := List.drop_eq_nil_of_le (by omega)
    rw [this] at h
    exact h
  | n + 1, k, T, σ, hk, h => fun hg => by
    have hkl : k < l.length := by omega
    rw [List.drop_eq_getElem_cons hkl] at h
    have hbu : BU m B (List.range' k (n + 1)) = if k < m then B else [] := by
      by_cases hkm : k < m
      · rw [if_pos hkm, List.range'_succ, BU_head hkm]
      · rw [if_neg hkm]; exact BU_late fun x hx => by rw [List.mem_range'_1] at hx; omega
    have h1 : doAt P N (BU m B (List.range' k (n + 1))) Q l k (aU P N m B Q ops l n (List.range' (k + 1) n)) T σ := by
      have : doAt P N (BU m B (List.range' k (n + 1))) Q l k = dO P N (BU m B (List.range' k (n + 1))) Q l[k] := by simp [doAt, hkl]
      rw [this, hbu]
      rw [hbu] at hg
      exact mono_dop _ _ _ _ hg h fun v σ' _ hg' hK => aU_of hA hl hp hm n (k + 1) _ _ (by omega) hK
    have hw : ∀ j o, ops[j]? = some o → ∀ e ∈ waitsOf o, e < j := fun j o ho e he => by
      have hj : j < ops.length := (List.getElem?_eq_some_iff.1 ho).1
      have h1 := List.all_eq_true.1 hA j (List.mem_range.2 hj)
      rw [ho] at h1
      simp only [Bool.and_eq_true] at h1
      simpa using List.all_eq_true.1 h1.1 e he
    have hmem : ∀ x, x ∈ k :: List.range' (k + 1) n ↔ k ≤ x ∧ x < k + n + 1 := fun x => by
      rw [← List.range'_succ, List.mem_range'_1]; omega
    rw [List.range'_succ] at h1 hg
    have := delay (P := P) (N := N) (B := B) (Q := Q) hA hl hp hm n k (List.range' (k + 1) n) T σ ?_ ?_ ?_ ?_ (by simp) hg h1
    · rw [List.range'_succ]; exact this hg
    · rw [← List.range'_succ]; exact List.pairwise_lt_range'
    · intro j hj; have := (hmem j).1 hj; omega
    · intro j hj o ho e he hin
      have h2 := hw j o ho e he
      have h3 := (hmem e).1 hin
      have hjl : j < ops.length := (List.getElem?_eq_some_iff.1 ho).1
      exact hj ((hmem j).2 (by omega))
    · intro o ho e he hin
      have h2 := hw k o ho e he
      have h3 := (hmem e).1 hin
      omega

/-- Only the way of panics is looked at. -/
theorem dO_q {Q' : XA → Env → St → Prop} (hq : ∀ d, Q' (.panic d) = Q (.panic d)) (x : DO) : dO P N B Q' x K T σ = dO P N B Q x K T σ := by
  have hp : ∀ d s, panK Q' d s = panK Q d s := fun d s => by simp only [panK, hq]
  have core : dcore P N B x.fl x.st x.o Q' K T σ = dcore P N B x.fl x.st x.o Q K T σ := by
    obtain ⟨⟨d, op, g⟩, fl, st⟩ := x
    cases op <;> try rfl
    case panic y => simp only [dcore, aop, hp]
    case call c =>
      obtain ⟨callee, args, ts⟩ := c
      cases callee with
      | value f => simp only [dcore, callB, hp]
      | invoke r m => rfl
      | builtin b => cases b <;> rfl
  unfold dO dop
  rw [core]

theorem aopsX_late {m : Nat} : ∀ (l : List DO) (k : Nat) (T : Env) (σ : St), good [] σ → m ≤ k → aopsD P N [] l Q T σ → aopsX P N B m k l Q T σ
  | [], k, T, σ, hg, hk, h => h
  | x :: l, k, T, σ, hg, hk, h => by
    simp only [aopsX, if_neg (show ¬ k < m by omega)]
    simp only [aopsD] at h
    exact mono_dop _ _ _ _ hg h fun v σ' _ hg' hK => aopsX_late l (k + 1) _ _ hg' (by omega) hK
theorem good_any {m : Nat} {U : List Nat} (h : good B σ) : good (BU m B U) σ := by
  unfold BU; split
  · exact h
  · exact ⟨h.1, fun b hb => by cases hb⟩
theorem aopsX_of {m : Nat} : ∀ (l : List DO) (k : Nat) (T : Env) (σ : St), good B σ → k ≤ m → m - k ≤ l.length → aopsD P N B (l.take (m - k)) (thenA (aopsD P N [] (l.drop (m - k)) Q) Q) T σ → aopsX P N B m k l Q T σ
  | l, k, T, σ, hg, hk, hl, h => by
    by_cases hkm : k = m
    · subst hkm
      simp only [Nat.sub_self, List.take_zero, List.drop_zero, aopsD, thenA] at h
      exact aopsX_late l k T σ ⟨hg.1, fun b hb => by cases hb⟩ (Nat.le_refl _) h
    · cases l with
      | nil => simp at hl; omega
      | cons x l =>
        obtain ⟨d, hd⟩ : ∃ d, m - k = d + 1 := ⟨m - k - 1, by omega⟩
        rw [hd] at h hl
        simp only [List.take_succ_cons, List.drop_succ_cons, aopsD] at h
        rw [dO_q (Q := Q) (Q' := thenA (aopsD P N [] (l.drop d) Q) Q) (fun d => rfl)] at h
        simp only [aopsX, if_pos (show k < m by omega)]
        refine mono_dop _ _ _ _ hg h fun v σ' _ hg' hK => ?_
        exact aopsX_of l (k + 1) _ _ hg' (by omega) (by simp at hl; omega) (by rw [show m - (k + 1) = d by omega]; exact hK)

theorem stripO_sound {ops : Array Oper} {o : Oper} {M : MMap} {a : Act} {w : World} (hN : N ≤ 1000000) (x : DO) (hx : x.o = stripO ops.toList o) (h : dO P N B Q x K T σ) (hi : AInv N M T σ a w) {M₀ : MMap} {σ₀ : St} {w₀ : World}
    (hd : ∀ b, M₀ b ≠ none → b < w₀.heap.size) (hk : KeepF M₀ σ₀ w₀ M σ w) {next : Act → World → Prop}
    (hnext : ∀ {M' T' σ' a' w'}, AInv N M' T' σ' a' w' → KeepF M₀ σ₀ w₀ M' σ' w' → K T' σ' → next a' w') :
    if Region.wanted o (yielded ops a.tmps) then o.wp P a w next (Post N M₀ σ₀ w₀ Q) else next (a.put o.dst undef) w := by
  unfold dO dop at h
  have run : dcore P N B x.fl x.st x.o Q K T σ → o.wp P a w next (Post N M₀ σ₀ w₀ Q) := fun hc => by
    have ha := dcore_aop hc
    rw [hx] at ha
    have := aop_sound (o := o) ha hi
    have h1 : o.wp P a w next (Post N M σ w Q) := Oper.wp_mono (fun a' w' ⟨M', T', σ', h1, h2, h3⟩ => hnext h1 (hk.trans hd h2) h3) this
    exact wp_exits h1 fun e a' w' hp => hp.trans hd hk
  have skip : putK N x.o.d (.tup []) K T σ → next (a.put o.dst undef) w := fun hp => by
    have hdst : x.o.d = o.dst := by rw [hx]; rfl
    rw [hdst] at hp
    obtain ⟨M', T', σ', h1, h2, h3⟩ := putK_sound (M := M) (σ := σ) (w := w) (v := undef) hp hi (KeepF.refl _ _ _) ⟨#[], rfl, rfl⟩
    exact hnext h1 (hk.trans hd h2) h3
  have hg : x.o.g = (stripO ops.toList o).g := by rw [hx]
  cases hgd : o.guard with
  | none =>
    have h0 : x.o.g = none := by rw [hg]; simp [stripO, hgd]
    rw [h0] at h
    have hw : Region.wanted o (yielded ops a.tmps) = true := by simp [Region.wanted, hgd]
    rw [hw]
    simp only [if_true]
    exact run h
  | some p =>
    obtain ⟨j, want⟩ := p
    have h0 : x.o.g = some (((ops.toList[j]?).bind (·.dst)).getD 1000000, want) := by rw [hg]; simp [stripO, hgd]
    rw [h0] at h
    simp only at h
    have hga : ∀ c, gq (T (((ops.toList[j]?).bind (·.dst)).getD 1000000)) want = some c → Region.wanted o (yielded ops a.tmps) = c := fun c hc => by
      cases hdst : (ops.toList[j]?).bind (·.dst) with
      | none =>
        rw [hdst] at hc
        have hy : yielded ops a.tmps j = none := by
          have : (ops[j]?).bind (·.dst) = none := by simpa using hdst
          unfold yielded
          simp only [this, Option.bind_none]
        have hno : T 1000000 = .any ∨ ∃ ds, T 1000000 = .tup ds ∨ ∃ b, T 1000000 = .bool b ∨ gq (T 1000000) want = none := by
          cases hT : T 1000000 <;> simp_all [gq]
        have hr := hi.env 1000000
        have hout : a.tmps.getD 1000000 undef = undef := by
          have h9 : a.tmps.size ≤ 1000000 := by rw [hi.size]; exact hN
          simp [Array.getD_eq_getD_getElem?, Array.getElem?_eq_none h9]
        rw [hout] at hr
        simp only [Option.getD_none] at hc
        have hcf : c = false := by
          cases hT : T 1000000 <;> rw [hT] at hc hr <;> simp only [gq, reduceCtorEq, Option.some.injEq] at hc
          · simp only [Rep, undef, reduceCtorEq] at hr
          · exact hc.symm
        simp only [Region.wanted, hgd, hy, hcf]
        rfl
      | some t =>
        rw [hdst] at hc
        refine guardA_sound (T := T) (N := N) (M := M) (σ := σ) (a := a) (w := w) ?_ hi
        unfold guardA
        rw [hgd]
        simp only [hdst]
        exact hc
    cases hT : gq (T (((ops.toList[j]?).bind (·.dst)).getD 1000000)) want <;> rw [hT] at h <;> simp only at h
    rename_i b
    rw [hga b hT]
    cases b
    · rw [br_false] at h
      simp only [Bool.false_eq_true, if_false]
      exact skip h
    · rw [br_true] at h
      simp only [if_true]
      exact run h

/-- The lists that are left, and the marks of those that have been done. -/
def Marks (n : Nat) (listed : Array Bool) (U : List Nat) : Prop := listed.size = n ∧ ∀ j, j < n → (listed.getD j true = false ↔ j ∈ U)

theorem aU_sound {ops : Array Oper} {l : List DO} {m : Nat} (hN : N ≤ 1000000) (hl : ∀ (i : Nat) (o : Oper), ops[i]? = some o → ∃ x, l[i]? = some x ∧ x.o = stripO ops.toList o) (hw : ∀ (j : Nat) (o : Oper), ops[j]? = some o → ∀ e ∈ waitsOf o, e < j) {M₀ : MMap} {σ₀ : St} {w₀ : World}
    (hd : ∀ b, M₀ b ≠ none → b < w₀.heap.size) : ∀ (n : Nat) (U : List Nat) (listed : Array Bool) {M : MMap} {T : Env} {σ : St} {a : Act} {w : World}, aU P N m B Q ops.toList l n U T σ → U.length = n → U.Nodup → (∀ j ∈ U, j < ops.size) → Marks ops.size listed U →
      AInv N M T σ a w → KeepF M₀ σ₀ w₀ M σ w → good (BU m B U) σ → wpAny P .any ops (Post N M₀ σ₀ w₀ Q) n listed a w := by
  have rdyU : ∀ {U : List Nat} {listed : Array Bool} {i : Nat}, Marks ops.size listed U → (∀ j ∈ U, j < ops.size) → (i ∈ Region.ready .any ops listed ↔ i ∈ U ∧ rdy ops.toList U i) := by
    intro U listed i hm hU
    rw [mem_ready]
    constructor
    · rintro ⟨h1, o, ho, h2⟩
      have hi : i < ops.size := (Array.getElem?_eq_some_iff.1 ho).1
      refine ⟨(hm.2 i hi).1 h1, fun o' ho' e he hin => ?_⟩
      have : o' = o := by
        have : ops.toList[i]? = some o := by simpa using ho
        rw [this] at ho'; exact (Option.some.inj ho').symm
      subst this
      simp only [waitsOf, List.mem_map, List.mem_filter] at he
      obtain ⟨ed, ⟨hed, hb⟩, rfl⟩ := he
      have h3 := h2 ed (by simpa using hed) hb
      have h4 := (hm.2 ed.on (hU _ hin)).2 hin
      have hlt : ed.on < listed.size := by rw [hm.1]; exact hU _ hin
      simp [hlt] at h3 h4
      rw [h3] at h4; cases h4
    · rintro ⟨h1, h2⟩
      have hi := hU i h1
      have ho : ops[i]? = some ops[i] := by simp [hi]
      refine ⟨(hm.2 i hi).2 h1, ops[i], ho, fun ed hed hb => ?_⟩
      have hon : ed.on ∈ waitsOf ops[i] := by
        simp only [waitsOf, List.mem_map, List.mem_filter]
        exact ⟨ed, ⟨by simpa using hed, hb⟩, rfl⟩
      have hlt : ed.on < ops.size := by have := hw i _ ho _ hon; omega
      have hnU := h2 ops[i] (by simp [hi]) ed.on hon
      have h3 : ¬ (listed.getD ed.on true = false) := fun h => hnU ((hm.2 ed.on hlt).1 h)
      have hlt' : ed.on < listed.size := by rw [hm.1]; exact hlt
      simp [hlt'] at h3 ⊢
      exact h3
  intro n
  induction n with
  | zero =>
    intro U listed M T σ a w h hlen hnd hU hm hi hk hg
    have : U = [] := List.eq_nil_of_length_eq_zero hlen
    subst this
    refine ⟨?_, M, T, σ, .normal, rfl, hi, hk, h hg⟩
    apply List.eq_nil_iff_forall_not_mem.2
    intro i hin
    have := ((rdyU hm hU).1 hin).1
    cases this
  | succ n ih =>
    intro U listed M T σ a w h hlen hnd hU hm hi hk hg
    refine ⟨fun hemp => ?_, fun i hin => ?_⟩
    · -- the first one that is left is ready
      exfalso
      have hex : ∃ i, i ∈ U ∧ ∀ j ∈ U, i ≤ j := by
        have hne : U ≠ [] := by intro h0; rw [h0] at hlen; simp at hlen
        have key : ∀ (V : List Nat), V ≠ [] → ∃ i, i ∈ V ∧ ∀ j ∈ V, i ≤ j := by
          intro V
          induction V with
          | nil => intro h; exact absurd rfl h
          | cons v V ihV =>
            intro _
            by_cases hV : V = []
            · subst hV; exact ⟨v, by simp, by simp⟩
            · obtain ⟨i, h1, h2⟩ := ihV hV
              by_cases hvi : v ≤ i
              · refine ⟨v, by simp, fun j hj => ?_⟩
                simp only [List.mem_cons] at hj
                rcases hj with rfl | hj
                · exact Nat.le_refl _
                · exact Nat.le_trans hvi (h2 j hj)
              · refine ⟨i, by simp [h1], fun j hj => ?_⟩
                simp only [List.mem_cons] at hj
                rcases hj with rfl | hj
                · omega
                · exact h2 j hj
        exact key U hne
      obtain ⟨i, h1, h2⟩ := hex
      have : i ∈ Region.ready .any ops listed := (rdyU hm hU).2 ⟨h1, fun o ho e he hin => by
        have h3 := hw i o (by simpa using ho) e he
        have h4 := h2 e hin
        omega⟩
      rw [hemp] at this; cases this
    · obtain ⟨hiU, hri⟩ := (rdyU hm hU).1 hin
      have hil := hU i hiU
      have ho : ops[i]? = some ops[i] := by simp [hil]
      obtain ⟨x, hx, hxo⟩ := hl i _ ho
      have h1 := h hg i hiU hri
      have h2 := doAt_mono (K' := fun T' σ' => good (BU m B (U.erase i)) σ' ∧ aU P N m B Q ops.toList l n (U.erase i) T' σ') hg h1 fun T' σ' hg' hK => ⟨good_sub (fun x hx => List.mem_of_mem_erase hx) hg', hK⟩
      simp only [doAt, hx] at h2
      unfold wpOp
      rw [ho]
      simp only
      have := stripO_sound hN x hxo h2 hi hd hk (next := wpAny P .any ops (Post N M₀ σ₀ w₀ Q) n (listed.setIfInBounds i true)) fun {M' T' σ' a' w'} hi' hk' hK => ?_
      · split
        · rename_i hwn; rw [if_pos hwn] at this; exact .inl this
        · rename_i hwn; rw [if_neg hwn] at this; exact this
      · refine ih (U.erase i) _ hK.2 (by rw [List.length_erase_of_mem hiU]; omega) (hnd.erase i) (fun j hj => hU j (List.mem_of_mem_erase hj)) ⟨by simp [hm.1], fun j hj => ?_⟩ hi' hk' hK.1
        by_cases hji : i = j
        · subst hji
          have hlt : i < listed.size := by rw [hm.1]; exact hil
          simp only [hnd.mem_erase_iff, ne_eq, not_true_eq_false, false_and, iff_false]
          simp [hlt]
        · rw [getD_set_ne true hji, hm.2 j hj, hnd.mem_erase_iff]
          exact ⟨fun h => ⟨Ne.symm hji, h⟩, fun h => h.2⟩

/-- A region that draws its order, walked in the order of the text. -/
theorem awp_draw {id : Nat} {ops : Array Oper} {A : List Nat} {m : Nat} (hm : P.follows .mixedOrders = true) (hN : N ≤ 1000000) (hA : ancOk ops.toList A = true) (hp : pairsOk (dos ops.toList A) A = true) (hl : lateOk A m ops.toList.length = true) (hml : m ≤ ops.toList.length) (hB : ∀ b ∈ B, σ.box b ≠ none)
    (h : aopsD P N B ((dos ops.toList A).take m) (thenA (aopsD P N [] ((dos ops.toList A).drop m) Q) Q) T σ) : awp P N (.region id ops true) Q T σ := by
  intro M a w hi
  refine wp_region_any hm ?_
  obtain ⟨hi1, hk1⟩ := drew_inv hi.inv
  have hg : good B σ := ⟨⟨w.heap.size, fun b hb hin => by have := hi.inv.dom b (hi.inv.lt hin); omega⟩, hB⟩
  have hlen : (dos ops.toList A).length = ops.toList.length := by simp [dos]
  have hU := aU_of (P := P) (N := N) (B := B) (Q := Q) hA hlen hp hl ops.toList.length 0 T σ (by omega) (aopsX_of (dos ops.toList A) 0 T σ hg (Nat.zero_le _) (by omega) h)
  have hw : ∀ (j : Nat) (o : Oper), ops[j]? = some o → ∀ e ∈ waitsOf o, e < j := fun j o ho e he => by
    have hj : j < ops.toList.length := by simpa using (Array.getElem?_eq_some_iff.1 ho).1
    have h1 := List.all_eq_true.1 hA j (List.mem_range.2 hj)
    have ho' : ops.toList[j]? = some o := by simpa using ho
    rw [ho'] at h1
    simp only [Bool.and_eq_true] at h1
    simpa using List.all_eq_true.1 h1.1 e he
  have hlen' : ops.toList.length = ops.size := by simp
  rw [hlen'] at hU
  refine aU_sound hN (fun i o ho => ?_) hw hi.inv.dom ops.size (List.range' 0 ops.size) (Array.replicate ops.size false) hU (by simp) List.nodup_range' (fun j hj => by
    rw [List.mem_range'_1] at hj; omega) ⟨by simp, fun j hj => by simp [hj, List.mem_range'_1]⟩ (hi.keep hk1.toKeep hi1) hk1 (good_any hg)
  have ho' : ops.toList[i]? = some o := by simpa using ho
  exact ⟨⟨stripO ops.toList o, flagL (ops.toList.map (kd ·.op)) A i, flagC (ops.toList.map (kd ·.op)) A i⟩, by simp [dos, List.getElem?_zipIdx, ho'], rfl⟩
end
end Go.AL
