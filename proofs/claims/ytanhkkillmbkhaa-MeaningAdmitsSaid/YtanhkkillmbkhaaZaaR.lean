import Derived.Test.YtanhkkillmbkhaaZaaQ
namespace Go.AL
set_option linter.unusedVariables false
set_option linter.unusedSimpArgs false

section
variable {P : Program} {N : Nat} {M : MMap} {T : Env} {σ : St} {a : Act} {w : World}

theorem map_some_pair {α : Type} {o : Option α} {p : Prop} {side : Prop} {d : α} (h : o.map (fun d => (p, d)) = some (side, d)) : o = some d ∧ side = p := by
  cases o <;> simp at h
  exact ⟨by rw [h.2], propext h.1.symm⟩

theorem repAll_ops (hi : AInv N M T σ a w) (l : List Operand) : RepAll M w (l.map (ev T)) (l.map a.eval) :=
  RepAll.map _ _ _ fun x _ => ev_rep hi x

theorem cD_zero {t : TypeId} {z : List D} (h : zeroP P t = some z) (M : MMap) (w : World) : ∃ v, (zeroValue t).run P w = .ok v w ∧ z = v.cells.toList.map cD ∧ RepAll M w z v.cells.toList ∧ ∀ u ∈ v.cells.toList, u.oneCell' = true := by
  simp only [zeroP, Option.bind_eq_some_iff] at h
  obtain ⟨i, hi, v, hv, h⟩ := h
  split at h
  · rename_i hall
    cases h
    refine ⟨v, by simp [zeroValue, typeInfo, hi, hv], rfl, ?_, fun u hu => List.all_eq_true.1 hall u hu⟩
    refine (RepAll.iff _ _).2 ⟨by simp, fun j d u hd hu => ?_⟩
    simp only [List.getElem?_map, Option.map_eq_some_iff] at hd
    obtain ⟨u', hu', rfl⟩ := hd
    rw [hu] at hu'; cases hu'
    exact cD_rep _ _ _
  · cases h

theorem slice_sound {t e : TypeId} {n : Nat} (he : sliP P t = some e) (hn : szP P e = some n) {o : Own} {es : List (List D)} {u : Value} (hx : Rep M w (.slice o es) u) {l h : Int}
    (h0 : 0 ≤ l) (h1 : l ≤ h) (h2 : h ≤ es.length) (hrow : ∀ e ∈ es, e.length = n) (lo hi : Option Value)
    (hlo : (lo = none ∧ l = 0) ∨ ∃ k, lo = some (.int k l)) (hhi : (hi = none ∧ h = es.length) ∨ ∃ k, hi = some (.int k h)) :
    ∃ v, (Instr.sliceAt t u lo hi none).run P w = .ok v w ∧ Rep M w (.slice .no ((es.take h.toNat).drop l.toNat)) v := by
  have hund := und_of_sli he
  obtain ⟨a, len, cap, rfl, hlen, hcap, hrep⟩ : ∃ a len cap, u = .slice a len cap ∧ len = es.length ∧ len ≤ cap ∧ ((a = none ∧ es = [] ∧ cap = 0) ∨ (∃ b off size, a = some ⟨b, off, none⟩ ∧ RepRows M w es b off size) ∨ ∃ a', a = some a' ∧ es = []) := by
    rcases rows_of_slice hx with ⟨rfl, rfl⟩ | ⟨b, off, cap, size, rfl, hl, hr⟩ | ⟨a', cap, rfl, rfl⟩
    · exact ⟨none, 0, 0, rfl, rfl, Nat.le_refl _, .inl ⟨rfl, rfl, rfl⟩⟩
    · exact ⟨_, _, cap, rfl, rfl, hl, .inr (.inl ⟨b, off, size, rfl, hr⟩)⟩
    · exact ⟨_, 0, cap, rfl, rfl, Nat.zero_le _, .inr (.inr ⟨a', rfl, rfl⟩)⟩
  have hb : (Instr.sliceBounds true len cap lo hi none).run P w = .ok (l.toNat, h.toNat, cap) w := by
    rcases hlo with ⟨rfl, rfl⟩ | ⟨k, rfl⟩ <;> rcases hhi with ⟨rfl, rfl⟩ | ⟨k', rfl⟩
    · simp [Instr.sliceBounds, hlen]
    · simp [Instr.sliceBounds, Instr.sliceBound, asIntOf, show 0 ≤ h ∧ h ≤ (cap : Int) by omega]
    · simp [Instr.sliceBounds, Instr.sliceBound, asIntOf, hlen, show 0 ≤ l ∧ l ≤ (es.length : Int) by omega]
    · have hm : ((h.toNat : Nat) : Int) = h := by omega
      simp [Instr.sliceBounds, Instr.sliceBound, asIntOf, show 0 ≤ h ∧ h ≤ (cap : Int) by omega, show 0 ≤ l ∧ l ≤ max h 0 by omega]
  have hrun : (Instr.sliceAt t (.slice a len cap) lo hi none).run P w = .ok (.slice (if cap = l.toNat then a else a.map (·.add (l.toNat * n))) (h.toNat - l.toNat) (cap - l.toNat)) w := by
    simp [Instr.sliceAt, Instr.slice, run_underlying hund, hb, run_sizeOf hn]
  refine ⟨_, hrun, ?_⟩
  have hlen' : ((es.take h.toNat).drop l.toNat).length = h.toNat - l.toNat := by simp; omega
  rcases hrep with ⟨rfl, rfl, rfl⟩ | ⟨b, off, size, rfl, hr⟩ | ⟨a', rfl, rfl⟩
  · left
    simp at h2
    have : h.toNat = 0 := by omega
    have : l.toNat = 0 := by omega
    simp_all
    omega
  · right; left
    have hrows : ∀ {x : Nat}, x = off + l.toNat * n → RepRows M w ((es.take h.toNat).drop l.toNat) b x size := by
      intro x hx
      by_cases hemp : es = []
      · subst hemp; simp [RepRows]
      · obtain ⟨e0, he0⟩ : ∃ e0, e0 ∈ es := by cases es with | nil => exact absurd rfl hemp | cons a l => exact ⟨a, by simp⟩
        obtain ⟨i, hi'⟩ := List.getElem?_of_mem he0
        have hs : size = n := (hr.get hi').1.symm.trans (hrow e0 he0)
        subst hs; subst hx
        exact (hr.take _).drop _
    by_cases hc : cap = l.toNat
    · refine ⟨b, off, cap - l.toNat, size, by rw [if_pos hc, hlen'], by rw [hlen']; omega, ?_⟩
      have : (es.take h.toNat).drop l.toNat = [] := by apply List.eq_nil_of_length_eq_zero; rw [hlen']; omega
      rw [this]; trivial
    · refine ⟨b, off + l.toNat * n, cap - l.toNat, size, ?_, by rw [hlen']; omega, hrows rfl⟩
      have hadd : Addr.add ⟨b, off, none⟩ (l.toNat * n) = ⟨b, off + l.toNat * n, none⟩ := by unfold Addr.add; split <;> simp_all
      rw [if_neg hc, hlen']; simp [hadd]
  · right; right
    simp at h2
    have e1 : h.toNat = 0 := by omega
    have e2 : l.toNat = 0 := by omega
    by_cases hc : cap = l.toNat
    · exact ⟨a', cap - l.toNat, by rw [if_pos hc]; simp [e1], by simp⟩
    · exact ⟨a'.add (l.toNat * n), cap - l.toNat, by rw [if_neg hc]; simp [e1], by simp⟩

theorem sliceStr_sound {t : TypeId} (he : strP P t = true) {s : ByteArray} {l h : Int}
    (h0 : 0 ≤ l) (h1 : l ≤ h) (h2 : h ≤ s.size) (lo hi : Option Value)
    (hlo : (lo = none ∧ l = 0) ∨ ∃ k, lo = some (.int k l)) (hhi : (hi = none ∧ h = s.size) ∨ ∃ k, hi = some (.int k h)) :
    (Instr.sliceAt t (.string s) lo hi none).run P w = .ok (.string (s.extract l.toNat h.toNat)) w := by
  have hund := und_of_str he
  have hb : (Instr.sliceBounds false s.size s.size lo hi none).run P w = .ok (l.toNat, h.toNat, s.size) w := by
    rcases hlo with ⟨rfl, rfl⟩ | ⟨k, rfl⟩ <;> rcases hhi with ⟨rfl, rfl⟩ | ⟨k', rfl⟩
    · simp [Instr.sliceBounds]
    · simp [Instr.sliceBounds, Instr.sliceBound, asIntOf, show 0 ≤ h ∧ h ≤ (s.size : Int) by omega]
    · simp [Instr.sliceBounds, Instr.sliceBound, asIntOf, show 0 ≤ l ∧ l ≤ (s.size : Int) by omega]
    · simp [Instr.sliceBounds, Instr.sliceBound, asIntOf, show 0 ≤ h ∧ h ≤ (s.size : Int) by omega, show 0 ≤ l ∧ l ≤ max h 0 by omega]
  simp [Instr.sliceAt, Instr.slice, run_underlying hund, hb]

theorem map_some_agg {o : Option (List D)} {p side : Prop} {d : D} (h : o.map (fun cs => (p, D.agg cs)) = some (side, d)) : ∃ cs, o = some cs ∧ d = .agg cs := by
  cases o <;> simp at h
  exact ⟨_, rfl, h.2.symm⟩

theorem buildP_struct {t : TypeId} (h : buildP P t = some none) : ∃ fs, P.underlying t = some (.struct fs) ∧ ∀ f ∈ fs, ∃ n, szP P f.type = some n := by
  unfold buildP at h
  split at h
  · rename_i fs hfs
    split at h
    · rename_i hall
      refine ⟨fs, hfs, fun f hf => ?_⟩
      have := List.all_eq_true.1 hall f (by simpa using hf)
      exact Option.isSome_iff_exists.1 this
    · cases h
  · rename_i n e he
    cases hn : szP P e <;> simp [hn] at h
  · cases h

theorem buildP_array {t e : TypeId} {n : Nat} (h : buildP P t = some (some (e, n))) : ∃ k, P.underlying t = some (.array k e) ∧ szP P e = some n := by
  unfold buildP at h
  split at h
  · split at h <;> simp at h
  · rename_i k e' he
    cases hn : szP P e' <;> simp [hn] at h
    obtain ⟨rfl, rfl⟩ := h
    exact ⟨k, he, hn⟩
  · cases h

theorem run_mapM {α β : Type} (xs : Array α) (f : α → Sem β) (g : α → β) (h : ∀ x ∈ xs, (f x).run P w = .ok (g x) w) : (xs.mapM f).run P w = .ok (xs.map g) w := by
  have key : ∀ (l : List α), (∀ x ∈ l, (f x).run P w = .ok (g x) w) → (l.mapM f).run P w = .ok (l.map g) w := by
    intro l
    induction l with
    | nil => intro _; simp
    | cons x l ih =>
      intro hx
      simp [hx x (by simp), ih (fun y hy => hx y (by simp [hy]))]
  rw [Array.mapM_eq_mapM_toList]
  simp [key xs.toList (fun x hx => h x (by simpa using hx))]
  apply Array.ext'
  simp

theorem pureD_sound {o : Oper} {side : Prop} {d : D} (h : pureD P o.op T = some (side, d)) (hs : side) (hi : AInv N M T σ a w) :
    ∃ v, (execOp a.eval o).run P w = .ok (.value v) w ∧ Rep M w d v := by
  obtain ⟨dst, op, type, pos, after, guard⟩ := o
  simp only at h
  cases op with
  | move x =>
    simp only [pureD, Option.some.injEq, Prod.mk.injEq] at h; obtain ⟨rfl, rfl⟩ := h
    exact ⟨a.eval x, by simp [execOp], ev_rep hi x⟩
  | assign x =>
    simp only [pureD, Option.some.injEq, Prod.mk.injEq] at h; obtain ⟨rfl, rfl⟩ := h
    exact ⟨a.eval x, by simp [execOp], ev_rep hi x⟩
  | pick c x y =>
    simp only [pureD] at h
    split at h
    · rename_i t hc
      simp only [Option.some.injEq, Prod.mk.injEq, pickD_eq] at h; obtain ⟨rfl, rfl⟩ := h
      have hr := ev_rep hi c
      rw [hc] at hr
      simp only [Rep] at hr
      cases t
      · exact ⟨a.eval y, by simp [execOp, hr, asBool], by simpa using ev_rep hi y⟩
      · exact ⟨a.eval x, by simp [execOp, hr, asBool], by simpa using ev_rep hi x⟩
    · cases h
  | binOp op xt x y yt =>
    simp only [pureD] at h
    obtain ⟨⟨r, h1, h2⟩, h3⟩ := binD_sound h hs (ev_rep hi x) (ev_rep hi y)
    exact ⟨r, by simp [execOp, h1, h3], h2⟩
  | unOp op xt x =>
    simp only [pureD] at h
    obtain ⟨h, _⟩ := map_some_pair h
    have hr := ev_rep hi x
    unfold unD at h
    split at h
    · rename_i k n hx
      rw [hx] at hr; simp only [Rep] at hr
      split at h
      · cases h
        exact ⟨.int k (k.wrap (0 - n)), by simp [execOp, hr, Op.unary, Op.intArith], rfl⟩
      · cases h
    · rename_i b hx
      rw [hx] at hr; simp only [Rep] at hr
      split at h
      · cases h
        exact ⟨_, by simp [execOp, hr, Op.unary], rfl⟩
      · cases h
    · cases h
  | convert src dst x =>
    simp only [pureD] at h
    obtain ⟨h, _⟩ := map_some_pair h
    have hr := ev_rep hi x
    unfold convD at h
    split at h
    · rename_i k n hx
      rw [hx] at hr; simp only [Rep] at hr
      split at h
      · rename_i hk hd
        cases h
        obtain ⟨ds, hds⟩ := Option.isSome_iff_exists.1 hk
        refine ⟨.int _ _, ?_, rfl⟩
        cases ds <;> simp [execOp, hr, convert, run_underlying hds, run_underlying (und_of_int hd), Conv.intToInt]
      · cases h
    · rename_i s hx
      rw [hx] at hr; simp only [Rep] at hr
      split at h
      · rename_i hk hd
        cases h
        exact ⟨_, by simp [execOp, hr, convert, run_underlying (und_of_str hk), run_underlying (und_of_str hd)], rfl⟩
      · cases h
    · cases h
  | makeInterface t x =>
    simp only [pureD] at h
    split at h
    · rename_i hc
      simp only [Option.some.injEq, Prod.mk.injEq] at h; obtain ⟨rfl, rfl⟩ := h
      obtain ⟨d, hd, hne⟩ := concP_ne hc
      refine ⟨.iface t (a.eval x), ?_, a.eval x, rfl, ev_rep hi x⟩
      cases d <;> first
        | exact absurd rfl (hne _)
        | simp [execOp, Instr.makeInterface, run_underlying hd]
    · cases h
  | makeFunc fn first captured =>
    simp only [pureD, Option.some.injEq, Prod.mk.injEq] at h; obtain ⟨rfl, rfl⟩ := h
    exact ⟨.func fn (first.map a.eval) (captured.map a.eval), by simp [execOp, Instr.makeFunc], _, _, rfl, by simpa using repAll_ops hi first.toList, by simpa using repAll_ops hi captured.toList⟩
  | extract x i =>
    simp only [pureD] at h
    split at h
    · rename_i ds hx
      obtain ⟨h, _⟩ := map_some_pair h
      have hr := ev_rep hi x
      rw [hx] at hr
      obtain ⟨vs, hv, hr⟩ := hr
      obtain ⟨v, hv', hr'⟩ := hr.get h
      have : vs[i]? = some v := by simpa using hv'
      exact ⟨v, by simp [execOp, hv, Instr.extract, this], hr'⟩
    · cases h
  | field t x f =>
    simp only [pureD] at h
    split at h
    · rename_i cs off ft hx hf
      obtain ⟨h, _⟩ := map_some_pair h
      obtain ⟨fs, y, n, hu, hy, rfl, rfl, hn, _⟩ := und_of_fld hf
      have hr := ev_rep hi x
      rw [hx] at hr
      obtain ⟨vs, hv, hr, h1⟩ := hr
      obtain ⟨v, hv', hr'⟩ := part_rep h hr h1 w
      exact ⟨v, by simp [execOp, hv, Instr.field, run_underlying hu, hy, asAgg, hv'], hr'⟩
    · cases h
  | fieldAddr t x f =>
    simp only [pureD] at h
    split at h
    · rename_i b off o ft hx hf
      simp only [Option.some.injEq, Prod.mk.injEq] at h; obtain ⟨rfl, rfl⟩ := h
      obtain ⟨fs, y, n, hu, hy, rfl, rfl, hn, hn0⟩ := und_of_fld hf
      have hr := ev_rep hi x
      rw [hx] at hr; simp only [Rep] at hr
      have hadd : Addr.add ⟨b, off, none⟩ y.offset = ⟨b, off + y.offset, none⟩ := by unfold Addr.add; split <;> simp_all
      exact ⟨_, by simp [execOp, hr, Instr.fieldAt, run_underlying hu, hy, Instr.sureAddr, fieldPlace, run_sizeOf hn, hn0, hadd], rfl⟩
    · rename_i cs o ft hx hf
      simp only [Option.some.injEq, Prod.mk.injEq] at h; obtain ⟨rfl, rfl⟩ := h
      obtain ⟨fs, y, n, hu, hy, rfl, rfl, hn, hn0⟩ := und_of_fld hf
      have hr := ev_rep hi x
      rw [hx] at hr
      obtain ⟨b, off, hr, hc⟩ := hr
      have hadd : Addr.add ⟨b, off, none⟩ y.offset = ⟨b, off + y.offset, none⟩ := by unfold Addr.add; split <;> simp_all
      exact ⟨_, by simp [execOp, hr, Instr.fieldAt, run_underlying hu, hy, Instr.sureAddr, fieldPlace, run_sizeOf hn, hn0, hadd], b, _, rfl, hc.drop _⟩
    · cases h
  | indexAddr t x i =>
    simp only [pureD] at h
    split at h
    · rename_i k n hx
      have hr := ev_rep hi i
      rw [hx] at hr; simp only [Rep] at hr
      obtain ⟨v, h1, h2⟩ := indexD_sound (k := k) h hs (ev_rep hi x)
      exact ⟨v, by simp [execOp, hr, h1], h2⟩
    · cases h
  | index t x i =>
    simp only [pureD] at h
    split at h
    · rename_i k n hx
      have hri := ev_rep hi i
      rw [hx] at hri; simp only [Rep] at hri
      split at h
      · rename_i s hs'
        have hr := ev_rep hi x
        rw [hs'] at hr; simp only [Rep] at hr
        split at h
        · rename_i hst
          simp only [Option.some.injEq, Prod.mk.injEq] at h; obtain ⟨rfl, rfl⟩ := h
          have hlt : n.toNat < s.size := by omega
          have hlt' : n.toNat < s.data.toList.length := by simpa using hlt
          have hget : s[n.toNat]? = some s[n.toNat] := by simp [hlt]
          refine ⟨.int .u8 (s[n.toNat]).toNat, ?_, ?_⟩
          · simp [execOp, hr, hri, Instr.index, asIntOf, run_underlying (und_of_str hst), hs.1, hget]
          · simp only [Rep]
            rw [List.getElem?_eq_getElem hlt']
            rfl
        · cases h
      · rename_i cs hcs
        have hr := ev_rep hi x
        rw [hcs] at hr
        obtain ⟨vs, hv, hr, h1⟩ := hr
        split at h
        · rename_i k' e he
          split at h
          · rename_i m hm
            obtain ⟨h', hsd⟩ := map_some_pair h
            subst hsd
            obtain ⟨v, hv', hr'⟩ := part_rep h' hr h1 w
            exact ⟨v, by simp [execOp, hv, hri, Instr.index, asIntOf, run_underlying (und_of_arr he), hs.1, hs.2, run_sizeOf hm, hv'], hr'⟩
          · cases h
        · cases h
      · cases h
    · cases h
  | nilCheck x =>
    simp only [pureD] at h
    have hr := ev_rep hi x
    split at h <;> first
      | cases h; done
      | (rename_i hx; simp only [Option.some.injEq, Prod.mk.injEq] at h; obtain ⟨rfl, rfl⟩ := h; rw [hx] at hr)
    · refine ⟨a.eval x, ?_, hr⟩
      simp only [Rep] at hr; simp [execOp, hr]
    · refine ⟨a.eval x, ?_, hr⟩
      obtain ⟨b, off, hr, _⟩ := hr; simp [execOp, hr]
    · refine ⟨a.eval x, ?_, hr⟩
      rcases rows_of_slice hr with ⟨h, _⟩ | ⟨_, _, _, _, h, _⟩ | ⟨_, _, h, _⟩ <;> simp [execOp, h]
    · refine ⟨a.eval x, ?_, hr⟩
      obtain ⟨_, _, hr, _⟩ := hr; simp [execOp, hr]
  | load t x =>
    simp only [pureD] at h
    split at h
    · rename_i cs hx
      obtain ⟨h, _⟩ := map_some_pair h
      have hr := ev_rep hi x
      rw [hx] at hr
      obtain ⟨b, off, hr, hc⟩ := hr
      obtain ⟨v, hv, hr'⟩ := load_rep h hc
      exact ⟨v, by simp [execOp, hr, Instr.loadAt, Instr.sureAddr, hv], hr'⟩
    · cases h
  | build t parts =>
    simp only [pureD] at h
    split at h
    · rename_i z hb hz
      obtain ⟨cs, h', rfl⟩ := map_some_agg h
      obtain ⟨zv, hzv, hzc, hzr, hzo⟩ := cD_zero hz M w
      obtain ⟨fs, hu, hall⟩ := buildP_struct hb
      obtain ⟨res, h1, h2, h3⟩ := fill_sound (place := fldP P t) (fz := id) (pl := fun i => (fs.map fun f => (f.offset, (szP P f.type).getD 0))[i]?) (fun _ _ h => h) (fun i off ty hp => by
        obtain ⟨fs', y, n, hu', hy, rfl, rfl, hn, _⟩ := und_of_fld hp
        rw [hu] at hu'; cases hu'
        exact ⟨n, by simp [hy, hn], hn⟩) hi parts.toList z cs h' zv.cells hzr hzo
      refine ⟨.agg res, ?_, res, rfl, h2, h3⟩
      have hm := run_mapM (P := P) (w := w) fs (fun f => Prod.mk f.offset <$> sizeOf f.type) (fun f => (f.offset, (szP P f.type).getD 0)) (fun f hf => by
        obtain ⟨n, hn⟩ := hall f hf
        simp [run_sizeOf hn, hn])
      simp only [Array.getElem?_map] at h1
      simp [execOp, Instr.build, hzv, run_underlying hu, hm, h1]
    · rename_i e n z hb hz
      obtain ⟨cs, h', rfl⟩ := map_some_agg h
      obtain ⟨zv, hzv, hzc, hzr, hzo⟩ := cD_zero hz M w
      obtain ⟨k, hu, hn⟩ := buildP_array hb
      obtain ⟨res, h1, h2, h3⟩ := fill_sound (place := fun i => some (i * n, e)) (fz := id) (pl := fun i => some (i * n, n)) (fun _ _ h => h) (fun i off ty hp => by
        simp only [Option.some.injEq, Prod.mk.injEq] at hp
        obtain ⟨rfl, rfl⟩ := hp
        exact ⟨n, rfl, hn⟩) hi parts.toList z cs h' zv.cells hzr hzo
      refine ⟨.agg res, ?_, res, rfl, h2, h3⟩
      simp [execOp, Instr.build, hzv, run_underlying hu, run_sizeOf hn, h1]
    · cases h
  | call c =>
    obtain ⟨callee, args, argTypes⟩ := c
    cases callee with
    | value f => simp only [pureD] at h; cases h
    | invoke r m => simp only [pureD] at h; cases h
    | builtin b =>
      cases b <;> simp only [pureD] at h <;> first
        | cases h; done
        | skip
      case len =>
        split at h
        · rename_i x t ha ht
          obtain ⟨h, _⟩ := map_some_pair h
          obtain ⟨r, h1, h2⟩ := lenD_sound (ty := type) h (ev_rep hi x)
          have ha' : args = #[x] := by rw [← Array.toList_inj]; simpa using ha
          have ht' : argTypes = #[t] := by rw [← Array.toList_inj]; simpa using ht
          subst ha'; subst ht'
          exact ⟨r, by simp [execOp, resolve, invoke, builtin, h1], h2⟩
        · cases h
      case min =>
        split at h
        · rename_i x y ha
          have ha' : args = #[x, y] := by rw [← Array.toList_inj]; simpa using ha
          subst ha'
          split at h
          · rename_i k p k' q hx hy
            split at h
            · rename_i hk
              subst hk
              simp only [Option.some.injEq, Prod.mk.injEq] at h; obtain ⟨rfl, rfl⟩ := h
              have hrx := ev_rep hi x; rw [hx] at hrx; simp only [Rep] at hrx
              have hry := ev_rep hi y; rw [hy] at hry; simp only [Rep] at hry
              refine ⟨.int k (min p q), ?_, rfl⟩
              simp [execOp, resolve, invoke, builtin, hrx, hry, Builtin.min_, Builtin.min2, Int.min_def]
              split <;> split <;> omega
            · cases h
          · cases h
        · cases h
      case max =>
        split at h
        · rename_i x y ha
          have ha' : args = #[x, y] := by rw [← Array.toList_inj]; simpa using ha
          subst ha'
          split at h
          · rename_i k p k' q hx hy
            split at h
            · rename_i hk
              subst hk
              simp only [Option.some.injEq, Prod.mk.injEq] at h; obtain ⟨rfl, rfl⟩ := h
              have hrx := ev_rep hi x; rw [hx] at hrx; simp only [Rep] at hrx
              have hry := ev_rep hi y; rw [hy] at hry; simp only [Rep] at hry
              refine ⟨.int k (max p q), ?_, rfl⟩
              simp [execOp, resolve, invoke, builtin, hrx, hry, Builtin.max_, Builtin.max2, Int.max_def]
              split <;> split <;> omega
            · cases h
          · cases h
        · cases h
  | slice t x lo hi' mx =>
    cases mx with
    | some m => simp only [pureD] at h; cases h
    | none =>
      simp only [pureD] at h
      split at h
      · rename_i o es hx
        have hr := ev_rep hi x
        rw [hx] at hr
        split at h
        · rename_i e he
          split at h
          · rename_i n hn
            split at h
            · rename_i l hh hl hhh
              simp only [Option.some.injEq, Prod.mk.injEq] at h; obtain ⟨rfl, rfl⟩ := h
              obtain ⟨⟨h0, h1, h2⟩, hrow⟩ := hs
              have e1 : (lo.map a.eval = none ∧ l = 0) ∨ ∃ k, lo.map a.eval = some (.int k l) := by
                cases lo with
                | none => simp only [Option.some.injEq] at hl; exact .inl ⟨rfl, hl.symm⟩
                | some z => obtain ⟨k, hk⟩ := toInt?_rep hl (ev_rep hi z); exact .inr ⟨k, by simp [hk]⟩
              have e2 : (hi'.map a.eval = none ∧ hh = es.length) ∨ ∃ k, hi'.map a.eval = some (.int k hh) := by
                cases hi' with
                | none => simp only [Option.some.injEq] at hhh; exact .inl ⟨rfl, hhh.symm⟩
                | some z => obtain ⟨k, hk⟩ := toInt?_rep hhh (ev_rep hi z); exact .inr ⟨k, by simp [hk]⟩
              obtain ⟨v, h3, h4⟩ := slice_sound he hn hr h0 h1 h2 hrow (lo.map a.eval) (hi'.map a.eval) e1 e2
              exact ⟨v, by simp [execOp, h3], h4⟩
            · cases h
          · cases h
        · cases h
      · rename_i s hx
        have hr := ev_rep hi x
        rw [hx] at hr; simp only [Rep] at hr
        split at h
        · rename_i he
          split at h
          · rename_i l hh hl hhh
            simp only [Option.some.injEq, Prod.mk.injEq] at h; obtain ⟨rfl, rfl⟩ := h
            obtain ⟨h0, h1, h2⟩ := hs
            have e1 : (lo.map a.eval = none ∧ l = 0) ∨ ∃ k, lo.map a.eval = some (.int k l) := by
              cases lo with
              | none => simp only [Option.some.injEq] at hl; exact .inl ⟨rfl, hl.symm⟩
              | some z => obtain ⟨k, hk⟩ := toInt?_rep hl (ev_rep hi z); exact .inr ⟨k, by simp [hk]⟩
            have e2 : (hi'.map a.eval = none ∧ hh = s.size) ∨ ∃ k, hi'.map a.eval = some (.int k hh) := by
              cases hi' with
              | none => simp only [Option.some.injEq] at hhh; exact .inl ⟨rfl, hhh.symm⟩
              | some z => obtain ⟨k, hk⟩ := toInt?_rep hhh (ev_rep hi z); exact .inr ⟨k, by simp [hk]⟩
            have h3 := sliceStr_sound (P := P) (w := w) he h0 h1 h2 (lo.map a.eval) (hi'.map a.eval) e1 e2
            exact ⟨_, by simp [execOp, hr, h3], rfl⟩
          · cases h
        · cases h
      · cases h
  | _ => simp only [pureD] at h; cases h
end
end Go.AL
