import Derived.Test.YtanhkkillmbkhaaZaaT
namespace Go.AL
set_option linter.unusedVariables false
set_option linter.unusedSimpArgs false

section
variable {P : Program} {N : Nat} {M : MMap} {T : Env} {σ : St} {a : Act} {w : World}

theorem cell_heap {w w' : World} (h : w'.heap = w.heap) (x : Addr) : w'.cell? x = w.cell? x := by simp [World.cell?, h]

theorem first_run {o : Own} {ys : List (List D)} {v : Value} (hr : Rep M w (.slice o ys) v) {s : Nat} (hs : ∀ r ∈ ys, r.length = s) :
    ∃ l : List Value, l.length = ys.length * s ∧ RepAll M w ys.flatten l ∧ (∀ u ∈ l, u.oneCell' = true) ∧ (∃ base cap, v = .slice base ys.length cap) ∧
      ∀ w' : World, w'.heap = w.heap → (Builtin.firstCells s ys.length v).run P w' = .ok l.toArray w' := by
  rcases rows_of_slice hr with ⟨rfl, rfl⟩ | ⟨b, off, cap, size, rfl, hl, hrow⟩ | ⟨a, cap, rfl, rfl⟩
  · exact ⟨[], by simp, rfl, fun u h => (by cases h), ⟨none, 0, rfl⟩, fun w' _ => by simp [Builtin.firstCells]⟩
  · obtain ⟨l, l1, l2, l3, l4⟩ := rows_list hrow
    have hsz : ys.length * size = ys.length * s := by
      cases ys with
      | nil => simp
      | cons y ys =>
        have := hs y (by simp)
        rw [hrow.1] at this
        rw [this]
    refine ⟨l, l1.trans hsz, l2, l4, ⟨_, cap, rfl⟩, fun w' hw' => ?_⟩
    have := run_loadCells_list (P := P) w' ⟨b, off, none⟩ l (fun j v hv => by rw [addr_add, cell_heap hw']; exact l3 j v hv)
    rw [l1, hsz] at this
    simp [Builtin.firstCells, this]
  · refine ⟨[], by simp, rfl, fun u h => (by cases h), ⟨some a, cap, rfl⟩, fun w' _ => ?_⟩
    have := run_loadCells_list (P := P) w' a [] (fun j v hv => by simp at hv)
    simpa [Builtin.firstCells] using this

theorem lenOf_run {base : Option Addr} {n c : Nat} (w : World) : (Builtin.lenOf (.slice base n c)).run P w = .ok n w := by simp [Builtin.lenOf]

structure AppT (P : Program) (t t' e : TypeId) (s by' : Nat) : Prop where
  ht : sliP P t = some e
  ht' : sliP P t' = some e
  hs : szP P e = some s
  pos : 0 < s
  hby : bytesP P e = some by'
  hz : ∃ z, zeroP P e = some z ∧ z.length = s

theorem append_still {t t' e : TypeId} {s by' : Nat} (H : AppT P t t' e s by') {base : Option Addr} {len cap : Nat} (hc : len ≤ cap) {y : Value} {base' : Option Addr} {cap' : Nat} (hy : y = .slice base' 0 cap')
    (hy' : (Builtin.firstCells s 0 y).run P w = .ok #[] w) (ty : TypeId) :
    (Builtin.append_ #[t, t'] ty #[.slice base len cap, y]).run P w = .ok (.slice base len cap) w := by
  subst hy
  obtain ⟨i, hi, his⟩ := Option.map_eq_some_iff.1 H.hs
  cases base <;> simp [Builtin.append_, run_underlying (und_of_sli H.ht), run_underlying (und_of_sli H.ht'), sizeOf, typeInfo, hi, his, Builtin.lenOf, hc, hy', storeCells]

theorem append_room {t t' e : TypeId} {s by' : Nat} (H : AppT P t t' e s by') {b len cap n : Nat} {c : Array Value} {e₀ : TypeId} (hcell : w.heap[b]? = some (.cells c e₀ (0, 0))) {y : Value} {base' : Option Addr} {cap' : Nat} (hy : y = .slice base' n cap')
    (hc : len + n ≤ cap) (hsz : c.size = cap * s) {l : List Value} (hl : l.length = n * s) (h1 : ∀ u ∈ l, u.oneCell' = true) (hy' : (Builtin.firstCells s n y).run P w = .ok l.toArray w) (ty : TypeId) :
    ∃ c', (Builtin.append_ #[t, t'] ty #[.slice (some ⟨b, 0, none⟩) len cap, y]).run P w = .ok (.slice (some ⟨b, 0, none⟩) (len + n) cap) (setRow w b c' e₀) ∧
      c'.toList = c.toList.take (len * s) ++ l ++ c.toList.drop (len * s + n * s) := by
  subst hy
  obtain ⟨i, hi, his⟩ := Option.map_eq_some_iff.1 H.hs
  have hle : len * s + n * s ≤ c.size := by rw [hsz, ← Nat.add_mul]; exact Nat.mul_le_mul_right _ hc
  obtain ⟨c', r1, r2⟩ := run_store_cells (P := P) b (len * s) e₀ l 0 c w hcell (by omega) h1
  refine ⟨c', ?_, by rw [r2, hl]; simp⟩
  simp [Builtin.append_, run_underlying (und_of_sli H.ht), run_underlying (und_of_sli H.ht'), sizeOf, typeInfo, hi, his, Builtin.lenOf, hc, hy', addr_add, r1]

theorem append_grow {t t' e : TypeId} {s by' : Nat} (H : AppT P t t' e s by') {base : Option Addr} {len cap n : Nat} {x y : Value} (hx : x = .slice base len cap) {base' : Option Addr} {cap' : Nat} (hy : y = .slice base' n cap')
    (hc : cap < len + n) (hb : (len + n) * by' ≤ 140737488355328) (hb0 : 0 < by') {old l : List Value} (ho : old.length = len * s) (hl : l.length = n * s)
    (hx' : ∀ w' : World, w'.heap = w.heap → (Builtin.firstCells s len x).run P w' = .ok old.toArray w')
    (hy' : ∀ w' : World, w'.heap = w.heap → (Builtin.firstCells s n y).run P w' = .ok l.toArray w') (ty : TypeId) :
    ∃ c ncap, (Builtin.append_ #[t, t'] ty #[x, y]).run P w = .ok (.slice (some ⟨w.heap.size, 0, none⟩) (len + n) ncap) (w.drew.alloc (.cells c e)) ∧ len + n ≤ ncap ∧ c.size = ncap * s ∧
      ∃ rest : List Value, c.toList = old ++ l ++ rest := by
  subst hx; subst hy
  obtain ⟨i, hi, his⟩ := Option.map_eq_some_iff.1 H.hs
  obtain ⟨i', hi', hib⟩ := Option.map_eq_some_iff.1 H.hby
  rw [hi] at hi'; cases hi'
  obtain ⟨z, hz, hzl⟩ := H.hz
  obtain ⟨zv, hzv, hzc, _, _⟩ := cD_zero hz (fun _ => none) w
  have hzi : i.zero = some zv := by
    simp only [zeroValue, typeInfo] at hzv
    simp [hi] at hzv
    cases hq : i.zero with
    | none => simp [hq] at hzv
    | some u => simp [hq] at hzv; rw [hzv]
  have hzs : zv.cells.size = s := by rw [← hzl, hzc]; simp
  have h63 : ¬ (9223372036854775807 < ((len : Int) + (n : Int))) := by
    have : (len + n) ≤ (len + n) * by' := Nat.le_mul_of_pos_right _ hb0
    omega
  have hfit := growslice_fits hc hb
  have h48 : ¬ (281474976710656 < Builtin.nextslicecap (len + n) cap * by') := by omega
  have hdr : w.drew.heap = w.heap := rfl
  have hcut := grownCap w (len + n) cap e
  have hcap : len + n ≤ grownCap w (len + n) cap e := by simp only [grownCap, Question.cut]; omega
  refine ⟨(old.toArray ++ l.toArray ++ Builtin.zeroCells zv.cells (grownCap w (len + n) cap e - (len + n))), grownCap w (len + n) cap e, ?_, hcap, ?_, ?_⟩
  · have hx2 := hx' w.drew hdr
    have hy2 := hy' w.drew hdr
    simp [Builtin.append_, run_underlying (und_of_sli H.ht), run_underlying (und_of_sli H.ht'), sizeOf, typeInfo, zeroValue, hi, hzi, his, hib, Builtin.lenOf, show ¬ (len + n ≤ cap) by omega, h63, h48, Question.forced, hx2, hy2, newRow, grownCap]
    congr 2
    apply Array.ext'
    simp [List.append_assoc]
  · simp only [Array.size_append, List.size_toArray, ho, hl, size_zeroCells, hzs]
    rw [← Nat.add_mul, ← Nat.add_mul]; congr 1; omega
  · exact ⟨(Builtin.zeroCells zv.cells (grownCap w (len + n) cap e - (len + n))).toList, by simp⟩

theorem drew_inv (h : Inv M σ w) : Inv M σ w.drew ∧ KeepF M σ w M σ w.drew :=
  ⟨⟨fun p cs hp => by
    obtain ⟨h1, c, e, h2, h3, h4⟩ := h.box p cs hp
    exact ⟨h1, c, e, h2, RepAll.keep (M := M) (M' := M) (w := w) (w' := w.drew) ⟨rfl, rfl, rfl, Nat.le_refl _, fun _ _ h => ⟨h, rfl⟩, fun _ lim c _ _ h hc => ⟨⟨c, hc, rfl, fun _ _ => rfl⟩, .inr ⟨lim, Nat.le_refl _, h⟩⟩⟩ _ _ h3, h4⟩, fun p s n hp => h.buf p s n hp, h.dom⟩,
   { os := rfl, tape := rfl, output := rfl, size := Nat.le_refl _, imm := fun _ _ h => ⟨h, rfl⟩, buf := fun _ lim c _ _ h hc => ⟨⟨c, hc, rfl, fun _ _ => rfl⟩, .inr ⟨lim, Nat.le_refl _, h⟩⟩, frame := fun _ _ _ => ⟨rfl, rfl⟩, fresh := fun _ h => .inl h }⟩

theorem flat_append (xs ys : List (List D)) : (xs ++ ys).flatten = xs.flatten ++ ys.flatten := by simp

/-- What append makes: an owned row. 'x': what was there; 'y': what comes behind it. -/
def AppPost (P : Program) (M : MMap) (σ σ₀ : St) (w : World) (s : Nat) (t t' ty : TypeId) (x y : Value) (es : List (List D)) : Prop :=
  ∃ v w' M' b, (Builtin.append_ #[t, t'] ty #[x, y]).run P w = .ok v w' ∧ Rep M' w' (.slice (.buf b s) es) v ∧ ¬ σ₀.has b ∧
    Inv M' (σ₀.setBuf b s es.length) w' ∧ KeepF M σ w M' (σ₀.setBuf b s es.length) w'

/-- A new row made by append. -/
theorem append_new {t t' e : TypeId} {s by' : Nat} (H : AppT P t t' e s by') {base : Option Addr} {len cap : Nat} {x y : Value} (hx : x = .slice base len cap)
    {o o' : Own} {xs ys : List (List D)} (rx : Rep M w (.slice o xs) x) (ry : Rep M w (.slice o' ys) y) (hlen : len = xs.length) (hxs : ∀ r ∈ xs, r.length = s) (hys : ∀ r ∈ ys, r.length = s)
    (hc : cap < len + ys.length) (hb0 : 0 < by') (hb : (xs.length + ys.length) * by' ≤ 140737488355328) {σ₀ : St} (hi : Inv M σ w) (h₀ : Inv M σ₀ w) (hsub : ∀ b, σ₀.has b → σ.has b) (ty : TypeId) :
    AppPost P M σ σ₀ w s t t' ty x y (xs ++ ys) := by
  obtain ⟨ol, ol1, ol2, ol3, _, ol4⟩ := first_run (P := P) rx hxs
  obtain ⟨nl, nl1, nl2, nl3, ⟨base', cap', hy⟩, nl4⟩ := first_run (P := P) ry hys
  subst hlen
  obtain ⟨c, ncap, hrun, g1, g2, rest, g3⟩ := append_grow H hx hy hc (by simpa using hb) hb0 ol1 nl1 ol4 nl4 ty
  obtain ⟨hi1, hk1⟩ := drew_inv h₀
  obtain ⟨hi2, hk2⟩ := hi1.addBuf (c := c) e g2 g1
  have hk := hk1.trans h₀.dom hk2
  have hlen' : (xs ++ ys).length = xs.length + ys.length := by simp
  refine ⟨_, _, _, w.heap.size, hrun, ?_, h₀.fresh, by rw [hlen']; exact hi2, by rw [hlen']; exact { hk.toKeep with frame := fun b hM hb => hk.frame b hM fun hin => hb (hsub b hin), fresh := fun b hb => (hk.fresh b hb).imp (hsub b) id }⟩
  refine ⟨ncap, c, e, (0, 0), by rw [hlen'], by rw [hlen']; exact g1, ?_, heap_alloc_new _ _, g2, by simp⟩
  have hflat : RepAll M w (xs ++ ys).flatten (ol ++ nl) := by rw [flat_append]; exact ol2.append nl2
  refine rows_of (fun r hr => (List.mem_append.1 hr).elim (hxs r) (hys r)) (RepAll.keep hk.toKeep _ _ hflat) fun j v hv => ?_
  have hj : j < (ol ++ nl).length := (List.getElem?_eq_some_iff.1 hv).1
  have hcv : c[j]? = some v := by
    have : c.toList[j]? = some v := by rw [g3, List.getElem?_append_left hj]; exact hv
    simpa using this
  have hjl : j < (xs.length + ys.length) * s := by rw [Nat.add_mul, ← ol1, ← nl1, ← List.length_append]; exact hj
  refine ⟨cell_of (heap_alloc_new _ _) (by simpa using hcv), ?_, ?_⟩
  · have := List.mem_of_getElem? hv
    rcases List.mem_append.1 this with h | h
    · exact ol3 v h
    · exact nl3 v h
  · simp only [ImmAt, Nat.zero_add]
    have : (w.drew).heap.size = w.heap.size := rfl
    simp only [this, if_true]
    exact hjl

theorem append_own {t t' e : TypeId} {s by' : Nat} (H : AppT P t t' e s by') {b : Nat} {x y : Value} {o' : Own} {xs ys : List (List D)} (rx : Rep M w (.slice (.buf b s) xs) x) (ry : Rep M w (.slice o' ys) y)
    (hys : ∀ r ∈ ys, r.length = s) (hb0 : 0 < by') (hb : (xs.length + ys.length) * by' ≤ 140737488355328) (hi : Inv M σ w) (hbuf : σ.buf b = some (s, xs.length)) (ty : TypeId) :
    AppPost P M σ (σ.dropBuf b) w s t t' ty x y (xs ++ ys) := by
  obtain ⟨cap, c, e₀, f, rfl, hle, hrow, hcell, hsz, _⟩ := id rx
  have hxs : ∀ r ∈ xs, r.length = s := fun r hr => by
    obtain ⟨i, hi'⟩ := List.getElem?_of_mem hr
    exact (hrow.get hi').1
  by_cases hc : xs.length + ys.length ≤ cap
  · obtain ⟨nl, nl1, nl2, nl3, ⟨base', cap', hy⟩, nl4⟩ := first_run (P := P) ry hys
    obtain ⟨hbM, c₁, e₁, cap₁, hcell₁, hsz₁, hle₁⟩ := hi.buf _ _ _ hbuf
    rw [hcell] at hcell₁
    simp only [Option.some.injEq, Obj.cells.injEq] at hcell₁
    obtain ⟨rfl, rfl, rfl⟩ := hcell₁
    obtain ⟨c', hrun, hc'⟩ := append_room H hcell hy hc hsz nl1 nl3 (nl4 w rfl) ty
    have hfit : xs.length * s + ys.length * s ≤ c.size := by rw [hsz, ← Nat.add_mul]; exact Nat.mul_le_mul_right _ hc
    have hlen₁ : c'.size = c.size := by
      have : c'.toList.length = c.toList.length := by rw [hc']; simp only [List.length_append, List.length_take, List.length_drop, nl1, Array.length_toList]; omega
      simpa using this
    have hold : ∀ i, i < xs.length * s → c'[i]? = c[i]? := fun i hi' => by
      have : c'.toList[i]? = c.toList[i]? := by
        rw [hc', List.append_assoc, List.getElem?_append_left (by simp only [List.length_take, Array.length_toList]; omega), List.getElem?_take, if_pos hi']
      simpa using this
    obtain ⟨hi2, hk2, hbout⟩ := hi.growBuf (n' := xs.length + ys.length) hbuf hcell hsz hlen₁ hold (by omega) hc
    have hlen' : (xs ++ ys).length = xs.length + ys.length := by simp
    refine ⟨_, _, _, b, hrun, ?_, hbout, by rw [hlen']; exact hi2, by rw [hlen']; exact hk2⟩
    refine ⟨cap, c', e₀, (0, 0), by rw [hlen'], by rw [hlen']; exact hc, ?_, setRow_same (heap_lt hcell) _ _, hlen₁.trans hsz, by simp⟩
    obtain ⟨ol, ol1, ol2, ol3, ol4⟩ := rows_list hrow
    have hflat : RepAll M w (xs ++ ys).flatten (ol ++ nl) := by rw [flat_append]; exact ol2.append nl2
    refine rows_of (fun r hr => (List.mem_append.1 hr).elim (hxs r) (hys r)) (RepAll.keep hk2.toKeep _ _ hflat) fun j v hv => ?_
    have hj : j < (ol ++ nl).length := (List.getElem?_eq_some_iff.1 hv).1
    have hjl : j < (xs.length + ys.length) * s := by rw [Nat.add_mul, ← ol1, ← nl1, ← List.length_append]; exact hj
    have hcv : c'[j]? = some v := by
      by_cases hlt : j < xs.length * s
      · rw [hold j hlt]
        rw [List.getElem?_append_left (by rw [ol1]; exact hlt)] at hv
        have := ol3 j v hv
        obtain ⟨cc, ee, ff, h1, h2⟩ := cell_some this
        rw [hcell] at h1; cases h1
        simpa using h2
      · have : c'.toList[j]? = some v := by
          rw [List.getElem?_append_right (by rw [ol1]; omega), ol1] at hv
          have hjn : j - xs.length * s < nl.length := (List.getElem?_eq_some_iff.1 hv).1
          have htk : (c.toList.take (xs.length * s)).length = xs.length * s := by simp only [List.length_take, Array.length_toList]; omega
          rw [hc', List.append_assoc, List.getElem?_append_right (by rw [htk]; omega), htk, List.getElem?_append_left hjn]
          exact hv
        simpa using this
    refine ⟨cell_of (setRow_same (heap_lt hcell) _ _) (by simpa using hcv), ?_, ?_⟩
    · have := List.mem_of_getElem? hv
      rcases List.mem_append.1 this with h | h
      · exact ol4 v h
      · exact nl3 v h
    · simp only [ImmAt, Nat.zero_add, if_true]
      exact hjl
  · exact append_new H rfl rx ry rfl hxs hys (by omega) hb0 hb hi (hi.dropBuf b) (fun x hx => dropBuf_has hx) ty
end
end Go.AL
