import Derived.Test.YtanhkkillmbkhaaZaaS
import Derived.Laws.AppendOwn
namespace Go.AL
set_option linter.unusedVariables false
set_option linter.unusedSimpArgs false

section
variable {P : Program} {N : Nat} {M : MMap} {T : Env} {σ : St} {a : Act} {w : World}

theorem addr_add (b off j : Nat) : Addr.add ⟨b, off, none⟩ j = ⟨b, off + j, none⟩ := by unfold Addr.add; split <;> simp_all

theorem cells_list : ∀ {cs : List D} {b off : Nat}, RepCells M w cs b off → ∃ l : List Value, l.length = cs.length ∧ RepAll M w cs l ∧ (∀ (j : Nat) (v : Value), l[j]? = some v → w.cell? ⟨b, off + j, none⟩ = some v) ∧ ∀ v ∈ l, v.oneCell' = true
  | [], b, off, _ => ⟨[], rfl, rfl, fun j v h => (by simp at h), fun v h => (by cases h)⟩
  | c :: cs, b, off, h => by
    obtain ⟨⟨v, h1, h2, h3, h4⟩, h5⟩ := h
    obtain ⟨l, l1, l2, l3, l4⟩ := cells_list h5
    refine ⟨v :: l, by simp [l1], ⟨v, l, rfl, h4, l2⟩, fun j u hu => ?_, fun u hu => ?_⟩
    · cases j with
      | zero => simp at hu; subst hu; simpa using h1
      | succ j =>
        have := l3 j u (by simpa using hu)
        rwa [show off + (j + 1) = off + 1 + j by omega]
    · simp only [List.mem_cons] at hu
      rcases hu with rfl | hu
      · exact h2
      · exact l4 u hu

theorem rows_list : ∀ {es : List (List D)} {b off s : Nat}, RepRows M w es b off s → ∃ l : List Value, l.length = es.length * s ∧ RepAll M w es.flatten l ∧ (∀ (j : Nat) (v : Value), l[j]? = some v → w.cell? ⟨b, off + j, none⟩ = some v) ∧ ∀ v ∈ l, v.oneCell' = true
  | [], b, off, s, _ => ⟨[], by simp, rfl, fun j v h => (by simp at h), fun v h => (by cases h)⟩
  | e :: es, b, off, s, h => by
    obtain ⟨h0, h1, h2⟩ := h
    obtain ⟨l, l1, l2, l3, l4⟩ := cells_list h1
    obtain ⟨k, k1, k2, k3, k4⟩ := rows_list h2
    refine ⟨l ++ k, by simp [l1, k1, h0, Nat.add_mul]; omega, by simpa using l2.append k2, fun j u hu => ?_, fun u hu => ?_⟩
    · rw [List.getElem?_append] at hu
      split at hu
      · exact l3 j u hu
      · rename_i hge
        have := k3 _ u hu
        rwa [show off + s + (j - l.length) = off + j by omega] at this
    · simp only [List.mem_append] at hu
      rcases hu with hu | hu
      · exact l4 u hu
      · exact k4 u hu

theorem cells_of : ∀ {cs : List D} {l : List Value} {b off : Nat}, RepAll M w cs l → (∀ (j : Nat) (v : Value), l[j]? = some v → w.cell? ⟨b, off + j, none⟩ = some v ∧ v.oneCell' = true ∧ ImmAt M b (off + j)) → RepCells M w cs b off
  | [], _, _, _, _, _ => trivial
  | c :: cs, l, b, off, h, hl => by
    obtain ⟨v, vs, rfl, h1, h2⟩ := h
    obtain ⟨g1, g2, g3⟩ := hl 0 v rfl
    refine ⟨⟨v, by simpa using g1, g2, by simpa using g3, h1⟩, cells_of h2 fun j u hu => ?_⟩
    have := hl (j + 1) u (by simpa using hu)
    rwa [show off + 1 + j = off + (j + 1) by omega]

theorem rows_of : ∀ {es : List (List D)} {l : List Value} {b off s : Nat}, (∀ r ∈ es, r.length = s) → RepAll M w es.flatten l → (∀ (j : Nat) (v : Value), l[j]? = some v → w.cell? ⟨b, off + j, none⟩ = some v ∧ v.oneCell' = true ∧ ImmAt M b (off + j)) → RepRows M w es b off s
  | [], _, _, _, _, _, _, _ => trivial
  | e :: es, l, b, off, s, hs, h, hl => by
    have he := hs e (by simp)
    have h' : RepAll M w (e ++ es.flatten) l := by simpa using h
    have hlen := h'.length
    simp only [List.length_append] at hlen
    have h1 := h'.take e.length
    have h2 := h'.drop e.length
    simp only [List.take_left, List.drop_left] at h1 h2
    refine ⟨he, cells_of h1 fun j v hv => ?_, rows_of (fun r hr => hs r (by simp [hr])) h2 fun j v hv => ?_⟩
    · rw [List.getElem?_take] at hv
      split at hv
      · exact hl j v hv
      · cases hv
    · rw [List.getElem?_drop] at hv
      have := hl _ v hv
      rwa [show off + (e.length + j) = off + s + j by omega] at this

theorem Inv.dropBuf (h : Inv M σ w) (b : Nat) : Inv M (σ.dropBuf b) w :=
  ⟨fun x cs hx => h.box x cs hx, fun x s n hx => by
    simp only [St.dropBuf] at hx
    split at hx
    · cases hx
    · exact h.buf x s n hx, h.dom⟩

theorem dropBuf_has {σ : St} {b x : Nat} (h : (σ.dropBuf b).has x) : σ.has x := by
  rcases h with h | h
  · exact .inl h
  · refine .inr fun h0 => h ?_
    simp only [St.dropBuf]
    split <;> simp_all

/-- A new row of the call's own. -/
theorem Inv.addBuf (h : Inv M σ w) {c : Array Value} (e : TypeId) {s n cap : Nat} (hc : c.size = cap * s) (hn : n ≤ cap) :
    Inv (fun x => if x = w.heap.size then some (.buf (n * s)) else M x) (σ.setBuf w.heap.size s n) (w.alloc (.cells c e)) ∧
    KeepF M σ w (fun x => if x = w.heap.size then some (.buf (n * s)) else M x) (σ.setBuf w.heap.size s n) (w.alloc (.cells c e)) := by
  have hk := Keep.alloc h.dom (.cells c e) (some (.buf (n * s)))
  have hne : ∀ b, σ.has b → b ≠ w.heap.size := fun b hb he => h.fresh (he ▸ hb)
  have hold : ∀ b, σ.has b → (if b = w.heap.size then some (MK.buf (n * s)) else M b) = M b ∧ (w.alloc (.cells c e)).heap[b]? = w.heap[b]? := fun b hb =>
    ⟨by rw [if_neg (hne b hb)], heap_alloc_old (h.dom b (h.lt hb))⟩
  refine ⟨⟨fun b cs hb => (h.box b cs hb).keep hk (hold _ (has_box hb)).1 (hold _ (has_box hb)).2, fun b s' n' hb => ?_, fun b hb => ?_⟩, { hk with frame := fun b hM hb => ?_, fresh := fun b hb => ?_ }⟩
  · simp only [St.setBuf] at hb
    split at hb
    · rename_i he
      subst he; cases hb
      exact ⟨by simp, c, e, cap, heap_alloc_new _ _, hc, hn⟩
    · exact (h.buf b s' n' hb).keep (hold _ (has_buf hb)).1 (hold _ (has_buf hb)).2
  · rw [heap_alloc_size]
    split at hb
    · omega
    · have := h.dom b hb; omega
  · have hlt := h.dom b hM
    exact ⟨by rw [if_neg (by omega)], heap_alloc_old hlt⟩
  · rcases hb with hb | hb
    · exact .inl (.inl hb)
    · simp only [St.setBuf] at hb
      split at hb
      · exact .inr (by omega)
      · exact .inl (.inr hb)

/-- More of an owned row is in use. -/
theorem Inv.growBuf (h : Inv M σ w) {b s n n' : Nat} (hb : σ.buf b = some (s, n)) {c c' : Array Value} {e : TypeId} {cap : Nat} (hc : w.heap[b]? = some (.cells c e (0, 0))) (hcap : c.size = cap * s)
    (hs : c'.size = c.size) (hold : ∀ i, i < n * s → c'[i]? = c[i]?) (hn : n ≤ n') (hn' : n' ≤ cap) :
    Inv (fun x => if x = b then some (.buf (n' * s)) else M x) ((σ.dropBuf b).setBuf b s n') (setRow w b c' e) ∧
    KeepF M σ w (fun x => if x = b then some (.buf (n' * s)) else M x) ((σ.dropBuf b).setBuf b s n') (setRow w b c' e) ∧ ¬ (σ.dropBuf b).has b := by
  have hbM := (h.buf _ _ _ hb).1
  have hlt := heap_lt hc
  have hk : Keep M w (fun x => if x = b then some (.buf (n' * s)) else M x) (setRow w b c' e) := by
    refine ⟨rfl, rfl, rfl, by simp [setRow], fun x hx hM => ?_, fun x lim cx ex fx hM hx => ?_⟩
    · have hne : x ≠ b := fun he => by subst he; rw [hbM] at hM; cases hM
      exact ⟨by rw [if_neg hne]; exact hM, setRow_other hne _ _⟩
    · by_cases hxb : x = b
      · subst hxb
        rw [hbM] at hM; simp only [Option.some.injEq, MK.buf.injEq] at hM
        subst hM
        rw [hc] at hx; cases hx
        exact ⟨⟨c', setRow_same hlt _ _, hs, hold⟩, .inr ⟨n' * s, Nat.mul_le_mul_right _ hn, by simp⟩⟩
      · exact ⟨⟨cx, (setRow_other hxb _ _).trans hx, rfl, fun _ _ => rfl⟩, .inr ⟨lim, Nat.le_refl _, by rw [if_neg hxb]; exact hM⟩⟩
  refine ⟨⟨fun x cs hx => ?_, fun x s' m hx => ?_, fun x hx => ?_⟩, { hk with frame := fun x hx hn => ?_, fresh := fun x hx => ?_ }, ?_⟩
  · have hx' : σ.box x = some cs := hx
    have hne : x ≠ b := fun he => by
      have := (h.box x cs hx').1
      rw [he, hbM] at this; cases this
    exact (h.box x cs hx').keep hk (by rw [if_neg hne]) (setRow_other hne _ _)
  · simp only [St.setBuf] at hx
    split at hx
    · rename_i he
      subst he; cases hx
      exact ⟨by simp, c', e, cap, setRow_same hlt _ _, hs.trans hcap, hn'⟩
    · rename_i hne
      simp only [St.dropBuf, hne, if_false] at hx
      exact (h.buf x s' m hx).keep (by rw [if_neg hne]) (setRow_other hne _ _)
  · simp only [setRow, Array.size_setIfInBounds]
    split at hx
    · rename_i he; subst he; exact hlt
    · exact h.dom x hx
  · have hne : x ≠ b := fun he => hn (he ▸ has_buf hb)
    exact ⟨by rw [if_neg hne], setRow_other hne _ _⟩
  · rcases hx with hx | hx
    · exact .inl (.inl hx)
    · simp only [St.setBuf] at hx
      split at hx
      · rename_i he; subst he; exact .inl (has_buf hb)
      · exact .inl (dropBuf_has (b := b) (.inr hx))
  · rintro (hx | hx)
    · cases hcs : (σ.dropBuf b).box b with
      | none => exact hx hcs
      | some cs =>
        have := (h.box b cs hcs).1
        rw [hbM] at this; cases this
    · exact hx (by simp [St.dropBuf])
end
end Go.AL
