import Derived.Test.YtanhkkillmbkhaaZaaR
namespace Go.AL
set_option linter.unusedVariables false
set_option linter.unusedSimpArgs false

def St.set (σ : St) (b : Nat) (cs : List D) : St := { σ with box := fun x => if x = b then some cs else σ.box x }
def St.setBuf (σ : St) (b s n : Nat) : St := { σ with buf := fun x => if x = b then some (s, n) else σ.buf x }
def St.dropBuf (σ : St) (b : Nat) : St := { σ with buf := fun x => if x = b then none else σ.buf x }
def St.join (s fr : St) : St := { box := fun b => (s.box b).or (fr.box b), buf := fun b => (s.buf b).or (fr.buf b) }
def St.apart (s fr : St) : Prop := ∀ b, s.has b → ¬ fr.has b
/-- From some block on it owns nothing. -/
def St.fin (σ : St) : Prop := ∃ n, ∀ b, n ≤ b → ¬ σ.has b
structure St.split (σ s fr : St) : Prop where
  eq : σ = St.join s fr
  apart : St.apart s fr

theorem St.not_has_nil (b : Nat) : ¬ ({} : St).has b := fun h => by rcases h with h | h <;> exact h rfl
theorem St.join_nil (σ : St) : St.join {} σ = σ := by ext <;> simp [St.join]
theorem St.nil_join (σ : St) : St.join σ {} = σ := by ext <;> simp [St.join]
theorem St.split.pure (σ : St) : St.split σ {} σ := ⟨(St.join_nil σ).symm, fun b h => absurd h (St.not_has_nil b)⟩
theorem St.split.all (σ : St) : St.split σ σ {} := ⟨(St.nil_join σ).symm, fun b _ h => St.not_has_nil b h⟩

theorem heap_alloc_old {w : World} {o : Obj} {b : Nat} (h : b < w.heap.size) : (w.alloc o).heap[b]? = w.heap[b]? := by
  show (w.heap.push o)[b]? = _
  rw [Array.getElem?_push, if_neg (by omega)]

theorem heap_alloc_new (w : World) (o : Obj) : (w.alloc o).heap[w.heap.size]? = some o := by
  show (w.heap.push o)[w.heap.size]? = _
  simp

theorem heap_alloc_size (w : World) (o : Obj) : (w.alloc o).heap.size = w.heap.size + 1 := by
  show (w.heap.push o).size = _
  simp

/-- A new block: what was there stays. 'm': what the block is from now on. -/
theorem Keep.alloc {M : MMap} {w : World} (hd : ∀ b, M b ≠ none → b < w.heap.size) (o : Obj) (m : Option MK) :
    Keep M w (fun x => if x = w.heap.size then m else M x) (w.alloc o) := by
  refine ⟨rfl, rfl, rfl, by rw [heap_alloc_size]; omega, fun b hb hM => ?_, fun b lim c e f hM hc => ?_⟩
  · exact ⟨by simp [show b ≠ w.heap.size by omega, hM], heap_alloc_old hb⟩
  · have hb := heap_lt hc
    exact ⟨⟨c, (heap_alloc_old hb).trans hc, rfl, fun _ _ => rfl⟩, .inr ⟨lim, Nat.le_refl _, by simp [show b ≠ w.heap.size by omega, hM]⟩⟩

theorem Inv.fresh {M : MMap} {σ : St} {w : World} (h : Inv M σ w) : ¬ σ.has w.heap.size := fun hin => by
  have := h.dom _ (h.lt hin)
  omega

theorem BoxAt.keep {M M' : MMap} {w w' : World} (hk : Keep M w M' w') {b : Nat} {cs : List D} (h : BoxAt M w b cs) (hM : M' b = M b) (hh : w'.heap[b]? = w.heap[b]?) : BoxAt M' w' b cs := by
  obtain ⟨h1, c, e, h2, h3, h4⟩ := h
  exact ⟨hM.trans h1, c, e, hh.trans h2, RepAll.keep hk _ _ h3, h4⟩

theorem BufAt.keep {M M' : MMap} {w w' : World} {b s n : Nat} (h : BufAt M w b s n) (hM : M' b = M b) (hh : w'.heap[b]? = w.heap[b]?) : BufAt M' w' b s n := by
  obtain ⟨h1, c, e, cap, h2, h3⟩ := h
  exact ⟨hM.trans h1, c, e, cap, hh.trans h2, h3⟩

theorem has_box {σ : St} {b : Nat} {cs : List D} (h : σ.box b = some cs) : σ.has b := .inl (by simp [h])
theorem has_buf {σ : St} {b : Nat} {p : Nat × Nat} (h : σ.buf b = some p) : σ.has b := .inr (by simp [h])

theorem Inv.addBox {M : MMap} {σ : St} {w : World} (h : Inv M σ w) {cs : List D} {c : Array Value} (e : TypeId) (hr : RepAll M w cs c.toList) (h1 : ∀ u ∈ c.toList, u.oneCell' = true) :
    Inv (fun x => if x = w.heap.size then some .box else M x) (σ.set w.heap.size cs) (w.alloc (.cells c e)) ∧
    KeepF M σ w (fun x => if x = w.heap.size then some .box else M x) (σ.set w.heap.size cs) (w.alloc (.cells c e)) := by
  have hk := Keep.alloc h.dom (.cells c e) (some .box)
  have hne : ∀ b, σ.has b → b ≠ w.heap.size := fun b hb he => h.fresh (he ▸ hb)
  have hold : ∀ b, σ.has b → (if b = w.heap.size then some MK.box else M b) = M b ∧ (w.alloc (.cells c e)).heap[b]? = w.heap[b]? := fun b hb =>
    ⟨by rw [if_neg (hne b hb)], heap_alloc_old (h.dom b (h.lt hb))⟩
  refine ⟨⟨fun b cs' hb => ?_, fun b s n hb => ?_, fun b hb => ?_⟩, { hk with frame := fun b hM hb => ?_, fresh := fun b hb => ?_ }⟩
  · simp only [St.set] at hb
    split at hb
    · rename_i he
      subst he; cases hb
      exact ⟨by simp, c, e, heap_alloc_new _ _, RepAll.keep hk _ _ hr, h1⟩
    · exact (h.box b cs' hb).keep hk (hold _ (has_box hb)).1 (hold _ (has_box hb)).2
  · exact (h.buf b s n hb).keep (hold _ (has_buf hb)).1 (hold _ (has_buf hb)).2
  · rw [heap_alloc_size]
    split at hb
    · omega
    · have := h.dom b hb; omega
  · have hlt := h.dom b hM
    exact ⟨by rw [if_neg (by omega)], heap_alloc_old hlt⟩
  · rcases hb with hb | hb
    · simp only [St.set] at hb
      split at hb
      · exact .inr (by omega)
      · exact .inl (.inl hb)
    · exact .inl (.inr hb)

/-- A new block that nobody writes again. -/
theorem Inv.addImm {M : MMap} {σ : St} {w : World} (h : Inv M σ w) (o : Obj) : Inv M σ (w.alloc o) ∧ KeepF M σ w M σ (w.alloc o) := by
  have hM : (fun x => if x = w.heap.size then none else M x) = M := by
    funext x
    split
    · rename_i hx
      subst hx
      cases hm : M w.heap.size with
      | none => rfl
      | some m => have := h.dom w.heap.size (by simp [hm]); omega
    · rfl
  have hk := Keep.alloc h.dom o none
  rw [hM] at hk
  have hold : ∀ b, σ.has b → (w.alloc o).heap[b]? = w.heap[b]? := fun b hb => heap_alloc_old (h.dom b (h.lt hb))
  refine ⟨⟨fun b cs hb => (h.box b cs hb).keep hk rfl (hold b (has_box hb)), fun b s n hb => (h.buf b s n hb).keep rfl (hold b (has_buf hb)), fun b hb => ?_⟩,
    { hk with frame := fun b hb _ => ⟨rfl, heap_alloc_old (h.dom b hb)⟩, fresh := fun b hb => .inl hb }⟩
  have := h.dom b hb
  rw [heap_alloc_size]; omega

/-- A block's cells are other ones. -/
def setRow (w : World) (b : Nat) (c : Array Value) (e : TypeId) : World := { w with heap := w.heap.setIfInBounds b (.cells c e (0, 0)) }

theorem setRow_same {w : World} {b : Nat} (h : b < w.heap.size) (c : Array Value) (e : TypeId) : (setRow w b c e).heap[b]? = some (.cells c e (0, 0)) := by
  simp [setRow, h]

theorem setRow_other {w : World} {b x : Nat} (h : x ≠ b) (c : Array Value) (e : TypeId) : (setRow w b c e).heap[x]? = w.heap[x]? := by
  simp [setRow, Array.getElem?_setIfInBounds_ne (Ne.symm h)]

theorem Inv.setBox {M : MMap} {σ : St} {w : World} (h : Inv M σ w) {b : Nat} {old new : List D} (hb : σ.box b = some old) {c : Array Value} {e : TypeId}
    (hc : ∃ c₀, w.heap[b]? = some (.cells c₀ e (0, 0))) (hr : RepAll M w new c.toList) (h1 : ∀ u ∈ c.toList, u.oneCell' = true) :
    Inv M (σ.set b new) (setRow w b c e) ∧ KeepF M σ w M (σ.set b new) (setRow w b c e) := by
  obtain ⟨c₀, hc⟩ := hc
  have hbM : M b = some .box := (h.box _ _ hb).1
  have hlt := heap_lt hc
  have hk : Keep M w M (setRow w b c e) := by
    refine ⟨rfl, rfl, rfl, by simp [setRow], fun x hx hM => ⟨hM, setRow_other (fun he => by subst he; rw [hbM] at hM; cases hM) _ _⟩, fun x lim cx ex fx hM hx => ?_⟩
    have hne : x ≠ b := fun he => by subst he; rw [hbM] at hM; cases hM
    exact ⟨⟨cx, (setRow_other hne _ _).trans hx, rfl, fun _ _ => rfl⟩, .inr ⟨lim, Nat.le_refl _, hM⟩⟩
  refine ⟨⟨fun x cs hx => ?_, fun x s n hx => ?_, fun x hx => ?_⟩, { hk with frame := fun x hx hn => ⟨rfl, setRow_other (fun he => hn ?_) _ _⟩, fresh := fun x hx => .inl ?_ }⟩
  · simp only [St.set] at hx
    split at hx
    · rename_i he
      subst he; cases hx
      exact ⟨hbM, c, e, setRow_same hlt _ _, RepAll.keep hk _ _ hr, h1⟩
    · rename_i hne
      exact (h.box x cs hx).keep hk rfl (setRow_other hne _ _)
  · have hne : x ≠ b := fun he => by
      have := (h.buf x s n hx).1
      rw [he, hbM] at this; cases this
    exact (h.buf x s n hx).keep rfl (setRow_other hne _ _)
  · simp only [setRow, Array.size_setIfInBounds]; exact h.dom x hx
  · subst he; exact has_box hb
  · rcases hx with hx | hx
    · simp only [St.set] at hx
      split at hx
      · rename_i he; subst he; exact has_box hb
      · exact .inl hx
    · exact .inr hx

/-- A store run over the cells of a block. -/
theorem run_store_cells {P : Program} (b off : Nat) (e : TypeId) : ∀ (vs : List Value) (i : Nat) (c : Array Value) (w : World), w.heap[b]? = some (.cells c e (0, 0)) → off + i + vs.length ≤ c.size →
    (∀ v ∈ vs, v.oneCell' = true) → ∃ c', (storeCells ⟨b, off, none⟩ vs i).run P w = .ok () (setRow w b c' e) ∧ c'.toList = c.toList.take (off + i) ++ vs ++ c.toList.drop (off + i + vs.length)
  | [], i, c, w, hc, hl, h1 => by
    refine ⟨c, ?_, by simp⟩
    have : setRow w b c e = w := by
      simp only [setRow]
      have hlt := heap_lt hc
      have : w.heap.setIfInBounds b (.cells c e (0, 0)) = w.heap := by
        apply Array.ext_getElem?
        intro j
        by_cases hj : b = j
        · subst hj; simp [hlt]; simpa [hlt] using hc.symm
        · simp [Array.getElem?_setIfInBounds_ne hj]
      rw [this]
    simp [storeCells, this]
  | v :: vs, i, c, w, hc, hl, h1 => by
    simp only [List.length_cons] at hl
    have hlt := heap_lt hc
    have hadd : Addr.add ⟨b, off, none⟩ i = ⟨b, off + i, none⟩ := by unfold Addr.add; split <;> simp_all
    have hcell : ∃ u, w.cell? ⟨b, off + i, none⟩ = some u := ⟨c[off + i]'(by omega), cell_of hc (by simp [show off + i < c.size by omega])⟩
    obtain ⟨u, hu⟩ := hcell
    have hfz : w.frozen? ⟨b, off + i, none⟩ = false := by simp [World.frozen?, hc]
    have hset : w.setCell ⟨b, off + i, none⟩ v = setRow w b (c.setIfInBounds (off + i) v) e := by
      simp only [World.setCell, setRow]
      congr 1
      apply Array.ext_getElem?
      intro j
      by_cases hj : b = j
      · subst hj
        rw [Array.getElem?_modify, if_pos rfl, hc]
        simp [hlt]
      · simp [Array.getElem?_modify, hj, Array.getElem?_setIfInBounds_ne hj]
    obtain ⟨c', r1, r2⟩ := run_store_cells (P := P) b off e vs (i + 1) (c.setIfInBounds (off + i) v) (setRow w b (c.setIfInBounds (off + i) v) e) (setRow_same hlt _ _) (by simp; omega) (fun x hx => h1 x (by simp [hx]))
    refine ⟨c', ?_, ?_⟩
    · simp only [storeCells, hadd, Sem.run_bind, run_store P w _ v .plain (h1 v (by simp)), hu, hfz, hset]
      simp only [Bool.false_eq_true, if_false, Result.andThen]
      rw [r1]
      simp [setRow]
    · rw [r2]
      simp only [Array.toList_setIfInBounds, List.length_cons]
      have hlt' : off + i < c.toList.length := by simp; omega
      rw [show off + (i + 1) = (off + i) + 1 by omega, List.take_succ_eq_append_getElem (by simpa using hlt')]
      simp only [List.getElem_set_self, List.take_set_of_le (Nat.le_refl _)]
      rw [List.drop_set_of_lt (by omega)]
      simp [List.append_assoc, show off + i + 1 + vs.length = off + i + (vs.length + 1) by omega]
end Go.AL
