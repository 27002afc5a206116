import Derived.Test.YtanhkkillmbkhaaZaaW
import Derived.Laws.Cells
import Derived.Laws.Slices
import Derived.Laws.Strings
import Derived.Laws.Append
import Derived.Laws.Rows
namespace Go.AL
set_option linter.unusedVariables false
set_option linter.unusedSimpArgs false

/-! ### lists of data -/
section
variable {M : MMap} {w : World}

theorem RepAll.iff : ∀ (ds : List D) (vs : List Value), RepAll M w ds vs ↔ ds.length = vs.length ∧ ∀ (i : Nat) (d : D) (v : Value), ds[i]? = some d → vs[i]? = some v → Rep M w d v
  | [], vs => by cases vs <;> simp [RepAll]
  | d :: ds, [] => by simp [RepAll]
  | d :: ds, v :: vs => by
    simp only [RepAll, List.length_cons, Nat.add_right_cancel_iff]
    constructor
    · rintro ⟨v', vs', he, h1, h2⟩
      simp only [List.cons.injEq] at he
      obtain ⟨rfl, rfl⟩ := he
      obtain ⟨hl, h⟩ := (RepAll.iff ds vs).1 h2
      refine ⟨hl, fun i d' v' hd hv => ?_⟩
      cases i with
      | zero => simp at hd hv; subst hd; subst hv; exact h1
      | succ i => exact h i d' v' (by simpa using hd) (by simpa using hv)
    · rintro ⟨hl, h⟩
      exact ⟨v, vs, rfl, h 0 d v rfl rfl, (RepAll.iff ds vs).2 ⟨hl, fun i d' v' hd hv => h (i + 1) d' v' (by simpa using hd) (by simpa using hv)⟩⟩

theorem RepAll.length {ds : List D} {vs : List Value} (h : RepAll M w ds vs) : ds.length = vs.length := ((RepAll.iff ds vs).1 h).1

theorem RepAll.get {ds : List D} {vs : List Value} (h : RepAll M w ds vs) {i : Nat} {d : D} (hd : ds[i]? = some d) : ∃ v, vs[i]? = some v ∧ Rep M w d v := by
  obtain ⟨hl, hh⟩ := (RepAll.iff ds vs).1 h
  have hi : i < vs.length := by rw [← hl]; exact (List.getElem?_eq_some_iff.1 hd).1
  exact ⟨vs[i], by simp [hi], hh i d _ hd (by simp [hi])⟩

theorem RepAll.drop {ds : List D} {vs : List Value} (h : RepAll M w ds vs) (k : Nat) : RepAll M w (ds.drop k) (vs.drop k) := by
  obtain ⟨hl, hh⟩ := (RepAll.iff ds vs).1 h
  refine (RepAll.iff _ _).2 ⟨by simp [hl], fun i d v hd hv => hh (k + i) d v (by simpa [List.getElem?_drop] using hd) (by simpa [List.getElem?_drop] using hv)⟩

theorem RepAll.take {ds : List D} {vs : List Value} (h : RepAll M w ds vs) (k : Nat) : RepAll M w (ds.take k) (vs.take k) := by
  obtain ⟨hl, hh⟩ := (RepAll.iff ds vs).1 h
  refine (RepAll.iff _ _).2 ⟨by simp [hl], fun i d v hd hv => ?_⟩
  simp only [List.getElem?_take] at hd hv
  split at hd
  · rename_i hlt; rw [if_pos hlt] at hv; exact hh i d v hd hv
  · cases hd

theorem RepAll.append {ds ds' : List D} {vs vs' : List Value} (h : RepAll M w ds vs) (h' : RepAll M w ds' vs') : RepAll M w (ds ++ ds') (vs ++ vs') := by
  induction ds generalizing vs with
  | nil => simp only [RepAll] at h; subst h; exact h'
  | cons d ds ih =>
    obtain ⟨v, vs₁, rfl, h1, h2⟩ := h
    exact ⟨v, vs₁ ++ vs', rfl, h1, ih h2⟩

theorem RepAll.map {α : Type} (f : α → D) (g : α → Value) (l : List α) (h : ∀ x ∈ l, Rep M w (f x) (g x)) : RepAll M w (l.map f) (l.map g) := by
  induction l with
  | nil => rfl
  | cons x l ih => exact ⟨_, _, rfl, h x (by simp), ih fun y hy => h y (by simp [hy])⟩

theorem RepCells.get : ∀ {cs : List D} {b off : Nat}, RepCells M w cs b off → ∀ {i : Nat} {d : D}, cs[i]? = some d →
    ∃ v, w.cell? ⟨b, off + i, none⟩ = some v ∧ v.oneCell' = true ∧ ImmAt M b (off + i) ∧ Rep M w d v
  | [], _, _, _, i, d, hd => by simp at hd
  | c :: cs, b, off, h, i, d, hd => by
    obtain ⟨h1, h2⟩ := h
    cases i with
    | zero => simp at hd; subst hd; exact h1
    | succ i =>
      have := RepCells.get h2 (i := i) (by simpa using hd)
      rwa [show off + (i + 1) = off + 1 + i by omega]

theorem RepCells.mk : ∀ {cs : List D} {b off : Nat}, (∀ (i : Nat) (d : D), cs[i]? = some d → ∃ v, w.cell? ⟨b, off + i, none⟩ = some v ∧ v.oneCell' = true ∧ ImmAt M b (off + i) ∧ Rep M w d v) → RepCells M w cs b off
  | [], _, _, _ => trivial
  | c :: cs, b, off, h => by
    refine ⟨h 0 c rfl, RepCells.mk fun i d hd => ?_⟩
    have := h (i + 1) d (by simpa using hd)
    rwa [show off + 1 + i = off + (i + 1) by omega]

theorem RepCells.drop {cs : List D} {b off : Nat} (h : RepCells M w cs b off) (k : Nat) : RepCells M w (cs.drop k) b (off + k) :=
  RepCells.mk fun i d hd => by
    have := h.get (i := k + i) (by simpa [List.getElem?_drop] using hd)
    rwa [show off + k + i = off + (k + i) by omega]

theorem RepRows.get : ∀ {es : List (List D)} {b off size : Nat}, RepRows M w es b off size → ∀ {i : Nat} {e : List D}, es[i]? = some e → e.length = size ∧ RepCells M w e b (off + i * size)
  | [], _, _, _, _, i, e, he => by simp at he
  | c :: cs, b, off, size, h, i, e, he => by
    obtain ⟨h0, h1, h2⟩ := h
    cases i with
    | zero => simp at he; subst he; simpa using ⟨h0, h1⟩
    | succ i =>
      have := RepRows.get h2 (i := i) (by simpa using he)
      rwa [show off + (i + 1) * size = off + size + i * size by rw [Nat.add_mul]; omega]

theorem RepRows.mk : ∀ {es : List (List D)} {b off size : Nat}, (∀ (i : Nat) (e : List D), es[i]? = some e → e.length = size ∧ RepCells M w e b (off + i * size)) → RepRows M w es b off size
  | [], _, _, _, _ => trivial
  | c :: cs, b, off, size, h => by
    have h0 := h 0 c rfl
    refine ⟨h0.1, by simpa using h0.2, RepRows.mk fun i e he => ?_⟩
    have := h (i + 1) e (by simpa using he)
    rwa [show off + (i + 1) * size = off + size + i * size by rw [Nat.add_mul]; omega] at this

theorem RepRows.drop {es : List (List D)} {b off size : Nat} (h : RepRows M w es b off size) (k : Nat) : RepRows M w (es.drop k) b (off + k * size) size :=
  RepRows.mk fun i e he => by
    have := h.get (i := k + i) (by simpa [List.getElem?_drop] using he)
    rwa [show off + k * size + i * size = off + (k + i) * size by rw [Nat.add_mul]; omega]

theorem RepRows.take {es : List (List D)} {b off size : Nat} (h : RepRows M w es b off size) (k : Nat) : RepRows M w (es.take k) b off size :=
  RepRows.mk fun i e he => by
    simp only [List.getElem?_take] at he
    split at he
    · exact h.get he
    · cases he
end

/-! ### what the table of types says -/
section
variable (P : Program)
def szP (t : TypeId) : Option Nat := (P.info? t).map (·.size)
def bytesP (t : TypeId) : Option Nat := (P.info? t).map (·.bytes)
def zeroP (t : TypeId) : Option (List D) := (P.info? t).bind fun i => i.zero.bind fun z => if z.cells.toList.all Value.oneCell' = true then some (z.cells.toList.map cD) else none
def aggP (t : TypeId) : Option Bool := (P.underlying t).map fun | .struct _ | .array _ _ => true | _ => false
def sliP (t : TypeId) : Option TypeId := match P.underlying t with | some (.slice e) => some e | _ => none
def arrP (t : TypeId) : Option (Nat × TypeId) := match P.underlying t with | some (.array n e) => some (n, e) | _ => none
def intP (t : TypeId) : Option IntKind := match P.underlying t with | some (.int k) => some k | _ => none
def strP (t : TypeId) : Bool := match P.underlying t with | some .string => true | _ => false
def boolP (t : TypeId) : Bool := match P.underlying t with | some .bool => true | _ => false
def concP (t : TypeId) : Bool := match P.underlying t with | some (.interface _) => false | some _ => true | none => false
def knownP (t : TypeId) : Bool := (P.underlying t).isSome
/-- A field's offset and type, if it has cells. -/
def fldP (t : TypeId) (f : Nat) : Option (Nat × TypeId) :=
  match P.underlying t with
  | some (.struct fs) => (fs[f]?).bind fun x => match szP P x.type with | some 0 => none | some _ => some (x.offset, x.type) | none => none
  | _ => none

/-- A part of cells, as a value. -/
def partD (t : TypeId) (cs : List D) (off : Nat) : Option D :=
  match aggP P t, szP P t with
  | some true, some n => if off + n ≤ cs.length then some (.agg ((cs.drop off).take n)) else none
  | some false, some _ => cs[off]?
  | _, _ => none
end

section
variable {P : Program} {M : MMap} {w : World}

theorem run_sizeOf {t : TypeId} {n : Nat} (h : szP P t = some n) (w : World) : (sizeOf t).run P w = .ok n w := by
  simp only [szP, Option.map_eq_some_iff] at h
  obtain ⟨i, hi, rfl⟩ := h
  simp [sizeOf, typeInfo, hi]

theorem run_isAgg {t : TypeId} {b : Bool} (h : aggP P t = some b) (w : World) : (isAgg t).run P w = .ok b w := by
  simp only [aggP, Option.map_eq_some_iff] at h
  obtain ⟨d, hd, rfl⟩ := h
  cases d <;> simp [isAgg, run_underlying hd]

theorem und_of_sli {t e : TypeId} (h : sliP P t = some e) : P.underlying t = some (.slice e) := by
  unfold sliP at h; split at h
  · rename_i e' he; cases h; exact he
  · cases h
theorem und_of_arr {t e : TypeId} {n : Nat} (h : arrP P t = some (n, e)) : P.underlying t = some (.array n e) := by
  unfold arrP at h; split at h
  · rename_i he; cases h; exact he
  · cases h
theorem und_of_int {t : TypeId} {k : IntKind} (h : intP P t = some k) : P.underlying t = some (.int k) := by
  unfold intP at h; split at h
  · rename_i he; cases h; exact he
  · cases h
theorem und_of_str {t : TypeId} (h : strP P t = true) : P.underlying t = some .string := by
  unfold strP at h; split at h
  · assumption
  · cases h
theorem und_of_bool {t : TypeId} (h : boolP P t = true) : P.underlying t = some .bool := by
  unfold boolP at h; split at h
  · assumption
  · cases h
theorem und_of_fld {t : TypeId} {f off : Nat} {ft : TypeId} (h : fldP P t f = some (off, ft)) : ∃ fs x n, P.underlying t = some (.struct fs) ∧ fs[f]? = some x ∧ x.offset = off ∧ x.type = ft ∧ szP P ft = some n ∧ n ≠ 0 := by
  unfold fldP at h
  split at h
  · rename_i fs hfs
    simp only [Option.bind_eq_some_iff] at h
    obtain ⟨x, hx, h⟩ := h
    split at h
    · cases h
    · rename_i n hn hs
      simp only [Option.some.injEq, Prod.mk.injEq] at h
      obtain ⟨rfl, rfl⟩ := h
      exact ⟨fs, x, n, hfs, hx, rfl, rfl, hs, fun h0 => by subst h0; exact hn rfl⟩
    · cases h
  · cases h

theorem oneCell_take {a : Array Value} (h : ∀ u ∈ a.toList, u.oneCell' = true) (i j : Nat) : ∀ u ∈ (a.extract i j).toList, u.oneCell' = true := by
  intro u hu
  refine h u ?_
  rw [Array.toList_extract, List.extract_eq_take_drop] at hu
  exact List.mem_of_mem_drop (List.mem_of_mem_take hu)

theorem part_rep {t : TypeId} {cs : List D} {off : Nat} {d : D} (hp : partD P t cs off = some d) {a : Array Value} (h : RepAll M w cs a.toList) (h1 : ∀ u ∈ a.toList, u.oneCell' = true) (w' : World) :
    ∃ v, (part t a off).run P w' = .ok v w' ∧ Rep M w d v := by
  unfold partD at hp
  split at hp
  · rename_i n hg hs
    split at hp
    · rename_i hle
      cases hp
      refine ⟨.agg (a.extract off (off + n)), by simp [part, run_isAgg hg, run_sizeOf hs], a.extract off (off + n), rfl, ?_, oneCell_take h1 _ _⟩
      rw [Array.toList_extract, List.extract_eq_take_drop, show off + n - off = n by omega]
      exact (h.drop off).take n
    · cases hp
  · rename_i n hg hs
    obtain ⟨v, hv, hr⟩ := h.get hp
    have : a[off]? = some v := by simpa using hv
    exact ⟨v, by simp [part, run_isAgg hg, this], hr⟩
  · cases hp

theorem load_rep {t : TypeId} {cs : List D} {d : D} {b off : Nat} (hp : partD P t cs 0 = some d) (h : RepCells M w cs b off) :
    ∃ v, (loadVar t ⟨b, off, none⟩).run P w = .ok v w ∧ Rep M w d v := by
  unfold partD at hp
  split at hp
  · rename_i n hg hs
    split at hp
    · rename_i hle
      cases hp
      have hlen : n ≤ cs.length := by omega
      -- the cells' values
      have hc : ∀ j, j < n → ∃ v, w.cell? (Addr.add ⟨b, off, none⟩ j) = some v ∧ v.oneCell' = true ∧ ∀ (d : D), cs[j]? = some d → Rep M w d v := by
        intro j hj
        obtain ⟨v, h1, h2, h3, h4⟩ := h.get (i := j) (d := cs[j]'(by omega)) (by simp [show j < cs.length by omega])
        refine ⟨v, ?_, h2, fun d hd => ?_⟩
        · have : Addr.add ⟨b, off, none⟩ j = ⟨b, off + j, none⟩ := by unfold Addr.add; split <;> simp_all
          rw [this]; exact h1
        · simp [show j < cs.length by omega] at hd; subst hd; exact h4
      let f : Nat → Value := fun j => (w.cell? (Addr.add ⟨b, off, none⟩ j)).getD undef
      have hf : ∀ j, j < n → w.cell? (Addr.add ⟨b, off, none⟩ j) = some (f j) := fun j hj => by
        obtain ⟨v, h1, _⟩ := hc j hj
        simp [f, h1]
      have hl := run_loadCells (P := P) (w := w) ⟨b, off, none⟩ n f hf
      refine ⟨_, by simp [loadVar, run_isAgg hg, run_sizeOf hs, hl]; rfl, _, rfl, ?_, ?_⟩
      · refine (RepAll.iff _ _).2 ⟨by simp [hlen], fun i d v hd hv => ?_⟩
        simp only [List.drop_zero, List.getElem?_take] at hd
        split at hd
        · rename_i hi
          obtain ⟨u, g1, g2, g3⟩ := hc i hi
          have : v = u := by
            simp [hi] at hv
            rw [← hv]; simp [f, g1]
          subst this
          exact g3 d hd
        · cases hd
      · intro u hu
        simp at hu
        obtain ⟨j, hj, rfl⟩ := hu
        obtain ⟨u, g1, g2, g3⟩ := hc j hj
        simp [f, g1, g2]
    · cases hp
  · rename_i n hg hs
    obtain ⟨v, h1, h2, h3, h4⟩ := h.get hp
    have h1' : w.cell? ⟨b, off, none⟩ = some v := by simpa using h1
    exact ⟨v, by simp [loadVar, run_isAgg hg, load, Sem.run, h1'], h4⟩
  · cases hp
end
end Go.AL
