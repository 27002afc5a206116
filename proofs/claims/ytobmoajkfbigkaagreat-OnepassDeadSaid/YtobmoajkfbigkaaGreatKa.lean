import Derived.Calls
import Derived.Orders
import Derived.Tactics
import Derived.KernelRfl
import Derived.Laws.Cells
import Derived.Laws.Slices
import Derived.Laws.Strings
import Derived.Laws.Append
import Derived.Laws.Rows
import Derived.Laws.StructEq
import Derived.ChangeKeysEq
import Derived.Laws.Concat
import Derived.Laws.Small
import Derived.Laws.AppendOwn
import Derived.Laws.MakeOwn
set_option linter.unusedSectionVars false
set_option linter.unusedVariables false
set_option linter.unusedSimpArgs false
namespace Go.AL
inductive Own where
  | no | nil | exact | buf (b size : Nat)
inductive D where
  | any
  | bool (b : Bool) | int (k : IntKind) (n : Int) | str (s : ByteArray)
  | nilptr | ptr (b off : Nat) | eptr (cs : List D)
  | slice (o : Own) (es : List (List D))
  | bsl (b off len cap : Nat)
  | nilfunc | func (fn : Fn) (first captured : List D)
  | niliface | iface (t : TypeId) (d : D)
  | agg (cs : List D) | tup (ds : List D)
  | roomy (b size room : Nat) (es : List (List D))
inductive MK where
  | box | buf (lim : Nat)
abbrev MMap := Nat → Option MK
def ImmAt (M : MMap) (b off : Nat) : Prop :=
  match M b with
  | none => True
  | some .box => False
  | some (.buf lim) => off < lim
mutual
def Rep (M : MMap) (w : World) : D → Value → Prop
  | .any, _ => True
  | .bool b, v => v = .bool b
  | .int k n, v => v = .int k n
  | .str s, v => v = .string s
  | .nilptr, v => v = .pointer none
  | .ptr b off, v => v = .pointer (some ⟨b, off, none⟩)
  | .eptr cs, v => ∃ b off, v = .pointer (some ⟨b, off, none⟩) ∧ RepCells M w cs b off
  | .slice o es, v => match o with
    | .nil => v = .slice none 0 0 ∧ es = []
    | .exact => ∃ b off size, v = .slice (some ⟨b, off, none⟩) es.length es.length ∧ RepRows M w es b off size
    | .no => (v = .slice none 0 0 ∧ es = []) ∨ (∃ b off cap size, v = .slice (some ⟨b, off, none⟩) es.length cap ∧ es.length ≤ cap ∧ RepRows M w es b off size) ∨ ∃ a cap, v = .slice (some a) 0 cap ∧ es = []
    | .buf b size => ∃ cap c e f, v = .slice (some ⟨b, 0, none⟩) es.length cap ∧ es.length ≤ cap ∧ RepRows M w es b 0 size ∧ w.heap[b]? = some (.cells c e f) ∧ c.size = cap * size ∧ M b ≠ some .box
  | .bsl b off len cap, v => v = .slice (some ⟨b, off, none⟩) len cap
  | .nilfunc, v => v = .nilFunc
  | .func fn fi ca, v => ∃ vf vc, v = .func fn vf vc ∧ zf6 M w fi vf.toList ∧ zf6 M w ca vc.toList
  | .niliface, v => v = .nilIface
  | .iface t d, v => ∃ u, v = .iface t u ∧ Rep M w d u
  | .agg cs, v => ∃ a, v = .agg a ∧ zf6 M w cs a.toList ∧ ∀ u ∈ a.toList, u.oneCell' = true
  | .tup ds, v => ∃ a, v = .tuple a ∧ zf6 M w ds a.toList
  | .roomy b size k es, v => ∃ cap c e f, v = .slice (some ⟨b, 0, none⟩) es.length cap ∧ es.length ≤ cap ∧ k ≤ cap ∧ RepRows M w es b 0 size ∧ w.heap[b]? = some (.cells c e f) ∧ c.size = cap * size ∧ M b ≠ some .box
def zf6 (M : MMap) (w : World) : List D → List Value → Prop
  | [], vs => vs = []
  | d :: ds, vs => ∃ v vs', vs = v :: vs' ∧ Rep M w d v ∧ zf6 M w ds vs'
def RepCells (M : MMap) (w : World) : List D → Nat → Nat → Prop
  | [], _, _ => True
  | d :: ds, b, off => (∃ v, w.cell? ⟨b, off, none⟩ = some v ∧ v.oneCell' = true ∧ ImmAt M b off ∧ Rep M w d v) ∧ RepCells M w ds b (off + 1)
def RepRows (M : MMap) (w : World) : List (List D) → Nat → Nat → Nat → Prop
  | [], _, _, _ => True
  | e :: es, b, off, size => e.length = size ∧ RepCells M w e b off ∧ RepRows M w es b (off + size) size
end
structure Keep (M : MMap) (w : World) (M' : MMap) (w' : World) : Prop where
  os : w'.os = w.os
  tape : w'.tape = w.tape
  output : w'.output = w.output
  size : w.heap.size ≤ w'.heap.size
  imm : ∀ b, b < w.heap.size → M b = none → M' b = none ∧ w'.heap[b]? = w.heap[b]?
  buf : ∀ b lim c e f, M b = some (.buf lim) → w.heap[b]? = some (.cells c e f) →
    (∃ c', w'.heap[b]? = some (.cells c' e f) ∧ c'.size = c.size ∧ ∀ i, i < lim → c'[i]? = c[i]?) ∧
    (M' b = none ∨ ∃ lim', lim ≤ lim' ∧ M' b = some (.buf lim'))
theorem Keep.refl (M : MMap) (w : World) : Keep M w M w :=
  ⟨rfl, rfl, rfl, Nat.le_refl _, fun _ _ h => ⟨h, rfl⟩, fun _ lim c _ _ h hc => ⟨⟨c, hc, rfl, fun _ _ => rfl⟩, .inr ⟨lim, Nat.le_refl _, h⟩⟩⟩
theorem heap_lt {w : World} {b : Nat} {o : Obj} (h : w.heap[b]? = some o) : b < w.heap.size :=
  (Array.getElem?_eq_some_iff.1 h).1
theorem Keep.trans {M M₁ M₂ : MMap} {w w₁ w₂ : World} (h : Keep M w M₁ w₁) (k : Keep M₁ w₁ M₂ w₂) : Keep M w M₂ w₂ := by
  refine ⟨k.os.trans h.os, k.tape.trans h.tape, k.output.trans h.output, Nat.le_trans h.size k.size, fun b hb hM => ?_, fun b lim c e f hM hc => ?_⟩
  · obtain ⟨h1, h2⟩ := h.imm b hb hM
    obtain ⟨k1, k2⟩ := k.imm b (Nat.lt_of_lt_of_le hb h.size) h1
    exact ⟨k1, k2.trans h2⟩
  · obtain ⟨⟨c₁, h1, h2, h3⟩, h4⟩ := h.buf b lim c e f hM hc
    rcases h4 with h4 | ⟨lim₁, h4, h5⟩
    · obtain ⟨k1, k2⟩ := k.imm b (heap_lt h1) h4
      exact ⟨⟨c₁, k2.trans h1, h2, h3⟩, .inl k1⟩
    · obtain ⟨⟨c₂, k1, k2, k3⟩, k4⟩ := k.buf b lim₁ c₁ e f h5 h1
      refine ⟨⟨c₂, k1, k2.trans h2, fun i hi => (k3 i (Nat.lt_of_lt_of_le hi h4)).trans (h3 i hi)⟩, ?_⟩
      rcases k4 with k4 | ⟨lim₂, k4, k5⟩
      · exact .inl k4
      · exact .inr ⟨lim₂, Nat.le_trans h4 k4, k5⟩
theorem cell_some {w : World} {b off : Nat} {v : Value} (h : w.cell? ⟨b, off, none⟩ = some v) : ∃ c e f, w.heap[b]? = some (.cells c e f) ∧ c[off]? = some v := by
  simp only [World.cell?] at h
  split at h
  · rename_i c e f hc
    simp at h
    exact ⟨c, e, f, hc, h⟩
  · cases h
theorem cell_of {w : World} {b off : Nat} {v : Value} {c : Array Value} {e : TypeId} {f : Nat × Nat} (h : w.heap[b]? = some (.cells c e f)) (hv : c[off]? = some v) : w.cell? ⟨b, off, none⟩ = some v := by
  simp [World.cell?, h, hv]
theorem Keep.cell {M M' : MMap} {w w' : World} (h : Keep M w M' w') {b off : Nat} {v : Value} (hc : w.cell? ⟨b, off, none⟩ = some v) (hi : ImmAt M b off) :
    w'.cell? ⟨b, off, none⟩ = some v ∧ ImmAt M' b off := by
  obtain ⟨c, e, f, hh, hv⟩ := cell_some hc
  unfold ImmAt at hi
  cases hM : M b with
  | none =>
    obtain ⟨h1, h2⟩ := h.imm b (heap_lt hh) hM
    exact ⟨cell_of (h2.trans hh) hv, by simp [ImmAt, h1]⟩
  | some m =>
    cases m with
    | box => simp [hM] at hi
    | buf lim =>
      simp [hM] at hi
      obtain ⟨⟨c', h1, _, h3⟩, h4⟩ := h.buf b lim c e f hM hh
      refine ⟨cell_of h1 ((h3 off hi).trans hv), ?_⟩
      rcases h4 with h4 | ⟨lim', h4, h5⟩
      · simp [ImmAt, h4]
      · simp only [ImmAt, h5]; omega
theorem Keep.notBox {M M' : MMap} {w w' : World} (h : Keep M w M' w') {b : Nat} {c : Array Value} {e : TypeId} {f : Nat × Nat} (hc : w.heap[b]? = some (.cells c e f)) (hM : M b ≠ some .box) :
    (∃ c', w'.heap[b]? = some (.cells c' e f) ∧ c'.size = c.size) ∧ M' b ≠ some .box := by
  cases hb : M b with
  | none =>
    obtain ⟨h1, h2⟩ := h.imm b (heap_lt hc) hb
    exact ⟨⟨c, h2.trans hc, rfl⟩, by simp [h1]⟩
  | some m =>
    cases m with
    | box => exact absurd hb hM
    | buf lim =>
      obtain ⟨⟨c', h1, h2, _⟩, h4⟩ := h.buf b lim c e f hb hc
      refine ⟨⟨c', h1, h2⟩, ?_⟩
      rcases h4 with h4 | ⟨lim', _, h5⟩
      · simp [h4]
      · simp [h5]
mutual
theorem Rep.keep {M M' : MMap} {w w' : World} (h : Keep M w M' w') : ∀ (d : D) (v : Value), Rep M w d v → Rep M' w' d v
  | .any, _, _ => trivial
  | .bool _, _, r => r
  | .int _ _, _, r => r
  | .str _, _, r => r
  | .nilptr, _, r => r
  | .ptr _ _, _, r => r
  | .eptr cs, _, r => by
    obtain ⟨b, off, rfl, r⟩ := r
    exact ⟨b, off, rfl, RepCells.keep h cs b off r⟩
  | .slice o es, v, r => by
    cases o with
    | nil => exact r
    | exact =>
      obtain ⟨b, off, size, hv, r⟩ := r
      exact ⟨b, off, size, hv, RepRows.keep h es b off size r⟩
    | no =>
      rcases r with r | ⟨b, off, cap, size, hv, hl, r⟩ | r
      · exact .inl r
      · exact .inr (.inl ⟨b, off, cap, size, hv, hl, RepRows.keep h es b off size r⟩)
      · exact .inr (.inr r)
    | buf b size =>
      obtain ⟨cap, c, e, f, hv, hl, r, hc, hs, hb⟩ := r
      obtain ⟨⟨c', h1, h2⟩, h3⟩ := h.notBox hc hb
      exact ⟨cap, c', e, f, hv, hl, RepRows.keep h es b 0 size r, h1, h2.trans hs, h3⟩
  | .bsl _ _ _ _, _, r => r
  | .nilfunc, _, r => r
  | .func fn fi ca, _, r => by
    obtain ⟨vf, vc, hv, r1, r2⟩ := r
    exact ⟨vf, vc, hv, zf6.keep h fi _ r1, zf6.keep h ca _ r2⟩
  | .niliface, _, r => r
  | .iface t d, _, r => by
    obtain ⟨u, hv, r⟩ := r
    exact ⟨u, hv, Rep.keep h d u r⟩
  | .agg cs, _, r => by
    obtain ⟨a, hv, r, h1⟩ := r
    exact ⟨a, hv, zf6.keep h cs _ r, h1⟩
  | .tup ds, _, r => by
    obtain ⟨a, hv, r⟩ := r
    exact ⟨a, hv, zf6.keep h ds _ r⟩
  | .roomy b size k es, _, r => by
    obtain ⟨cap, c, e, f, hv, hl, hk, r, hc, hs, hb⟩ := r
    obtain ⟨⟨c', h1, h2⟩, h3⟩ := h.notBox hc hb
    exact ⟨cap, c', e, f, hv, hl, hk, RepRows.keep h es b 0 size r, h1, h2.trans hs, h3⟩
theorem zf6.keep {M M' : MMap} {w w' : World} (h : Keep M w M' w') : ∀ (ds : List D) (vs : List Value), zf6 M w ds vs → zf6 M' w' ds vs
  | [], _, r => r
  | d :: ds, _, r => by
    obtain ⟨v, vs, hv, r1, r2⟩ := r
    exact ⟨v, vs, hv, Rep.keep h d v r1, zf6.keep h ds vs r2⟩
theorem RepCells.keep {M M' : MMap} {w w' : World} (h : Keep M w M' w') : ∀ (ds : List D) (b off : Nat), RepCells M w ds b off → RepCells M' w' ds b off
  | [], _, _, _ => trivial
  | d :: ds, b, off, r => by
    obtain ⟨⟨v, hv, ho, hi, r1⟩, r2⟩ := r
    obtain ⟨h1, h2⟩ := h.cell hv hi
    exact ⟨⟨v, h1, ho, h2, Rep.keep h d v r1⟩, RepCells.keep h ds b _ r2⟩
theorem RepRows.keep {M M' : MMap} {w w' : World} (h : Keep M w M' w') : ∀ (es : List (List D)) (b off size : Nat), RepRows M w es b off size → RepRows M' w' es b off size
  | [], _, _, _, _ => trivial
  | e :: es, b, off, size, r => by
    obtain ⟨r0, r1, r2⟩ := r
    exact ⟨r0, RepCells.keep h e b off r1, RepRows.keep h es b _ size r2⟩
end
end Go.AL
namespace Go.AL
@[ext] structure St where
  box : Nat → Option (List D) := fun _ => none
  buf : Nat → Option (Nat × Nat) := fun _ => none
def St.has (σ : St) (b : Nat) : Prop := σ.box b ≠ none ∨ σ.buf b ≠ none
def BoxAt (M : MMap) (w : World) (b : Nat) (cs : List D) : Prop :=
  M b = some .box ∧ ∃ c e, w.heap[b]? = some (.cells c e (0, 0)) ∧ zf6 M w cs c.toList ∧ ∀ u ∈ c.toList, u.oneCell' = true
def BufAt (M : MMap) (w : World) (b size n : Nat) : Prop :=
  M b = some (.buf (n * size)) ∧ ∃ c e cap, w.heap[b]? = some (.cells c e (0, 0)) ∧ c.size = cap * size ∧ n ≤ cap
structure Inv (M : MMap) (σ : St) (w : World) : Prop where
  box : ∀ b cs, σ.box b = some cs → BoxAt M w b cs
  buf : ∀ b s n, σ.buf b = some (s, n) → BufAt M w b s n
  dom : ∀ b, M b ≠ none → b < w.heap.size
structure KeepF (M : MMap) (σ : St) (w : World) (M' : MMap) (σ' : St) (w' : World) : Prop extends Keep M w M' w' where
  frame : ∀ b, M b ≠ none → ¬ σ.has b → M' b = M b ∧ w'.heap[b]? = w.heap[b]?
  fresh : ∀ b, σ'.has b → σ.has b ∨ w.heap.size ≤ b
theorem Inv.lt {M : MMap} {σ : St} {w : World} (h : Inv M σ w) {b : Nat} (hb : σ.has b) : M b ≠ none := by
  rcases hb with hb | hb
  · cases hc : σ.box b with
    | none => exact absurd hc hb
    | some cs => simp [(h.box b cs hc).1]
  · cases hc : σ.buf b with
    | none => exact absurd hc hb
    | some p => simp [(h.buf b p.1 p.2 hc).1]
theorem KeepF.refl (M : MMap) (σ : St) (w : World) : KeepF M σ w M σ w :=
  { Keep.refl M w with frame := fun _ _ _ => ⟨rfl, rfl⟩, fresh := fun _ h => .inl h }
theorem KeepF.trans {M M₁ M₂ : MMap} {σ σ₁ σ₂ : St} {w w₁ w₂ : World} (hd : ∀ b, M b ≠ none → b < w.heap.size) (h : KeepF M σ w M₁ σ₁ w₁) (k : KeepF M₁ σ₁ w₁ M₂ σ₂ w₂) : KeepF M σ w M₂ σ₂ w₂ :=
  { h.toKeep.trans k.toKeep with
    frame := fun b hM hb => by
      obtain ⟨h1, h2⟩ := h.frame b hM hb
      have hb' : ¬ σ₁.has b := fun hin => by
        rcases h.fresh b hin with h' | h'
        · exact hb h'
        · have := hd b hM; omega
      obtain ⟨k1, k2⟩ := k.frame b (by rw [h1]; exact hM) hb'
      exact ⟨k1.trans h1, k2.trans h2⟩
    fresh := fun b hb => by
      rcases k.fresh b hb with h' | h'
      · exact h.fresh b h'
      · exact .inr (Nat.le_trans h.size h') }
abbrev Env := Nat → D
def upd (T : Env) (t : Nat) (d : D) : Env := fun u => if u = t then d else T u
def aput (T : Env) (dst : Option Nat) (d : D) : Env := match dst with | some t => upd T t d | none => T
class DSt where
  ds : List Deferred
instance dst0 : DSt := ⟨[]⟩
structure AInv [DSt] (N : Nat) (M : MMap) (T : Env) (σ : St) (a : Act) (w : World) : Prop where
  inv : Inv M σ w
  size : a.tmps.size = N
  defers : a.defers = DSt.ds
  env : ∀ t, Rep M w (T t) (a.tmps.getD t undef)
theorem AInv.put [DSt] {N : Nat} {M : MMap} {T : Env} {σ : St} {a : Act} {w : World} (h : AInv N M T σ a w) {dst : Option Nat} {d : D} {v : Value}
    (hd : ∀ t, dst = some t → t < N) (hr : Rep M w d v) : AInv N M (aput T dst d) σ (a.put dst v) w := by
  cases dst with
  | none => exact h
  | some t =>
    have ht := hd t rfl
    refine ⟨h.inv, by simp [Act.put, h.size], h.defers, fun u => ?_⟩
    simp only [aput, upd, Act.put]
    by_cases hu : u = t
    · subst hu
      simp only [if_true]
      have hlt : u < a.tmps.size := by rw [h.size]; exact ht
      simp [hlt, hr]
    · simp only [hu, if_false]
      have := h.env u
      simpa [Array.getElem?_setIfInBounds_ne (Ne.symm hu)] using this
theorem AInv.keep [DSt] {N : Nat} {M M' : MMap} {T : Env} {σ σ' : St} {a : Act} {w w' : World} (h : AInv N M T σ a w) (hk : Keep M w M' w') (hi : Inv M' σ' w') : AInv N M' T σ' a w' :=
  ⟨hi, h.size, h.defers, fun t => (h.env t).keep hk⟩
inductive XA where
  | normal | exit (id : Nat) | goto (l : Nat) | ret | panic (d : D)
def RepX (M : MMap) (w : World) : XA → Exit → Prop
  | .normal, e => e = .normal
  | .exit id, e => e = .exit id
  | .goto l, e => e = .goto l
  | .ret, e => e = .ret
  | .panic d, e => ∃ v, e = .panic [{ v, recovered := false }] ∧ Rep M w d v
def Post [DSt] (N : Nat) (M : MMap) (σ : St) (w : World) (Q : XA → Env → St → Prop) (e : Exit) (a' : Act) (w' : World) : Prop :=
  ∃ M' T' σ' x, RepX M' w' x e ∧ AInv N M' T' σ' a' w' ∧ KeepF M σ w M' σ' w' ∧ Q x T' σ'
def awp [DSt] (P : Program) (N : Nat) (c : Code) (Q : XA → Env → St → Prop) (T : Env) (σ : St) : Prop :=
  ∀ M a w, AInv N M T σ a w → c.wp P (Post N M σ w Q) a w
section
variable {P : Program} {N : Nat} {Q Q' : XA → Env → St → Prop} {T : Env} {σ : St}
variable [DSt]
theorem Post.mono {M : MMap} {w : World} {e : Exit} {a' : Act} {w' : World} (hq : ∀ x T σ, Q x T σ → Q' x T σ) (h : Post N M σ w Q e a' w') : Post N M σ w Q' e a' w' := by
  obtain ⟨M', T', σ', x, h1, h2, h3, h4⟩ := h
  exact ⟨M', T', σ', x, h1, h2, h3, hq _ _ _ h4⟩
theorem Post.trans {M M₁ : MMap} {σ₁ : St} {w w₁ : World} {e : Exit} {a' : Act} {w' : World} (hd : ∀ b, M b ≠ none → b < w.heap.size) (hk : KeepF M σ w M₁ σ₁ w₁) (h : Post N M₁ σ₁ w₁ Q e a' w') : Post N M σ w Q e a' w' := by
  obtain ⟨M', T', σ', x, h1, h2, h3, h4⟩ := h
  exact ⟨M', T', σ', x, h1, h2, hk.trans hd h3, h4⟩
theorem awp_mono {c : Code} (h : awp P N c Q T σ) (hq : ∀ x T σ, Q x T σ → Q' x T σ) : awp P N c Q' T σ :=
  fun M a w hi => wp_mono (h M a w hi) fun _ _ _ hp => hp.mono hq
def thenA (next : Env → St → Prop) (Q : XA → Env → St → Prop) : XA → Env → St → Prop
  | .normal, T, σ => next T σ
  | .exit id, T, σ => Q (.exit id) T σ
  | .goto l, T, σ => Q (.goto l) T σ
  | .ret, T, σ => Q .ret T σ
  | .panic d, T, σ => Q (.panic d) T σ
theorem awp_skip (h : Q .normal T σ) : awp P N .skip Q T σ :=
  fun M a w hi => wp_skip ⟨M, T, σ, .normal, rfl, hi, KeepF.refl _ _ _, h⟩
theorem awp_exit {id : Nat} (h : Q (.exit id) T σ) : awp P N (.exit id) Q T σ :=
  fun M a w hi => wp_exit ⟨M, T, σ, .exit id, rfl, hi, KeepF.refl _ _ _, h⟩
theorem awp_ret (h : Q .ret T σ) : awp P N .ret Q T σ :=
  fun M a w hi => wp_ret ⟨M, T, σ, .ret, rfl, hi, KeepF.refl _ _ _, h⟩
theorem awp_seq {x y : Code} (h : awp P N x (thenA (awp P N y Q) Q) T σ) : awp P N (.seq x y) Q T σ := by
  intro M a w hi
  refine wp_seq (wp_mono (h M a w hi) fun e a' w' hp => ?_)
  obtain ⟨M', T', σ', x', h1, h2, h3, h4⟩ := hp
  cases x' with
  | normal =>
    obtain rfl := h1
    exact wp_mono (h4 M' a' w' h2) fun e a'' w'' hp' => hp'.trans hi.inv.dom h3
  | exit id => obtain rfl := h1; exact ⟨M', T', σ', .exit id, rfl, h2, h3, h4⟩
  | goto l => obtain rfl := h1; exact ⟨M', T', σ', .goto l, rfl, h2, h3, h4⟩
  | ret => obtain rfl := h1; exact ⟨M', T', σ', .ret, rfl, h2, h3, h4⟩
  | panic d => obtain ⟨v, rfl, hr⟩ := h1; exact ⟨M', T', σ', .panic d, ⟨v, rfl, hr⟩, h2, h3, h4⟩
def blockA (id : Nat) (Q : XA → Env → St → Prop) : XA → Env → St → Prop
  | .normal, T, σ => Q .normal T σ
  | .exit id', T, σ => if id' = id then Q .normal T σ else Q (.exit id') T σ
  | .goto l, T, σ => Q (.goto l) T σ
  | .ret, T, σ => Q .ret T σ
  | .panic d, T, σ => Q (.panic d) T σ
theorem awp_block {id : Nat} {c : Code} (h : awp P N c (blockA id Q) T σ) : awp P N (.block id c) Q T σ := by
  intro M a w hi
  refine wp_block (wp_mono (h M a w hi) fun e a' w' hp => ?_)
  obtain ⟨M', T', σ', x', h1, h2, h3, h4⟩ := hp
  cases x' with
  | normal => obtain rfl := h1; exact ⟨M', T', σ', .normal, rfl, h2, h3, h4⟩
  | exit id' =>
    obtain rfl := h1
    simp only [blockA] at h4
    simp only [Exit.inBlock]
    by_cases hid : id' = id
    · rw [if_pos hid] at h4 ⊢; exact ⟨M', T', σ', .normal, rfl, h2, h3, h4⟩
    · rw [if_neg hid] at h4 ⊢; exact ⟨M', T', σ', .exit id', rfl, h2, h3, h4⟩
  | goto l => obtain rfl := h1; exact ⟨M', T', σ', .goto l, rfl, h2, h3, h4⟩
  | ret => obtain rfl := h1; exact ⟨M', T', σ', .ret, rfl, h2, h3, h4⟩
  | panic d => obtain ⟨v, rfl, hr⟩ := h1; exact ⟨M', T', σ', .panic d, ⟨v, rfl, hr⟩, h2, h3, h4⟩
def cD : Value → D
  | .bool b => .bool b
  | .int k n => .int k n
  | .string s => .str s
  | .pointer none => .nilptr
  | .slice none 0 0 => .slice .nil []
  | .nilFunc => .nilfunc
  | .nilIface => .niliface
  | _ => .any
theorem cD_rep (M : MMap) (w : World) (v : Value) : Rep M w (cD v) v := by
  unfold cD
  split <;> simp [Rep]
def ev (T : Env) : Operand → D
  | .tmp t => T t
  | .const v => cD v
  | .global _ => .any
  | .func f => .func (.func f) [] []
theorem ev_rep {M : MMap} {a : Act} {w : World} (h : AInv N M T σ a w) (x : Operand) : Rep M w (ev T x) (a.eval x) := by
  cases x with
  | tmp t => exact h.env t
  | const v => exact cD_rep _ _ _
  | global g => trivial
  | func f => exact ⟨#[], #[], rfl, rfl, rfl⟩
theorem awp_cond {c : Operand} {x y : Code} {t : Bool} (hc : ev T c = .bool t) (h : if t = true then awp P N x Q T σ else awp P N y Q T σ) : awp P N (.cond c x y) Q T σ := by
  intro M a w hi
  have hr := ev_rep hi c
  rw [hc] at hr
  refine wp_cond (t := t) hr ?_
  cases t
  · exact h M a w hi
  · exact h M a w hi
def Env.le (E T : Env) : Prop := ∀ t, E t = .any ∨ E t = T t
structure St.le (s σ : St) : Prop where
  box : ∀ b cs, s.box b = some cs → σ.box b = some cs
  buf : ∀ b p, s.buf b = some p → σ.buf b = some p
theorem St.le.refl (σ : St) : St.le σ σ := ⟨fun _ _ h => h, fun _ _ h => h⟩
theorem St.le.trans {s σ τ : St} (h : St.le s σ) (k : St.le σ τ) : St.le s τ := ⟨fun b cs x => k.box b cs (h.box b cs x), fun b p x => k.buf b p (h.buf b p x)⟩
theorem St.le.has {s σ : St} (h : St.le s σ) {b : Nat} (hb : s.has b) : σ.has b := by
  rcases hb with hb | hb
  · cases hc : s.box b with
    | none => exact absurd hc hb
    | some cs => exact .inl (by rw [h.box b cs hc]; simp)
  · cases hc : s.buf b with
    | none => exact absurd hc hb
    | some p => exact .inr (by rw [h.buf b p hc]; simp)
theorem St.le.nil (σ : St) : St.le {} σ := ⟨fun _ _ h => (by cases h), fun _ _ h => (by cases h)⟩
theorem AInv.forget {M : MMap} {a : Act} {w : World} {E : Env} {s : St} (h : AInv N M T σ a w) (he : Env.le E T) (hs : St.le s σ) : AInv N M E s a w :=
  ⟨⟨fun b cs hb => h.inv.box b cs (hs.box b cs hb), fun b s n hb => h.inv.buf b s n (hs.buf b _ hb), h.inv.dom⟩, h.size, h.defers, fun t => by
    rcases he t with h' | h'
    · rw [h']; trivial
    · rw [h']; exact h.env t⟩
theorem awp_forget {c : Code} {E : Env} {s : St} (he : Env.le E T) (hs : St.le s σ) (h : awp P N c Q E s) : awp P N c Q T σ := by
  intro M a w hi
  refine wp_mono (h M a w (hi.forget he hs)) fun e a' w' hp => ?_
  obtain ⟨M', T', σ', x', h1, h2, h3, h4⟩ := hp
  refine ⟨M', T', σ', x', h1, h2, { h3.toKeep with frame := fun b hM hb => h3.frame b hM (fun hin => hb (hs.has hin)), fresh := fun b hb => ?_ }, h4⟩
  rcases h3.fresh b hb with h' | h'
  · exact .inl (hs.has h')
  · exact .inr h'
theorem awp_loop {α : Type} {c : Code} (E : α → Env) (S : α → St) (ok : α → Prop) (μ : α → Nat) (x₀ : α) (h₀ : ok x₀) (he : Env.le (E x₀) T) (hs : St.le (S x₀) σ)
    (round : ∀ x, ok x → awp P N c (thenA (fun T' σ' => ∃ y, ok y ∧ μ y < μ x ∧ Env.le (E y) T' ∧ St.le (S y) σ') Q) (E x) (S x)) : awp P N (.loop c) Q T σ := by
  refine awp_forget he hs ?_
  intro M a w hi
  -- the relation of the concrete loop: somewhere behind, what has been kept since the loop's begin
  intro b k cs
  have key : ∀ n x a₁ w₁ M₁, μ x = n → ok x → AInv N M₁ (E x) (S x) a₁ w₁ → KeepF M (S x₀) w M₁ (S x) w₁ →
      ∃ e a' w', Post N M (S x₀) w Q e a' w' ∧ Arrives P (lone (b.at a₁ (.code c :: .inLoop c :: k)) cs w₁) b k cs e a' w' := by
    intro n
    induction n using Nat.strongRecOn with
    | _ n ih =>
      intro x a₁ w₁ M₁ hn hok hi₁ hk₁
      obtain ⟨e, a₂, w₂, hq, harr⟩ := round x hok M₁ a₁ w₁ hi₁ b (.inLoop c :: k) cs
      obtain ⟨M', T', σ', x', g1, g2, g3, g4⟩ := hq
      have hk₂ := hk₁.trans hi.inv.dom g3
      cases x' with
      | normal =>
        obtain rfl := g1
        obtain ⟨y, hy, hlt, hye, hys⟩ := g4
        have hf : KeepF M (S x₀) w M' (S y) w₂ := { hk₂.toKeep with frame := hk₂.frame, fresh := fun b hb => hk₂.fresh b (hys.has hb) }
        obtain ⟨e₂, a₃, w₃, hq₂, harr₂⟩ := ih (μ y) (hn ▸ hlt) y a₂ w₂ M' rfl hy (g2.forget hye hys) hf
        exact ⟨e₂, a₃, w₃, hq₂, .of_steps (Steps.trans harr (.one step_inLoop)) harr₂⟩
      | exit id => obtain rfl := g1; exact ⟨_, a₂, w₂, ⟨M', T', σ', .exit id, rfl, g2, hk₂, g4⟩, .pass (x := .inLoop c) rfl (fun _ _ => .inl (by simp)) harr⟩
      | goto l => obtain rfl := g1; exact ⟨_, a₂, w₂, ⟨M', T', σ', .goto l, rfl, g2, hk₂, g4⟩, .pass (x := .inLoop c) rfl (fun _ _ => .inl (by simp)) harr⟩
      | ret => obtain rfl := g1; exact ⟨_, a₂, w₂, ⟨M', T', σ', .ret, rfl, g2, hk₂, g4⟩, .pass (x := .inLoop c) rfl (fun _ _ => .inl (by simp)) harr⟩
      | panic d => obtain ⟨v, rfl, hr⟩ := g1; exact ⟨_, a₂, w₂, ⟨M', T', σ', .panic d, ⟨v, rfl, hr⟩, g2, hk₂, g4⟩, .pass (x := .inLoop c) rfl (fun _ _ => .inl (by simp)) harr⟩
  obtain ⟨e, a', w', hq, harr⟩ := key _ x₀ a w M rfl h₀ hi (KeepF.refl _ _ _)
  exact ⟨e, a', w', hq, .of_steps (.one step_loop) harr⟩
end
end Go.AL
namespace Go.AL
section
variable {M : MMap} {w : World}
theorem zf6.iff : ∀ (ds : List D) (vs : List Value), zf6 M w ds vs ↔ ds.length = vs.length ∧ ∀ (i : Nat) (d : D) (v : Value), ds[i]? = some d → vs[i]? = some v → Rep M w d v
  | [], vs => by cases vs <;> simp [zf6]
  | d :: ds, [] => by simp [zf6]
  | d :: ds, v :: vs => by
    simp only [zf6, List.length_cons, Nat.add_right_cancel_iff]
    constructor
    · rintro ⟨v', vs', he, h1, h2⟩
      simp only [List.cons.injEq] at he
      obtain ⟨rfl, rfl⟩ := he
      obtain ⟨hl, h⟩ := (zf6.iff ds vs).1 h2
      refine ⟨hl, fun i d' v' hd hv => ?_⟩
      cases i with
      | zero => simp at hd hv; subst hd; subst hv; exact h1
      | succ i => exact h i d' v' (by simpa using hd) (by simpa using hv)
    · rintro ⟨hl, h⟩
      exact ⟨v, vs, rfl, h 0 d v rfl rfl, (zf6.iff ds vs).2 ⟨hl, fun i d' v' hd hv => h (i + 1) d' v' (by simpa using hd) (by simpa using hv)⟩⟩
theorem zf6.length {ds : List D} {vs : List Value} (h : zf6 M w ds vs) : ds.length = vs.length := ((zf6.iff ds vs).1 h).1
theorem zf6.get {ds : List D} {vs : List Value} (h : zf6 M w ds vs) {i : Nat} {d : D} (hd : ds[i]? = some d) : ∃ v, vs[i]? = some v ∧ Rep M w d v := by
  obtain ⟨hl, hh⟩ := (zf6.iff ds vs).1 h
  have hi : i < vs.length := by rw [← hl]; exact (List.getElem?_eq_some_iff.1 hd).1
  exact ⟨vs[i], by simp [hi], hh i d _ hd (by simp [hi])⟩
theorem zf6.drop {ds : List D} {vs : List Value} (h : zf6 M w ds vs) (k : Nat) : zf6 M w (ds.drop k) (vs.drop k) := by
  obtain ⟨hl, hh⟩ := (zf6.iff ds vs).1 h
  refine (zf6.iff _ _).2 ⟨by simp [hl], fun i d v hd hv => hh (k + i) d v (by simpa [List.getElem?_drop] using hd) (by simpa [List.getElem?_drop] using hv)⟩
theorem zf6.take {ds : List D} {vs : List Value} (h : zf6 M w ds vs) (k : Nat) : zf6 M w (ds.take k) (vs.take k) := by
  obtain ⟨hl, hh⟩ := (zf6.iff ds vs).1 h
  refine (zf6.iff _ _).2 ⟨by simp [hl], fun i d v hd hv => ?_⟩
  simp only [List.getElem?_take] at hd hv
  split at hd
  · rename_i hlt; rw [if_pos hlt] at hv; exact hh i d v hd hv
  · cases hd
theorem zf6.append {ds ds' : List D} {vs vs' : List Value} (h : zf6 M w ds vs) (h' : zf6 M w ds' vs') : zf6 M w (ds ++ ds') (vs ++ vs') := by
  induction ds generalizing vs with
  | nil => simp only [zf6] at h; subst h; exact h'
  | cons d ds ih =>
    obtain ⟨v, vs₁, rfl, h1, h2⟩ := h
    exact ⟨v, vs₁ ++ vs', rfl, h1, ih h2⟩
theorem zf6.map {α : Type} (f : α → D) (g : α → Value) (l : List α) (h : ∀ x ∈ l, Rep M w (f x) (g x)) : zf6 M w (l.map f) (l.map g) := by
  induction l with
  | nil => rfl
  | cons x l ih => exact ⟨_, _, rfl, h x (by simp), ih fun y hy => h y (by simp [hy])⟩
theorem RepCells.get : ∀ {cs : List D} {b off : Nat}, RepCells M w cs b off → ∀ {i : Nat} {d : D}, cs[i]? = some d →
    ∃ v, w.cell? ⟨b, off + i, none⟩ = some v ∧ v.oneCell' = true ∧ ImmAt M b (off + i) ∧ Rep M w d v
  | [], _, _, _, i, d, hd => by simp at hd
  | c :: cs, b, off, h, i, d, hd => by
    obtain ⟨h1, h2⟩ := h
    cases i with
    | zero => simp at hd; subst hd; exact h1
    | succ i =>
      have := RepCells.get h2 (i := i) (by simpa using hd)
      rwa [show off + (i + 1) = off + 1 + i by omega]
theorem RepCells.mk : ∀ {cs : List D} {b off : Nat}, (∀ (i : Nat) (d : D), cs[i]? = some d → ∃ v, w.cell? ⟨b, off + i, none⟩ = some v ∧ v.oneCell' = true ∧ ImmAt M b (off + i) ∧ Rep M w d v) → RepCells M w cs b off
  | [], _, _, _ => trivial
  | c :: cs, b, off, h => by
    refine ⟨h 0 c rfl, RepCells.mk fun i d hd => ?_⟩
    have := h (i + 1) d (by simpa using hd)
    rwa [show off + 1 + i = off + (i + 1) by omega]
theorem RepCells.drop {cs : List D} {b off : Nat} (h : RepCells M w cs b off) (k : Nat) : RepCells M w (cs.drop k) b (off + k) :=
  RepCells.mk fun i d hd => by
    have := h.get (i := k + i) (by simpa [List.getElem?_drop] using hd)
    rwa [show off + k + i = off + (k + i) by omega]
theorem RepRows.get : ∀ {es : List (List D)} {b off size : Nat}, RepRows M w es b off size → ∀ {i : Nat} {e : List D}, es[i]? = some e → e.length = size ∧ RepCells M w e b (off + i * size)
  | [], _, _, _, _, i, e, he => by simp at he
  | c :: cs, b, off, size, h, i, e, he => by
    obtain ⟨h0, h1, h2⟩ := h
    cases i with
    | zero => simp at he; subst he; simpa using ⟨h0, h1⟩
    | succ i =>
      have := RepRows.get h2 (i := i) (by simpa using he)
      rwa [show off + (i + 1) * size = off + size + i * size by rw [Nat.add_mul]; omega]
theorem RepRows.mk : ∀ {es : List (List D)} {b off size : Nat}, (∀ (i : Nat) (e : List D), es[i]? = some e → e.length = size ∧ RepCells M w e b (off + i * size)) → RepRows M w es b off size
  | [], _, _, _, _ => trivial
  | c :: cs, b, off, size, h => by
    have h0 := h 0 c rfl
    refine ⟨h0.1, by simpa using h0.2, RepRows.mk fun i e he => ?_⟩
    have := h (i + 1) e (by simpa using he)
    rwa [show off + (i + 1) * size = off + size + i * size by rw [Nat.add_mul]; omega] at this
theorem RepRows.drop {es : List (List D)} {b off size : Nat} (h : RepRows M w es b off size) (k : Nat) : RepRows M w (es.drop k) b (off + k * size) size :=
  RepRows.mk fun i e he => by
    have := h.get (i := k + i) (by simpa [List.getElem?_drop] using he)
    rwa [show off + k * size + i * size = off + (k + i) * size by rw [Nat.add_mul]; omega]
theorem RepRows.take {es : List (List D)} {b off size : Nat} (h : RepRows M w es b off size) (k : Nat) : RepRows M w (es.take k) b off size :=
  RepRows.mk fun i e he => by
    simp only [List.getElem?_take] at he
    split at he
    · exact h.get he
    · cases he
end
section
variable (P : Program)
def szP (t : TypeId) : Option Nat := (P.info? t).map (·.size)
def zb4 (t : TypeId) : Option Nat := (P.info? t).map (·.bytes)
def zc1 (t : TypeId) : Option (List D) := (P.info? t).bind fun i => i.zero.bind fun z => if z.cells.toList.all Value.oneCell' = true then some (z.cells.toList.map cD) else none
def aggP (t : TypeId) : Option Bool := (P.underlying t).map fun | .struct _ | .array _ _ => true | _ => false
def sliP (t : TypeId) : Option TypeId := match P.underlying t with | some (.slice e) => some e | _ => none
def arrP (t : TypeId) : Option (Nat × TypeId) := match P.underlying t with | some (.array n e) => some (n, e) | _ => none
def intP (t : TypeId) : Option IntKind := match P.underlying t with | some (.int k) => some k | _ => none
def strP (t : TypeId) : Bool := match P.underlying t with | some .string => true | _ => false
def boolP (t : TypeId) : Bool := match P.underlying t with | some .bool => true | _ => false
def zc4 (t : TypeId) : Bool := match P.underlying t with | some (.interface _) => false | some _ => true | none => false
def zb5 (t : TypeId) : Bool := (P.underlying t).isSome
def fldP (t : TypeId) (f : Nat) : Option (Nat × TypeId) :=
  match P.underlying t with
  | some (.struct fs) => (fs[f]?).bind fun x => match szP P x.type with | some 0 => none | some _ => some (x.offset, x.type) | none => none
  | _ => none
def partD (t : TypeId) (cs : List D) (off : Nat) : Option D :=
  match aggP P t, szP P t with
  | some true, some n => if off + n ≤ cs.length then some (.agg ((cs.drop off).take n)) else none
  | some false, some _ => cs[off]?
  | _, _ => none
end
section
variable {P : Program} {M : MMap} {w : World}
theorem run_sizeOf {t : TypeId} {n : Nat} (h : szP P t = some n) (w : World) : (sizeOf t).run P w = .ok n w := by
  simp only [szP, Option.map_eq_some_iff] at h
  obtain ⟨i, hi, rfl⟩ := h
  simp [sizeOf, typeInfo, hi]
theorem run_isAgg {t : TypeId} {b : Bool} (h : aggP P t = some b) (w : World) : (isAgg t).run P w = .ok b w := by
  simp only [aggP, Option.map_eq_some_iff] at h
  obtain ⟨d, hd, rfl⟩ := h
  cases d <;> simp [isAgg, run_underlying hd]
theorem und_of_sli {t e : TypeId} (h : sliP P t = some e) : P.underlying t = some (.slice e) := by
  unfold sliP at h; split at h
  · rename_i e' he; cases h; exact he
  · cases h
theorem und_of_arr {t e : TypeId} {n : Nat} (h : arrP P t = some (n, e)) : P.underlying t = some (.array n e) := by
  unfold arrP at h; split at h
  · rename_i he; cases h; exact he
  · cases h
theorem und_of_int {t : TypeId} {k : IntKind} (h : intP P t = some k) : P.underlying t = some (.int k) := by
  unfold intP at h; split at h
  · rename_i he; cases h; exact he
  · cases h
theorem und_of_str {t : TypeId} (h : strP P t = true) : P.underlying t = some .string := by
  unfold strP at h; split at h
  · assumption
  · cases h
theorem und_of_bool {t : TypeId} (h : boolP P t = true) : P.underlying t = some .bool := by
  unfold boolP at h; split at h
  · assumption
  · cases h
theorem und_of_fld {t : TypeId} {f off : Nat} {ft : TypeId} (h : fldP P t f = some (off, ft)) : ∃ fs x n, P.underlying t = some (.struct fs) ∧ fs[f]? = some x ∧ x.offset = off ∧ x.type = ft ∧ szP P ft = some n ∧ n ≠ 0 := by
  unfold fldP at h
  split at h
  · rename_i fs hfs
    simp only [Option.bind_eq_some_iff] at h
    obtain ⟨x, hx, h⟩ := h
    split at h
    · cases h
    · rename_i n hn hs
      simp only [Option.some.injEq, Prod.mk.injEq] at h
      obtain ⟨rfl, rfl⟩ := h
      exact ⟨fs, x, n, hfs, hx, rfl, rfl, hs, fun h0 => by subst h0; exact hn rfl⟩
    · cases h
  · cases h
theorem oneCell_take {a : Array Value} (h : ∀ u ∈ a.toList, u.oneCell' = true) (i j : Nat) : ∀ u ∈ (a.extract i j).toList, u.oneCell' = true := by
  intro u hu
  refine h u ?_
  rw [Array.toList_extract, List.extract_eq_take_drop] at hu
  exact List.mem_of_mem_drop (List.mem_of_mem_take hu)
theorem part_rep {t : TypeId} {cs : List D} {off : Nat} {d : D} (hp : partD P t cs off = some d) {a : Array Value} (h : zf6 M w cs a.toList) (h1 : ∀ u ∈ a.toList, u.oneCell' = true) (w' : World) :
    ∃ v, (part t a off).run P w' = .ok v w' ∧ Rep M w d v := by
  unfold partD at hp
  split at hp
  · rename_i n hg hs
    split at hp
    · rename_i hle
      cases hp
      refine ⟨.agg (a.extract off (off + n)), by simp [part, run_isAgg hg, run_sizeOf hs], a.extract off (off + n), rfl, ?_, oneCell_take h1 _ _⟩
      rw [Array.toList_extract, List.extract_eq_take_drop, show off + n - off = n by omega]
      exact (h.drop off).take n
    · cases hp
  · rename_i n hg hs
    obtain ⟨v, hv, hr⟩ := h.get hp
    have : a[off]? = some v := by simpa using hv
    exact ⟨v, by simp [part, run_isAgg hg, this], hr⟩
  · cases hp
theorem load_rep {t : TypeId} {cs : List D} {d : D} {b off : Nat} (hp : partD P t cs 0 = some d) (h : RepCells M w cs b off) :
    ∃ v, (loadVar t ⟨b, off, none⟩).run P w = .ok v w ∧ Rep M w d v := by
  unfold partD at hp
  split at hp
  · rename_i n hg hs
    split at hp
    · rename_i hle
      cases hp
      have hlen : n ≤ cs.length := by omega
      -- the cells' values
      have hc : ∀ j, j < n → ∃ v, w.cell? (Addr.add ⟨b, off, none⟩ j) = some v ∧ v.oneCell' = true ∧ ∀ (d : D), cs[j]? = some d → Rep M w d v := by
        intro j hj
        obtain ⟨v, h1, h2, h3, h4⟩ := h.get (i := j) (d := cs[j]'(by omega)) (by simp [show j < cs.length by omega])
        refine ⟨v, ?_, h2, fun d hd => ?_⟩
        · have : Addr.add ⟨b, off, none⟩ j = ⟨b, off + j, none⟩ := by unfold Addr.add; split <;> simp_all
          rw [this]; exact h1
        · simp [show j < cs.length by omega] at hd; subst hd; exact h4
      let f : Nat → Value := fun j => (w.cell? (Addr.add ⟨b, off, none⟩ j)).getD undef
      have hf : ∀ j, j < n → w.cell? (Addr.add ⟨b, off, none⟩ j) = some (f j) := fun j hj => by
        obtain ⟨v, h1, _⟩ := hc j hj
        simp [f, h1]
      have hl := run_loadCells (P := P) (w := w) ⟨b, off, none⟩ n f hf
      refine ⟨_, by simp [loadVar, run_isAgg hg, run_sizeOf hs, hl]; rfl, _, rfl, ?_, ?_⟩
      · refine (zf6.iff _ _).2 ⟨by simp [hlen], fun i d v hd hv => ?_⟩
        simp only [List.drop_zero, List.getElem?_take] at hd
        split at hd
        · rename_i hi
          obtain ⟨u, g1, g2, g3⟩ := hc i hi
          have : v = u := by
            simp [hi] at hv
            rw [← hv]; simp [f, g1]
          subst this
          exact g3 d hd
        · cases hd
      · intro u hu
        simp at hu
        obtain ⟨j, hj, rfl⟩ := hu
        obtain ⟨u, g1, g2, g3⟩ := hc j hj
        simp [f, g1, g2]
    · cases hp
  · rename_i n hg hs
    obtain ⟨v, h1, h2, h3, h4⟩ := h.get hp
    have h1' : w.cell? ⟨b, off, none⟩ = some v := by simpa using h1
    exact ⟨v, by simp [loadVar, run_isAgg hg, load, Sem.run, h1'], h4⟩
  · cases hp
end
end Go.AL
namespace Go.AL
section
variable (P : Program)
def eqAll (E : TypeId → D → D → Option Bool) (xs ys : List D) : List (TypeId × Nat) → Option Bool
  | [] => some true
  | (t, off) :: r => match partD P t xs off, partD P t ys off with
    | some a, some b => match E t a b, eqAll E xs ys r with
      | some p, some q => some (p && q)
      | _, _ => none
    | _, _ => none
def fsParts (fs : List Field) : List (TypeId × Nat) := fs.map fun f => (f.type, f.offset)
def eqV : Nat → TypeId → D → D → Option Bool
  | 0, _, _, _ => none
  | m + 1, t, x, y => match P.underlying t with
    | some .bool => match x, y with | .bool a, .bool b => some (a == b) | _, _ => none
    | some (.int _) => match x, y with | .int k a, .int k' b => if k = k' then some (decide (a = b)) else none | _, _ => none
    | some .string => match x, y with | .str a, .str b => some (decide (a = b)) | _, _ => none
    | some (.struct fs) => match x, y with
      | .agg xs, .agg ys => if P.stoodInHeld t = false ∧ fs.toList.all (fun f => f.name != "_") = true then eqAll P (eqV m) xs ys (fsParts fs.toList) else none
      | _, _ => none
    | some (.array n e) => match x, y with
      | .agg xs, .agg ys => if (P.info? e).isSome = true then eqAll P (eqV m) xs ys ((List.range n).map fun i => (e, i * P.cellsOf e)) else none
      | _, _ => none
    | _ => none
def eqGP (t : TypeId) : Bool := !(P.eqGuardType P.depth t)
end
section
variable {P : Program} {M : MMap} {w : World}
theorem toList_beq' (a b : ByteArray) : (a.toList == b.toList) = decide (a = b) := by
  rw [ByteArray.toList_eq, ByteArray.toList_eq]
  by_cases h : a = b
  · subst h; simp
  · have : a.data.toList ≠ b.data.toList := fun h' => h (by cases a; cases b; simp_all [Array.toList_inj])
    rw [decide_eq_false h]
    exact beq_eq_false_iff_ne.2 this
def EqSound (P : Program) (M : MMap) (w : World) (m dd : Nat) : Prop :=
  ∀ (t : TypeId) (x y : D) (r : Bool) (u v : Value) (w' : World), eqV P m t x y = some r → Rep M w x u → Rep M w y v → (Op.equalIn dd t u v).run P w' = .ok r w'
theorem eqAll_step {E : TypeId → D → D → Option Bool} {xs ys : List D} {t : TypeId} {off : Nat} {rest : List (TypeId × Nat)} {r : Bool} (h : eqAll P E xs ys ((t, off) :: rest) = some r) :
    ∃ a b p q, partD P t xs off = some a ∧ partD P t ys off = some b ∧ E t a b = some p ∧ eqAll P E xs ys rest = some q ∧ r = (p && q) := by
  simp only [eqAll] at h
  split at h
  · rename_i a b ha hb
    split at h
    · rename_i p q hp hq
      cases h
      exact ⟨a, b, p, q, ha, hb, hp, hq, rfl⟩
    · cases h
  · cases h
theorem eqFields_sound {m dd : Nat} (IH : EqSound P M w m dd) {xs ys : List D} {us vs : Array Value} (hx : zf6 M w xs us.toList) (hy : zf6 M w ys vs.toList)
    (ox : ∀ u ∈ us.toList, u.oneCell' = true) (oy : ∀ u ∈ vs.toList, u.oneCell' = true) (w' : World) :
    ∀ (fs : List Field) (r : Bool), fs.all (fun f => f.name != "_") = true → eqAll P (eqV P m) xs ys (fsParts fs) = some r → (Op.eqFields dd us vs fs).run P w' = .ok r w'
  | [], r, _, h => by
    simp only [fsParts, List.map_nil, eqAll, Option.some.injEq] at h; subst h
    simp [Op.eqFields]
  | f :: fs, r, hn, h => by
    simp only [List.all_cons, Bool.and_eq_true, bne_iff_ne, ne_eq] at hn
    obtain ⟨a, b, p, q, ha, hb, hp, hq, rfl⟩ := eqAll_step (rest := fsParts fs) (by simpa only [fsParts, List.map_cons] using h)
    obtain ⟨va, h1, r1⟩ := part_rep ha hx ox w'
    obtain ⟨vb, h2, r2⟩ := part_rep hb hy oy w'
    have h3 := IH f.type a b p va vb w' hp r1 r2
    have h4 := eqFields_sound IH hx hy ox oy w' fs q hn.2 hq
    cases p
    · simp [Op.eqFields, hn.1, h1, h2, h3]
    · simp [Op.eqFields, hn.1, h1, h2, h3, h4]
theorem eqItems_sound {m dd : Nat} (IH : EqSound P M w m dd) {xs ys : List D} {us vs : Array Value} (hx : zf6 M w xs us.toList) (hy : zf6 M w ys vs.toList)
    (ox : ∀ u ∈ us.toList, u.oneCell' = true) (oy : ∀ u ∈ vs.toList, u.oneCell' = true) (w' : World) (e : TypeId) (n : Nat) :
    ∀ (l : List Nat) (r : Bool), eqAll P (eqV P m) xs ys (l.map fun i => (e, i * n)) = some r → (Op.eqItems dd e n us vs l).run P w' = .ok r w'
  | [], r, h => by
    simp only [List.map_nil, eqAll, Option.some.injEq] at h; subst h
    simp [Op.eqItems]
  | i :: l, r, h => by
    obtain ⟨a, b, p, q, ha, hb, hp, hq, rfl⟩ := eqAll_step (rest := l.map fun i => (e, i * n)) (by simpa only [List.map_cons] using h)
    obtain ⟨va, h1, r1⟩ := part_rep ha hx ox w'
    obtain ⟨vb, h2, r2⟩ := part_rep hb hy oy w'
    have h3 := IH e a b p va vb w' hp r1 r2
    have h4 := eqItems_sound IH hx hy ox oy w' e n l q hq
    cases p
    · simp [Op.eqItems, h1, h2, h3]
    · simp [Op.eqItems, h1, h2, h3, h4]
theorem eqV_sound (d : Nat) : ∀ m : Nat, EqSound P M w m (d + m)
  | 0 => fun t x y r u v w' h _ _ => by cases h
  | m + 1 => fun t x y r u v w' h hx hy => by
    have IH := eqV_sound d m
    unfold eqV at h
    split at h
    · rename_i hu
      split at h
      · cases h
        obtain rfl := hx
        obtain rfl := hy
        exact run_equalIn_bool w' (d + m) t _ _ hu
      · cases h
    · rename_i hu
      split at h
      · rename_i k a k' b
        split at h
        · rename_i hk
          cases h
          subst hk
          obtain rfl := hx
          obtain rfl := hy
          have := run_equalIn_int (P := P) w' (d + m) t k _ a b hu
          rw [show d + (m + 1) = d + m + 1 from rfl, this]
          rfl
        · cases h
      · cases h
    · rename_i hu
      split at h
      · rename_i a b
        cases h
        obtain rfl := hx
        obtain rfl := hy
        have := run_equalIn_string (P := P) w' (d + m) t a b hu
        rw [show d + (m + 1) = d + m + 1 from rfl, this, toList_beq']
      · cases h
    · rename_i fs hu
      split at h
      · rename_i xs ys
        split at h
        · rename_i hs
          obtain ⟨us, rfl, rx, ox⟩ := hx
          obtain ⟨vs, rfl, ry, oy⟩ := hy
          have hfs : P.fieldsOf t = fs := by simp [Program.fieldsOf, hu]
          have := run_equalIn_struct (P := P) w' (d + m) t us vs (by rw [hfs]; exact hu) hs.1
          rw [show d + (m + 1) = d + m + 1 from rfl, this, hfs]
          exact eqFields_sound IH rx ry ox oy w' fs.toList r hs.2 h
        · cases h
      · cases h
    · rename_i n e hu
      split at h
      · rename_i xs ys
        obtain ⟨us, rfl, rx, ox⟩ := hx
        obtain ⟨vs, rfl, ry, oy⟩ := hy
        split at h
        · rename_i hsome
          obtain ⟨i, hi⟩ := Option.isSome_iff_exists.1 hsome
          have := run_equalIn_array (P := P) w' (d + m) us vs hu hi
          rw [show d + (m + 1) = d + m + 1 from rfl, this]
          exact eqItems_sound IH rx ry ox oy w' e _ _ r h
        · cases h
      · cases h
    · cases h
end
end Go.AL
namespace Go.AL
def D.cellQ : D → Bool
  | .agg _ | .tup _ | .any => false
  | _ => true
theorem Rep.oneCell {M : MMap} {w : World} {d : D} {v : Value} (h : Rep M w d v) (hq : d.cellQ = true) : v.oneCell' = true := by
  cases d with
  | any => cases hq
  | agg _ => cases hq
  | tup _ => cases hq
  | slice o es =>
    cases o with
    | nil => obtain ⟨rfl, _⟩ := h; rfl
    | exact => obtain ⟨_, _, _, rfl, _⟩ := h; rfl
    | no => rcases h with ⟨rfl, _⟩ | ⟨_, _, _, _, rfl, _⟩ | ⟨_, _, rfl, _⟩ <;> rfl
    | buf b s => obtain ⟨_, _, _, _, rfl, _⟩ := h; rfl
  | eptr cs => obtain ⟨_, _, rfl, _⟩ := h; rfl
  | func fn fi ca => obtain ⟨_, _, rfl, _⟩ := h; rfl
  | iface t d => obtain ⟨_, rfl, _⟩ := h; rfl
  | roomy b s k es => obtain ⟨_, _, _, _, rfl, _⟩ := h; rfl
  | _ => simp only [Rep] at h; subst h; rfl
def frz : D → D
  | .slice _ es => .slice .no es
  | d => d
theorem frz_rep {M : MMap} {w : World} {d : D} {v : Value} (h : Rep M w d v) : Rep M w (frz d) v := by
  cases d with
  | slice o es =>
    cases o with
    | nil => exact .inl h
    | exact => obtain ⟨b, off, size, hv, h⟩ := h; exact .inr (.inl ⟨b, off, _, size, hv, Nat.le_refl _, h⟩)
    | no => exact h
    | buf b s => obtain ⟨cap, c, e, f, hv, hl, hr, _⟩ := h; exact .inr (.inl ⟨b, 0, cap, s, hv, hl, hr⟩)
  | _ => exact h
def cellsD (P : Program) (t : TypeId) (d : D) : Option (List D) :=
  match aggP P t, szP P t with
  | some true, some n => match d with | .agg cs => if cs.length = n then some cs else none | _ => none
  | some false, some 1 => if d.cellQ = true then some [d] else none
  | _, _ => none
theorem cellsD_rep {P : Program} {M : MMap} {w : World} {t : TypeId} {d : D} {cs : List D} {v : Value} (h : cellsD P t d = some cs) (hr : Rep M w d v) :
    zf6 M w cs v.cells.toList ∧ (∀ u ∈ v.cells.toList, u.oneCell' = true) ∧ szP P t = some v.cells.size := by
  unfold cellsD at h
  split at h
  · rename_i n hg hs
    cases d with
    | agg cs' =>
      simp only at h
      split at h
      · rename_i hl
        cases h
        obtain ⟨a, rfl, h1, h2⟩ := hr
        refine ⟨h1, h2, ?_⟩
        have := h1.length
        simp only [Value.cells]
        rw [hs, ← hl, this]; simp
      · cases h
    | _ => cases h
  · rename_i hg hs
    split at h
    · rename_i hq
      cases h
      have ho := hr.oneCell hq
      have hc : v.cells = #[v] := by cases v <;> first | rfl | cases ho
      rw [hc]
      exact ⟨⟨v, [], rfl, hr, rfl⟩, by simpa using ho, by simpa using hs⟩
    · cases h
  · cases h
def binI (op : BinOp) (k : IntKind) (a b : Int) : Option (Prop × D) :=
  match op with
  | .add => some (True, .int k (k.wrap (a + b)))
  | .sub => some (True, .int k (k.wrap (a - b)))
  | .mul => some (True, .int k (k.wrap (a * b)))
  | .quo => some (b ≠ 0, .int k (k.wrap (a.tdiv b)))
  | .rem => some (b ≠ 0, .int k (a.tmod b))
  | .and => some (True, .int k (k.wrap (BitVec.ofInt k.bits a &&& BitVec.ofInt k.bits b).toNat))
  | .or => some (True, .int k (k.wrap (BitVec.ofInt k.bits a ||| BitVec.ofInt k.bits b).toNat))
  | .xor => some (True, .int k (k.wrap (BitVec.ofInt k.bits a ^^^ BitVec.ofInt k.bits b).toNat))
  | .andNot => some (True, .int k (k.wrap (BitVec.ofInt k.bits a &&& ~~~ BitVec.ofInt k.bits b).toNat))
  | .eql => some (True, .bool (decide (a = b)))
  | .neq => some (True, .bool (!decide (a = b)))
  | .lss => some (True, .bool (decide (a < b)))
  | .leq => some (True, .bool (decide (a ≤ b)))
  | .gtr => some (True, .bool (decide (a > b)))
  | .geq => some (True, .bool (decide (a ≥ b)))
  | .shl | .shr => none
def ptrP (P : Program) (t : TypeId) : Bool := match P.underlying t with | some (.pointer _) => true | _ => false
def fncP (P : Program) (t : TypeId) : Bool := match P.underlying t with | some (.func _ _ _) => true | _ => false
def nilE (P : Program) (xt : TypeId) : D → D → Option Bool
  | .nilptr, .nilptr => if ptrP P xt = true then some true else none
  | .ptr _ _, .nilptr => if ptrP P xt = true then some false else none
  | .eptr _, .nilptr => if ptrP P xt = true then some false else none
  | .nilfunc, .nilfunc => if fncP P xt = true then some true else none
  | .func _ _ _, .nilfunc => if fncP P xt = true then some false else none
  | _, _ => none
def binD (P : Program) (op : BinOp) (xt : TypeId) : D → D → Option (Prop × D)
  | .int k a, .int k' b =>
    match op with
    | .shl => some (0 ≤ b, .int k (k.wrap (a * 2 ^ (min b.toNat k.bits))))
    | .shr => some (0 ≤ b, .int k (a.fdiv (2 ^ (min b.toNat k.bits))))
    | op => if k = k' then binI op k a b else none
  | .str a, .str b =>
    match op with
    | .add => some (a.size + b.size ≤ 9223372036854775807, .str (a ++ b))
    | .eql => some (True, .bool (decide (a = b)))
    | .neq => some (True, .bool (!decide (a = b)))
    | _ => none
  | .bool a, .bool b =>
    match op, boolP P xt with
    | .eql, true => some (True, .bool (a == b))
    | .neq, true => some (True, .bool (a != b))
    | _, _ => none
  | .agg a, .agg b =>
    match op, eqGP P xt, eqV P 10 xt (.agg a) (.agg b) with
    | .eql, true, some r => some (True, .bool r)
    | .neq, true, some r => some (True, .bool (!r))
    | _, _, _ => none
  | x, y =>
    match op, nilE P xt x y with
    | .eql, some r => some (True, .bool r)
    | .neq, some r => some (True, .bool (!r))
    | _, _ => none
def unD (op : UnOp) : D → Option D
  | .int k n => match op with
    | .neg => some (.int k (k.wrap (0 - n)))
    | _ => none
  | .bool b => match op with | .not => some (.bool !b) | _ => none
  | _ => none
def convD (P : Program) (src dst : TypeId) : D → Option D
  | .int _ n => match zb5 P src, intP P dst with | true, some k => some (.int k (k.wrap n)) | _, _ => none
  | .str s => match strP P src, strP P dst with | true, true => some (.str s) | _, _ => none
  | _ => none
def layD (cells : List D) (off : Nat) (part : List D) : List D := cells.take off ++ part ++ cells.drop (off + part.length)
def fillD (place : Nat → Option (Nat × TypeId)) (P : Program) (T : Env) (fz : D → D) : List (Nat × Operand) → List D → Option (List D)
  | [], cells => some cells
  | (i, x) :: rest, cells =>
    match place i with
    | none => none
    | some (off, t) =>
      match cellsD P t (ev T x) with
      | some cs => if off + cs.length ≤ cells.length then fillD place P T fz rest (layD cells off (cs.map fz)) else none
      | none => none
def buildP (P : Program) (t : TypeId) : Option (Option (TypeId × Nat)) :=
  match P.underlying t with
  | some (.struct fs) => if fs.toList.all (fun f => (szP P f.type).isSome) then some none else none
  | some (.array _ e) => (szP P e).map fun n => some (e, n)
  | _ => none
def pickD (t : Bool) (a b : D) : D :=
  match a, b with
  | .bool x, .bool y => .bool (if t = true then x else y)
  | a, b => if t = true then a else b
theorem pickD_eq (t : Bool) (a b : D) : pickD t a b = if t = true then a else b := by
  unfold pickD
  split
  · cases t <;> rfl
  · rfl
def toInt? : D → Option Int
  | .int _ n => some n
  | _ => none
def indexD (P : Program) (t : TypeId) (x : D) (i : Int) : Option (Prop × D) :=
  match x with
  | .slice _ es => match sliP P t with
    | some e => match szP P e with
      | some n => some ((0 ≤ i ∧ i < es.length) ∧ (es[i.toNat]?.getD []).length = n, .eptr (es[i.toNat]?.getD []))
      | none => none
    | none => none
  | .bsl b off len _ => match sliP P t with
    | some e => match szP P e with
      | some n => some (0 ≤ i ∧ i < len, .ptr b (off + i.toNat * n))
      | none => none
    | none => none
  | .ptr b off => match arrP P t with
    | some (k, e) => match szP P e with
      | some n => some (0 ≤ i ∧ i < k, .ptr b (off + i.toNat * n))
      | none => none
    | none => none
  | .eptr cs => match arrP P t with
    | some (k, e) => match szP P e with
      | some n => some (0 ≤ i ∧ i < k, .eptr (cs.drop (i.toNat * n)))
      | none => none
    | none => none
  | _ => none
def lenD (P : Program) (t : TypeId) : D → Option D
  | .slice _ es => match sliP P t with | some _ => some (.int .i64 es.length) | none => none
  | .bsl _ _ n _ => match sliP P t with | some _ => some (.int .i64 n) | none => none
  | .str s => if strP P t = true then some (.int .i64 s.size) else none
  | .agg _ => match arrP P t with | some (n, _) => some (.int .i64 n) | none => none
  | _ => none
def bslD (P : Program) (t : TypeId) (b off : Nat) (l h : Int) : Option (Prop × D) :=
  match arrP P t with
  | some (n, e) => match szP P e with
    | some s => some (0 ≤ l ∧ l ≤ h ∧ h ≤ n, .bsl b (if n = l.toNat then off else off + l.toNat * s) (h.toNat - l.toNat) (n - l.toNat))
    | none => none
  | none => none
def pureD (P : Program) (op : Op) (T : Env) : Option (Prop × D) :=
  match op with
  | .move x | .assign x => some (True, ev T x)
  | .pick c a b => match ev T c with | .bool t => some (True, pickD t (ev T a) (ev T b)) | _ => none
  | .binOp op xt x y _ => binD P op xt (ev T x) (ev T y)
  | .unOp op _ x => (unD op (ev T x)).map fun d => (True, d)
  | .convert src dst x => (convD P src dst (ev T x)).map fun d => (True, d)
  | .makeInterface t x => if zc4 P t = true then some (True, .iface t (ev T x)) else none
  | .makeFunc fn first captured => some (True, .func fn (first.toList.map (ev T)) (captured.toList.map (ev T)))
  | .extract x i => match ev T x with | .tup ds => (ds[i]?).map fun d => (True, d) | _ => none
  | .field t x f => match ev T x, fldP P t f with | .agg cs, some (off, ft) => (partD P ft cs off).map fun d => (True, d) | _, _ => none
  | .fieldAddr t x f => match ev T x, fldP P t f with
    | .ptr b off, some (o, _) => some (True, .ptr b (off + o))
    | .eptr cs, some (o, _) => some (True, .eptr (cs.drop o))
    | _, _ => none
  | .indexAddr t x i => match ev T i with | .int _ n => indexD P t (ev T x) n | _ => none
  | .index t x i => match ev T i with
    | .int _ n => match ev T x with
      | .str s => if strP P t = true then some (0 ≤ n ∧ n < s.size, .int .u8 ((s.data.toList[n.toNat]?.getD 0).toNat)) else none
      | .agg cs => match arrP P t with
        | some (k, e) => match szP P e with
          | some m => (partD P e cs (n.toNat * m)).map fun d => (0 ≤ n ∧ n < k, d)
          | none => none
        | none => none
      | _ => none
    | _ => none
  | .nilCheck x => match ev T x with
    | .ptr b off => some (True, .ptr b off)
    | .eptr cs => some (True, .eptr cs)
    | .slice o es => some (True, .slice o es)
    | .func (.func f) a b => some (True, .func (.func f) a b)
    | _ => none
  | .build t parts => match buildP P t, zc1 P t with
    | some none, some z => (fillD (fldP P t) P T id parts.toList z).map fun cs => (True, .agg cs)
    | some (some (e, n)), some z => (fillD (fun i => some (i * n, e)) P T id parts.toList z).map fun cs => (True, .agg cs)
    | _, _ => none
  | .load t x => match ev T x with
    | .eptr cs => (partD P t cs 0).map fun d => (True, d)
    | _ => none
  | .call { callee := .builtin .len, args, argTypes } => match args.toList, argTypes.toList with
    | [x], [t] => (lenD P t (ev T x)).map fun d => (True, d)
    | _, _ => none
  | .call { callee := .builtin .min, args, .. } => match args.toList with
    | [x, y] => match ev T x, ev T y with | .int k a, .int k' b => if k = k' then some (True, .int k (min a b)) else none | _, _ => none
    | _ => none
  | .call { callee := .builtin .max, args, .. } => match args.toList with
    | [x, y] => match ev T x, ev T y with | .int k a, .int k' b => if k = k' then some (True, .int k (max a b)) else none | _, _ => none
    | _ => none
  | .slice t x lo hi none => match ev T x with
    | .slice _ es => match sliP P t with
      | some e => match szP P e with
        | some n =>
          match (match lo with | some l => toInt? (ev T l) | none => some 0), (match hi with | some h => toInt? (ev T h) | none => some (es.length : Int)) with
          | some l, some h => some ((0 ≤ l ∧ l ≤ h ∧ h ≤ es.length) ∧ ∀ e ∈ es, e.length = n, .slice .no ((es.take h.toNat).drop l.toNat))
          | _, _ => none
        | none => none
      | none => none
    | .str s => if strP P t = true then
        match (match lo with | some l => toInt? (ev T l) | none => some 0), (match hi with | some h => toInt? (ev T h) | none => some (s.size : Int)) with
        | some l, some h => some (0 ≤ l ∧ l ≤ h ∧ h ≤ s.size, .str (s.extract l.toNat h.toNat))
        | _, _ => none
      else none
    | .ptr b off => match arrP P t with
      | some (n, _) => match (match lo with | some l => toInt? (ev T l) | none => some 0), (match hi with | some h => toInt? (ev T h) | none => some (n : Int)) with
        | some l, some h => bslD P t b off l h
        | _, _ => none
      | none => none
    | _ => none
  | _ => none
end Go.AL
namespace Go.AL
section
variable {P : Program} {N : Nat} {M : MMap} {T : Env} {σ : St} {a : Act} {w : World}
theorem toList_beq (a b : ByteArray) : (a.toList == b.toList) = decide (a = b) := by
  rw [ByteArray.toList_eq, ByteArray.toList_eq]
  by_cases h : a = b
  · subst h; simp
  · have : a.data.toList ≠ b.data.toList := fun h' => h (by cases a; cases b; simp_all [Array.toList_inj])
    rw [decide_eq_false h]
    exact beq_eq_false_iff_ne.2 this
theorem binI_sound {op : BinOp} {k : IntKind} {x y : Int} {xt : TypeId} {side : Prop} {d : D} (h : binI op k x y = some (side, d)) (hs : side) (w : World) :
    ∃ v, (binOp op xt (.int k x) (.int k y)).run P w = .ok v w ∧ Rep M w d v := by
  cases op <;> simp only [binI, Option.some.injEq, Prod.mk.injEq, reduceCtorEq] at h <;> obtain ⟨rfl, rfl⟩ := h
  case quo => exact ⟨_, (by simp [binOp, Op.intDiv, hs]; try rfl), rfl⟩
  case rem => exact ⟨_, (by simp [binOp, Op.intDiv, hs]; try rfl), rfl⟩
  case eql => exact ⟨_, (by simp [binOp, Op.intCmp]; try rfl), by simp [Rep]; rfl⟩
  case neq => exact ⟨_, (by simp [binOp, Op.intCmp]; try rfl), by simp only [Rep]; rfl⟩
  case and => exact ⟨_, (by simp [binOp, Op.intBits]; try rfl), rfl⟩
  case or => exact ⟨_, (by simp [binOp, Op.intBits]; try rfl), rfl⟩
  case xor => exact ⟨_, (by simp [binOp, Op.intBits]; try rfl), rfl⟩
  case andNot => exact ⟨_, (by simp [binOp, Op.intBits]; try rfl), rfl⟩
  all_goals exact ⟨_, (by simp [binOp, Op.intArith, Op.intCmp]; try rfl), by simp [Rep]⟩
theorem nilE_sound {xt : TypeId} {x y : D} {r : Bool} (h : nilE P xt x y = some r) {u v : Value} (hx : Rep M w x u) (hy : Rep M w y v) :
    ((binOp .eql xt u v).run P w = .ok (.bool r) w ∧ (binOp .neq xt u v).run P w = .ok (.bool !r) w) ∧ ∀ (op : BinOp) (ox oy : Operand), (eqGuard op xt ox oy u v).run P w = .ok () w := by
  have und_ptr : ptrP P xt = true → ∃ e, P.underlying xt = some (.pointer e) := fun h => by
    unfold ptrP at h; split at h
    · exact ⟨_, by assumption⟩
    · cases h
  have und_fnc : fncP P xt = true → ∃ a b c, P.underlying xt = some (.func a b c) := fun h => by
    unfold fncP at h; split at h
    · exact ⟨_, _, _, by assumption⟩
    · cases h
  unfold nilE at h
  split at h
  · split at h
    · rename_i hp
      cases h
      obtain ⟨e, hu⟩ := und_ptr hp
      obtain rfl := hx; obtain rfl := hy
      have h1 : (Op.equal xt (.pointer none) (.pointer none)).run P w = .ok true w := by
        show (Op.equalIn (9999 + 1) _ _ _).run P w = _
        rw [Op.equalIn]; simp [run_underlying hu]
      exact ⟨⟨by simp [binOp, h1], by simp [binOp, h1]⟩, fun op ox oy => by simp [eqGuard]⟩
    · cases h
  · split at h
    · rename_i hp
      cases h
      obtain ⟨e, hu⟩ := und_ptr hp
      obtain rfl := hx; obtain rfl := hy
      have h1 : ∀ a, (Op.equal xt (.pointer (some a)) (.pointer none)).run P w = .ok false w := fun a => by
        show (Op.equalIn (9999 + 1) _ _ _).run P w = _
        rw [Op.equalIn]; simp [run_underlying hu]
      exact ⟨⟨by simp [binOp, h1], by simp [binOp, h1]⟩, fun op ox oy => by simp [eqGuard]⟩
    · cases h
  · split at h
    · rename_i hp
      cases h
      obtain ⟨e, hu⟩ := und_ptr hp
      obtain ⟨_, _, rfl, _⟩ := hx; obtain rfl := hy
      have h1 : ∀ a, (Op.equal xt (.pointer (some a)) (.pointer none)).run P w = .ok false w := fun a => by
        show (Op.equalIn (9999 + 1) _ _ _).run P w = _
        rw [Op.equalIn]; simp [run_underlying hu]
      exact ⟨⟨by simp [binOp, h1], by simp [binOp, h1]⟩, fun op ox oy => by simp [eqGuard]⟩
    · cases h
  · split at h
    · rename_i hp
      cases h
      obtain ⟨a, b, c, hu⟩ := und_fnc hp
      obtain rfl := hx; obtain rfl := hy
      have h1 : (Op.equal xt (.nilFunc) (.nilFunc)).run P w = .ok true w := by
        show (Op.equalIn (9999 + 1) _ _ _).run P w = _
        rw [Op.equalIn]; simp [run_underlying hu]
      exact ⟨⟨by simp [binOp, h1], by simp [binOp, h1]⟩, fun op ox oy => by simp [eqGuard]⟩
    · cases h
  · split at h
    · rename_i hp
      cases h
      obtain ⟨a, b, c, hu⟩ := und_fnc hp
      obtain ⟨_, _, rfl, _⟩ := hx; obtain rfl := hy
      have h1 : ∀ a b c, (Op.equal xt (.func a b c) (.nilFunc)).run P w = .ok false w := fun a b c => by
        show (Op.equalIn (9999 + 1) _ _ _).run P w = _
        rw [Op.equalIn]; simp [run_underlying hu]
      exact ⟨⟨by simp [binOp, h1], by simp [binOp, h1]⟩, fun op ox oy => by simp [eqGuard]⟩
    · cases h
  · cases h
theorem binD_sound {op : BinOp} {xt : TypeId} {x y : D} {side : Prop} {d : D} (h : binD P op xt x y = some (side, d)) (hs : side) {u v : Value} (hx : Rep M w x u) (hy : Rep M w y v) :
    (∃ r, (binOp op xt u v).run P w = .ok r w ∧ Rep M w d r) ∧ ∀ ox oy : Operand, (eqGuard op xt ox oy u v).run P w = .ok () w := by
  unfold binD at h
  split at h
  · rename_i k a k' b
    obtain rfl := hx
    obtain rfl := hy
    refine ⟨?_, fun ox oy => by simp [eqGuard]⟩
    split at h
    · simp only [Option.some.injEq, Prod.mk.injEq] at h; obtain ⟨rfl, rfl⟩ := h
      exact ⟨_, (by simp [binOp, Op.shift, show ¬ b < 0 by omega]; try rfl), rfl⟩
    · simp only [Option.some.injEq, Prod.mk.injEq] at h; obtain ⟨rfl, rfl⟩ := h
      exact ⟨_, (by simp [binOp, Op.shift, show ¬ b < 0 by omega]; try rfl), rfl⟩
    · split at h
      · rename_i hk; subst hk; exact binI_sound h hs w
      · cases h
  · rename_i a b
    obtain rfl := hx
    obtain rfl := hy
    refine ⟨?_, fun ox oy => by simp [eqGuard]⟩
    split at h
    · simp only [Option.some.injEq, Prod.mk.injEq] at h; obtain ⟨rfl, rfl⟩ := h
      exact ⟨_, (by simp [binOp, run_string_add_sum w a b hs]; try rfl), rfl⟩
    · simp only [Option.some.injEq, Prod.mk.injEq] at h; obtain ⟨rfl, rfl⟩ := h
      exact ⟨_, (by simp [binOp, Op.stringOp]; try rfl), by simp only [Rep, toList_beq]⟩
    · simp only [Option.some.injEq, Prod.mk.injEq] at h; obtain ⟨rfl, rfl⟩ := h
      exact ⟨_, (by simp [binOp, Op.stringOp]; try rfl), by simp only [Rep, toList_beq]⟩
    · cases h
  · rename_i a b
    obtain rfl := hx
    obtain rfl := hy
    refine ⟨?_, fun ox oy => by simp [eqGuard]⟩
    split at h
    · rename_i hb
      simp only [Option.some.injEq, Prod.mk.injEq] at h; obtain ⟨rfl, rfl⟩ := h
      exact ⟨_, (by simp [binOp, run_equal_bool w xt a b (und_of_bool hb)]; try rfl), rfl⟩
    · rename_i hb
      simp only [Option.some.injEq, Prod.mk.injEq] at h; obtain ⟨rfl, rfl⟩ := h
      exact ⟨_, (by simp [binOp, run_equal_bool w xt a b (und_of_bool hb)]; try rfl), by simp only [Rep]; rfl⟩
    · cases h
  · rename_i a b
    obtain ⟨us, rfl, rx, ox⟩ := hx
    obtain ⟨vs, rfl, ry, oy⟩ := hy
    have hq : ∀ r, eqV P 10 xt (.agg a) (.agg b) = some r → (Op.equalIn 10000 xt (.agg us) (.agg vs)).run P w = .ok r w := fun r hr =>
      eqV_sound (P := P) (M := M) (w := w) 9990 10 xt _ _ r _ _ w hr ⟨us, rfl, rx, ox⟩ ⟨vs, rfl, ry, oy⟩
    split at h
    · rename_i r hg hr
      simp only [Option.some.injEq, Prod.mk.injEq] at h; obtain ⟨rfl, rfl⟩ := h
      have hg' : P.eqGuardType P.depth xt = false := by simpa [eqGP] using hg
      exact ⟨⟨_, by rw [run_eql_struct, hq r hr]; rfl, rfl⟩, fun ox oy => run_eqGuard_agg w _ xt ox oy us vs hg'⟩
    · rename_i r hg hr
      simp only [Option.some.injEq, Prod.mk.injEq] at h; obtain ⟨rfl, rfl⟩ := h
      have hg' : P.eqGuardType P.depth xt = false := by simpa [eqGP] using hg
      exact ⟨⟨_, by rw [run_neq_struct, hq r hr]; rfl, rfl⟩, fun ox oy => run_eqGuard_agg w _ xt ox oy us vs hg'⟩
    · cases h
  · split at h
    · rename_i r hr
      simp only [Option.some.injEq, Prod.mk.injEq] at h; obtain ⟨rfl, rfl⟩ := h
      obtain ⟨h1, h2⟩ := nilE_sound hr hx hy
      exact ⟨⟨_, h1.1, rfl⟩, h2 .eql⟩
    · rename_i r hr
      simp only [Option.some.injEq, Prod.mk.injEq] at h; obtain ⟨rfl, rfl⟩ := h
      obtain ⟨h1, h2⟩ := nilE_sound hr hx hy
      exact ⟨⟨_, h1.2, rfl⟩, h2 .neq⟩
    · cases h
theorem concP_ne {t : TypeId} (h : zc4 P t = true) : ∃ d, P.underlying t = some d ∧ ∀ ms, d ≠ .interface ms := by
  unfold zc4 at h
  split at h
  · cases h
  · rename_i d hd hu
    exact ⟨d, hu, fun ms hm => by subst hm; exact hd ms rfl⟩
  · cases h
theorem indexD_sound {t : TypeId} {x : D} {i : Int} {k : IntKind} {side : Prop} {d : D} (h : indexD P t x i = some (side, d)) (hs : side) {u : Value} (hx : Rep M w x u) :
    ∃ r, (Instr.indexAt t u (.int k i)).run P w = .ok r w ∧ Rep M w d r := by
  unfold indexD at h
  split at h
  · rename_i o es
    split at h
    · rename_i e he
      split at h
      · rename_i n hn
        simp only [Option.some.injEq, Prod.mk.injEq] at h; obtain ⟨rfl, rfl⟩ := h
        obtain ⟨⟨h0, h1⟩, hl⟩ := hs
        have hin : i.toNat < es.length := by omega
        have hget : es[i.toNat]? = some es[i.toNat] := by simp [hin]
        -- every slice that holds something has a row
        have key : ∃ b off cap size, u = .slice (some ⟨b, off, none⟩) es.length cap ∧ RepRows M w es b off size := by
          cases o with
          | nil => obtain ⟨_, rfl⟩ := hx; simp at hin
          | exact => obtain ⟨b, off, size, hv, hr⟩ := hx; exact ⟨b, off, _, size, hv, hr⟩
          | no =>
            rcases hx with ⟨_, rfl⟩ | ⟨b, off, cap, size, hv, _, hr⟩ | ⟨_, _, _, rfl⟩
            · simp at hin
            · exact ⟨b, off, cap, size, hv, hr⟩
            · simp at hin
          | buf b s => obtain ⟨cap, _, _, _, hv, _, hr, _⟩ := hx; exact ⟨b, 0, cap, s, hv, hr⟩
        obtain ⟨b, off, cap, size, rfl, hr⟩ := key
        obtain ⟨hsz, hc⟩ := hr.get hget
        rw [hget] at hl ⊢
        simp only [Option.getD_some] at hl ⊢
        have hne : n = size := hl.symm.trans hsz
        subst hne
        refine ⟨.pointer (some ⟨b, off + i.toNat * n, none⟩), ?_, b, _, rfl, hc⟩
        have hadd : Addr.add ⟨b, off, none⟩ (i.toNat * n) = ⟨b, off + i.toNat * n, none⟩ := by unfold Addr.add; split <;> simp_all
        simp [Instr.indexAt, asIntOf, run_underlying (und_of_sli he), h0, h1, run_sizeOf hn, hadd]
      · cases h
    · cases h
  · rename_i b off len cap
    obtain rfl := hx
    split at h
    · rename_i e he
      split at h
      · rename_i n hn
        simp only [Option.some.injEq, Prod.mk.injEq] at h; obtain ⟨rfl, rfl⟩ := h
        have hadd : Addr.add ⟨b, off, none⟩ (i.toNat * n) = ⟨b, off + i.toNat * n, none⟩ := by unfold Addr.add; split <;> simp_all
        exact ⟨_, (by simp [Instr.indexAt, asIntOf, run_underlying (und_of_sli he), hs.1, hs.2, run_sizeOf hn, hadd]; try rfl), rfl⟩
      · cases h
    · cases h
  · rename_i b off
    obtain rfl := hx
    split at h
    · rename_i m e he
      split at h
      · rename_i n hn
        simp only [Option.some.injEq, Prod.mk.injEq] at h; obtain ⟨rfl, rfl⟩ := h
        have hadd : Addr.add ⟨b, off, none⟩ (i.toNat * n) = ⟨b, off + i.toNat * n, none⟩ := by unfold Addr.add; split <;> simp_all
        exact ⟨_, (by simp [Instr.indexAt, Instr.sureAddr, asIntOf, run_underlying (und_of_arr he), hs.1, hs.2, run_sizeOf hn, hadd]; try rfl), rfl⟩
      · cases h
    · cases h
  · rename_i cs
    obtain ⟨b, off, rfl, hc⟩ := hx
    split at h
    · rename_i m e he
      split at h
      · rename_i n hn
        simp only [Option.some.injEq, Prod.mk.injEq] at h; obtain ⟨rfl, rfl⟩ := h
        have hadd : Addr.add ⟨b, off, none⟩ (i.toNat * n) = ⟨b, off + i.toNat * n, none⟩ := by unfold Addr.add; split <;> simp_all
        exact ⟨_, (by simp [Instr.indexAt, Instr.sureAddr, asIntOf, run_underlying (und_of_arr he), hs.1, hs.2, run_sizeOf hn, hadd]; try rfl), b, _, rfl, hc.drop _⟩
      · cases h
    · cases h
  · cases h
theorem toInt?_rep {x : D} {n : Int} (h : toInt? x = some n) {u : Value} (hx : Rep M w x u) : ∃ k, u = .int k n := by
  cases x <;> simp only [toInt?, reduceCtorEq, Option.some.injEq] at h
  subst h; exact ⟨_, hx⟩
theorem rows_of_slice {o : Own} {es : List (List D)} {u : Value} (hx : Rep M w (.slice o es) u) :
    (u = .slice none 0 0 ∧ es = []) ∨ (∃ b off cap size, u = .slice (some ⟨b, off, none⟩) es.length cap ∧ es.length ≤ cap ∧ RepRows M w es b off size) ∨ ∃ a cap, u = .slice (some a) 0 cap ∧ es = [] := by
  cases o with
  | nil => exact .inl hx
  | exact => obtain ⟨b, off, size, hv, hr⟩ := hx; exact .inr (.inl ⟨b, off, _, size, hv, Nat.le_refl _, hr⟩)
  | no => exact hx
  | buf b s => obtain ⟨cap, _, _, _, hv, hl, hr, _⟩ := hx; exact .inr (.inl ⟨b, 0, cap, s, hv, hl, hr⟩)
theorem lenD_sound {t ty : TypeId} {x d : D} (h : lenD P t x = some d) {u : Value} (hx : Rep M w x u) :
    ∃ r, (Builtin.len_ #[t] ty #[u]).run P w = .ok r w ∧ Rep M w d r := by
  unfold lenD at h
  split at h
  · rename_i o es
    split at h
    · rename_i e he
      cases h
      rcases rows_of_slice hx with ⟨rfl, rfl⟩ | ⟨b, off, cap, size, rfl, hl, hr⟩ | ⟨a, cap, rfl, rfl⟩
      · exact ⟨_, (by simp [Builtin.len_, run_underlying (und_of_sli he)]; try rfl), rfl⟩
      · exact ⟨_, (by simp [Builtin.len_, run_underlying (und_of_sli he)]; try rfl), rfl⟩
      · exact ⟨_, (by simp [Builtin.len_, run_underlying (und_of_sli he)]; try rfl), rfl⟩
    · cases h
  · obtain rfl := hx
    split at h
    · rename_i e he
      cases h
      exact ⟨_, (by simp [Builtin.len_, run_underlying (und_of_sli he)]; try rfl), rfl⟩
    · cases h
  · obtain rfl := hx
    split at h
    · rename_i hs
      cases h
      exact ⟨_, (by simp [Builtin.len_, run_underlying (und_of_str hs)]; try rfl), rfl⟩
    · cases h
  · split at h
    · rename_i n e he
      cases h
      exact ⟨_, (by simp [Builtin.len_, run_underlying (und_of_arr he)]; try rfl), rfl⟩
    · cases h
  · cases h
theorem foldl_set (a : Array Value) (off : Nat) : ∀ (l : List Value) (k : Nat) (cur : Array Value), off + k + l.length ≤ cur.size →
    ((l.zipIdx k).foldl (fun cs (p : Value × Nat) => cs.setIfInBounds (off + p.2) p.1) cur).toList = cur.toList.take (off + k) ++ l ++ cur.toList.drop (off + k + l.length)
  | [], k, cur, h => by simp
  | v :: l, k, cur, h => by
    simp only [List.length_cons] at h
    simp only [List.zipIdx_cons, List.foldl_cons]
    rw [foldl_set a off l (k + 1) _ (by simp; omega)]
    simp only [Array.toList_setIfInBounds, List.length_cons]
    have hlt : off + k < cur.toList.length := by simp; omega
    rw [show off + (k + 1) = (off + k) + 1 by omega, List.take_succ_eq_append_getElem (by simpa using hlt)]
    simp only [List.getElem_set_self, List.take_set_of_le (Nat.le_refl _)]
    rw [List.drop_set_of_lt (by omega)]
    simp [List.append_assoc, show off + k + 1 + l.length = off + k + (l.length + 1) by omega]
theorem fill_sound [DSt] {place : Nat → Option (Nat × TypeId)} {pl : Nat → Option (Nat × Nat)} {fz : D → D} (hfz : ∀ d v, Rep M w d v → Rep M w (fz d) v)
    (hp : ∀ i off t, place i = some (off, t) → ∃ n, pl i = some (off, n) ∧ szP P t = some n) (hi : AInv N M T σ a w) :
    ∀ (parts : List (Nat × Operand)) (cells out : List D), fillD place P T fz parts cells = some out → ∀ (cur : Array Value), zf6 M w cells cur.toList → (∀ u ∈ cur.toList, u.oneCell' = true) →
      ∃ res, Instr.fill pl cur (parts.map fun (i, x) => (i, a.eval x)) = some res ∧ zf6 M w out res.toList ∧ ∀ u ∈ res.toList, u.oneCell' = true
  | [], cells, out, h, cur, hr, h1 => by
    simp only [fillD, Option.some.injEq] at h; subst h
    exact ⟨cur, rfl, hr, h1⟩
  | (i, x) :: rest, cells, out, h, cur, hr, h1 => by
    simp only [fillD] at h
    split at h
    · cases h
    · rename_i off t hpl
      obtain ⟨n, hpl', hn⟩ := hp _ _ _ hpl
      split at h
      · rename_i cs hcs
        split at h
        · rename_i hle
          obtain ⟨c1, c2, c3⟩ := cellsD_rep hcs (ev_rep hi x)
          have hsz : (a.eval x).cells.size = n := Option.some.inj (c3.symm.trans hn)
          have hlen : cs.length = n := by rw [c1.length, ← hsz]; simp
          have hcur : cells.length = cur.size := by rw [hr.length]; simp
          have hf := foldl_set cur off (a.eval x).cells.toList 0 cur (by simp; omega)
          obtain ⟨cur', hcur'⟩ : ∃ c, c = (a.eval x).cells.zipIdx.foldl (fun cs (c, j) => cs.setIfInBounds (off + j) c) cur := ⟨_, rfl⟩
          have e : cur'.toList = cur.toList.take off ++ (a.eval x).cells.toList ++ cur.toList.drop (off + cs.length) := by
            rw [hcur', ← Array.foldl_toList]
            simp only [Array.toList_zipIdx]
            rw [hf]
            simp [hlen, hsz]
          have g1 : zf6 M w (layD cells off (cs.map fz)) cur'.toList := by
            rw [e]
            simp only [layD, List.length_map]
            refine ((hr.take off).append ?_).append (hr.drop _)
            refine (zf6.iff _ _).2 ⟨by simpa using c1.length, fun j d v hd hv => ?_⟩
            simp only [List.getElem?_map, Option.map_eq_some_iff] at hd
            obtain ⟨d', hd', rfl⟩ := hd
            exact hfz _ _ (((zf6.iff _ _).1 c1).2 j d' v hd' hv)
          have g2 : ∀ u ∈ cur'.toList, u.oneCell' = true := by
            rw [e]
            intro u hu
            simp only [List.mem_append] at hu
            rcases hu with (hu | hu) | hu
            · exact h1 u (List.mem_of_mem_take hu)
            · exact c2 u hu
            · exact h1 u (List.mem_of_mem_drop hu)
          obtain ⟨res, r1, r2, r3⟩ := fill_sound hfz hp hi rest _ out h cur' g1 g2
          refine ⟨res, ?_, r2, r3⟩
          simp only [List.map_cons, Instr.fill, hpl']
          rw [if_neg (by simp only [Bool.or_eq_true, bne_iff_ne, decide_eq_true_eq, ne_eq]; omega), ← hcur']
          exact r1
        · cases h
      · cases h
end
end Go.AL
namespace Go.AL
section
variable {P : Program} {N : Nat} {M : MMap} {T : Env} {σ : St} {a : Act} {w : World}
variable [DSt]
theorem map_some_pair {α : Type} {o : Option α} {p : Prop} {side : Prop} {d : α} (h : o.map (fun d => (p, d)) = some (side, d)) : o = some d ∧ side = p := by
  cases o <;> simp at h
  exact ⟨by rw [h.2], propext h.1.symm⟩
theorem repAll_ops (hi : AInv N M T σ a w) (l : List Operand) : zf6 M w (l.map (ev T)) (l.map a.eval) :=
  zf6.map _ _ _ fun x _ => ev_rep hi x
theorem cD_zero {t : TypeId} {z : List D} (h : zc1 P t = some z) (M : MMap) (w : World) : ∃ v, (zeroValue t).run P w = .ok v w ∧ z = v.cells.toList.map cD ∧ zf6 M w z v.cells.toList ∧ ∀ u ∈ v.cells.toList, u.oneCell' = true := by
  simp only [zc1, Option.bind_eq_some_iff] at h
  obtain ⟨i, hi, v, hv, h⟩ := h
  split at h
  · rename_i hall
    cases h
    refine ⟨v, by simp [zeroValue, typeInfo, hi, hv], rfl, ?_, fun u hu => List.all_eq_true.1 hall u hu⟩
    refine (zf6.iff _ _).2 ⟨by simp, fun j d u hd hu => ?_⟩
    simp only [List.getElem?_map, Option.map_eq_some_iff] at hd
    obtain ⟨u', hu', rfl⟩ := hd
    rw [hu] at hu'; cases hu'
    exact cD_rep _ _ _
  · cases h
theorem slice_sound {t e : TypeId} {n : Nat} (he : sliP P t = some e) (hn : szP P e = some n) {o : Own} {es : List (List D)} {u : Value} (hx : Rep M w (.slice o es) u) {l h : Int}
    (h0 : 0 ≤ l) (h1 : l ≤ h) (h2 : h ≤ es.length) (hrow : ∀ e ∈ es, e.length = n) (lo hi : Option Value)
    (hlo : (lo = none ∧ l = 0) ∨ ∃ k, lo = some (.int k l)) (hhi : (hi = none ∧ h = es.length) ∨ ∃ k, hi = some (.int k h)) :
    ∃ v, (Instr.sliceAt t u lo hi none).run P w = .ok v w ∧ Rep M w (.slice .no ((es.take h.toNat).drop l.toNat)) v := by
  have hund := und_of_sli he
  obtain ⟨a, len, cap, rfl, hlen, hcap, hrep⟩ : ∃ a len cap, u = .slice a len cap ∧ len = es.length ∧ len ≤ cap ∧ ((a = none ∧ es = [] ∧ cap = 0) ∨ (∃ b off size, a = some ⟨b, off, none⟩ ∧ RepRows M w es b off size) ∨ ∃ a', a = some a' ∧ es = []) := by
    rcases rows_of_slice hx with ⟨rfl, rfl⟩ | ⟨b, off, cap, size, rfl, hl, hr⟩ | ⟨a', cap, rfl, rfl⟩
    · exact ⟨none, 0, 0, rfl, rfl, Nat.le_refl _, .inl ⟨rfl, rfl, rfl⟩⟩
    · exact ⟨_, _, cap, rfl, rfl, hl, .inr (.inl ⟨b, off, size, rfl, hr⟩)⟩
    · exact ⟨_, 0, cap, rfl, rfl, Nat.zero_le _, .inr (.inr ⟨a', rfl, rfl⟩)⟩
  have hb : (Instr.sliceBounds true len cap lo hi none).run P w = .ok (l.toNat, h.toNat, cap) w := by
    rcases hlo with ⟨rfl, rfl⟩ | ⟨k, rfl⟩ <;> rcases hhi with ⟨rfl, rfl⟩ | ⟨k', rfl⟩
    · simp [Instr.sliceBounds, hlen]
    · simp [Instr.sliceBounds, Instr.sliceBound, asIntOf, show 0 ≤ h ∧ h ≤ (cap : Int) by omega]
    · simp [Instr.sliceBounds, Instr.sliceBound, asIntOf, hlen, show 0 ≤ l ∧ l ≤ (es.length : Int) by omega]
    · have hm : ((h.toNat : Nat) : Int) = h := by omega
      simp [Instr.sliceBounds, Instr.sliceBound, asIntOf, show 0 ≤ h ∧ h ≤ (cap : Int) by omega, show 0 ≤ l ∧ l ≤ max h 0 by omega]
  have hrun : (Instr.sliceAt t (.slice a len cap) lo hi none).run P w = .ok (.slice (if cap = l.toNat then a else a.map (·.add (l.toNat * n))) (h.toNat - l.toNat) (cap - l.toNat)) w := by
    simp [Instr.sliceAt, Instr.slice, run_underlying hund, hb, run_sizeOf hn]
  refine ⟨_, hrun, ?_⟩
  have hlen' : ((es.take h.toNat).drop l.toNat).length = h.toNat - l.toNat := by simp; omega
  rcases hrep with ⟨rfl, rfl, rfl⟩ | ⟨b, off, size, rfl, hr⟩ | ⟨a', rfl, rfl⟩
  · left
    simp at h2
    have : h.toNat = 0 := by omega
    have : l.toNat = 0 := by omega
    simp_all
    omega
  · right; left
    have hrows : ∀ {x : Nat}, x = off + l.toNat * n → RepRows M w ((es.take h.toNat).drop l.toNat) b x size := by
      intro x hx
      by_cases hemp : es = []
      · subst hemp; simp [RepRows]
      · obtain ⟨e0, he0⟩ : ∃ e0, e0 ∈ es := by cases es with | nil => exact absurd rfl hemp | cons a l => exact ⟨a, by simp⟩
        obtain ⟨i, hi'⟩ := List.getElem?_of_mem he0
        have hs : size = n := (hr.get hi').1.symm.trans (hrow e0 he0)
        subst hs; subst hx
        exact (hr.take _).drop _
    by_cases hc : cap = l.toNat
    · refine ⟨b, off, cap - l.toNat, size, by rw [if_pos hc, hlen'], by rw [hlen']; omega, ?_⟩
      have : (es.take h.toNat).drop l.toNat = [] := by apply List.eq_nil_of_length_eq_zero; rw [hlen']; omega
      rw [this]; trivial
    · refine ⟨b, off + l.toNat * n, cap - l.toNat, size, ?_, by rw [hlen']; omega, hrows rfl⟩
      have hadd : Addr.add ⟨b, off, none⟩ (l.toNat * n) = ⟨b, off + l.toNat * n, none⟩ := by unfold Addr.add; split <;> simp_all
      rw [if_neg hc, hlen']; simp [hadd]
  · right; right
    simp at h2
    have e1 : h.toNat = 0 := by omega
    have e2 : l.toNat = 0 := by omega
    by_cases hc : cap = l.toNat
    · exact ⟨a', cap - l.toNat, by rw [if_pos hc]; simp [e1], by simp⟩
    · exact ⟨a'.add (l.toNat * n), cap - l.toNat, by rw [if_neg hc]; simp [e1], by simp⟩
theorem sliceStr_sound {t : TypeId} (he : strP P t = true) {s : ByteArray} {l h : Int}
    (h0 : 0 ≤ l) (h1 : l ≤ h) (h2 : h ≤ s.size) (lo hi : Option Value)
    (hlo : (lo = none ∧ l = 0) ∨ ∃ k, lo = some (.int k l)) (hhi : (hi = none ∧ h = s.size) ∨ ∃ k, hi = some (.int k h)) :
    (Instr.sliceAt t (.string s) lo hi none).run P w = .ok (.string (s.extract l.toNat h.toNat)) w := by
  have hund := und_of_str he
  have hb : (Instr.sliceBounds false s.size s.size lo hi none).run P w = .ok (l.toNat, h.toNat, s.size) w := by
    rcases hlo with ⟨rfl, rfl⟩ | ⟨k, rfl⟩ <;> rcases hhi with ⟨rfl, rfl⟩ | ⟨k', rfl⟩
    · simp [Instr.sliceBounds]
    · simp [Instr.sliceBounds, Instr.sliceBound, asIntOf, show 0 ≤ h ∧ h ≤ (s.size : Int) by omega]
    · simp [Instr.sliceBounds, Instr.sliceBound, asIntOf, show 0 ≤ l ∧ l ≤ (s.size : Int) by omega]
    · simp [Instr.sliceBounds, Instr.sliceBound, asIntOf, show 0 ≤ h ∧ h ≤ (s.size : Int) by omega, show 0 ≤ l ∧ l ≤ max h 0 by omega]
  simp [Instr.sliceAt, Instr.slice, run_underlying hund, hb]
theorem sliceArr_sound {t e : TypeId} {n s : Nat} (he : arrP P t = some (n, e)) (hn : szP P e = some s) {b off : Nat} {l h : Int}
    (h0 : 0 ≤ l) (h1 : l ≤ h) (h2 : h ≤ n) (lo hi : Option Value)
    (hlo : (lo = none ∧ l = 0) ∨ ∃ k, lo = some (.int k l)) (hhi : (hi = none ∧ h = n) ∨ ∃ k, hi = some (.int k h)) :
    (Instr.sliceAt t (.pointer (some ⟨b, off, none⟩)) lo hi none).run P w = .ok (.slice (some ⟨b, if n = l.toNat then off else off + l.toNat * s, none⟩) (h.toNat - l.toNat) (n - l.toNat)) w := by
  have hund := und_of_arr he
  have hb : (Instr.sliceBounds false n n lo hi none).run P w = .ok (l.toNat, h.toNat, n) w := by
    rcases hlo with ⟨rfl, rfl⟩ | ⟨k, rfl⟩ <;> rcases hhi with ⟨rfl, rfl⟩ | ⟨k', rfl⟩
    · simp [Instr.sliceBounds]
    · simp [Instr.sliceBounds, Instr.sliceBound, asIntOf, show 0 ≤ h ∧ h ≤ (n : Int) by omega]
    · simp [Instr.sliceBounds, Instr.sliceBound, asIntOf, show 0 ≤ l ∧ l ≤ (n : Int) by omega]
    · simp [Instr.sliceBounds, Instr.sliceBound, asIntOf, show 0 ≤ h ∧ h ≤ (n : Int) by omega, show 0 ≤ l ∧ l ≤ max h 0 by omega]
  have hadd : Addr.add ⟨b, off, none⟩ (l.toNat * s) = ⟨b, off + l.toNat * s, none⟩ := by unfold Addr.add; split <;> simp_all
  have key : (Instr.sliceAt t (.pointer (some ⟨b, off, none⟩)) lo hi none).run P w = .ok (.slice (some (if n = l.toNat then ⟨b, off, none⟩ else Addr.add ⟨b, off, none⟩ (l.toNat * s))) (h.toNat - l.toNat) (n - l.toNat)) w := by
    simp [Instr.sliceAt, Instr.sureAddr, run_underlying hund, hb, run_sizeOf hn]
  rw [key, hadd]
  split <;> rfl
theorem map_some_agg {o : Option (List D)} {p side : Prop} {d : D} (h : o.map (fun cs => (p, D.agg cs)) = some (side, d)) : ∃ cs, o = some cs ∧ d = .agg cs := by
  cases o <;> simp at h
  exact ⟨_, rfl, h.2.symm⟩
theorem buildP_struct {t : TypeId} (h : buildP P t = some none) : ∃ fs, P.underlying t = some (.struct fs) ∧ ∀ f ∈ fs, ∃ n, szP P f.type = some n := by
  unfold buildP at h
  split at h
  · rename_i fs hfs
    split at h
    · rename_i hall
      refine ⟨fs, hfs, fun f hf => ?_⟩
      have := List.all_eq_true.1 hall f (by simpa using hf)
      exact Option.isSome_iff_exists.1 this
    · cases h
  · rename_i n e he
    cases hn : szP P e <;> simp [hn] at h
  · cases h
theorem buildP_array {t e : TypeId} {n : Nat} (h : buildP P t = some (some (e, n))) : ∃ k, P.underlying t = some (.array k e) ∧ szP P e = some n := by
  unfold buildP at h
  split at h
  · split at h <;> simp at h
  · rename_i k e' he
    cases hn : szP P e' <;> simp [hn] at h
    obtain ⟨rfl, rfl⟩ := h
    exact ⟨k, he, hn⟩
  · cases h
theorem run_mapM {α β : Type} (xs : Array α) (f : α → Sem β) (g : α → β) (h : ∀ x ∈ xs, (f x).run P w = .ok (g x) w) : (xs.mapM f).run P w = .ok (xs.map g) w := by
  have key : ∀ (l : List α), (∀ x ∈ l, (f x).run P w = .ok (g x) w) → (l.mapM f).run P w = .ok (l.map g) w := by
    intro l
    induction l with
    | nil => intro _; simp
    | cons x l ih =>
      intro hx
      simp [hx x (by simp), ih (fun y hy => hx y (by simp [hy]))]
  rw [Array.mapM_eq_mapM_toList]
  simp [key xs.toList (fun x hx => h x (by simpa using hx))]
  apply Array.ext'
  simp
theorem pureD_sound {o : Oper} {side : Prop} {d : D} (h : pureD P o.op T = some (side, d)) (hs : side) (hi : AInv N M T σ a w) :
    ∃ v, (execOp a.eval o).run P w = .ok (.value v) w ∧ Rep M w d v := by
  obtain ⟨dst, op, type, pos, after, guard⟩ := o
  simp only at h
  cases op with
  | move x =>
    simp only [pureD, Option.some.injEq, Prod.mk.injEq] at h; obtain ⟨rfl, rfl⟩ := h
    exact ⟨a.eval x, by simp [execOp], ev_rep hi x⟩
  | assign x =>
    simp only [pureD, Option.some.injEq, Prod.mk.injEq] at h; obtain ⟨rfl, rfl⟩ := h
    exact ⟨a.eval x, by simp [execOp], ev_rep hi x⟩
  | pick c x y =>
    simp only [pureD] at h
    split at h
    · rename_i t hc
      simp only [Option.some.injEq, Prod.mk.injEq, pickD_eq] at h; obtain ⟨rfl, rfl⟩ := h
      have hr := ev_rep hi c
      rw [hc] at hr
      simp only [Rep] at hr
      cases t
      · exact ⟨a.eval y, by simp [execOp, hr, asBool], by simpa using ev_rep hi y⟩
      · exact ⟨a.eval x, by simp [execOp, hr, asBool], by simpa using ev_rep hi x⟩
    · cases h
  | binOp op xt x y yt =>
    simp only [pureD] at h
    obtain ⟨⟨r, h1, h2⟩, h3⟩ := binD_sound h hs (ev_rep hi x) (ev_rep hi y)
    exact ⟨r, by simp [execOp, h1, h3], h2⟩
  | unOp op xt x =>
    simp only [pureD] at h
    obtain ⟨h, _⟩ := map_some_pair h
    have hr := ev_rep hi x
    unfold unD at h
    split at h
    · rename_i k n hx
      rw [hx] at hr; simp only [Rep] at hr
      split at h
      · cases h
        exact ⟨.int k (k.wrap (0 - n)), by simp [execOp, hr, Op.unary, Op.intArith], rfl⟩
      · cases h
    · rename_i b hx
      rw [hx] at hr; simp only [Rep] at hr
      split at h
      · cases h
        exact ⟨_, by simp [execOp, hr, Op.unary], rfl⟩
      · cases h
    · cases h
  | convert src dst x =>
    simp only [pureD] at h
    obtain ⟨h, _⟩ := map_some_pair h
    have hr := ev_rep hi x
    unfold convD at h
    split at h
    · rename_i k n hx
      rw [hx] at hr; simp only [Rep] at hr
      split at h
      · rename_i hk hd
        cases h
        obtain ⟨ds, hds⟩ := Option.isSome_iff_exists.1 hk
        refine ⟨.int _ _, ?_, rfl⟩
        cases ds <;> simp [execOp, hr, convert, run_underlying hds, run_underlying (und_of_int hd), Conv.intToInt]
      · cases h
    · rename_i s hx
      rw [hx] at hr; simp only [Rep] at hr
      split at h
      · rename_i hk hd
        cases h
        exact ⟨_, by simp [execOp, hr, convert, run_underlying (und_of_str hk), run_underlying (und_of_str hd)], rfl⟩
      · cases h
    · cases h
  | makeInterface t x =>
    simp only [pureD] at h
    split at h
    · rename_i hc
      simp only [Option.some.injEq, Prod.mk.injEq] at h; obtain ⟨rfl, rfl⟩ := h
      obtain ⟨d, hd, hne⟩ := concP_ne hc
      refine ⟨.iface t (a.eval x), ?_, a.eval x, rfl, ev_rep hi x⟩
      cases d <;> first
        | exact absurd rfl (hne _)
        | simp [execOp, Instr.makeInterface, run_underlying hd]
    · cases h
  | makeFunc fn first captured =>
    simp only [pureD, Option.some.injEq, Prod.mk.injEq] at h; obtain ⟨rfl, rfl⟩ := h
    exact ⟨.func fn (first.map a.eval) (captured.map a.eval), by simp [execOp, Instr.makeFunc], _, _, rfl, by simpa using repAll_ops hi first.toList, by simpa using repAll_ops hi captured.toList⟩
  | extract x i =>
    simp only [pureD] at h
    split at h
    · rename_i ds hx
      obtain ⟨h, _⟩ := map_some_pair h
      have hr := ev_rep hi x
      rw [hx] at hr
      obtain ⟨vs, hv, hr⟩ := hr
      obtain ⟨v, hv', hr'⟩ := hr.get h
      have : vs[i]? = some v := by simpa using hv'
      exact ⟨v, by simp [execOp, hv, Instr.extract, this], hr'⟩
    · cases h
  | field t x f =>
    simp only [pureD] at h
    split at h
    · rename_i cs off ft hx hf
      obtain ⟨h, _⟩ := map_some_pair h
      obtain ⟨fs, y, n, hu, hy, rfl, rfl, hn, _⟩ := und_of_fld hf
      have hr := ev_rep hi x
      rw [hx] at hr
      obtain ⟨vs, hv, hr, h1⟩ := hr
      obtain ⟨v, hv', hr'⟩ := part_rep h hr h1 w
      exact ⟨v, by simp [execOp, hv, Instr.field, run_underlying hu, hy, asAgg, hv'], hr'⟩
    · cases h
  | fieldAddr t x f =>
    simp only [pureD] at h
    split at h
    · rename_i b off o ft hx hf
      simp only [Option.some.injEq, Prod.mk.injEq] at h; obtain ⟨rfl, rfl⟩ := h
      obtain ⟨fs, y, n, hu, hy, rfl, rfl, hn, hn0⟩ := und_of_fld hf
      have hr := ev_rep hi x
      rw [hx] at hr; simp only [Rep] at hr
      have hadd : Addr.add ⟨b, off, none⟩ y.offset = ⟨b, off + y.offset, none⟩ := by unfold Addr.add; split <;> simp_all
      exact ⟨_, by simp [execOp, hr, Instr.fieldAt, run_underlying hu, hy, Instr.sureAddr, fieldPlace, run_sizeOf hn, hn0, hadd], rfl⟩
    · rename_i cs o ft hx hf
      simp only [Option.some.injEq, Prod.mk.injEq] at h; obtain ⟨rfl, rfl⟩ := h
      obtain ⟨fs, y, n, hu, hy, rfl, rfl, hn, hn0⟩ := und_of_fld hf
      have hr := ev_rep hi x
      rw [hx] at hr
      obtain ⟨b, off, hr, hc⟩ := hr
      have hadd : Addr.add ⟨b, off, none⟩ y.offset = ⟨b, off + y.offset, none⟩ := by unfold Addr.add; split <;> simp_all
      exact ⟨_, by simp [execOp, hr, Instr.fieldAt, run_underlying hu, hy, Instr.sureAddr, fieldPlace, run_sizeOf hn, hn0, hadd], b, _, rfl, hc.drop _⟩
    · cases h
  | indexAddr t x i =>
    simp only [pureD] at h
    split at h
    · rename_i k n hx
      have hr := ev_rep hi i
      rw [hx] at hr; simp only [Rep] at hr
      obtain ⟨v, h1, h2⟩ := indexD_sound (k := k) h hs (ev_rep hi x)
      exact ⟨v, by simp [execOp, hr, h1], h2⟩
    · cases h
  | index t x i =>
    simp only [pureD] at h
    split at h
    · rename_i k n hx
      have hri := ev_rep hi i
      rw [hx] at hri; simp only [Rep] at hri
      split at h
      · rename_i s hs'
        have hr := ev_rep hi x
        rw [hs'] at hr; simp only [Rep] at hr
        split at h
        · rename_i hst
          simp only [Option.some.injEq, Prod.mk.injEq] at h; obtain ⟨rfl, rfl⟩ := h
          have hlt : n.toNat < s.size := by omega
          have hlt' : n.toNat < s.data.toList.length := by simpa using hlt
          have hget : s[n.toNat]? = some s[n.toNat] := by simp [hlt]
          refine ⟨.int .u8 (s[n.toNat]).toNat, ?_, ?_⟩
          · simp [execOp, hr, hri, Instr.index, asIntOf, run_underlying (und_of_str hst), hs.1, hget]
          · simp only [Rep]
            rw [List.getElem?_eq_getElem hlt']
            rfl
        · cases h
      · rename_i cs hcs
        have hr := ev_rep hi x
        rw [hcs] at hr
        obtain ⟨vs, hv, hr, h1⟩ := hr
        split at h
        · rename_i k' e he
          split at h
          · rename_i m hm
            obtain ⟨h', hsd⟩ := map_some_pair h
            subst hsd
            obtain ⟨v, hv', hr'⟩ := part_rep h' hr h1 w
            exact ⟨v, by simp [execOp, hv, hri, Instr.index, asIntOf, run_underlying (und_of_arr he), hs.1, hs.2, run_sizeOf hm, hv'], hr'⟩
          · cases h
        · cases h
      · cases h
    · cases h
  | nilCheck x =>
    simp only [pureD] at h
    have hr := ev_rep hi x
    split at h <;> first
      | cases h; done
      | (rename_i hx; simp only [Option.some.injEq, Prod.mk.injEq] at h; obtain ⟨rfl, rfl⟩ := h; rw [hx] at hr)
    · refine ⟨a.eval x, ?_, hr⟩
      simp only [Rep] at hr; simp [execOp, hr]
    · refine ⟨a.eval x, ?_, hr⟩
      obtain ⟨b, off, hr, _⟩ := hr; simp [execOp, hr]
    · refine ⟨a.eval x, ?_, hr⟩
      rcases rows_of_slice hr with ⟨h, _⟩ | ⟨_, _, _, _, h, _⟩ | ⟨_, _, h, _⟩ <;> simp [execOp, h]
    · refine ⟨a.eval x, ?_, hr⟩
      obtain ⟨_, _, hr, _⟩ := hr; simp [execOp, hr]
  | load t x =>
    simp only [pureD] at h
    split at h
    · rename_i cs hx
      obtain ⟨h, _⟩ := map_some_pair h
      have hr := ev_rep hi x
      rw [hx] at hr
      obtain ⟨b, off, hr, hc⟩ := hr
      obtain ⟨v, hv, hr'⟩ := load_rep h hc
      exact ⟨v, by simp [execOp, hr, Instr.loadAt, Instr.sureAddr, hv], hr'⟩
    · cases h
  | build t parts =>
    simp only [pureD] at h
    split at h
    · rename_i z hb hz
      obtain ⟨cs, h', rfl⟩ := map_some_agg h
      obtain ⟨zv, hzv, hzc, hzr, hzo⟩ := cD_zero hz M w
      obtain ⟨fs, hu, hall⟩ := buildP_struct hb
      obtain ⟨res, h1, h2, h3⟩ := fill_sound (place := fldP P t) (fz := id) (pl := fun i => (fs.map fun f => (f.offset, (szP P f.type).getD 0))[i]?) (fun _ _ h => h) (fun i off ty hp => by
        obtain ⟨fs', y, n, hu', hy, rfl, rfl, hn, _⟩ := und_of_fld hp
        rw [hu] at hu'; cases hu'
        exact ⟨n, by simp [hy, hn], hn⟩) hi parts.toList z cs h' zv.cells hzr hzo
      refine ⟨.agg res, ?_, res, rfl, h2, h3⟩
      have hm := run_mapM (P := P) (w := w) fs (fun f => Prod.mk f.offset <$> sizeOf f.type) (fun f => (f.offset, (szP P f.type).getD 0)) (fun f hf => by
        obtain ⟨n, hn⟩ := hall f hf
        simp [run_sizeOf hn, hn])
      simp only [Array.getElem?_map] at h1
      simp [execOp, Instr.build, hzv, run_underlying hu, hm, h1]
    · rename_i e n z hb hz
      obtain ⟨cs, h', rfl⟩ := map_some_agg h
      obtain ⟨zv, hzv, hzc, hzr, hzo⟩ := cD_zero hz M w
      obtain ⟨k, hu, hn⟩ := buildP_array hb
      obtain ⟨res, h1, h2, h3⟩ := fill_sound (place := fun i => some (i * n, e)) (fz := id) (pl := fun i => some (i * n, n)) (fun _ _ h => h) (fun i off ty hp => by
        simp only [Option.some.injEq, Prod.mk.injEq] at hp
        obtain ⟨rfl, rfl⟩ := hp
        exact ⟨n, rfl, hn⟩) hi parts.toList z cs h' zv.cells hzr hzo
      refine ⟨.agg res, ?_, res, rfl, h2, h3⟩
      simp [execOp, Instr.build, hzv, run_underlying hu, run_sizeOf hn, h1]
    · cases h
  | call c =>
    obtain ⟨callee, args, argTypes⟩ := c
    cases callee with
    | value f => simp only [pureD] at h; cases h
    | invoke r m => simp only [pureD] at h; cases h
    | builtin b =>
      cases b <;> simp only [pureD] at h <;> first
        | cases h; done
        | skip
      case len =>
        split at h
        · rename_i x t ha ht
          obtain ⟨h, _⟩ := map_some_pair h
          obtain ⟨r, h1, h2⟩ := lenD_sound (ty := type) h (ev_rep hi x)
          have ha' : args = #[x] := by rw [← Array.toList_inj]; simpa using ha
          have ht' : argTypes = #[t] := by rw [← Array.toList_inj]; simpa using ht
          subst ha'; subst ht'
          exact ⟨r, by simp [execOp, resolve, invoke, builtin, h1], h2⟩
        · cases h
      case min =>
        split at h
        · rename_i x y ha
          have ha' : args = #[x, y] := by rw [← Array.toList_inj]; simpa using ha
          subst ha'
          split at h
          · rename_i k p k' q hx hy
            split at h
            · rename_i hk
              subst hk
              simp only [Option.some.injEq, Prod.mk.injEq] at h; obtain ⟨rfl, rfl⟩ := h
              have hrx := ev_rep hi x; rw [hx] at hrx; simp only [Rep] at hrx
              have hry := ev_rep hi y; rw [hy] at hry; simp only [Rep] at hry
              refine ⟨.int k (min p q), ?_, rfl⟩
              simp [execOp, resolve, invoke, builtin, hrx, hry, Builtin.min_, Builtin.min2, Int.min_def]
              split <;> split <;> omega
            · cases h
          · cases h
        · cases h
      case max =>
        split at h
        · rename_i x y ha
          have ha' : args = #[x, y] := by rw [← Array.toList_inj]; simpa using ha
          subst ha'
          split at h
          · rename_i k p k' q hx hy
            split at h
            · rename_i hk
              subst hk
              simp only [Option.some.injEq, Prod.mk.injEq] at h; obtain ⟨rfl, rfl⟩ := h
              have hrx := ev_rep hi x; rw [hx] at hrx; simp only [Rep] at hrx
              have hry := ev_rep hi y; rw [hy] at hry; simp only [Rep] at hry
              refine ⟨.int k (max p q), ?_, rfl⟩
              simp [execOp, resolve, invoke, builtin, hrx, hry, Builtin.max_, Builtin.max2, Int.max_def]
              split <;> split <;> omega
            · cases h
          · cases h
        · cases h
  | slice t x lo hi' mx =>
    cases mx with
    | some m => simp only [pureD] at h; cases h
    | none =>
      simp only [pureD] at h
      split at h
      · rename_i o es hx
        have hr := ev_rep hi x
        rw [hx] at hr
        split at h
        · rename_i e he
          split at h
          · rename_i n hn
            split at h
            · rename_i l hh hl hhh
              simp only [Option.some.injEq, Prod.mk.injEq] at h; obtain ⟨rfl, rfl⟩ := h
              obtain ⟨⟨h0, h1, h2⟩, hrow⟩ := hs
              have e1 : (lo.map a.eval = none ∧ l = 0) ∨ ∃ k, lo.map a.eval = some (.int k l) := by
                cases lo with
                | none => simp only [Option.some.injEq] at hl; exact .inl ⟨rfl, hl.symm⟩
                | some z => obtain ⟨k, hk⟩ := toInt?_rep hl (ev_rep hi z); exact .inr ⟨k, by simp [hk]⟩
              have e2 : (hi'.map a.eval = none ∧ hh = es.length) ∨ ∃ k, hi'.map a.eval = some (.int k hh) := by
                cases hi' with
                | none => simp only [Option.some.injEq] at hhh; exact .inl ⟨rfl, hhh.symm⟩
                | some z => obtain ⟨k, hk⟩ := toInt?_rep hhh (ev_rep hi z); exact .inr ⟨k, by simp [hk]⟩
              obtain ⟨v, h3, h4⟩ := slice_sound he hn hr h0 h1 h2 hrow (lo.map a.eval) (hi'.map a.eval) e1 e2
              exact ⟨v, by simp [execOp, h3], h4⟩
            · cases h
          · cases h
        · cases h
      · rename_i s hx
        have hr := ev_rep hi x
        rw [hx] at hr; simp only [Rep] at hr
        split at h
        · rename_i he
          split at h
          · rename_i l hh hl hhh
            simp only [Option.some.injEq, Prod.mk.injEq] at h; obtain ⟨rfl, rfl⟩ := h
            obtain ⟨h0, h1, h2⟩ := hs
            have e1 : (lo.map a.eval = none ∧ l = 0) ∨ ∃ k, lo.map a.eval = some (.int k l) := by
              cases lo with
              | none => simp only [Option.some.injEq] at hl; exact .inl ⟨rfl, hl.symm⟩
              | some z => obtain ⟨k, hk⟩ := toInt?_rep hl (ev_rep hi z); exact .inr ⟨k, by simp [hk]⟩
            have e2 : (hi'.map a.eval = none ∧ hh = s.size) ∨ ∃ k, hi'.map a.eval = some (.int k hh) := by
              cases hi' with
              | none => simp only [Option.some.injEq] at hhh; exact .inl ⟨rfl, hhh.symm⟩
              | some z => obtain ⟨k, hk⟩ := toInt?_rep hhh (ev_rep hi z); exact .inr ⟨k, by simp [hk]⟩
            have h3 := sliceStr_sound (P := P) (w := w) he h0 h1 h2 (lo.map a.eval) (hi'.map a.eval) e1 e2
            exact ⟨_, by simp [execOp, hr, h3], rfl⟩
          · cases h
        · cases h
      · rename_i b off hx
        have hr := ev_rep hi x
        rw [hx] at hr; simp only [Rep] at hr
        split at h
        · rename_i n e he
          split at h
          · rename_i l hh hl hhh
            unfold bslD at h
            rw [he] at h
            simp only at h
            split at h
            · rename_i s hn
              simp only [Option.some.injEq, Prod.mk.injEq] at h; obtain ⟨rfl, rfl⟩ := h
              obtain ⟨h0, h1, h2⟩ := hs
              have e1 : (lo.map a.eval = none ∧ l = 0) ∨ ∃ k, lo.map a.eval = some (.int k l) := by
                cases lo with
                | none => simp only [Option.some.injEq] at hl; exact .inl ⟨rfl, hl.symm⟩
                | some z => obtain ⟨k, hk⟩ := toInt?_rep hl (ev_rep hi z); exact .inr ⟨k, by simp [hk]⟩
              have e2 : (hi'.map a.eval = none ∧ hh = n) ∨ ∃ k, hi'.map a.eval = some (.int k hh) := by
                cases hi' with
                | none => simp only [Option.some.injEq] at hhh; exact .inl ⟨rfl, hhh.symm⟩
                | some z => obtain ⟨k, hk⟩ := toInt?_rep hhh (ev_rep hi z); exact .inr ⟨k, by simp [hk]⟩
              have h3 := sliceArr_sound (P := P) (w := w) he hn (b := b) (off := off) h0 h1 h2 (lo.map a.eval) (hi'.map a.eval) e1 e2
              exact ⟨_, by simp [execOp, hr, h3], rfl⟩
            · cases h
          · cases h
        · cases h
      · cases h
  | _ => simp only [pureD] at h; cases h
end
end Go.AL
namespace Go.AL
def St.set (σ : St) (b : Nat) (cs : List D) : St := { σ with box := fun x => if x = b then some cs else σ.box x }
def St.setBuf (σ : St) (b s n : Nat) : St := { σ with buf := fun x => if x = b then some (s, n) else σ.buf x }
def St.dropBuf (σ : St) (b : Nat) : St := { σ with buf := fun x => if x = b then none else σ.buf x }
def St.join (s fr : St) : St := { box := fun b => (s.box b).or (fr.box b), buf := fun b => (s.buf b).or (fr.buf b) }
def St.apart (s fr : St) : Prop := ∀ b, s.has b → ¬ fr.has b
def St.fin (σ : St) : Prop := ∃ n, ∀ b, n ≤ b → ¬ σ.has b
structure St.split (σ s fr : St) : Prop where
  eq : σ = St.join s fr
  apart : St.apart s fr
theorem St.not_has_nil (b : Nat) : ¬ ({} : St).has b := fun h => by rcases h with h | h <;> exact h rfl
theorem St.join_nil (σ : St) : St.join {} σ = σ := by ext <;> simp [St.join]
theorem St.nil_join (σ : St) : St.join σ {} = σ := by ext <;> simp [St.join]
theorem St.split.pure (σ : St) : St.split σ {} σ := ⟨(St.join_nil σ).symm, fun b h => absurd h (St.not_has_nil b)⟩
theorem St.split.all (σ : St) : St.split σ σ {} := ⟨(St.nil_join σ).symm, fun b _ h => St.not_has_nil b h⟩
theorem heap_alloc_old {w : World} {o : Obj} {b : Nat} (h : b < w.heap.size) : (w.alloc o).heap[b]? = w.heap[b]? := by
  show (w.heap.push o)[b]? = _
  rw [Array.getElem?_push, if_neg (by omega)]
theorem heap_alloc_new (w : World) (o : Obj) : (w.alloc o).heap[w.heap.size]? = some o := by
  show (w.heap.push o)[w.heap.size]? = _
  simp
theorem heap_alloc_size (w : World) (o : Obj) : (w.alloc o).heap.size = w.heap.size + 1 := by
  show (w.heap.push o).size = _
  simp
theorem Keep.alloc {M : MMap} {w : World} (hd : ∀ b, M b ≠ none → b < w.heap.size) (o : Obj) (m : Option MK) :
    Keep M w (fun x => if x = w.heap.size then m else M x) (w.alloc o) := by
  refine ⟨rfl, rfl, rfl, by rw [heap_alloc_size]; omega, fun b hb hM => ?_, fun b lim c e f hM hc => ?_⟩
  · exact ⟨by simp [show b ≠ w.heap.size by omega, hM], heap_alloc_old hb⟩
  · have hb := heap_lt hc
    exact ⟨⟨c, (heap_alloc_old hb).trans hc, rfl, fun _ _ => rfl⟩, .inr ⟨lim, Nat.le_refl _, by simp [show b ≠ w.heap.size by omega, hM]⟩⟩
theorem Inv.fresh {M : MMap} {σ : St} {w : World} (h : Inv M σ w) : ¬ σ.has w.heap.size := fun hin => by
  have := h.dom _ (h.lt hin)
  omega
theorem BoxAt.keep {M M' : MMap} {w w' : World} (hk : Keep M w M' w') {b : Nat} {cs : List D} (h : BoxAt M w b cs) (hM : M' b = M b) (hh : w'.heap[b]? = w.heap[b]?) : BoxAt M' w' b cs := by
  obtain ⟨h1, c, e, h2, h3, h4⟩ := h
  exact ⟨hM.trans h1, c, e, hh.trans h2, zf6.keep hk _ _ h3, h4⟩
theorem BufAt.keep {M M' : MMap} {w w' : World} {b s n : Nat} (h : BufAt M w b s n) (hM : M' b = M b) (hh : w'.heap[b]? = w.heap[b]?) : BufAt M' w' b s n := by
  obtain ⟨h1, c, e, cap, h2, h3⟩ := h
  exact ⟨hM.trans h1, c, e, cap, hh.trans h2, h3⟩
theorem has_box {σ : St} {b : Nat} {cs : List D} (h : σ.box b = some cs) : σ.has b := .inl (by simp [h])
theorem has_buf {σ : St} {b : Nat} {p : Nat × Nat} (h : σ.buf b = some p) : σ.has b := .inr (by simp [h])
theorem Inv.addBox {M : MMap} {σ : St} {w : World} (h : Inv M σ w) {cs : List D} {c : Array Value} (e : TypeId) (hr : zf6 M w cs c.toList) (h1 : ∀ u ∈ c.toList, u.oneCell' = true) :
    Inv (fun x => if x = w.heap.size then some .box else M x) (σ.set w.heap.size cs) (w.alloc (.cells c e)) ∧
    KeepF M σ w (fun x => if x = w.heap.size then some .box else M x) (σ.set w.heap.size cs) (w.alloc (.cells c e)) := by
  have hk := Keep.alloc h.dom (.cells c e) (some .box)
  have hne : ∀ b, σ.has b → b ≠ w.heap.size := fun b hb he => h.fresh (he ▸ hb)
  have hold : ∀ b, σ.has b → (if b = w.heap.size then some MK.box else M b) = M b ∧ (w.alloc (.cells c e)).heap[b]? = w.heap[b]? := fun b hb =>
    ⟨by rw [if_neg (hne b hb)], heap_alloc_old (h.dom b (h.lt hb))⟩
  refine ⟨⟨fun b cs' hb => ?_, fun b s n hb => ?_, fun b hb => ?_⟩, { hk with frame := fun b hM hb => ?_, fresh := fun b hb => ?_ }⟩
  · simp only [St.set] at hb
    split at hb
    · rename_i he
      subst he; cases hb
      exact ⟨by simp, c, e, heap_alloc_new _ _, zf6.keep hk _ _ hr, h1⟩
    · exact (h.box b cs' hb).keep hk (hold _ (has_box hb)).1 (hold _ (has_box hb)).2
  · exact (h.buf b s n hb).keep (hold _ (has_buf hb)).1 (hold _ (has_buf hb)).2
  · rw [heap_alloc_size]
    split at hb
    · omega
    · have := h.dom b hb; omega
  · have hlt := h.dom b hM
    exact ⟨by rw [if_neg (by omega)], heap_alloc_old hlt⟩
  · rcases hb with hb | hb
    · simp only [St.set] at hb
      split at hb
      · exact .inr (by omega)
      · exact .inl (.inl hb)
    · exact .inl (.inr hb)
theorem Inv.addImm {M : MMap} {σ : St} {w : World} (h : Inv M σ w) (o : Obj) : Inv M σ (w.alloc o) ∧ KeepF M σ w M σ (w.alloc o) := by
  have hM : (fun x => if x = w.heap.size then none else M x) = M := by
    funext x
    split
    · rename_i hx
      subst hx
      cases hm : M w.heap.size with
      | none => rfl
      | some m => have := h.dom w.heap.size (by simp [hm]); omega
    · rfl
  have hk := Keep.alloc h.dom o none
  rw [hM] at hk
  have hold : ∀ b, σ.has b → (w.alloc o).heap[b]? = w.heap[b]? := fun b hb => heap_alloc_old (h.dom b (h.lt hb))
  refine ⟨⟨fun b cs hb => (h.box b cs hb).keep hk rfl (hold b (has_box hb)), fun b s n hb => (h.buf b s n hb).keep rfl (hold b (has_buf hb)), fun b hb => ?_⟩,
    { hk with frame := fun b hb _ => ⟨rfl, heap_alloc_old (h.dom b hb)⟩, fresh := fun b hb => .inl hb }⟩
  have := h.dom b hb
  rw [heap_alloc_size]; omega
def setRow (w : World) (b : Nat) (c : Array Value) (e : TypeId) : World := { w with heap := w.heap.setIfInBounds b (.cells c e (0, 0)) }
theorem setRow_same {w : World} {b : Nat} (h : b < w.heap.size) (c : Array Value) (e : TypeId) : (setRow w b c e).heap[b]? = some (.cells c e (0, 0)) := by
  simp [setRow, h]
theorem setRow_other {w : World} {b x : Nat} (h : x ≠ b) (c : Array Value) (e : TypeId) : (setRow w b c e).heap[x]? = w.heap[x]? := by
  simp [setRow, Array.getElem?_setIfInBounds_ne (Ne.symm h)]
theorem Inv.setBox {M : MMap} {σ : St} {w : World} (h : Inv M σ w) {b : Nat} {old new : List D} (hb : σ.box b = some old) {c : Array Value} {e : TypeId}
    (hc : ∃ c₀, w.heap[b]? = some (.cells c₀ e (0, 0))) (hr : zf6 M w new c.toList) (h1 : ∀ u ∈ c.toList, u.oneCell' = true) :
    Inv M (σ.set b new) (setRow w b c e) ∧ KeepF M σ w M (σ.set b new) (setRow w b c e) := by
  obtain ⟨c₀, hc⟩ := hc
  have hbM : M b = some .box := (h.box _ _ hb).1
  have hlt := heap_lt hc
  have hk : Keep M w M (setRow w b c e) := by
    refine ⟨rfl, rfl, rfl, by simp [setRow], fun x hx hM => ⟨hM, setRow_other (fun he => by subst he; rw [hbM] at hM; cases hM) _ _⟩, fun x lim cx ex fx hM hx => ?_⟩
    have hne : x ≠ b := fun he => by subst he; rw [hbM] at hM; cases hM
    exact ⟨⟨cx, (setRow_other hne _ _).trans hx, rfl, fun _ _ => rfl⟩, .inr ⟨lim, Nat.le_refl _, hM⟩⟩
  refine ⟨⟨fun x cs hx => ?_, fun x s n hx => ?_, fun x hx => ?_⟩, { hk with frame := fun x hx hn => ⟨rfl, setRow_other (fun he => hn ?_) _ _⟩, fresh := fun x hx => .inl ?_ }⟩
  · simp only [St.set] at hx
    split at hx
    · rename_i he
      subst he; cases hx
      exact ⟨hbM, c, e, setRow_same hlt _ _, zf6.keep hk _ _ hr, h1⟩
    · rename_i hne
      exact (h.box x cs hx).keep hk rfl (setRow_other hne _ _)
  · have hne : x ≠ b := fun he => by
      have := (h.buf x s n hx).1
      rw [he, hbM] at this; cases this
    exact (h.buf x s n hx).keep rfl (setRow_other hne _ _)
  · simp only [setRow, Array.size_setIfInBounds]; exact h.dom x hx
  · subst he; exact has_box hb
  · rcases hx with hx | hx
    · simp only [St.set] at hx
      split at hx
      · rename_i he; subst he; exact has_box hb
      · exact .inl hx
    · exact .inr hx
theorem run_store_cells {P : Program} (b off : Nat) (e : TypeId) : ∀ (vs : List Value) (i : Nat) (c : Array Value) (w : World), w.heap[b]? = some (.cells c e (0, 0)) → off + i + vs.length ≤ c.size →
    (∀ v ∈ vs, v.oneCell' = true) → ∃ c', (storeCells ⟨b, off, none⟩ vs i).run P w = .ok () (setRow w b c' e) ∧ c'.toList = c.toList.take (off + i) ++ vs ++ c.toList.drop (off + i + vs.length)
  | [], i, c, w, hc, hl, h1 => by
    refine ⟨c, ?_, by simp⟩
    have : setRow w b c e = w := by
      simp only [setRow]
      have hlt := heap_lt hc
      have : w.heap.setIfInBounds b (.cells c e (0, 0)) = w.heap := by
        apply Array.ext_getElem?
        intro j
        by_cases hj : b = j
        · subst hj; simp [hlt]; simpa [hlt] using hc.symm
        · simp [Array.getElem?_setIfInBounds_ne hj]
      rw [this]
    simp [storeCells, this]
  | v :: vs, i, c, w, hc, hl, h1 => by
    simp only [List.length_cons] at hl
    have hlt := heap_lt hc
    have hadd : Addr.add ⟨b, off, none⟩ i = ⟨b, off + i, none⟩ := by unfold Addr.add; split <;> simp_all
    have hcell : ∃ u, w.cell? ⟨b, off + i, none⟩ = some u := ⟨c[off + i]'(by omega), cell_of hc (by simp [show off + i < c.size by omega])⟩
    obtain ⟨u, hu⟩ := hcell
    have hfz : w.frozen? ⟨b, off + i, none⟩ = false := by simp [World.frozen?, hc]
    have hset : w.setCell ⟨b, off + i, none⟩ v = setRow w b (c.setIfInBounds (off + i) v) e := by
      simp only [World.setCell, setRow]
      congr 1
      apply Array.ext_getElem?
      intro j
      by_cases hj : b = j
      · subst hj
        rw [Array.getElem?_modify, if_pos rfl, hc]
        simp [hlt]
      · simp [Array.getElem?_modify, hj, Array.getElem?_setIfInBounds_ne hj]
    obtain ⟨c', r1, r2⟩ := run_store_cells (P := P) b off e vs (i + 1) (c.setIfInBounds (off + i) v) (setRow w b (c.setIfInBounds (off + i) v) e) (setRow_same hlt _ _) (by simp; omega) (fun x hx => h1 x (by simp [hx]))
    refine ⟨c', ?_, ?_⟩
    · simp only [storeCells, hadd, Sem.run_bind, run_store P w _ v .plain (h1 v (by simp)), hu, hfz, hset]
      simp only [Bool.false_eq_true, if_false, Result.andThen]
      rw [r1]
      simp [setRow]
    · rw [r2]
      simp only [Array.toList_setIfInBounds, List.length_cons]
      have hlt' : off + i < c.toList.length := by simp; omega
      rw [show off + (i + 1) = (off + i) + 1 by omega, List.take_succ_eq_append_getElem (by simpa using hlt')]
      simp only [List.getElem_set_self, List.take_set_of_le (Nat.le_refl _)]
      rw [List.drop_set_of_lt (by omega)]
      simp [List.append_assoc, show off + i + 1 + vs.length = off + i + (vs.length + 1) by omega]
end Go.AL
namespace Go.AL
section
variable {P : Program} {N : Nat} {M : MMap} {T : Env} {σ : St} {a : Act} {w : World}
theorem addr_add (b off j : Nat) : Addr.add ⟨b, off, none⟩ j = ⟨b, off + j, none⟩ := by unfold Addr.add; split <;> simp_all
theorem cells_list : ∀ {cs : List D} {b off : Nat}, RepCells M w cs b off → ∃ l : List Value, l.length = cs.length ∧ zf6 M w cs l ∧ (∀ (j : Nat) (v : Value), l[j]? = some v → w.cell? ⟨b, off + j, none⟩ = some v) ∧ ∀ v ∈ l, v.oneCell' = true
  | [], b, off, _ => ⟨[], rfl, rfl, fun j v h => (by simp at h), fun v h => (by cases h)⟩
  | c :: cs, b, off, h => by
    obtain ⟨⟨v, h1, h2, h3, h4⟩, h5⟩ := h
    obtain ⟨l, l1, l2, l3, l4⟩ := cells_list h5
    refine ⟨v :: l, by simp [l1], ⟨v, l, rfl, h4, l2⟩, fun j u hu => ?_, fun u hu => ?_⟩
    · cases j with
      | zero => simp at hu; subst hu; simpa using h1
      | succ j =>
        have := l3 j u (by simpa using hu)
        rwa [show off + (j + 1) = off + 1 + j by omega]
    · simp only [List.mem_cons] at hu
      rcases hu with rfl | hu
      · exact h2
      · exact l4 u hu
theorem rows_list : ∀ {es : List (List D)} {b off s : Nat}, RepRows M w es b off s → ∃ l : List Value, l.length = es.length * s ∧ zf6 M w es.flatten l ∧ (∀ (j : Nat) (v : Value), l[j]? = some v → w.cell? ⟨b, off + j, none⟩ = some v) ∧ ∀ v ∈ l, v.oneCell' = true
  | [], b, off, s, _ => ⟨[], by simp, rfl, fun j v h => (by simp at h), fun v h => (by cases h)⟩
  | e :: es, b, off, s, h => by
    obtain ⟨h0, h1, h2⟩ := h
    obtain ⟨l, l1, l2, l3, l4⟩ := cells_list h1
    obtain ⟨k, k1, k2, k3, k4⟩ := rows_list h2
    refine ⟨l ++ k, by simp [l1, k1, h0, Nat.add_mul]; omega, by simpa using l2.append k2, fun j u hu => ?_, fun u hu => ?_⟩
    · rw [List.getElem?_append] at hu
      split at hu
      · exact l3 j u hu
      · rename_i hge
        have := k3 _ u hu
        rwa [show off + s + (j - l.length) = off + j by omega] at this
    · simp only [List.mem_append] at hu
      rcases hu with hu | hu
      · exact l4 u hu
      · exact k4 u hu
theorem cells_of : ∀ {cs : List D} {l : List Value} {b off : Nat}, zf6 M w cs l → (∀ (j : Nat) (v : Value), l[j]? = some v → w.cell? ⟨b, off + j, none⟩ = some v ∧ v.oneCell' = true ∧ ImmAt M b (off + j)) → RepCells M w cs b off
  | [], _, _, _, _, _ => trivial
  | c :: cs, l, b, off, h, hl => by
    obtain ⟨v, vs, rfl, h1, h2⟩ := h
    obtain ⟨g1, g2, g3⟩ := hl 0 v rfl
    refine ⟨⟨v, by simpa using g1, g2, by simpa using g3, h1⟩, cells_of h2 fun j u hu => ?_⟩
    have := hl (j + 1) u (by simpa using hu)
    rwa [show off + 1 + j = off + (j + 1) by omega]
theorem rows_of : ∀ {es : List (List D)} {l : List Value} {b off s : Nat}, (∀ r ∈ es, r.length = s) → zf6 M w es.flatten l → (∀ (j : Nat) (v : Value), l[j]? = some v → w.cell? ⟨b, off + j, none⟩ = some v ∧ v.oneCell' = true ∧ ImmAt M b (off + j)) → RepRows M w es b off s
  | [], _, _, _, _, _, _, _ => trivial
  | e :: es, l, b, off, s, hs, h, hl => by
    have he := hs e (by simp)
    have h' : zf6 M w (e ++ es.flatten) l := by simpa using h
    have hlen := h'.length
    simp only [List.length_append] at hlen
    have h1 := h'.take e.length
    have h2 := h'.drop e.length
    simp only [List.take_left, List.drop_left] at h1 h2
    refine ⟨he, cells_of h1 fun j v hv => ?_, rows_of (fun r hr => hs r (by simp [hr])) h2 fun j v hv => ?_⟩
    · rw [List.getElem?_take] at hv
      split at hv
      · exact hl j v hv
      · cases hv
    · rw [List.getElem?_drop] at hv
      have := hl _ v hv
      rwa [show off + (e.length + j) = off + s + j by omega] at this
theorem Inv.dropBuf (h : Inv M σ w) (b : Nat) : Inv M (σ.dropBuf b) w :=
  ⟨fun x cs hx => h.box x cs hx, fun x s n hx => by
    simp only [St.dropBuf] at hx
    split at hx
    · cases hx
    · exact h.buf x s n hx, h.dom⟩
theorem dropBuf_has {σ : St} {b x : Nat} (h : (σ.dropBuf b).has x) : σ.has x := by
  rcases h with h | h
  · exact .inl h
  · refine .inr fun h0 => h ?_
    simp only [St.dropBuf]
    split <;> simp_all
theorem Inv.addBuf (h : Inv M σ w) {c : Array Value} (e : TypeId) {s n cap : Nat} (hc : c.size = cap * s) (hn : n ≤ cap) :
    Inv (fun x => if x = w.heap.size then some (.buf (n * s)) else M x) (σ.setBuf w.heap.size s n) (w.alloc (.cells c e)) ∧
    KeepF M σ w (fun x => if x = w.heap.size then some (.buf (n * s)) else M x) (σ.setBuf w.heap.size s n) (w.alloc (.cells c e)) := by
  have hk := Keep.alloc h.dom (.cells c e) (some (.buf (n * s)))
  have hne : ∀ b, σ.has b → b ≠ w.heap.size := fun b hb he => h.fresh (he ▸ hb)
  have hold : ∀ b, σ.has b → (if b = w.heap.size then some (MK.buf (n * s)) else M b) = M b ∧ (w.alloc (.cells c e)).heap[b]? = w.heap[b]? := fun b hb =>
    ⟨by rw [if_neg (hne b hb)], heap_alloc_old (h.dom b (h.lt hb))⟩
  refine ⟨⟨fun b cs hb => (h.box b cs hb).keep hk (hold _ (has_box hb)).1 (hold _ (has_box hb)).2, fun b s' n' hb => ?_, fun b hb => ?_⟩, { hk with frame := fun b hM hb => ?_, fresh := fun b hb => ?_ }⟩
  · simp only [St.setBuf] at hb
    split at hb
    · rename_i he
      subst he; cases hb
      exact ⟨by simp, c, e, cap, heap_alloc_new _ _, hc, hn⟩
    · exact (h.buf b s' n' hb).keep (hold _ (has_buf hb)).1 (hold _ (has_buf hb)).2
  · rw [heap_alloc_size]
    split at hb
    · omega
    · have := h.dom b hb; omega
  · have hlt := h.dom b hM
    exact ⟨by rw [if_neg (by omega)], heap_alloc_old hlt⟩
  · rcases hb with hb | hb
    · exact .inl (.inl hb)
    · simp only [St.setBuf] at hb
      split at hb
      · exact .inr (by omega)
      · exact .inl (.inr hb)
theorem Inv.growBuf (h : Inv M σ w) {b s n n' : Nat} (hb : σ.buf b = some (s, n)) {c c' : Array Value} {e : TypeId} {cap : Nat} (hc : w.heap[b]? = some (.cells c e (0, 0))) (hcap : c.size = cap * s)
    (hs : c'.size = c.size) (hold : ∀ i, i < n * s → c'[i]? = c[i]?) (hn : n ≤ n') (hn' : n' ≤ cap) :
    Inv (fun x => if x = b then some (.buf (n' * s)) else M x) ((σ.dropBuf b).setBuf b s n') (setRow w b c' e) ∧
    KeepF M σ w (fun x => if x = b then some (.buf (n' * s)) else M x) ((σ.dropBuf b).setBuf b s n') (setRow w b c' e) ∧ ¬ (σ.dropBuf b).has b := by
  have hbM := (h.buf _ _ _ hb).1
  have hlt := heap_lt hc
  have hk : Keep M w (fun x => if x = b then some (.buf (n' * s)) else M x) (setRow w b c' e) := by
    refine ⟨rfl, rfl, rfl, by simp [setRow], fun x hx hM => ?_, fun x lim cx ex fx hM hx => ?_⟩
    · have hne : x ≠ b := fun he => by subst he; rw [hbM] at hM; cases hM
      exact ⟨by rw [if_neg hne]; exact hM, setRow_other hne _ _⟩
    · by_cases hxb : x = b
      · subst hxb
        rw [hbM] at hM; simp only [Option.some.injEq, MK.buf.injEq] at hM
        subst hM
        rw [hc] at hx; cases hx
        exact ⟨⟨c', setRow_same hlt _ _, hs, hold⟩, .inr ⟨n' * s, Nat.mul_le_mul_right _ hn, by simp⟩⟩
      · exact ⟨⟨cx, (setRow_other hxb _ _).trans hx, rfl, fun _ _ => rfl⟩, .inr ⟨lim, Nat.le_refl _, by rw [if_neg hxb]; exact hM⟩⟩
  refine ⟨⟨fun x cs hx => ?_, fun x s' m hx => ?_, fun x hx => ?_⟩, { hk with frame := fun x hx hn => ?_, fresh := fun x hx => ?_ }, ?_⟩
  · have hx' : σ.box x = some cs := hx
    have hne : x ≠ b := fun he => by
      have := (h.box x cs hx').1
      rw [he, hbM] at this; cases this
    exact (h.box x cs hx').keep hk (by rw [if_neg hne]) (setRow_other hne _ _)
  · simp only [St.setBuf] at hx
    split at hx
    · rename_i he
      subst he; cases hx
      exact ⟨by simp, c', e, cap, setRow_same hlt _ _, hs.trans hcap, hn'⟩
    · rename_i hne
      simp only [St.dropBuf, hne, if_false] at hx
      exact (h.buf x s' m hx).keep (by rw [if_neg hne]) (setRow_other hne _ _)
  · simp only [setRow, Array.size_setIfInBounds]
    split at hx
    · rename_i he; subst he; exact hlt
    · exact h.dom x hx
  · have hne : x ≠ b := fun he => hn (he ▸ has_buf hb)
    exact ⟨by rw [if_neg hne], setRow_other hne _ _⟩
  · rcases hx with hx | hx
    · exact .inl (.inl hx)
    · simp only [St.setBuf] at hx
      split at hx
      · rename_i he; subst he; exact .inl (has_buf hb)
      · exact .inl (dropBuf_has (b := b) (.inr hx))
  · rintro (hx | hx)
    · cases hcs : (σ.dropBuf b).box b with
      | none => exact hx hcs
      | some cs =>
        have := (h.box b cs hcs).1
        rw [hbM] at this; cases this
    · exact hx (by simp [St.dropBuf])
end
end Go.AL
namespace Go.AL
section
variable {P : Program} {N : Nat} {M : MMap} {T : Env} {σ : St} {a : Act} {w : World}
theorem cell_heap {w w' : World} (h : w'.heap = w.heap) (x : Addr) : w'.cell? x = w.cell? x := by simp [World.cell?, h]
theorem first_run {o : Own} {ys : List (List D)} {v : Value} (hr : Rep M w (.slice o ys) v) {s : Nat} (hs : ∀ r ∈ ys, r.length = s) :
    ∃ l : List Value, l.length = ys.length * s ∧ zf6 M w ys.flatten l ∧ (∀ u ∈ l, u.oneCell' = true) ∧ (∃ base cap, v = .slice base ys.length cap) ∧
      ∀ w' : World, w'.heap = w.heap → (Builtin.firstCells s ys.length v).run P w' = .ok l.toArray w' := by
  rcases rows_of_slice hr with ⟨rfl, rfl⟩ | ⟨b, off, cap, size, rfl, hl, hrow⟩ | ⟨a, cap, rfl, rfl⟩
  · exact ⟨[], by simp, rfl, fun u h => (by cases h), ⟨none, 0, rfl⟩, fun w' _ => by simp [Builtin.firstCells]⟩
  · obtain ⟨l, l1, l2, l3, l4⟩ := rows_list hrow
    have hsz : ys.length * size = ys.length * s := by
      cases ys with
      | nil => simp
      | cons y ys =>
        have := hs y (by simp)
        rw [hrow.1] at this
        rw [this]
    refine ⟨l, l1.trans hsz, l2, l4, ⟨_, cap, rfl⟩, fun w' hw' => ?_⟩
    have := run_loadCells_list (P := P) w' ⟨b, off, none⟩ l (fun j v hv => by rw [addr_add, cell_heap hw']; exact l3 j v hv)
    rw [l1, hsz] at this
    simp [Builtin.firstCells, this]
  · refine ⟨[], by simp, rfl, fun u h => (by cases h), ⟨some a, cap, rfl⟩, fun w' _ => ?_⟩
    have := run_loadCells_list (P := P) w' a [] (fun j v hv => by simp at hv)
    simpa [Builtin.firstCells] using this
structure AppT (P : Program) (t t' e : TypeId) (s by' : Nat) : Prop where
  ht : sliP P t = some e
  ht' : sliP P t' = some e
  hs : szP P e = some s
  pos : 0 < s
  hby : zb4 P e = some by'
  hz : ∃ z, zc1 P e = some z ∧ z.length = s
theorem append_still {t t' e : TypeId} {s by' : Nat} (H : AppT P t t' e s by') {base : Option Addr} {len cap : Nat} (hc : len ≤ cap) {y : Value} {base' : Option Addr} {cap' : Nat} (hy : y = .slice base' 0 cap')
    (hy' : (Builtin.firstCells s 0 y).run P w = .ok #[] w) (ty : TypeId) :
    (Builtin.append_ #[t, t'] ty #[.slice base len cap, y]).run P w = .ok (.slice base len cap) w := by
  subst hy
  obtain ⟨i, hi, his⟩ := Option.map_eq_some_iff.1 H.hs
  cases base <;> simp [Builtin.append_, run_underlying (und_of_sli H.ht), run_underlying (und_of_sli H.ht'), sizeOf, typeInfo, hi, his, Builtin.lenOf, hc, hy', storeCells]
theorem append_room {t t' e : TypeId} {s by' : Nat} (H : AppT P t t' e s by') {b len cap n : Nat} {c : Array Value} {e₀ : TypeId} (hcell : w.heap[b]? = some (.cells c e₀ (0, 0))) {y : Value} {base' : Option Addr} {cap' : Nat} (hy : y = .slice base' n cap')
    (hc : len + n ≤ cap) (hsz : c.size = cap * s) {l : List Value} (hl : l.length = n * s) (h1 : ∀ u ∈ l, u.oneCell' = true) (hy' : (Builtin.firstCells s n y).run P w = .ok l.toArray w) (ty : TypeId) :
    ∃ c', (Builtin.append_ #[t, t'] ty #[.slice (some ⟨b, 0, none⟩) len cap, y]).run P w = .ok (.slice (some ⟨b, 0, none⟩) (len + n) cap) (setRow w b c' e₀) ∧
      c'.toList = c.toList.take (len * s) ++ l ++ c.toList.drop (len * s + n * s) := by
  subst hy
  obtain ⟨i, hi, his⟩ := Option.map_eq_some_iff.1 H.hs
  have hle : len * s + n * s ≤ c.size := by rw [hsz, ← Nat.add_mul]; exact Nat.mul_le_mul_right _ hc
  obtain ⟨c', r1, r2⟩ := run_store_cells (P := P) b (len * s) e₀ l 0 c w hcell (by omega) h1
  refine ⟨c', ?_, by rw [r2, hl]; simp⟩
  simp [Builtin.append_, run_underlying (und_of_sli H.ht), run_underlying (und_of_sli H.ht'), sizeOf, typeInfo, hi, his, Builtin.lenOf, hc, hy', addr_add, r1]
theorem append_grow {t t' e : TypeId} {s by' : Nat} (H : AppT P t t' e s by') {base : Option Addr} {len cap n : Nat} {x y : Value} (hx : x = .slice base len cap) {base' : Option Addr} {cap' : Nat} (hy : y = .slice base' n cap')
    (hc : cap < len + n) (hb : (len + n) * by' ≤ 140737488355328) (hb0 : 0 < by') {old l : List Value} (ho : old.length = len * s) (hl : l.length = n * s)
    (hx' : ∀ w' : World, w'.heap = w.heap → (Builtin.firstCells s len x).run P w' = .ok old.toArray w')
    (hy' : ∀ w' : World, w'.heap = w.heap → (Builtin.firstCells s n y).run P w' = .ok l.toArray w') (ty : TypeId) :
    ∃ c ncap, (Builtin.append_ #[t, t'] ty #[x, y]).run P w = .ok (.slice (some ⟨w.heap.size, 0, none⟩) (len + n) ncap) (w.drew.alloc (.cells c e)) ∧ len + n ≤ ncap ∧ c.size = ncap * s ∧
      ∃ rest : List Value, c.toList = old ++ l ++ rest := by
  subst hx; subst hy
  obtain ⟨i, hi, his⟩ := Option.map_eq_some_iff.1 H.hs
  obtain ⟨i', hi', hib⟩ := Option.map_eq_some_iff.1 H.hby
  rw [hi] at hi'; cases hi'
  obtain ⟨z, hz, hzl⟩ := H.hz
  obtain ⟨zv, hzv, hzc, _, _⟩ := cD_zero hz (fun _ => none) w
  have hzi : i.zero = some zv := by
    simp only [zeroValue, typeInfo] at hzv
    simp [hi] at hzv
    cases hq : i.zero with
    | none => simp [hq] at hzv
    | some u => simp [hq] at hzv; rw [hzv]
  have hzs : zv.cells.size = s := by rw [← hzl, hzc]; simp
  have h63 : ¬ (9223372036854775807 < ((len : Int) + (n : Int))) := by
    have : (len + n) ≤ (len + n) * by' := Nat.le_mul_of_pos_right _ hb0
    omega
  have hfit := growslice_fits hc hb
  have h48 : ¬ (281474976710656 < Builtin.nextslicecap (len + n) cap * by') := by omega
  have hdr : w.drew.heap = w.heap := rfl
  have hcut := grownCap w (len + n) cap e
  have hcap : len + n ≤ grownCap w (len + n) cap e := by simp only [grownCap, Question.cut]; omega
  refine ⟨(old.toArray ++ l.toArray ++ Builtin.zeroCells zv.cells (grownCap w (len + n) cap e - (len + n))), grownCap w (len + n) cap e, ?_, hcap, ?_, ?_⟩
  · have hx2 := hx' w.drew hdr
    have hy2 := hy' w.drew hdr
    simp [Builtin.append_, run_underlying (und_of_sli H.ht), run_underlying (und_of_sli H.ht'), sizeOf, typeInfo, zeroValue, hi, hzi, his, hib, Builtin.lenOf, show ¬ (len + n ≤ cap) by omega, h63, h48, Question.forced, hx2, hy2, newRow, grownCap]
    congr 2
    apply Array.ext'
    simp [List.append_assoc]
  · simp only [Array.size_append, List.size_toArray, ho, hl, size_zeroCells, hzs]
    rw [← Nat.add_mul, ← Nat.add_mul]; congr 1; omega
  · exact ⟨(Builtin.zeroCells zv.cells (grownCap w (len + n) cap e - (len + n))).toList, by simp⟩
theorem drew_inv (h : Inv M σ w) : Inv M σ w.drew ∧ KeepF M σ w M σ w.drew :=
  ⟨⟨fun p cs hp => by
    obtain ⟨h1, c, e, h2, h3, h4⟩ := h.box p cs hp
    exact ⟨h1, c, e, h2, zf6.keep (M := M) (M' := M) (w := w) (w' := w.drew) ⟨rfl, rfl, rfl, Nat.le_refl _, fun _ _ h => ⟨h, rfl⟩, fun _ lim c _ _ h hc => ⟨⟨c, hc, rfl, fun _ _ => rfl⟩, .inr ⟨lim, Nat.le_refl _, h⟩⟩⟩ _ _ h3, h4⟩, fun p s n hp => h.buf p s n hp, h.dom⟩,
   { os := rfl, tape := rfl, output := rfl, size := Nat.le_refl _, imm := fun _ _ h => ⟨h, rfl⟩, buf := fun _ lim c _ _ h hc => ⟨⟨c, hc, rfl, fun _ _ => rfl⟩, .inr ⟨lim, Nat.le_refl _, h⟩⟩, frame := fun _ _ _ => ⟨rfl, rfl⟩, fresh := fun _ h => .inl h }⟩
theorem flat_append (xs ys : List (List D)) : (xs ++ ys).flatten = xs.flatten ++ ys.flatten := by simp
def AppPost (P : Program) (M : MMap) (σ σ₀ : St) (w : World) (s : Nat) (t t' ty : TypeId) (x y : Value) (es : List (List D)) : Prop :=
  ∃ v w' M' b, (Builtin.append_ #[t, t'] ty #[x, y]).run P w = .ok v w' ∧ Rep M' w' (.slice (.buf b s) es) v ∧ ¬ σ₀.has b ∧
    Inv M' (σ₀.setBuf b s es.length) w' ∧ KeepF M σ w M' (σ₀.setBuf b s es.length) w'
theorem append_new {t t' e : TypeId} {s by' : Nat} (H : AppT P t t' e s by') {base : Option Addr} {len cap : Nat} {x y : Value} (hx : x = .slice base len cap)
    {o o' : Own} {xs ys : List (List D)} (rx : Rep M w (.slice o xs) x) (ry : Rep M w (.slice o' ys) y) (hlen : len = xs.length) (hxs : ∀ r ∈ xs, r.length = s) (hys : ∀ r ∈ ys, r.length = s)
    (hc : cap < len + ys.length) (hb0 : 0 < by') (hb : (xs.length + ys.length) * by' ≤ 140737488355328) {σ₀ : St} (hi : Inv M σ w) (h₀ : Inv M σ₀ w) (hsub : ∀ b, σ₀.has b → σ.has b) (ty : TypeId) :
    AppPost P M σ σ₀ w s t t' ty x y (xs ++ ys) := by
  obtain ⟨ol, ol1, ol2, ol3, _, ol4⟩ := first_run (P := P) rx hxs
  obtain ⟨nl, nl1, nl2, nl3, ⟨base', cap', hy⟩, nl4⟩ := first_run (P := P) ry hys
  subst hlen
  obtain ⟨c, ncap, hrun, g1, g2, rest, g3⟩ := append_grow H hx hy hc (by simpa using hb) hb0 ol1 nl1 ol4 nl4 ty
  obtain ⟨hi1, hk1⟩ := drew_inv h₀
  obtain ⟨hi2, hk2⟩ := hi1.addBuf (c := c) e g2 g1
  have hk := hk1.trans h₀.dom hk2
  have hlen' : (xs ++ ys).length = xs.length + ys.length := by simp
  refine ⟨_, _, _, w.heap.size, hrun, ?_, h₀.fresh, by rw [hlen']; exact hi2, by rw [hlen']; exact { hk.toKeep with frame := fun b hM hb => hk.frame b hM fun hin => hb (hsub b hin), fresh := fun b hb => (hk.fresh b hb).imp (hsub b) id }⟩
  refine ⟨ncap, c, e, (0, 0), by rw [hlen'], by rw [hlen']; exact g1, ?_, heap_alloc_new _ _, g2, by simp⟩
  have hflat : zf6 M w (xs ++ ys).flatten (ol ++ nl) := by rw [flat_append]; exact ol2.append nl2
  refine rows_of (fun r hr => (List.mem_append.1 hr).elim (hxs r) (hys r)) (zf6.keep hk.toKeep _ _ hflat) fun j v hv => ?_
  have hj : j < (ol ++ nl).length := (List.getElem?_eq_some_iff.1 hv).1
  have hcv : c[j]? = some v := by
    have : c.toList[j]? = some v := by rw [g3, List.getElem?_append_left hj]; exact hv
    simpa using this
  have hjl : j < (xs.length + ys.length) * s := by rw [Nat.add_mul, ← ol1, ← nl1, ← List.length_append]; exact hj
  refine ⟨cell_of (heap_alloc_new _ _) (by simpa using hcv), ?_, ?_⟩
  · have := List.mem_of_getElem? hv
    rcases List.mem_append.1 this with h | h
    · exact ol3 v h
    · exact nl3 v h
  · simp only [ImmAt, Nat.zero_add]
    have : (w.drew).heap.size = w.heap.size := rfl
    simp only [this, if_true]
    exact hjl
theorem append_own {t t' e : TypeId} {s by' : Nat} (H : AppT P t t' e s by') {b : Nat} {x y : Value} {o' : Own} {xs ys : List (List D)} (rx : Rep M w (.slice (.buf b s) xs) x) (ry : Rep M w (.slice o' ys) y)
    (hys : ∀ r ∈ ys, r.length = s) (hb0 : 0 < by') (hb : (xs.length + ys.length) * by' ≤ 140737488355328) (hi : Inv M σ w) (hbuf : σ.buf b = some (s, xs.length)) (ty : TypeId) :
    AppPost P M σ (σ.dropBuf b) w s t t' ty x y (xs ++ ys) := by
  obtain ⟨cap, c, e₀, f, rfl, hle, hrow, hcell, hsz, _⟩ := id rx
  have hxs : ∀ r ∈ xs, r.length = s := fun r hr => by
    obtain ⟨i, hi'⟩ := List.getElem?_of_mem hr
    exact (hrow.get hi').1
  by_cases hc : xs.length + ys.length ≤ cap
  · obtain ⟨nl, nl1, nl2, nl3, ⟨base', cap', hy⟩, nl4⟩ := first_run (P := P) ry hys
    obtain ⟨hbM, c₁, e₁, cap₁, hcell₁, hsz₁, hle₁⟩ := hi.buf _ _ _ hbuf
    rw [hcell] at hcell₁
    simp only [Option.some.injEq, Obj.cells.injEq] at hcell₁
    obtain ⟨rfl, rfl, rfl⟩ := hcell₁
    obtain ⟨c', hrun, hc'⟩ := append_room H hcell hy hc hsz nl1 nl3 (nl4 w rfl) ty
    have hfit : xs.length * s + ys.length * s ≤ c.size := by rw [hsz, ← Nat.add_mul]; exact Nat.mul_le_mul_right _ hc
    have hlen₁ : c'.size = c.size := by
      have : c'.toList.length = c.toList.length := by rw [hc']; simp only [List.length_append, List.length_take, List.length_drop, nl1, Array.length_toList]; omega
      simpa using this
    have hold : ∀ i, i < xs.length * s → c'[i]? = c[i]? := fun i hi' => by
      have : c'.toList[i]? = c.toList[i]? := by
        rw [hc', List.append_assoc, List.getElem?_append_left (by simp only [List.length_take, Array.length_toList]; omega), List.getElem?_take, if_pos hi']
      simpa using this
    obtain ⟨hi2, hk2, hbout⟩ := hi.growBuf (n' := xs.length + ys.length) hbuf hcell hsz hlen₁ hold (by omega) hc
    have hlen' : (xs ++ ys).length = xs.length + ys.length := by simp
    refine ⟨_, _, _, b, hrun, ?_, hbout, by rw [hlen']; exact hi2, by rw [hlen']; exact hk2⟩
    refine ⟨cap, c', e₀, (0, 0), by rw [hlen'], by rw [hlen']; exact hc, ?_, setRow_same (heap_lt hcell) _ _, hlen₁.trans hsz, by simp⟩
    obtain ⟨ol, ol1, ol2, ol3, ol4⟩ := rows_list hrow
    have hflat : zf6 M w (xs ++ ys).flatten (ol ++ nl) := by rw [flat_append]; exact ol2.append nl2
    refine rows_of (fun r hr => (List.mem_append.1 hr).elim (hxs r) (hys r)) (zf6.keep hk2.toKeep _ _ hflat) fun j v hv => ?_
    have hj : j < (ol ++ nl).length := (List.getElem?_eq_some_iff.1 hv).1
    have hjl : j < (xs.length + ys.length) * s := by rw [Nat.add_mul, ← ol1, ← nl1, ← List.length_append]; exact hj
    have hcv : c'[j]? = some v := by
      by_cases hlt : j < xs.length * s
      · rw [hold j hlt]
        rw [List.getElem?_append_left (by rw [ol1]; exact hlt)] at hv
        have := ol3 j v hv
        obtain ⟨cc, ee, ff, h1, h2⟩ := cell_some this
        rw [hcell] at h1; cases h1
        simpa using h2
      · have : c'.toList[j]? = some v := by
          rw [List.getElem?_append_right (by rw [ol1]; omega), ol1] at hv
          have hjn : j - xs.length * s < nl.length := (List.getElem?_eq_some_iff.1 hv).1
          have htk : (c.toList.take (xs.length * s)).length = xs.length * s := by simp only [List.length_take, Array.length_toList]; omega
          rw [hc', List.append_assoc, List.getElem?_append_right (by rw [htk]; omega), htk, List.getElem?_append_left hjn]
          exact hv
        simpa using this
    refine ⟨cell_of (setRow_same (heap_lt hcell) _ _) (by simpa using hcv), ?_, ?_⟩
    · have := List.mem_of_getElem? hv
      rcases List.mem_append.1 this with h | h
      · exact ol4 v h
      · exact nl3 v h
    · simp only [ImmAt, Nat.zero_add, if_true]
      exact hjl
  · exact append_new H rfl rx ry rfl hxs hys (by omega) hb0 hb hi (hi.dropBuf b) (fun x hx => dropBuf_has hx) ty
theorem append_roomy {t t' e : TypeId} {s by' : Nat} (H : AppT P t t' e s by') {b k : Nat} {x y : Value} {o' : Own} {xs ys : List (List D)} (rx : Rep M w (.roomy b s k xs) x) (ry : Rep M w (.slice o' ys) y)
    (hys : ∀ r ∈ ys, r.length = s) (hk : xs.length + ys.length ≤ k) (hi : Inv M σ w) (hbuf : σ.buf b = some (s, xs.length)) (ty : TypeId) :
    ∃ v w' M', (Builtin.append_ #[t, t'] ty #[x, y]).run P w = .ok v w' ∧ Rep M' w' (.roomy b s k (xs ++ ys)) v ∧ Inv M' ((σ.dropBuf b).setBuf b s (xs.length + ys.length)) w' ∧ KeepF M σ w M' ((σ.dropBuf b).setBuf b s (xs.length + ys.length)) w' := by
  obtain ⟨cap, c, e₀, f, rfl, hle, hkc, hrow, hcell, hsz, _⟩ := id rx
  have hc : xs.length + ys.length ≤ cap := Nat.le_trans hk hkc
  have hxs : ∀ r ∈ xs, r.length = s := fun r hr => by
    obtain ⟨i, hi'⟩ := List.getElem?_of_mem hr
    exact (hrow.get hi').1
  obtain ⟨nl, nl1, nl2, nl3, ⟨base', cap', hy⟩, nl4⟩ := first_run (P := P) ry hys
  obtain ⟨hbM, c₁, e₁, cap₁, hcell₁, hsz₁, hle₁⟩ := hi.buf _ _ _ hbuf
  rw [hcell] at hcell₁
  simp only [Option.some.injEq, Obj.cells.injEq] at hcell₁
  obtain ⟨rfl, rfl, rfl⟩ := hcell₁
  obtain ⟨c', hrun, hc'⟩ := append_room H hcell hy hc hsz nl1 nl3 (nl4 w rfl) ty
  have hfit : xs.length * s + ys.length * s ≤ c.size := by rw [hsz, ← Nat.add_mul]; exact Nat.mul_le_mul_right _ hc
  have hlen₁ : c'.size = c.size := by
    have : c'.toList.length = c.toList.length := by rw [hc']; simp only [List.length_append, List.length_take, List.length_drop, nl1, Array.length_toList]; omega
    simpa using this
  have hold : ∀ i, i < xs.length * s → c'[i]? = c[i]? := fun i hi' => by
    have : c'.toList[i]? = c.toList[i]? := by
      rw [hc', List.append_assoc, List.getElem?_append_left (by simp only [List.length_take, Array.length_toList]; omega), List.getElem?_take, if_pos hi']
    simpa using this
  obtain ⟨hi2, hk2, hbout⟩ := hi.growBuf (n' := xs.length + ys.length) hbuf hcell hsz hlen₁ hold (by omega) hc
  have hlen' : (xs ++ ys).length = xs.length + ys.length := by simp
  refine ⟨_, _, _, hrun, ?_, hi2, hk2⟩
  refine ⟨cap, c', e₀, (0, 0), by rw [hlen'], by rw [hlen']; exact hc, hkc, ?_, setRow_same (heap_lt hcell) _ _, hlen₁.trans hsz, by simp⟩
  obtain ⟨ol, ol1, ol2, ol3, ol4⟩ := rows_list hrow
  have hflat : zf6 M w (xs ++ ys).flatten (ol ++ nl) := by rw [flat_append]; exact ol2.append nl2
  refine rows_of (fun r hr => (List.mem_append.1 hr).elim (hxs r) (hys r)) (zf6.keep hk2.toKeep _ _ hflat) fun j v hv => ?_
  have hj : j < (ol ++ nl).length := (List.getElem?_eq_some_iff.1 hv).1
  have hjl : j < (xs.length + ys.length) * s := by rw [Nat.add_mul, ← ol1, ← nl1, ← List.length_append]; exact hj
  have hcv : c'[j]? = some v := by
    by_cases hlt : j < xs.length * s
    · rw [hold j hlt]
      rw [List.getElem?_append_left (by rw [ol1]; exact hlt)] at hv
      have := ol3 j v hv
      obtain ⟨cc, ee, ff, h1, h2⟩ := cell_some this
      rw [hcell] at h1; cases h1
      simpa using h2
    · have : c'.toList[j]? = some v := by
        rw [List.getElem?_append_right (by rw [ol1]; omega), ol1] at hv
        have hjn : j - xs.length * s < nl.length := (List.getElem?_eq_some_iff.1 hv).1
        have htk : (c.toList.take (xs.length * s)).length = xs.length * s := by simp only [List.length_take, Array.length_toList]; omega
        rw [hc', List.append_assoc, List.getElem?_append_right (by rw [htk]; omega), htk, List.getElem?_append_left hjn]
        exact hv
      simpa using this
  refine ⟨cell_of (setRow_same (heap_lt hcell) _ _) (by simpa using hcv), ?_, ?_⟩
  · have := List.mem_of_getElem? hv
    rcases List.mem_append.1 this with h | h
    · exact ol4 v h
    · exact nl3 v h
  · simp only [ImmAt, Nat.zero_add, if_true]
    exact hjl
end
end Go.AL
namespace Go.AL
inductive EA where
  | ret (d : D)
  | pan (d : D)
def RepE (M : MMap) (w : World) : EA → Ending → Prop
  | .ret d, e => ∃ v, e = .returned v ∧ Rep M w d v
  | .pan d, e => ∃ v, e = .panicked [{ v, recovered := false }] ∧ Rep M w d v
def Enters (P : Program) (f : FuncId) : Prop := ∃ fn, P.funcs[f]? = some fn ∧ (fn.name == "runtime.NumGoroutine") = false ∧ fn.body.isNone = false
structure ACall (P : Program) (f : FuncId) (ds : List D) (s : St) (R : EA → St → Prop) : Prop where
  enters : Enters P f
  run : ∀ M w vs, Inv M s w → zf6 M w ds vs → Calls P f vs.toArray w fun e w' => ∃ M' s' x, RepE M' w' x e ∧ Inv M' s' w' ∧ KeepF M s w M' s' w' ∧ R x s'
def zf9 (P : Program) (f : FuncId) (ds : List D) (d : D) : Prop := ACall P f ds {} fun x s => x = .ret d ∧ s = {}
theorem ACall.mono {P : Program} {f : FuncId} {ds : List D} {s : St} {R R' : EA → St → Prop} (h : ACall P f ds s R) (hr : ∀ x s, R x s → R' x s) : ACall P f ds s R' :=
  ⟨h.enters, fun M w vs hi hv => (h.run M w vs hi hv).mono fun e w' ⟨M', s', x, h1, h2, h3, h4⟩ => ⟨M', s', x, h1, h2, h3, hr _ _ h4⟩⟩
def putK (N : Nat) (dst : Option Nat) (d : D) (K : Env → St → Prop) (T : Env) (σ : St) : Prop :=
  match dst with
  | some t => t < N ∧ K (upd T t d) σ
  | none => K T σ
def panK (Q : XA → Env → St → Prop) (d : D) (σ : St) : Prop := ∃ s, St.le s σ ∧ Q (.panic d) (fun _ => .any) s
def callA (P : Program) (N : Nat) (dst : Option Nat) (g : FuncId) (ds : List D) (K : Env → St → Prop) (Q : XA → Env → St → Prop) (T : Env) (σ : St) : Prop :=
  ∃ s fr R, St.split σ s fr ∧ ACall P g ds s R ∧ ∀ x s', R x s' → St.apart s' fr → St.fin s' → match x with
    | .ret d => putK N dst d K T (St.join s' fr)
    | .pan d => panK Q d (St.join s' fr)
def nilR (o : Own) (es : List (List D)) (r : Bool) : Prop :=
  match o with
  | .nil => r = true
  | .exact | .buf _ _ => r = false
  | .no => es ≠ [] → r = false
def chunks (s : Nat) : Nat → List D → List (List D)
  | 0, _ => []
  | n + 1, l => l.take s :: chunks s n (l.drop s)
def appendA (P : Program) (N : Nat) (dst : Option Nat) (t t' : TypeId) (x y : D) (K : Env → St → Prop) (T : Env) (σ : St) : Prop :=
  match x, y, sliP P t, sliP P t' with
  | .slice o xs, .slice _ ys, some e, some e' => e = e' ∧
    match szP P e, zb4 P e, (zc1 P e).map List.length with
    | some s, some by', some z => z = s ∧ 0 < s ∧ 0 < by' ∧ (∀ r ∈ ys, r.length = s) ∧ (xs.length + ys.length) * by' ≤ 140737488355328 ∧
      match o with
      | .buf b s' => s' = s ∧ σ.buf b = some (s, xs.length) ∧ ∀ b', ¬ (σ.dropBuf b).has b' → putK N dst (.slice (.buf b' s) (xs ++ ys)) K T ((σ.dropBuf b).setBuf b' s (xs.length + ys.length))
      | .nil => (ys = [] → putK N dst (.slice .nil []) K T σ) ∧ (ys ≠ [] → ∀ b', ¬ σ.has b' → putK N dst (.slice (.buf b' s) ys) K T (σ.setBuf b' s ys.length))
      | .exact => (∀ r ∈ xs, r.length = s) ∧ (ys = [] → putK N dst (.slice .exact xs) K T σ) ∧ (ys ≠ [] → ∀ b', ¬ σ.has b' → putK N dst (.slice (.buf b' s) (xs ++ ys)) K T (σ.setBuf b' s (xs.length + ys.length)))
      | .no => False
    | _, _, _ => False
  | .roomy b s k xs, .slice _ ys, some e, some e' => e = e' ∧ szP P e = some s ∧ (zb4 P e).isSome = true ∧ (zc1 P e).map List.length = some s ∧ 0 < s ∧ (∀ r ∈ ys, r.length = s) ∧ xs.length + ys.length ≤ k ∧ σ.buf b = some (s, xs.length) ∧
      putK N dst (.roomy b s k (xs ++ ys)) K T ((σ.dropBuf b).setBuf b s (xs.length + ys.length))
  | _, _, _, _ => False
def copyA (P : Program) (N : Nat) (dst : Option Nat) (t : TypeId) (x y : D) (K : Env → St → Prop) (T : Env) (σ : St) : Prop :=
  match x, y, sliP P t with
  | .bsl b o l _, .bsl b' o' l' _, some e => match szP P e, σ.box b, σ.box b' with
    | some 1, some cs, some cs' => o + min l' l ≤ cs.length ∧ o' + min l' l ≤ cs'.length ∧ putK N dst (.int .i64 (min l' l : Nat)) K T (σ.set b (layD cs o ((cs'.drop o').take (min l' l))))
    | _, _, _ => False
  | _, _, _ => False
def makeA (P : Program) (t : TypeId) (x y : D) : Option (Prop × D) :=
  match x, y, sliP P t with
  | .int _ n, .int _ m, some e => match szP P e, zc1 P e, zb4 P e with
    | some s, some z, some by' => some (z.length = s ∧ n = m ∧ 0 ≤ n ∧ n ≤ 9223372036854775807 ∧ (by' : Int) * n ≤ 140737488355328, .slice .exact (List.replicate n.toNat z))
    | _, _, _ => none
  | _, _, _ => none
def nilOpnd : Operand → Bool
  | .const (.slice none 0 0) => true
  | _ => false
def binA (P : Program) (N : Nat) (dst : Option Nat) (bop : BinOp) (xt : TypeId) (x y : D) (nl : Bool) (K : Env → St → Prop) (T : Env) (σ : St) : Prop :=
  match nl, bop, x with
  | true, .eql, .slice ow es => match sliP P xt with
    | some _ => ∀ r, nilR ow es r → putK N dst (.bool r) K T σ
    | none => False
  | true, .neq, .slice ow es => match sliP P xt with
    | some _ => ∀ r, nilR ow es r → putK N dst (.bool (!r)) K T σ
    | none => False
  | _, bop, x => match binD P bop xt x y with
    | some (side, d) => side ∧ putK N dst d K T σ
    | none => False
def aop (P : Program) (N : Nat) (dst : Option Nat) (op : Op) (K : Env → St → Prop) (Q : XA → Env → St → Prop) (T : Env) (σ : St) : Prop :=
  match op with
  | .load t x => match ev T x with
    | .ptr b off => match σ.box b with
      | some cs => match partD P t (cs.drop off) 0 with
        | some d => putK N dst d K T σ
        | none => False
      | none => False
    | .eptr cs => match partD P t cs 0 with
      | some d => putK N dst d K T σ
      | none => False
    | _ => False
  | .store t x v => match ev T x with
    | .ptr b off => match σ.box b, cellsD P t (ev T v) with
      | some cs, some vs => off + vs.length ≤ cs.length ∧ putK N dst .any K T (σ.set b (layD cs off vs))
      | _, _ => False
    | _ => False
  | .alloc t => match zc1 P t with
    | some z => ∀ b, ¬ σ.has b → putK N dst (.ptr b 0) K T (σ.set b z)
    | none => False
  | .box t x => match cellsD P t (ev T x) with
    | some z => ∀ b, ¬ σ.has b → putK N dst (.ptr b 0) K T (σ.set b z)
    | none => False
  | .buildSlice t len parts => match sliP P t with
    | some e => match szP P e, zc1 P e with
      | some s, some z => z.length = s ∧ len * s ≤ 16777216 ∧ match fillD (fun i => some (i * s, e)) P T frz parts.toList (List.replicate len z).flatten with
        | some cs => putK N dst (.slice .exact (chunks s len cs)) K T σ
        | none => False
      | _, _ => False
    | none => False
  | .makeSlice t l c => match makeA P t (ev T l) (ev T c) with
    | some (side, d) => side ∧ putK N dst d K T σ
    | none => False
  | .panic x => match ev T x with
    | .iface t d => panK Q (.iface t d) σ
    | _ => False
  | .call { callee := .value f, args, .. } => match ev T f with
    | .func (.func g) fi ca => callA P N dst g (fi ++ args.toList.map (ev T) ++ ca) K Q T σ
    | _ => False
  | .call { callee := .builtin .append, args, argTypes } => match args.toList, argTypes.toList with
    | [x, y], [t, t'] => appendA P N dst t t' (ev T x) (ev T y) K T σ
    | _, _ => False
  | .call { callee := .builtin .copy, args, argTypes } => match args.toList, argTypes.toList with
    | [x, y], [t, _] => copyA P N dst t (ev T x) (ev T y) K T σ
    | _, _ => False
  | .binOp bop xt x y _ => binA P N dst bop xt (ev T x) (ev T y) (nilOpnd y) K T σ
  | op => match pureD P op T with
    | some (side, d) => side ∧ putK N dst d K T σ
    | none => False
def br (c : Bool) (A B : Prop) : Prop := if c = true then A else B
@[congr] theorem br_congr {c c' : Bool} {A B : Prop} (h : c = c') : br c A B = br c' A B := by
  subst h; rfl
theorem br_true {A B : Prop} : br true A B = A := by simp [br]
theorem br_false {A B : Prop} : br false A B = B := by simp [br]
theorem br_split {c : Bool} {A B : Prop} (ha : c = true → A) (hb : c = false → B) : br c A B := by
  cases c
  · rw [br_false]; exact hb rfl
  · rw [br_true]; exact ha rfl
def gq (d : D) (want : Bool) : Option Bool :=
  match d with
  | .bool b => some (b == want)
  | .tup _ => some false
  | _ => none
def guardA (ops : List Oper) (T : Env) (o : Oper) : Option Bool :=
  match o.guard with
  | none => some true
  | some (j, want) => match (ops[j]?).bind (·.dst) with
    | some t => gq (T t) want
    | none => none
end Go.AL
namespace Go.AL
section
variable {P : Program} {N : Nat} {M : MMap} {T : Env} {σ : St} {a : Act} {w : World} {K : Env → St → Prop} {Q : XA → Env → St → Prop}
variable [DSt]
def Nx (N : Nat) (M : MMap) (σ : St) (w : World) (K : Env → St → Prop) (a' : Act) (w' : World) : Prop :=
  ∃ M' T' σ', AInv N M' T' σ' a' w' ∧ KeepF M σ w M' σ' w' ∧ K T' σ'
theorem putK_sound {M' : MMap} {σ' : St} {w' : World} {dst : Option Nat} {d : D} {v : Value} (h : putK N dst d K T σ') (hi : AInv N M' T σ' a w') (hk : KeepF M σ w M' σ' w') (hr : Rep M' w' d v) :
    Nx N M σ w K (a.put dst v) w' := by
  cases dst with
  | none => exact ⟨M', T, σ', hi, hk, h⟩
  | some t =>
    obtain ⟨h1, h2⟩ := h
    exact ⟨M', upd T t d, σ', hi.put (dst := some t) (fun u hu => (by cases hu; exact h1)) hr, hk, h2⟩
theorem eval_const (a : Act) (v : Value) : a.eval (.const v) = v := rfl
theorem wp_value {o : Oper} {v : Value} {w' : World} {Qc : Exit → Act → World → Prop} {next : Act → World → Prop} (hrun : (execOp a.eval o).run P w = .ok (.value v) w') (h : next (a.put o.dst v) w') : o.wp P a w next Qc := by
  unfold Oper.wp; rw [hrun, Oper.upon_value]; exact h
theorem join_has {s fr : St} (b : Nat) : (St.join s fr).has b ↔ s.has b ∨ fr.has b := by
  simp only [St.has, St.join]
  cases s.box b <;> cases s.buf b <;> cases fr.box b <;> cases fr.buf b <;> simp
theorem split_inv {s fr : St} (hs : St.split σ s fr) (h : Inv M σ w) : Inv M s w ∧ Inv M fr w := by
  obtain ⟨rfl, hap⟩ := hs
  refine ⟨⟨fun b cs hb => h.box b cs (by simp [St.join, hb]), fun b t n hb => h.buf b t n (by simp [St.join, hb]), h.dom⟩, ⟨fun b cs hb => h.box b cs ?_, fun b t n hb => h.buf b t n ?_, h.dom⟩⟩
  · have : s.box b = none := by
      cases hc : s.box b with
      | none => rfl
      | some c => exact absurd (has_box hb) (hap b (has_box hc))
    simp [St.join, this, hb]
  · have : s.buf b = none := by
      cases hc : s.buf b with
      | none => rfl
      | some c => exact absurd (has_buf hb) (hap b (has_buf hc))
    simp [St.join, this, hb]
theorem join_inv {s fr s' : St} {M' : MMap} {w' : World} (hs : St.split σ s fr) (h : Inv M σ w) (h' : Inv M' s' w') (hk : KeepF M s w M' s' w') :
    Inv M' (St.join s' fr) w' ∧ KeepF M σ w M' (St.join s' fr) w' ∧ St.apart s' fr := by
  obtain ⟨i1, i2⟩ := split_inv hs h
  have hd : ∀ b, σ.has b ↔ s.has b ∨ fr.has b := fun b => by rw [hs.eq]; exact join_has b
  have hfr : ∀ b, fr.has b → M' b = M b ∧ w'.heap[b]? = w.heap[b]? := fun b hb => hk.frame b (i2.lt hb) fun hin => hs.apart b hin hb
  have hap' : St.apart s' fr := fun b hb hb' => by
    rcases hk.fresh b hb with h1 | h1
    · exact hs.apart b h1 hb'
    · have := i2.dom b (i2.lt hb'); omega
  refine ⟨⟨fun b cs hb => ?_, fun b t n hb => ?_, h'.dom⟩, { hk.toKeep with frame := fun b hM hb => hk.frame b hM fun hin => hb ((hd b).2 (.inl hin)), fresh := fun b hb => ?_ }, hap'⟩
  · cases hc : s'.box b with
    | some c => simp only [St.join, hc, Option.some_or] at hb; exact h'.box b cs (hc.trans hb)
    | none =>
      simp only [St.join, hc, Option.none_or] at hb
      exact (i2.box b cs hb).keep hk.toKeep (hfr _ (has_box hb)).1 (hfr _ (has_box hb)).2
  · cases hc : s'.buf b with
    | some c => simp only [St.join, hc, Option.some_or] at hb; exact h'.buf b t n (hc.trans hb)
    | none =>
      simp only [St.join, hc, Option.none_or] at hb
      exact (i2.buf b t n hb).keep (hfr _ (has_buf hb)).1 (hfr _ (has_buf hb)).2
  · rcases (join_has b).1 hb with hb | hb
    · rcases hk.fresh b hb with h1 | h1
      · exact .inl ((hd b).2 (.inl h1))
      · exact .inr h1
    · exact .inl ((hd b).2 (.inr hb))
theorem panK_sound {d : D} {v : Value} {M' : MMap} {σ' : St} {w' : World} (h : panK Q d σ') (hi : AInv N M' T σ' a w') (hk : KeepF M σ w M' σ' w') (hr : Rep M' w' d v) :
    Post N M σ w Q (.panic [{ v, recovered := false }]) a w' := by
  obtain ⟨s, hs, hq⟩ := h
  exact ⟨M', fun _ => .any, s, .panic d, ⟨v, rfl, hr⟩, hi.forget (fun _ => .inl rfl) hs, { hk.toKeep with frame := hk.frame, fresh := fun b hb => hk.fresh b (hs.has hb) }, hq⟩
theorem callFunc_run {f : FuncId} (h : Enters P f) (args : Array Value) (w : World) : (callFunc f args).run P w = .ok (.enter f args) w := by
  obtain ⟨fn, hf, hn, hb⟩ := h
  have hn' : fn.name ≠ "runtime.NumGoroutine" := by simpa using hn
  have hb' : fn.body ≠ none := fun h0 => by rw [h0] at hb; cases hb
  simp [callFunc, hf, hn', hb']
theorem callA_sound {o : Oper} {g : FuncId} {ds : List D} {vs : Array Value} (h : callA P N o.dst g ds K Q T σ) (hi : AInv N M T σ a w)
    (hr : zf6 M w ds vs.toList) (hrun : Enters P g → (execOp a.eval o).run P w = .ok (.enter g vs) w) : o.wp P a w (Nx N M σ w K) (Post N M σ w Q) := by
  obtain ⟨s, fr, R, hs, hc, hR⟩ := h
  obtain ⟨i1, i2⟩ := split_inv hs hi.inv
  unfold Oper.wp
  rw [hrun hc.enters, Oper.upon_enter]
  refine (hc.run M w vs.toList i1 hr).mono fun e w' ⟨M', s', x, h1, h2, h3, h4⟩ => ?_
  obtain ⟨j1, j2, j3⟩ := join_inv hs hi.inv h2 h3
  have hai : AInv N M' T (St.join s' fr) a w' := hi.keep j2.toKeep j1
  have := hR x s' h4 j3 ⟨w'.heap.size, fun b hb hin => by have := h2.dom b (h2.lt hin); omega⟩
  cases x with
  | ret d =>
    obtain ⟨v, rfl, hv⟩ := h1
    exact putK_sound this hai j2 hv
  | pan d =>
    obtain ⟨v, rfl, hv⟩ := h1
    exact panK_sound this hai j2 hv
theorem box_at (hi : Inv M σ w) {b : Nat} {cs : List D} (h : σ.box b = some cs) : ∃ c e, w.heap[b]? = some (.cells c e (0, 0)) ∧ zf6 M w cs c.toList ∧ ∀ u ∈ c.toList, u.oneCell' = true :=
  (hi.box _ _ h).2
theorem loadBox_rep (hi : Inv M σ w) {b off : Nat} {cs : List D} (h : σ.box b = some cs) {t : TypeId} {d : D} (hp : partD P t (cs.drop off) 0 = some d) :
    ∃ v, (loadVar t ⟨b, off, none⟩).run P w = .ok v w ∧ Rep M w d v := by
  obtain ⟨c, e, hc, hr, h1⟩ := box_at hi h
  have hr' := hr.drop off
  unfold partD at hp
  split at hp
  · rename_i n hg hs
    split at hp
    · rename_i hle
      cases hp
      have hlen : n ≤ (cs.drop off).length := by omega
      have hl := run_loadCells_list (P := P) w ⟨b, off, none⟩ ((c.toList.drop off).take n) (fun j v hv => by
        rw [addr_add]
        refine cell_of hc ?_
        rw [List.getElem?_take] at hv
        split at hv
        · rw [List.getElem?_drop] at hv; simpa using hv
        · cases hv)
      have hln : ((c.toList.drop off).take n).length = n := by have := hr'.length; rw [List.length_take]; omega
      rw [hln] at hl
      refine ⟨_, by simp [loadVar, run_isAgg hg, run_sizeOf hs, hl]; rfl, _, rfl, ?_, ?_⟩
      · simpa using hr'.take n
      · intro u hu
        have hu' : u ∈ (c.toList.drop off).take n := by simpa using hu
        exact h1 u (List.mem_of_mem_drop (List.mem_of_mem_take hu'))
    · cases hp
  · rename_i n hg hs
    obtain ⟨v, hv, hr2⟩ := hr'.get hp
    have hcell : w.cell? ⟨b, off, none⟩ = some v := cell_of hc (by rw [List.getElem?_drop] at hv; simpa using hv)
    exact ⟨v, by simp [loadVar, run_isAgg hg, load, Sem.run, hcell], hr2⟩
  · cases hp
theorem pureK_sound {o : Oper} (h : match pureD P o.op T with | some (side, d) => side ∧ putK N o.dst d K T σ | none => False) (hi : AInv N M T σ a w) : o.wp P a w (Nx N M σ w K) (Post N M σ w Q) := by
  split at h
  · rename_i side d hp
    obtain ⟨v, h1, h2⟩ := pureD_sound hp h.1 hi
    exact wp_value h1 (putK_sound h.2 hi (KeepF.refl _ _ _) h2)
  · exact h.elim
theorem nil_run {xt e : TypeId} (he : sliP P xt = some e) {o : Own} {es : List (List D)} {v : Value} (hr : Rep M w (.slice o es) v) : ∃ r, (Op.equal xt v (.slice none 0 0)).run P w = .ok r w ∧ nilR o es r := by
  have key : ∀ (b : Option Addr) (l c : Nat), (Op.equal xt (.slice b l c) (.slice none 0 0)).run P w = .ok b.isNone w := fun b l c => by
    show (Op.equalIn (9999 + 1) xt (.slice b l c) (.slice none 0 0)).run P w = _
    rw [Op.equalIn]
    cases b <;> simp [run_underlying (und_of_sli he)]
  cases o with
  | nil => obtain ⟨rfl, _⟩ := hr; exact ⟨true, key _ _ _, rfl⟩
  | exact => obtain ⟨b, off, s, rfl, _⟩ := hr; exact ⟨false, key _ _ _, rfl⟩
  | buf b s => obtain ⟨cap, _, _, _, rfl, _⟩ := hr; exact ⟨false, key _ _ _, rfl⟩
  | no =>
    rcases hr with ⟨rfl, rfl⟩ | ⟨b, off, cap, s, rfl, _⟩ | ⟨a, cap, rfl, rfl⟩
    · exact ⟨true, key _ _ _, fun h => absurd rfl h⟩
    · exact ⟨false, key _ _ _, fun _ => rfl⟩
    · exact ⟨false, key _ _ _, fun _ => rfl⟩
theorem chunks_flat {s : Nat} : ∀ (n : Nat) (l : List D), l.length = n * s → (chunks s n l).flatten = l ∧ (∀ r ∈ chunks s n l, r.length = s) ∧ (chunks s n l).length = n
  | 0, l, h => by
    have : l = [] := List.eq_nil_of_length_eq_zero (by simpa using h)
    subst this; simp [chunks]
  | n + 1, l, h => by
    rw [Nat.add_mul] at h
    obtain ⟨h1, h2, h3⟩ := chunks_flat (s := s) n (l.drop s) (by simp; omega)
    refine ⟨by simp [chunks, h1], fun r hr => ?_, by simp [chunks, h3]⟩
    simp only [chunks, List.mem_cons] at hr
    rcases hr with rfl | hr
    · simp; omega
    · exact h2 r hr
theorem zeroCells_list (z : Array Value) : ∀ n, (Builtin.zeroCells z n).toList = (List.replicate n z.toList).flatten
  | 0 => by simp [Builtin.zeroCells]
  | n + 1 => by
    have ih := zeroCells_list z n
    simp only [Builtin.zeroCells, Array.toList_map, Array.toList_range] at ih ⊢
    rw [List.replicate_succ', List.flatten_append, ← ih, Nat.add_mul, Nat.one_mul, List.range_add, List.map_append, List.map_map]
    congr 1
    simp only [List.flatten_cons, List.flatten_nil, List.append_nil]
    apply List.ext_getElem
    · simp
    · intro i h1 h2
      simp at h1
      simp [Nat.mul_add_mod', Nat.mod_eq_of_lt h1, h1, Nat.add_mod]
theorem replicate_rep {ds : List D} {vs : List Value} (h : zf6 M w ds vs) : ∀ n, zf6 M w (List.replicate n ds).flatten (List.replicate n vs).flatten
  | 0 => rfl
  | n + 1 => by
    simp only [List.replicate_succ, List.flatten_cons]
    exact h.append (replicate_rep h n)
theorem fillD_length {place : Nat → Option (Nat × TypeId)} {fz : D → D} : ∀ (parts : List (Nat × Operand)) (cells out : List D), fillD place P T fz parts cells = some out → out.length = cells.length
  | [], cells, out, h => by simp only [fillD, Option.some.injEq] at h; subst h; rfl
  | (i, x) :: rest, cells, out, h => by
    simp only [fillD] at h
    split at h
    · cases h
    · split at h
      · split at h
        · rename_i hle
          rw [fillD_length rest _ out h]
          simp only [layD, List.length_append, List.length_take, List.length_map, List.length_drop]
          omega
        · cases h
      · cases h
theorem wp_skip' {o : Oper} {w' : World} {Qc : Exit → Act → World → Prop} {next : Act → World → Prop} (hrun : (execOp a.eval o).run P w = .ok .skip w') (h : next (a.put o.dst undef) w') : o.wp P a w next Qc := by
  unfold Oper.wp; rw [hrun, Oper.upon_skip]; exact h
theorem appendA_sound {o : Oper} {t t' ty : TypeId} {dx dy : D} {x y : Value} (h : appendA P N o.dst t t' dx dy K T σ) (hi : AInv N M T σ a w) (rx : Rep M w dx x) (ry : Rep M w dy y)
    (hrun : ∀ v w', (Builtin.append_ #[t, t'] ty #[x, y]).run P w = .ok v w' → (execOp a.eval o).run P w = .ok (.value v) w') : o.wp P a w (Nx N M σ w K) (Post N M σ w Q) := by
  unfold appendA at h
  split at h
  · rename_i ow xs ow' ys e e' he he'
    obtain ⟨rfl, h⟩ := h
    split at h
    · rename_i s by' z hs hb hz
      obtain ⟨rfl, hpos, hb0, hys, hbound, h⟩ := h
      obtain ⟨zl, hzl, hzlen⟩ := Option.map_eq_some_iff.1 hz
      have H : AppT P t t' e zl.length by' := ⟨he, he', by rw [hzlen]; exact hs, by rw [hzlen]; exact hpos, hb, zl, hzl, rfl⟩
      rw [hzlen] at H
      have fin : ∀ {σ₀ : St} {es : List (List D)}, AppPost P M σ σ₀ w z t t' ty x y es → (∀ b', ¬ σ₀.has b' → putK N o.dst (.slice (.buf b' z) es) K T (σ₀.setBuf b' z es.length)) → o.wp P a w (Nx N M σ w K) (Post N M σ w Q) := by
        intro σ₀ es hp hk
        obtain ⟨v, w', M', b, h1, h2, h3, h4, h5⟩ := hp
        exact wp_value (hrun _ _ h1) (putK_sound (hk b h3) (hi.keep h5.toKeep h4) h5 h2)
      have still : ∀ {base : Option Addr} {len cap : Nat}, x = .slice base len cap → len ≤ cap → ys = [] → (Builtin.append_ #[t, t'] ty #[x, y]).run P w = .ok x w := by
        intro base len cap hx hle hys0
        subst hys0
        obtain ⟨l, l1, _, _, ⟨b', c', hy⟩, l5⟩ := first_run (P := P) ry (s := z) (by simp)
        have := l5 w rfl
        have hl : l = [] := List.eq_nil_of_length_eq_zero (by simpa using l1)
        subst hl
        subst hx
        exact append_still H hle hy this ty
      split at h
      · rename_i b s'
        obtain ⟨rfl, hbuf, h⟩ := h
        refine fin (append_own H rx ry hys hb0 hbound hi.inv hbuf ty) fun b' hb' => ?_
        rw [List.length_append]; exact h b' hb'
      · obtain ⟨rfl, rfl⟩ := rx
        by_cases hy0 : ys = []
        · exact wp_value (hrun _ _ (still rfl (Nat.le_refl _) hy0)) (putK_sound (h.1 hy0) hi (KeepF.refl _ _ _) ⟨rfl, rfl⟩)
        · have hl : 0 < ys.length := by cases ys with | nil => exact absurd rfl hy0 | cons a l => simp
          have := append_new H rfl (o := .nil) (xs := []) ⟨rfl, rfl⟩ ry rfl (by simp) hys (by omega) hb0 hbound hi.inv hi.inv (fun _ h => h) ty
          simp only [List.nil_append] at this
          exact fin this (h.2 hy0)
      · obtain ⟨hxs, h⟩ := h
        obtain ⟨b, off, size, hx, hrow⟩ := id rx
        by_cases hy0 : ys = []
        · exact wp_value (hrun _ _ (still hx (Nat.le_refl _) hy0)) (putK_sound (h.1 hy0) hi (KeepF.refl _ _ _) rx)
        · have hl : 0 < ys.length := by cases ys with | nil => exact absurd rfl hy0 | cons a l => simp
          refine fin (append_new H hx rx ry rfl hxs hys (by omega) hb0 hbound hi.inv hi.inv (fun _ h => h) ty) fun b' hb' => ?_
          rw [List.length_append]; exact h.2 hy0 b' hb'
      · exact h.elim
    · exact h.elim
  · rename_i b s k xs ow' ys e e' he he'
    obtain ⟨rfl, hs, hby, hz, hpos, hys, hk, hbuf, h⟩ := h
    obtain ⟨by', hby⟩ := Option.isSome_iff_exists.1 hby
    obtain ⟨zl, hzl, hzlen⟩ := Option.map_eq_some_iff.1 hz
    obtain ⟨v, w', M', h1, h2, h3, h4⟩ := append_roomy ⟨he, he', hs, hpos, hby, zl, hzl, hzlen⟩ rx ry hys hk hi.inv hbuf ty
    exact wp_value (hrun _ _ h1) (putK_sound h (hi.keep h4.toKeep h3) h4 h2)
  · exact h.elim
theorem aop_sound {o : Oper} (h : aop P N o.dst o.op K Q T σ) (hi : AInv N M T σ a w) : o.wp P a w (Nx N M σ w K) (Post N M σ w Q) := by
  obtain ⟨dst, op, type, pos, after, guard⟩ := o
  unfold aop at h
  simp only at h
  split at h
  · -- load
    rename_i t x
    have hr := ev_rep hi x
    split at h
    · rename_i b off hx
      rw [hx] at hr; simp only [Rep] at hr
      split at h
      · rename_i cs hcs
        split at h
        · rename_i d hd
          obtain ⟨v, h1, h2⟩ := loadBox_rep (P := P) hi.inv hcs hd
          exact wp_value (v := v) (w' := w) (by simp [execOp, hr, Instr.loadAt, Instr.sureAddr, h1]) (putK_sound h hi (KeepF.refl _ _ _) h2)
        · exact h.elim
      · exact h.elim
    · rename_i cs hx
      rw [hx] at hr
      obtain ⟨b, off, hr, hc⟩ := hr
      split at h
      · rename_i d hd
        obtain ⟨v, h1, h2⟩ := load_rep hd hc
        exact wp_value (v := v) (w' := w) (by simp [execOp, hr, Instr.loadAt, Instr.sureAddr, h1]) (putK_sound h hi (KeepF.refl _ _ _) h2)
      · exact h.elim
    · exact h.elim
  · -- store
    rename_i t x y
    have hr := ev_rep hi x
    split at h
    · rename_i b off hx
      rw [hx] at hr; simp only [Rep] at hr
      split at h
      · rename_i cs vs hcs hvs
        obtain ⟨hle, h⟩ := h
        obtain ⟨c1, c2, c3⟩ := cellsD_rep hvs (ev_rep hi y)
        obtain ⟨c, e, hc, hrc, h1⟩ := box_at hi.inv hcs
        have hlen := hrc.length
        have hvl := c1.length
        obtain ⟨c', r1, r2⟩ := run_store_cells (P := P) b off e (a.eval y).cells.toList 0 c w hc (by simp at hlen hvl ⊢; omega) c2
        have hrep : zf6 M w (layD cs off vs) c'.toList := by
          rw [r2, Nat.add_zero, ← hvl]
          exact ((hrc.take _).append c1).append (hrc.drop _)
        have hone : ∀ u ∈ c'.toList, u.oneCell' = true := by
          rw [r2]
          intro u hu
          simp only [List.mem_append] at hu
          rcases hu with (hu | hu) | hu
          · exact h1 u (List.mem_of_mem_take hu)
          · exact c2 u hu
          · exact h1 u (List.mem_of_mem_drop hu)
        obtain ⟨i1, i2⟩ := hi.inv.setBox hcs ⟨c, hc⟩ hrep hone
        refine wp_skip' (w' := setRow w b c' e) ?_ (putK_sound h (hi.keep i2.toKeep i1) i2 trivial)
        simp [execOp, hr, Instr.storeAt, Instr.sureAddr, storeVar, run_sizeOf c3, r1]
      · exact h.elim
    · exact h.elim
  · -- alloc
    rename_i t
    split at h
    · rename_i z hz
      obtain ⟨zv, h1, _, h3, h4⟩ := cD_zero hz M w
      obtain ⟨i1, i2⟩ := hi.inv.addBox t h3 h4
      exact wp_value (v := .pointer (some ⟨w.heap.size, 0, none⟩)) (w' := w.alloc (.cells zv.cells t)) (by simp [execOp, Instr.alloc, h1, newVar, newRow]) (putK_sound (h _ hi.inv.fresh) (hi.keep i2.toKeep i1) i2 rfl)
    · exact h.elim
  · -- box
    rename_i t x
    split at h
    · rename_i z hz
      obtain ⟨c1, c2, c3⟩ := cellsD_rep hz (ev_rep hi x)
      obtain ⟨i1, i2⟩ := hi.inv.addBox t c1 c2
      exact wp_value (v := .pointer (some ⟨w.heap.size, 0, none⟩)) (w' := w.alloc (.cells (a.eval x).cells t)) (by simp [execOp, Instr.box, newVar, newRow]) (putK_sound (h _ hi.inv.fresh) (hi.keep i2.toKeep i1) i2 rfl)
    · exact h.elim
  · -- buildSlice
    rename_i t len parts
    split at h
    · rename_i e he
      split at h
      · rename_i s z hs hz
        obtain ⟨hzl, hmax, h⟩ := h
        split at h
        · rename_i cs hcs
          obtain ⟨zv, h1, _, h3, h4⟩ := cD_zero hz M w
          have hzs : zv.cells.size = s := by have := h3.length; simp at this; omega
          have hz' : zf6 M w (List.replicate len z).flatten ((Array.range (len * s)).map (zv.cells[· % zv.cells.size]!)).toList ∧ ∀ u ∈ ((Array.range (len * s)).map (zv.cells[· % zv.cells.size]!)).toList, u.oneCell' = true := by
            have hcl : ((Array.range (len * s)).map (zv.cells[· % zv.cells.size]!)).toList = (List.replicate len zv.cells.toList).flatten := by
              have := zeroCells_list zv.cells len
              simp only [Builtin.zeroCells, hzs] at this
              rw [hzs]; exact this
            rw [hcl]
            refine ⟨replicate_rep h3 len, fun u hu => ?_⟩
            simp only [List.mem_flatten, List.mem_replicate] at hu
            obtain ⟨l, ⟨_, rfl⟩, hu⟩ := hu
            exact h4 u hu
          obtain ⟨res, g1, g2, g3⟩ := fill_sound (place := fun i => some (i * s, e)) (fz := frz) (pl := fun i => some (i * s, s)) (fun _ _ h => frz_rep h) (fun i off ty hp => by
            simp only [Option.some.injEq, Prod.mk.injEq] at hp
            obtain ⟨rfl, rfl⟩ := hp
            exact ⟨s, rfl, hs⟩) hi parts.toList _ cs hcs _ hz'.1 hz'.2
          have hclen : cs.length = len * s := by
            rw [fillD_length _ _ _ hcs]; simp [hzl]
          obtain ⟨f1, f2, f3⟩ := chunks_flat len cs hclen
          obtain ⟨i1, i2⟩ := hi.inv.addImm (.cells res e)
          refine wp_value (v := .slice (some ⟨w.heap.size, 0, none⟩) len len) (w' := w.alloc (.cells res e)) ?_ (putK_sound h (hi.keep i2.toKeep i1) i2 ?_)
          · by_cases h0 : len * s = 0
            · rw [h0] at g1
              have er : ∀ f : Nat → Value, Array.map f (Array.range 0) = #[] := fun f => by apply Array.ext'; simp
              rw [er] at g1
              simp [er, execOp, Instr.buildSlice, run_underlying (und_of_sli he), run_sizeOf hs, h0, newRow, g1]
            · have h0' : ¬ (len = 0 ∨ s = 0) := fun h => h0 (Nat.mul_eq_zero.2 h)
              simp only [List.map_map] at g1
              simp [execOp, Instr.buildSlice, run_underlying (und_of_sli he), run_sizeOf hs, show ¬ (16777216 < len * s) by omega, h0', newRow, h1, g1]
              exact fun h => absurd h h0
          · refine ⟨w.heap.size, 0, s, by rw [f3], rows_of f2 (by rw [f1]; exact zf6.keep i2.toKeep _ _ g2) fun j v hv => ?_⟩
            refine ⟨cell_of (heap_alloc_new _ _) (by simpa using hv), g3 v (List.mem_of_getElem? hv), ?_⟩
            simp only [ImmAt]
            cases hm : M w.heap.size with
            | none => trivial
            | some m => have := hi.inv.dom w.heap.size (by simp [hm]); omega
        · exact h.elim
      · exact h.elim
    · exact h.elim
  · -- makeSlice
    rename_i t l c
    split at h
    · rename_i side d hm
      obtain ⟨hs, h⟩ := h
      unfold makeA at hm
      split at hm
      · rename_i k n k' m e hl hc he
        split at hm
        · rename_i s z by' hsz hz hby
          simp only [Option.some.injEq, Prod.mk.injEq] at hm
          obtain ⟨rfl, rfl⟩ := hm
          obtain ⟨hzl, rfl, h0, h63, hb⟩ := hs
          obtain ⟨zv, g1, _, g3, g4⟩ := cD_zero hz M w
          simp only [szP, Option.map_eq_some_iff] at hsz
          obtain ⟨i, hinfo, rfl⟩ := hsz
          have hiz : i.zero = some zv := by
            cases hq : i.zero with
            | none => simp [zeroValue, typeInfo, hinfo, hq] at g1
            | some q => simp [zeroValue, typeInfo, hinfo, hq] at g1; rw [g1]
          have hbi : i.bytes = by' := by simpa [zb4, hinfo] using hby
          have rl := ev_rep hi l
          rw [hl] at rl; simp only [Rep] at rl
          have rc := ev_rep hi c
          rw [hc] at rc; simp only [Rep] at rc
          have hzs : zv.cells.size = i.size := by have := g3.length; simp at this; omega
          have hrun := run_make (P := P) w t e i zv (und_of_sli he) hinfo hiz k k' n n h0 (Int.le_refl _) (by rw [hbi]; omega) h63
          have hcl : (madeCells zv.cells (n.toNat * i.size)).toList = (List.replicate n.toNat zv.cells.toList).flatten := by
            rw [← hzs]
            exact zeroCells_list zv.cells n.toNat
          have hcells : zf6 M w (List.replicate n.toNat z).flatten (madeCells zv.cells (n.toNat * i.size)).toList := by rw [hcl]; exact replicate_rep g3 _
          obtain ⟨i1, i2⟩ := hi.inv.addImm (.cells (madeCells zv.cells (n.toNat * i.size)) e)
          refine wp_value (v := .slice (some ⟨w.heap.size, 0, none⟩) n.toNat n.toNat) (w' := w.alloc (.cells (madeCells zv.cells (n.toNat * i.size)) e)) (by simp [execOp, rl, rc, hrun]) (putK_sound h (hi.keep i2.toKeep i1) i2 ?_)
          refine ⟨w.heap.size, 0, i.size, by simp, rows_of (fun r hr => by rw [List.eq_of_mem_replicate hr]; exact hzl) (zf6.keep i2.toKeep _ _ hcells) fun j v hv => ?_⟩
          refine ⟨cell_of (heap_alloc_new _ _) (by simpa using hv), ?_, ?_⟩
          · have := List.mem_of_getElem? hv
            rw [hcl] at this
            simp only [List.mem_flatten, List.mem_replicate] at this
            obtain ⟨l', ⟨_, rfl⟩, hu⟩ := this
            exact g4 v hu
          · simp only [ImmAt]
            cases hm : M w.heap.size with
            | none => trivial
            | some m => have := hi.inv.dom w.heap.size (by simp [hm]); omega
        · cases hm
      · cases hm
    · exact h.elim
  · -- panic
    rename_i x
    split at h
    · rename_i t d hx
      have hr := ev_rep hi x
      rw [hx] at hr
      obtain ⟨u, hu, hr'⟩ := id hr
      unfold Oper.wp
      have : (execOp a.eval { dst, op := .panic x, type, pos, after, guard }).run P w = .halt (.panic (.iface t u)) w := by
        simp [execOp, hu, Instr.panic, goPanic, Sem.run]
      rw [this, Oper.upon_panic]
      exact panK_sound h hi (KeepF.refl _ _ _) ⟨u, rfl, hr'⟩
    · exact h.elim
  · -- call of a value
    rename_i f args argTypes
    split at h
    · rename_i g fi ca hf
      have hr := ev_rep hi f
      rw [hf] at hr
      obtain ⟨vf, vc, hv, r1, r2⟩ := hr
      refine callA_sound (vs := vf ++ args.map a.eval ++ vc) h hi ?_ fun he => ?_
      · simp only [Array.toList_append, Array.toList_map]
        exact (r1.append (repAll_ops hi _)).append r2
      · have := callFunc_run he (vf ++ args.map a.eval ++ vc) w
        rw [Array.append_assoc] at this ⊢
        simp [execOp, resolve, hv, Deferred.ofValue, invoke, this]
    · exact h.elim
  · -- append
    rename_i args argTypes
    split at h
    · rename_i x y t t' ha ht
      have ha' : args = #[x, y] := by rw [← Array.toList_inj]; simpa using ha
      have ht' : argTypes = #[t, t'] := by rw [← Array.toList_inj]; simpa using ht
      subst ha'; subst ht'
      exact appendA_sound (ty := type) h hi (ev_rep hi x) (ev_rep hi y) fun v w' hv => by simp [execOp, resolve, invoke, builtin, hv]
    · exact h.elim
  · -- copy
    rename_i args argTypes
    split at h
    · rename_i x y t t' ha ht
      have ha' : args = #[x, y] := by rw [← Array.toList_inj]; simpa using ha
      have ht' : argTypes = #[t, t'] := by rw [← Array.toList_inj]; simpa using ht
      subst ha'; subst ht'
      unfold copyA at h
      split at h
      · rename_i b o l c b' o' l' c' e hx hy he
        split at h
        · rename_i cs cs' hsz hcs hcs'
          obtain ⟨h1, h2, h⟩ := h
          have rx := ev_rep hi x
          rw [hx] at rx; simp only [Rep] at rx
          have ry := ev_rep hi y
          rw [hy] at ry; simp only [Rep] at ry
          obtain ⟨cc, e1, hc, hrc, ho1⟩ := box_at hi.inv hcs
          obtain ⟨cc', e1', hc', hrc', ho1'⟩ := box_at hi.inv hcs'
          have hlen := hrc.length
          have hlen' := hrc'.length
          obtain ⟨vals, hvals⟩ : ∃ vals, vals = (cc'.toList.drop o').take (min l' l) := ⟨_, rfl⟩
          have hvl : vals.length = min l' l := by rw [hvals, List.length_take, List.length_drop]; simp at hlen' ⊢; omega
          have hrv : zf6 M w ((cs'.drop o').take (min l' l)) vals := by rw [hvals]; exact (hrc'.drop _).take _
          have hov : ∀ u ∈ vals, u.oneCell' = true := fun u hu => by rw [hvals] at hu; exact ho1' u (List.mem_of_mem_drop (List.mem_of_mem_take hu))
          have hld := run_loadCells_list (P := P) w ⟨b', o', none⟩ vals (fun j v hv => by
            rw [addr_add]
            refine cell_of hc' ?_
            rw [hvals, List.getElem?_take] at hv
            split at hv
            · rw [List.getElem?_drop] at hv; simpa using hv
            · cases hv)
          obtain ⟨c2, r1, r2⟩ := run_store_cells (P := P) b o e1 vals 0 cc w hc (by rw [hvl]; simp at hlen ⊢; omega) hov
          have hrep : zf6 M w (layD cs o ((cs'.drop o').take (min l' l))) c2.toList := by
            rw [r2, Nat.add_zero]
            simp only [layD, hrv.length]
            exact ((hrc.take _).append hrv).append (hrc.drop _)
          have hone : ∀ u ∈ c2.toList, u.oneCell' = true := by
            rw [r2]
            intro u hu
            simp only [List.mem_append] at hu
            rcases hu with (hu | hu) | hu
            · exact ho1 u (List.mem_of_mem_take hu)
            · exact hov u hu
            · exact ho1 u (List.mem_of_mem_drop hu)
          obtain ⟨i1, i2⟩ := hi.inv.setBox hcs ⟨cc, hc⟩ hrep hone
          refine wp_value (v := .int .i64 (min l' l : Nat)) (w' := setRow w b c2 e1) ?_ (putK_sound h (hi.keep i2.toKeep i1) i2 rfl)
          have hld' : (loadCells ⟨b', o', none⟩ (Nat.min l' l)).run P w = .ok vals.toArray w := by
            have e3 : Nat.min l' l = vals.length := hvl.symm
            rw [e3]; exact hld
          simp [execOp, resolve, invoke, builtin, rx, ry, Builtin.copy_, run_underlying (und_of_sli he), Builtin.lenOf, Builtin.firstCells, run_sizeOf hsz, hld', r1, goInt]
        · exact h.elim
      · exact h.elim
    · exact h.elim
  · -- two operands
    rename_i bop xt x y yt
    have nilv : nilOpnd y = true → a.eval y = .slice none 0 0 := by
      intro hn
      unfold nilOpnd at hn
      split at hn
      · rfl
      · cases hn
    unfold binA at h
    split at h
    · rename_i ow es hn hx
      split at h
      · rename_i e he
        have hr := ev_rep hi x
        rw [hx] at hr
        obtain ⟨r, h1, h2⟩ := nil_run (P := P) he hr
        refine wp_value (v := .bool r) (w' := w) ?_ (putK_sound (h r h2) hi (KeepF.refl _ _ _) rfl)
        rcases rows_of_slice hr with ⟨hv, _⟩ | ⟨_, _, _, _, hv, _⟩ | ⟨_, _, hv, _⟩ <;> rw [hv] at h1 <;> simp [execOp, hv, nilv hn, eqGuard, binOp, h1]
      · exact h.elim
    · rename_i ow es hn hx
      split at h
      · rename_i e he
        have hr := ev_rep hi x
        rw [hx] at hr
        obtain ⟨r, h1, h2⟩ := nil_run (P := P) he hr
        refine wp_value (v := .bool (!r)) (w' := w) ?_ (putK_sound (h r h2) hi (KeepF.refl _ _ _) rfl)
        rcases rows_of_slice hr with ⟨hv, _⟩ | ⟨_, _, _, _, hv, _⟩ | ⟨_, _, hv, _⟩ <;> rw [hv] at h1 <;> simp [execOp, hv, nilv hn, eqGuard, binOp, h1]
      · exact h.elim
    · exact pureK_sound (o := { dst, op := .binOp _ xt x y yt, type, pos, after, guard }) h hi
  · exact pureK_sound h hi
end
end Go.AL
namespace Go.AL
section
variable {P : Program} {N : Nat} {M : MMap} {T : Env} {σ : St} {a : Act} {w : World} {K : Env → St → Prop} {Q : XA → Env → St → Prop}
variable [DSt]
theorem guardA_sound {ops : Array Oper} {o : Oper} {g : Bool} (h : guardA ops.toList T o = some g) (hi : AInv N M T σ a w) : Region.wanted o (yielded ops a.tmps) = g := by
  unfold guardA at h
  unfold Region.wanted
  split at h
  · rename_i hg
    rw [hg]; simp at h ⊢; exact h
  · rename_i j want hg
    rw [hg]
    split at h
    · rename_i t ht
      have hr := hi.env t
      have hdst : (ops[j]?).bind (·.dst) = some t := by simpa using ht
      cases hT : T t <;> rw [hT] at h hr <;> simp only [gq, reduceCtorEq, Option.some.injEq] at h
      · rename_i b
        simp only [Rep] at hr
        have hy : yielded ops a.tmps j = some b := by
          unfold yielded
          simp only [Option.bind_eq_some_iff] at hdst
          obtain ⟨oj, ho, hd⟩ := hdst
          simp only [ho, Option.bind_some, hd]
          have hlt : t < a.tmps.size := by
            rcases Nat.lt_or_ge t a.tmps.size with h1 | h1
            · exact h1
            · simp [Array.getElem?_eq_none h1, undef] at hr
          simp [hlt] at hr
          simp [hlt, hr]
        show (yielded ops a.tmps j == some want) = g
        rw [hy, ← h]
        rfl
      · obtain ⟨ar, hr, _⟩ := hr
        have hy : yielded ops a.tmps j = none := by
          unfold yielded
          simp only [Option.bind_eq_some_iff] at hdst
          obtain ⟨oj, ho, hd⟩ := hdst
          simp only [ho, Option.bind_some, hd]
          rcases Nat.lt_or_ge t a.tmps.size with h1 | h1
          · simp [h1] at hr
            simp [h1, hr]
          · simp [Array.getElem?_eq_none h1]
        show (yielded ops a.tmps j == some want) = g
        rw [hy, ← h]
        rfl
    · cases h
theorem wp_exits {o : Oper} {next : Act → World → Prop} {Q₁ Q₂ : Exit → Act → World → Prop} (h : o.wp P a w next Q₁) (hq : ∀ e a w, Q₁ e a w → Q₂ e a w) : o.wp P a w next Q₂ := by
  unfold Oper.wp at *
  generalize (execOp a.eval o).run P w = r at *
  cases r with
  | ok n w' =>
    cases n <;> simp only [Oper.upon] at h ⊢ <;> first
      | exact h
      | exact Calls.mono h (fun e w'' he => by
          cases e with
          | returned v => exact he
          | panicked c => exact hq _ _ _ he
          | outgrown => obtain ⟨a', w₁, h1⟩ := he; exact ⟨a', w₁, hq _ _ _ h1⟩)
  | halt x w' => cases x <;> simp only [Oper.upon] at h ⊢ <;> first | exact hq _ _ _ h | exact h
def resOne (P : Program) (T : Env) (σ : St) : ResultVar → Option D
  | .tmp t => some (T t)
  | .cell a t => match T a with
    | .ptr b off => match σ.box b with
      | some cs => partD P t (cs.drop off) 0
      | none => none
    | _ => none
def resMany (P : Program) (T : Env) (σ : St) : List ResultVar → Option (List D)
  | [] => some []
  | r :: rs => match resOne P T σ r, resMany P T σ rs with
    | some d, some ds => some (d :: ds)
    | _, _ => none
def resA (P : Program) (T : Env) (σ : St) : List ResultVar → Option D
  | [r] => resOne P T σ r
  | rs => (resMany P T σ rs).map .tup
def DLe (d d' : D) : Prop := ∀ M w v, Rep M w d v → Rep M w d' v
theorem DLe.refl (d : D) : DLe d d := fun _ _ _ h => h
theorem DLe.slice (o : Own) (es : List (List D)) : DLe (.slice o es) (.slice .no es) := fun _ _ _ h => frz_rep (d := .slice o es) h
inductive DLes : List D → List D → Prop
  | nil : DLes [] []
  | cons {d d' : D} {ds ds' : List D} : DLe d d' → DLes ds ds' → DLes (d :: ds) (d' :: ds')
theorem DLes.rep {M : MMap} {w : World} {ds ds' : List D} (h : DLes ds ds') : ∀ {vs : List Value}, zf6 M w ds vs → zf6 M w ds' vs := by
  induction h with
  | nil => exact fun h => h
  | cons h1 _ ih => intro vs hr; obtain ⟨v, vs', rfl, r1, r2⟩ := hr; exact ⟨v, vs', rfl, h1 _ _ _ r1, ih r2⟩
theorem DLes.refl : ∀ ds, DLes ds ds
  | [] => .nil
  | d :: ds => .cons (.refl d) (DLes.refl ds)
theorem DLe.tup {ds ds' : List D} (h : DLes ds ds') : DLe (.tup ds) (.tup ds') := fun _ _ _ ⟨a, hv, hr⟩ => ⟨a, hv, h.rep hr⟩
theorem DLe.agg {ds ds' : List D} (h : DLes ds ds') : DLe (.agg ds) (.agg ds') := fun _ _ _ ⟨a, hv, hr, h1⟩ => ⟨a, hv, h.rep hr, h1⟩
def bodyA (P : Program) (rs : List ResultVar) (R : EA → St → Prop) : XA → Env → St → Prop
  | .normal, T, σ | .ret, T, σ => ∃ d d' s, resA P T σ rs = some d ∧ DLe d d' ∧ St.le s σ ∧ R (.ret d') s
  | .panic d, _, σ => ∃ d' s, DLe d d' ∧ St.le s σ ∧ R (.pan d') s
  | .exit _, _, _ | .goto _, _, _ => False
def envOf (ds : List D) : Env := fun t => (ds[t]?).getD .any
def resV (a : Act) : ResultVar → Sem Value
  | .tmp t => pure (a.tmps.getD t undef)
  | .cell x t => do loadVar t (← asAddr (a.tmps.getD x undef))
theorem resOne_sound {r : ResultVar} {d : D} (h : resOne P T σ r = some d) (hi : AInv N M T σ a w) :
    ∃ v, (resV a r).run P w = .ok v w ∧ Rep M w d v := by
  cases r with
  | tmp t => simp only [resOne, Option.some.injEq] at h; subst h; exact ⟨_, rfl, hi.env t⟩
  | cell x t =>
    simp only [resOne] at h
    split at h
    · rename_i b off hx
      split at h
      · rename_i cs hcs
        obtain ⟨v, h1, h2⟩ := loadBox_rep (P := P) hi.inv hcs h
        have hr := hi.env x
        rw [hx] at hr; simp only [Rep] at hr
        exact ⟨v, by simp only [resV, hr, asAddr, Sem.run_bind]; simpa using h1, h2⟩
      · cases h
    · cases h
inductive All2 {α β : Type} (R : α → β → Prop) : List α → List β → Prop
  | nil : All2 R [] []
  | cons {a : α} {b : β} {l : List α} {m : List β} : R a b → All2 R l m → All2 R (a :: l) (b :: m)
theorem All2.length_eq {α β : Type} {R : α → β → Prop} {l : List α} {m : List β} (h : All2 R l m) : l.length = m.length := by
  induction h with
  | nil => rfl
  | cons _ _ ih => simp [ih]
theorem run_mapM_ex {α β : Type} (f : α → Sem β) (R : α → β → Prop) : ∀ (l : List α), (∀ x ∈ l, ∃ y, (f x).run P w = .ok y w ∧ R x y) → ∃ ys : List β, (l.mapM f).run P w = .ok ys w ∧ All2 R l ys
  | [], _ => ⟨[], by simp, .nil⟩
  | x :: l, h => by
    obtain ⟨y, h1, h2⟩ := h x (by simp)
    obtain ⟨ys, h3, h4⟩ := run_mapM_ex f R l fun z hz => h z (by simp [hz])
    exact ⟨y :: ys, by simp [h1, h3], .cons h2 h4⟩
theorem resMany_some : ∀ {rs : List ResultVar} {ds : List D}, resMany P T σ rs = some ds → ∀ r ∈ rs, ∃ d, resOne P T σ r = some d
  | [], _, _, r, hr => by cases hr
  | x :: rs, ds, h, r, hr => by
    simp only [resMany] at h
    split at h
    · rename_i d ds' h1 h2
      simp only [List.mem_cons] at hr
      rcases hr with rfl | hr
      · exact ⟨d, h1⟩
      · exact resMany_some h2 r hr
    · cases h
theorem resMany_rep : ∀ {rs : List ResultVar} {ds : List D}, resMany P T σ rs = some ds → ∀ {vs : List Value}, All2 (fun r v => ∀ d, resOne P T σ r = some d → Rep M w d v) rs vs → zf6 M w ds vs
  | [], ds, h, vs, hf => by
    simp only [resMany, Option.some.injEq] at h; subst h
    cases hf; rfl
  | x :: rs, ds, h, vs, hf => by
    simp only [resMany] at h
    split at h
    · rename_i d ds' h1 h2
      cases h
      cases hf with
      | cons g1 g2 => exact ⟨_, _, rfl, g1 d h1, resMany_rep h2 g2⟩
    · cases h
theorem resA_sound {fn : Func} {d : D} (h : resA P T σ fn.results.toList = some d) (hi : AInv N M T σ a w) : ∃ v, (results fn a.tmps).run P w = .ok v w ∧ Rep M w d v := by
  have hmap : ∀ rs : List ResultVar, (∀ r ∈ rs, ∃ d, resOne P T σ r = some d) → ∃ vs : List Value,
      (rs.mapM (resV a)).run P w = .ok vs w ∧
      All2 (fun r v => ∀ d, resOne P T σ r = some d → Rep M w d v) rs vs := fun rs hrs => run_mapM_ex _ _ rs fun r hr => by
    obtain ⟨d, hd⟩ := hrs r hr
    obtain ⟨v, h1, h2⟩ := resOne_sound hd hi
    exact ⟨v, h1, fun d' hd' => by rw [hd] at hd'; cases hd'; exact h2⟩
  have hall : ∀ r ∈ fn.results.toList, ∃ d, resOne P T σ r = some d := by
    unfold resA at h
    split at h
    · rename_i r hr
      intro r' hr'
      rw [hr] at hr'
      simp at hr'; subst hr'
      exact ⟨d, h⟩
    · simp only [Option.map_eq_some_iff] at h
      obtain ⟨ds, h1, _⟩ := h
      exact resMany_some h1
  obtain ⟨vs, h1, h2⟩ := hmap _ hall
  have hrun : (results fn a.tmps).run P w = .ok (if h : vs.toArray.size = 1 then vs.toArray[0] else .tuple vs.toArray) w := by
    have hu : results fn a.tmps = (do let vs ← fn.results.mapM (resV a); pure (if h : vs.size = 1 then vs[0] else .tuple vs)) := by
      unfold results
      congr 1
    rw [hu, Array.mapM_eq_mapM_toList]
    simp only [Sem.run_bind]
    have : (List.toArray <$> (fn.results.toList.mapM (resV a)) : Sem (Array Value)).run P w = .ok vs.toArray w := by
      simp only [Sem.run_map, h1]
      simp
    rw [this]
    simp
  refine ⟨_, hrun, ?_⟩
  unfold resA at h
  split at h
  · rename_i r hr
    rw [hr] at h2
    cases h2 with
    | cons g1 g2 =>
      cases g2
      simpa using g1 d h
  · rename_i hne
    simp only [Option.map_eq_some_iff] at h
    obtain ⟨ds, h3, rfl⟩ := h
    have hlen := h2.length_eq
    have hsz : ¬ (vs.toArray.size = 1) := by
      intro h1'
      have : fn.results.toList.length = 1 := by rw [hlen]; simpa using h1'
      obtain ⟨r, hr⟩ := List.length_eq_one_iff.1 this
      exact hne r hr
    rw [dif_neg hsz]
    exact ⟨vs.toArray, rfl, by simpa using resMany_rep h3 h2⟩
theorem envOf_rep {ds : List D} {vs : List Value} (h : zf6 M w ds vs) (n : Nat) (t : Nat) : Rep M w (envOf ds t) ((vs.toArray ++ Array.replicate n undef).getD t undef) := by
  unfold envOf
  cases hd : ds[t]? with
  | none => trivial
  | some d =>
    obtain ⟨v, hv, hr⟩ := h.get hd
    have hlt : t < vs.length := (List.getElem?_eq_some_iff.1 hv).1
    have : (vs.toArray ++ Array.replicate n undef).getD t undef = v := by
      simp only [Array.getD_eq_getD_getElem?, Array.getElem?_append, List.size_toArray, hlt, if_true]
      simp [hv]
    rw [this]; exact hr
end
section
variable {P : Program} {N : Nat} {M : MMap} {T : Env} {σ : St} {a : Act} {w : World} {K : Env → St → Prop} {Q : XA → Env → St → Prop}
theorem acall_of_body {f : FuncId} {fn : Func} {c : Code} {ds : List D} {s : St} {R : EA → St → Prop} (hf : P.funcs[f]? = some fn) (hb : fn.body = some c) (hn : (fn.name == "runtime.NumGoroutine") = false)
    (hN : fn.ntmps = N) (hl : ds.length ≤ N) (h : awp P N c (bodyA P fn.results.toList R) (envOf ds) s) : ACall P f ds s R := by
  refine ⟨⟨fn, hf, hn, by rw [hb]; rfl⟩, fun M w vs hi hv => calls_of_wp hf hb ?_⟩
  have hlen := hv.length
  have hai : AInv N M (envOf ds) s { tmps := vs.toArray ++ Array.replicate (fn.ntmps - vs.toArray.size) undef, defers := [] } w :=
    ⟨hi, by simp; omega, rfl, fun t => envOf_rep hv _ t⟩
  refine wp_mono (h M _ w hai) fun e a' w' hp => ?_
  obtain ⟨M', T', σ', x, h1, h2, h3, h4⟩ := hp
  have fin : ∀ s' : St, St.le s' σ' → Inv M' s' w' ∧ KeepF M s w M' s' w' := fun s' hs =>
    ⟨(h2.forget (E := T') (fun _ => .inr rfl) hs).inv, { h3.toKeep with frame := h3.frame, fresh := fun b hb => h3.fresh b (hs.has hb) }⟩
  cases x with
  | normal =>
    obtain rfl := h1
    obtain ⟨d, d', s', g1, g2, g3, g4⟩ := h4
    obtain ⟨v, r1, r2⟩ := resA_sound g1 h2
    exact ⟨h2.defers, v, r1, M', s', .ret d', ⟨v, rfl, g2 _ _ _ r2⟩, (fin s' g3).1, (fin s' g3).2, g4⟩
  | ret =>
    obtain rfl := h1
    obtain ⟨d, d', s', g1, g2, g3, g4⟩ := h4
    obtain ⟨v, r1, r2⟩ := resA_sound g1 h2
    exact ⟨h2.defers, v, r1, M', s', .ret d', ⟨v, rfl, g2 _ _ _ r2⟩, (fin s' g3).1, (fin s' g3).2, g4⟩
  | panic d =>
    obtain ⟨v, rfl, hr⟩ := h1
    obtain ⟨d', s', g2, g3, g4⟩ := h4
    exact ⟨h2.defers, M', s', .pan d', ⟨v, rfl, g2 _ _ _ hr⟩, (fin s' g3).1, (fin s' g3).2, g4⟩
  | exit id => exact h4.elim
  | goto l => exact h4.elim
end
section
variable {P : Program} {N : Nat} {M : MMap} {T : Env} {σ : St} {a : Act} {w : World} {K : Env → St → Prop} {Q : XA → Env → St → Prop}
variable [DSt]
end
end Go.AL
namespace Go.AL
section
variable {P : Program} {N : Nat}
variable [DSt]
end
section
variable {P : Program} {N : Nat}
end
section
variable {P : Program} {N : Nat}
variable [DSt]
theorem upd_app (T : Env) (t : Nat) (d : D) (u : Nat) : upd T t d u = if u = t then d else T u := rfl
end
end Go.AL
namespace Go.AL
section
variable {P : Program} {N : Nat} {T : Env} {σ : St} {K K' : Env → St → Prop} {Q : XA → Env → St → Prop}
def opndsOf (op : Op) : List Operand := op.operands.toList
theorem upd_comm (T : Env) {t u : Nat} (h : t ≠ u) (x y : D) : upd (upd T t x) u y = upd (upd T u y) t x := by
  funext v
  simp only [upd]
  by_cases h1 : v = u <;> by_cases h2 : v = t <;> simp_all
theorem ev_upd {T : Env} {t : Nat} {d : D} {x : Operand} (h : x ≠ .tmp t) : ev (upd T t d) x = ev T x := by
  cases x with
  | tmp u =>
    have : u ≠ t := fun he => h (by rw [he])
    simp [ev, upd, this]
  | _ => rfl
theorem ev_map {T : Env} {t : Nat} {d : D} {l : List Operand} (h : ∀ x ∈ l, x ≠ .tmp t) : l.map (ev (upd T t d)) = l.map (ev T) :=
  List.map_congr_left fun x hx => ev_upd (h x hx)
theorem putK_env {t : Nat} {d v : D} {dst : Option Nat} (hd : dst ≠ some t) : putK N dst v K (upd T t d) σ = putK N dst v (fun T' σ' => K (upd T' t d) σ') T σ := by
  cases dst with
  | none => rfl
  | some u =>
    have : t ≠ u := fun he => hd (by rw [he])
    simp only [putK, upd_comm T this]
theorem fillD_env {place : Nat → Option (Nat × TypeId)} {fz : D → D} {t : Nat} {d : D} : ∀ (parts : List (Nat × Operand)) (cells : List D), (∀ p ∈ parts, p.2 ≠ .tmp t) → fillD place P (upd T t d) fz parts cells = fillD place P T fz parts cells
  | [], _, _ => rfl
  | (i, x) :: rest, cells, h => by
    simp only [fillD, ev_upd (h (i, x) (by simp))]
    cases hp : place i with
    | none => rfl
    | some p =>
      obtain ⟨off, ty⟩ := p
      cases hc : cellsD P ty (ev T x) with
      | none => simp [hc]
      | some cs =>
        simp only [hc]
        split
        · exact fillD_env rest _ fun p hp => h p (by simp [hp])
        · rfl
theorem pureD_env {op : Op} {t : Nat} {d : D} (h : ∀ x ∈ opndsOf op, x ≠ .tmp t) : pureD P op (upd T t d) = pureD P op T := by
  cases op <;> simp only [opndsOf, Op.operands] at h
  case build ty parts =>
    have hp : ∀ p ∈ parts.toList, p.2 ≠ .tmp t := fun p hp => h p.2 (by simp; exact ⟨p.1, by simpa using hp⟩)
    simp only [pureD, fillD_env _ _ hp]
  case makeFunc fn first captured =>
    have h1 := ev_map (T := T) (t := t) (d := d) (l := first.toList) fun x hx => h x (by simp only [Array.toList_append, List.mem_append]; exact .inl hx)
    have h2 := ev_map (T := T) (t := t) (d := d) (l := captured.toList) fun x hx => h x (by simp only [Array.toList_append, List.mem_append]; exact .inr hx)
    simp only [pureD, h1, h2]
  case slice ty x lo hi mx =>
    have h0 := ev_upd (T := T) (d := d) (h x (by simp))
    have h1 : ∀ l, lo = some l → ev (upd T t d) l = ev T l := fun l hl => ev_upd (h l (by simp [hl]))
    have h2 : ∀ l, hi = some l → ev (upd T t d) l = ev T l := fun l hl => ev_upd (h l (by simp [hl]))
    cases mx with
    | some m => simp only [pureD]
    | none => cases lo <;> cases hi <;> simp only [pureD, h0] <;> simp_all
  case call c =>
    obtain ⟨callee, args, argTypes⟩ := c
    cases callee with
    | value f => simp only [pureD]
    | invoke r m => simp only [pureD]
    | builtin b =>
      have ha : ∀ x ∈ args.toList, ev (upd T t d) x = ev T x := fun x hx => ev_upd (h x (by simp only [Call.operands, Array.toList_append, List.mem_append]; exact .inr hx))
      cases b <;> simp only [pureD] <;> (split <;> first | rfl | (rename_i hl; simp_all))
  all_goals first
    | (simp only [pureD]; done)
    | (simp at h; simp only [pureD]; simp_all [ev_upd])
theorem callA_env {t : Nat} {d : D} {dst : Option Nat} (hd : dst ≠ some t) {g : FuncId} {ds : List D} : callA P N dst g ds K Q (upd T t d) σ ↔ callA P N dst g ds (fun T' σ' => K (upd T' t d) σ') Q T σ := by
  simp only [callA, putK_env hd]
theorem appendA_env {t : Nat} {d : D} {dst : Option Nat} (hd : dst ≠ some t) {ty ty' : TypeId} {x y : D} : appendA P N dst ty ty' x y K (upd T t d) σ ↔ appendA P N dst ty ty' x y (fun T' σ' => K (upd T' t d) σ') T σ := by
  simp only [appendA, putK_env hd]
theorem copyA_env {t : Nat} {d : D} {dst : Option Nat} (hd : dst ≠ some t) {ty : TypeId} {x y : D} : copyA P N dst ty x y K (upd T t d) σ ↔ copyA P N dst ty x y (fun T' σ' => K (upd T' t d) σ') T σ := by
  simp only [copyA, putK_env hd]
theorem aop_env {t : Nat} {d : D} {dst : Option Nat} {op : Op} (h : ∀ x ∈ opndsOf op, x ≠ .tmp t) (hd : dst ≠ some t) :
    aop P N dst op K Q (upd T t d) σ ↔ aop P N dst op (fun T' σ' => K (upd T' t d) σ') Q T σ := by
  have hp := pureD_env (P := P) (T := T) (d := d) h
  have hk := fun v σ => putK_env (N := N) (T := T) (σ := σ) (K := K) (d := d) (v := v) hd
  unfold aop
  cases op
  case call c =>
    obtain ⟨callee, args, argTypes⟩ := c
    simp only [opndsOf, Op.operands, Call.operands] at h
    have ha : ∀ x ∈ args.toList, x ≠ .tmp t := fun x hx => h x (by simp only [Array.toList_append, List.mem_append]; exact .inr hx)
    cases callee with
    | value f =>
      have hf := ev_upd (T := T) (d := d) (h f (by simp))
      simp only [hf, ev_map ha, callA_env hd]
    | invoke r m => simp only [hp, hk]
    | builtin b =>
      cases b
      case append =>
        simp only
        split
        · rename_i x y t1 t2 hx hy
          rw [ev_upd (ha x (by simp [hx])), ev_upd (ha y (by simp [hx])), appendA_env hd]
        · rfl
      case copy =>
        simp only
        split
        · rename_i x y t1 t2 hx hy
          rw [ev_upd (ha x (by simp [hx])), ev_upd (ha y (by simp [hx])), copyA_env hd]
        · rfl
      all_goals simp only [hp, hk]
  case makeSlice ty l c =>
    simp only [opndsOf, Op.operands] at h
    have hl := ev_upd (T := T) (d := d) (h l (by simp))
    have hc := ev_upd (T := T) (d := d) (h c (by simp))
    simp only [hl, hc, hk]
  case load ty x =>
    simp only [opndsOf, Op.operands] at h
    have hx := ev_upd (T := T) (d := d) (h x (by simp))
    simp only [hx, hk]
  case store ty x y =>
    simp only [opndsOf, Op.operands] at h
    have hx := ev_upd (T := T) (d := d) (h x (by simp))
    have hy := ev_upd (T := T) (d := d) (h y (by simp))
    simp only [hx, hy, hk]
  case alloc ty => simp only [hk]
  case box ty x =>
    simp only [opndsOf, Op.operands] at h
    have hx := ev_upd (T := T) (d := d) (h x (by simp))
    simp only [hx, hk]
  case buildSlice ty len parts =>
    simp only [opndsOf, Op.operands] at h
    have hpp : ∀ p ∈ parts.toList, p.2 ≠ .tmp t := fun p hp => h p.2 (by simp; exact ⟨p.1, by simpa using hp⟩)
    simp only [hk, fillD_env _ _ hpp]
  case panic x =>
    simp only [opndsOf, Op.operands] at h
    have hx := ev_upd (T := T) (d := d) (h x (by simp))
    simp only [hx]
  case binOp bop xt x y yt =>
    simp only [opndsOf, Op.operands] at h
    have hx := ev_upd (T := T) (d := d) (h x (by simp))
    have hy := ev_upd (T := T) (d := d) (h y (by simp))
    simp only [binA, hx, hy, hk]
  all_goals simp only [hp, hk]
theorem putK_mono {dst : Option Nat} {v : D} (h : putK N dst v K T σ) (hk : K (aput T dst v) σ → K' (aput T dst v) σ) : putK N dst v K' T σ := by
  cases dst with
  | none => exact hk h
  | some t => exact ⟨h.1, hk h.2⟩
end
end Go.AL
namespace Go.AL
section
variable {P : Program} {N : Nat} {T : Env} {σ : St} {K K' : Env → St → Prop} {Q : XA → Env → St → Prop} {B : List Nat}
abbrev Tr := (Env → St → Prop) → Env → St → Prop
def good (B : List Nat) (σ : St) : Prop := σ.fin ∧ ∀ b ∈ B, σ.box b ≠ none
def keepB (B : List Nat) (σ σ' : St) : Prop := ∀ b ∈ B, σ'.box b = σ.box b
def keepA (σ σ' : St) : Prop := ∀ b, σ.box b ≠ none → σ'.box b = σ.box b
theorem keepA.toB {σ σ' : St} (h : keepA σ σ') (hg : good B σ) : keepB B σ σ' := fun b hb => h b (hg.2 b hb)
theorem keepB.good {σ σ' : St} (h : keepB B σ σ') (hg : good B σ) (hf : σ'.fin) : good B σ' := ⟨hf, fun b hb => by rw [h b hb]; exact hg.2 b hb⟩
theorem fin_set {σ : St} (h : σ.fin) (b : Nat) (cs : List D) : (σ.set b cs).fin := by
  obtain ⟨n, hn⟩ := h
  refine ⟨n + b + 1, fun x hx hin => hn x (by omega) ?_⟩
  rcases hin with hin | hin
  · simp only [St.set, show x ≠ b by omega, if_false] at hin; exact .inl hin
  · exact .inr hin
theorem fin_setBuf {σ : St} (h : σ.fin) (b s n : Nat) : (σ.setBuf b s n).fin := by
  obtain ⟨m, hn⟩ := h
  refine ⟨m + b + 1, fun x hx hin => hn x (by omega) ?_⟩
  rcases hin with hin | hin
  · exact .inl hin
  · simp only [St.setBuf, show x ≠ b by omega, if_false] at hin; exact .inr hin
theorem fin_dropBuf {σ : St} (h : σ.fin) (b : Nat) : (σ.dropBuf b).fin := by
  obtain ⟨m, hn⟩ := h
  exact ⟨m, fun x hx hin => hn x hx (dropBuf_has hin)⟩
theorem fin_join {s fr : St} (h : s.fin) (h' : fr.fin) : (St.join s fr).fin := by
  obtain ⟨m, hm⟩ := h
  obtain ⟨n, hn⟩ := h'
  refine ⟨m + n, fun x hx hin => ?_⟩
  rcases (join_has x).1 hin with h1 | h1
  · exact hm x (by omega) h1
  · exact hn x (by omega) h1
theorem fin_right {s fr : St} (h : (St.join s fr).fin) : fr.fin := by
  obtain ⟨m, hm⟩ := h
  exact ⟨m, fun x hx hin => hm x hx ((join_has x).2 (.inr hin))⟩
theorem fin_fresh {σ : St} (h : σ.fin) (x : Nat) : ∃ b, ¬ σ.has b ∧ b ≠ x := by
  obtain ⟨n, hn⟩ := h
  exact ⟨n + x + 1, hn _ (by omega), by omega⟩
def FrameT (f : Tr) (dst : Option Nat) (looks : List Nat) : Prop :=
  ∀ (K : Env → St → Prop) (T : Env) (σ : St) (t : Nat) (d : D), t ∉ looks → dst ≠ some t → (f K (upd T t d) σ ↔ f (fun T' σ' => K (upd T' t d) σ') T σ)
def MonoT (keep : St → St → Prop) (B : List Nat) (f : Tr) (dst : Option Nat) : Prop :=
  ∀ (K K' : Env → St → Prop) (T : Env) (σ : St), good B σ → f K T σ → (∀ v σ', keep σ σ' → good B σ' → K (aput T dst v) σ' → K' (aput T dst v) σ') → f K' T σ
def ExT (keep : St → St → Prop) (kA : Prop) (B : List Nat) (f : Tr) (dst : Option Nat) : Prop :=
  ∀ (K : Env → St → Prop) (T : Env) (σ : St), good B σ → f K T σ → ∀ x, ∃ v σ', keep σ σ' ∧ (kA → σ'.box x = σ.box x) ∧ good B σ' ∧ K (aput T dst v) σ'
def DetT (N : Nat) (f : Tr) (dst : Option Nat) (looks : List Nat) (det : Env → Option (Prop × D)) : Prop :=
  (∀ K T σ, f K T σ ↔ match det T with | some (side, d) => side ∧ putK N dst d K T σ | none => False) ∧ ∀ T t d, t ∉ looks → det (upd T t d) = det T
def LoadT (N : Nat) (f : Tr) (dst : Option Nat) (looks : List Nat) (which : Env → Option Nat) (det : Env → St → Option D) : Prop :=
  (∀ K T σ, f K T σ ↔ match det T σ with | some d => putK N dst d K T σ | none => False) ∧ (∀ T t d σ, t ∉ looks → det (upd T t d) σ = det T σ ∧ which (upd T t d) = which T) ∧
  ∀ T σ σ', (∀ b, which T = some b → σ'.box b = σ.box b) → det T σ' = det T σ
def notIn (dst : Option Nat) (looks : List Nat) : Prop := ∀ t, dst = some t → t ∉ looks
theorem frame_aput {f : Tr} {dst : Option Nat} {looks : List Nat} (h : FrameT f dst looks) {dx : Option Nat} {d : D} (h1 : notIn dx looks) (h2 : ∀ t, dx = some t → dst ≠ some t) :
    f K (aput T dx d) σ ↔ f (fun T' σ' => K (aput T' dx d) σ') T σ := by
  cases dx with
  | none => exact Iff.rfl
  | some t => exact h K T σ t d (h1 t rfl) (h2 t rfl)
theorem putK_aput {dst : Option Nat} {d : D} : putK N dst d K T σ ↔ (∀ t, dst = some t → t < N) ∧ K (aput T dst d) σ := by
  cases dst <;> simp [putK, aput]
theorem det_aput {f : Tr} {dst : Option Nat} {looks : List Nat} {det : Env → Option (Prop × D)} (h : DetT N f dst looks det) {dx : Option Nat} {d : D} (h1 : notIn dx looks) : det (aput T dx d) = det T := by
  cases dx with
  | none => rfl
  | some t => exact h.2 T t d (h1 t rfl)
theorem load_aput {f : Tr} {dst : Option Nat} {looks : List Nat} {which : Env → Option Nat} {det : Env → St → Option D} (h : LoadT N f dst looks which det) {dx : Option Nat} {d : D} (h1 : notIn dx looks) :
    det (aput T dx d) σ = det T σ ∧ which (aput T dx d) = which T := by
  cases dx with
  | none => exact ⟨rfl, rfl⟩
  | some t => exact h.2.1 T t d σ (h1 t rfl)
structure ApartT (dx dy : Option Nat) (lx ly : List Nat) : Prop where
  xy : notIn dx ly
  yx : notIn dy lx
  ne : ∀ t, dx = some t → dy ≠ some t
theorem ApartT.ne' {dx dy : Option Nat} {lx ly : List Nat} (h : ApartT dx dy lx ly) : ∀ t, dy = some t → dx ≠ some t := fun t hy hx => h.ne t hx hy
theorem swap_det_any {f g : Tr} {dx dy : Option Nat} {lx ly : List Nat} {det : Env → Option (Prop × D)} (hap : ApartT dx dy lx ly) (hx : DetT N f dx lx det) (hfy : FrameT g dy ly) {keep : St → St → Prop} (hmy : MonoT keep B g dy)
    (hg : good B σ) (h : f (fun T' σ' => good B σ' → g K T' σ') T σ) : g (fun T' σ' => good B σ' → f K T' σ') T σ := by
  rw [hx.1] at h
  split at h
  · rename_i side d hd
    obtain ⟨hs, h⟩ := h
    obtain ⟨hn, h⟩ := putK_aput.1 h
    have h1 := (frame_aput hfy hap.xy hap.ne).1 (h hg)
    refine hmy _ _ _ _ hg h1 fun v σ' _ hg' hk _ => ?_
    rw [hx.1, det_aput hx hap.yx, hd]
    exact ⟨hs, putK_aput.2 ⟨hn, hk⟩⟩
  · exact h.elim
theorem swap_any_det {f g : Tr} {dx dy : Option Nat} {lx ly : List Nat} {det : Env → Option (Prop × D)} (hap : ApartT dx dy lx ly) (hfx : FrameT f dx lx) {keep : St → St → Prop} {kA : Prop} (hmx : MonoT keep B f dx) (hex : ExT keep kA B f dx)
    (hy : DetT N g dy ly det) (hg : good B σ) (h : f (fun T' σ' => good B σ' → g K T' σ') T σ) : g (fun T' σ' => good B σ' → f K T' σ') T σ := by
  obtain ⟨v, σ', _, _, hg', h1⟩ := hex _ _ _ hg h 0
  have h2 := h1 hg'
  rw [hy.1, det_aput hy hap.xy] at h2
  rw [hy.1]
  cases hd : det T with
  | none => rw [hd] at h2; exact h2.elim
  | some p =>
    obtain ⟨side, d⟩ := p
    rw [hd] at h2
    obtain ⟨hs, h2⟩ := h2
    have hn := (putK_aput.1 h2).1
    refine ⟨hs, putK_aput.2 ⟨hn, fun _ => ?_⟩⟩
    refine (frame_aput hfx hap.yx hap.ne').2 (hmx _ _ _ _ hg h fun u σ₁ _ hg₁ hk => ?_)
    have h3 := hk hg₁
    rw [hy.1, det_aput hy hap.xy, hd] at h3
    exact (putK_aput.1 h3.2).2
theorem swap_load_any {f g : Tr} {dx dy : Option Nat} {lx ly : List Nat} {which : Env → Option Nat} {det : Env → St → Option D} (hap : ApartT dx dy lx ly) (hx : LoadT N f dx lx which det) (hfy : FrameT g dy ly) {keep : St → St → Prop} (hmy : MonoT keep B g dy)
    (hkeep : ∀ σ', good B σ → f (fun _ _ => True) T σ → keep σ σ' → ∀ b, which T = some b → σ'.box b = σ.box b)
    (hg : good B σ) (h : f (fun T' σ' => good B σ' → g K T' σ') T σ) : g (fun T' σ' => good B σ' → f K T' σ') T σ := by
  have h' := h
  rw [hx.1] at h
  split at h
  · rename_i d hd
    obtain ⟨hn, h⟩ := putK_aput.1 h
    have htrue : f (fun _ _ => True) T σ := by rw [hx.1, hd]; exact putK_aput.2 ⟨hn, trivial⟩
    have h1 := (frame_aput hfy hap.xy hap.ne).1 (h hg)
    refine hmy _ _ _ _ hg h1 fun v σ' hk hg' hK _ => ?_
    rw [hx.1, (load_aput hx hap.yx).1, hx.2.2 T σ σ' (hkeep σ' hg htrue hk), hd]
    exact putK_aput.2 ⟨hn, hK⟩
  · exact h.elim
theorem swap_any_load {f g : Tr} {dx dy : Option Nat} {lx ly : List Nat} {which : Env → Option Nat} {det : Env → St → Option D} (hap : ApartT dx dy lx ly) (hfx : FrameT f dx lx) {keep : St → St → Prop} {kA : Prop} (hmx : MonoT keep B f dx) (hex : ExT keep kA B f dx)
    (hy : LoadT N g dy ly which det) (hout : ∀ σ' d, keep σ σ' → (kA → σ'.box ((which T).getD 0) = σ.box ((which T).getD 0)) → det T σ' = some d → ∀ b, which T = some b → σ'.box b = σ.box b)
    (hkeep : ∀ σ' d, keep σ σ' → det T σ = some d → ∀ b, which T = some b → σ'.box b = σ.box b)
    (hg : good B σ) (h : f (fun T' σ' => good B σ' → g K T' σ') T σ) : g (fun T' σ' => good B σ' → f K T' σ') T σ := by
  obtain ⟨v, σ', hk, hbx, hg', h1⟩ := hex _ _ _ hg h ((which T).getD 0)
  have h2 := h1 hg'
  rw [hy.1, (load_aput hy hap.xy).1] at h2
  have heq : ∀ b, which T = some b → σ'.box b = σ.box b := by
    cases hd : det T σ' with
    | none => rw [hd] at h2; exact h2.elim
    | some d => exact hout σ' d hk hbx hd
  rw [hy.2.2 T σ σ' heq] at h2
  rw [hy.1]
  cases hd : det T σ with
  | none => rw [hd] at h2; exact h2.elim
  | some d =>
    rw [hd] at h2
    have hn := (putK_aput.1 h2).1
    refine putK_aput.2 ⟨hn, fun _ => ?_⟩
    refine (frame_aput hfx hap.yx hap.ne').2 (hmx _ _ _ _ hg h fun u σ₁ hk₁ hg₁ hK => ?_)
    have h3 := hK hg₁
    rw [hy.1, (load_aput hy hap.xy).1, hy.2.2 T σ σ₁ (hkeep σ₁ d hk₁ hd), hd] at h3
    exact (putK_aput.1 h3).2
end
end Go.AL
namespace Go.AL
structure AO where
  d : Option Nat
  op : Op
  g : Option (Nat × Bool)
inductive Kd where
  | F | L | A | C | X
  deriving DecidableEq
def kd : Op → Kd
  | .load _ _ => .L
  | .alloc _ | .box _ _ => .A
  | .store _ _ _ => .C
  | .call { callee := .value _, .. } => .C
  | .call { callee := .builtin .append, .. } => .C
  | .call { callee := .builtin .len, .. } | .call { callee := .builtin .min, .. } | .call { callee := .builtin .max, .. } => .F
  | .binOp _ _ _ y _ => if nilOpnd y then .X else .F
  | .move _ | .assign _ | .pick _ _ _ | .unOp _ _ _ | .convert _ _ _ | .makeInterface _ _ | .makeFunc _ _ _ | .extract _ _ | .field _ _ _ | .fieldAddr _ _ _ | .indexAddr _ _ _ | .index _ _ _ | .nilCheck _
  | .build _ _ | .buildSlice _ _ _ | .makeSlice _ _ _ | .slice _ _ _ _ _ => .F
  | _ => .X
def tmpsOf (op : Op) : List Nat := (opndsOf op).filterMap fun | .tmp t => some t | _ => none
def looksO (o : AO) : List Nat := (match o.g with | some (t, _) => [t] | none => []) ++ tmpsOf o.op
theorem tmpsOf_ne {op : Op} {t : Nat} (h : t ∉ tmpsOf op) : ∀ x ∈ opndsOf op, x ≠ .tmp t := fun x hx he => h (by
  subst he
  exact List.mem_filterMap.2 ⟨_, hx, rfl⟩)
section
variable {P : Program} {N : Nat} {T : Env} {σ : St} {K K' : Env → St → Prop} {Q : XA → Env → St → Prop} {B : List Nat}
def callB (P : Program) (N : Nat) (B : List Nat) (st : Bool) (dst : Option Nat) (g : FuncId) (ds : List D) (K : Env → St → Prop) (Q : XA → Env → St → Prop) (T : Env) (σ : St) : Prop :=
  ∃ s fr R, St.split σ s fr ∧ (∀ b ∈ B, ¬ s.has b) ∧ ACall P g ds s R ∧ (st = true → (∃ d s', R (.ret d) s' ∧ (∀ b, s'.has b → s.has b) ∧ St.fin s') ∧ ∀ d s', ¬ R (.pan d) s') ∧
    ∀ x s', R x s' → St.apart s' fr → St.fin s' → match x with
      | .ret d => putK N dst d K T (St.join s' fr)
      | .pan d => panK Q d (St.join s' fr)
def dcore (P : Program) (N : Nat) (B : List Nat) (fl st : Bool) (o : AO) (Q : XA → Env → St → Prop) : Tr := fun K T σ =>
  match o.op with
  | .load t x => match ev T x with
    | .ptr b off => (fl = true → b ∈ B) ∧ aop P N o.d (.load t x) K Q T σ
    | _ => aop P N o.d (.load t x) K Q T σ
  | .store t x v => match ev T x with
    | .ptr b off => b ∉ B ∧ aop P N o.d (.store t x v) K Q T σ
    | _ => False
  | .call { callee := .value f, args, .. } => match ev T f with
    | .func (.func g) fi ca => callB P N B st o.d g (fi ++ args.toList.map (ev T) ++ ca) K Q T σ
    | _ => False
  | op => aop P N o.d op K Q T σ
def dop (P : Program) (N : Nat) (B : List Nat) (fl st : Bool) (o : AO) (Q : XA → Env → St → Prop) : Tr := fun K T σ =>
  match o.g with
  | none => dcore P N B fl st o Q K T σ
  | some (t, w) => match gq (T t) w with
    | some c => br c (dcore P N B fl st o Q K T σ) (putK N o.d (.tup []) K T σ)
    | none => False
theorem callB_callA {st : Bool} {dst : Option Nat} {g : FuncId} {ds : List D} (h : callB P N B st dst g ds K Q T σ) : callA P N dst g ds K Q T σ := by
  obtain ⟨s, fr, R, h1, _, h2, _, h3⟩ := h
  exact ⟨s, fr, R, h1, h2, h3⟩
theorem dcore_aop {fl st : Bool} {o : AO} (h : dcore P N B fl st o Q K T σ) : aop P N o.d o.op K Q T σ := by
  obtain ⟨d, op, g⟩ := o
  unfold dcore at h
  simp only at h ⊢
  split at h
  · split at h
    · exact h.2
    · exact h
  · split at h
    · exact h.2
    · exact h.elim
  · split at h
    · rename_i hf
      simp only [aop, hf]
      exact callB_callA h
    · exact h.elim
  · exact h
def detF (P : Program) (op : Op) (T : Env) : Option (Prop × D) :=
  match op with
  | .binOp bop xt x y _ => binD P bop xt (ev T x) (ev T y)
  | .buildSlice t len parts => match sliP P t with
    | some e => match szP P e, zc1 P e with
      | some s, some z => match fillD (fun i => some (i * s, e)) P T frz parts.toList (List.replicate len z).flatten with
        | some cs => some (z.length = s ∧ len * s ≤ 16777216, .slice .exact (chunks s len cs))
        | none => none
      | _, _ => none
    | none => none
  | .makeSlice t l c => makeA P t (ev T l) (ev T c)
  | op => pureD P op T
theorem detF_env {op : Op} {t : Nat} {d : D} (h : t ∉ tmpsOf op) : detF P op (upd T t d) = detF P op T := by
  have hne := tmpsOf_ne h
  have hp := pureD_env (P := P) (T := T) (d := d) hne
  cases op <;> first
    | exact hp
    | skip
  case makeSlice ty l c =>
    simp only [opndsOf, Op.operands] at hne
    simp only [detF, ev_upd (hne l (by simp)), ev_upd (hne c (by simp))]
  case buildSlice ty len parts =>
    simp only [opndsOf, Op.operands] at hne
    have hpp : ∀ p ∈ parts.toList, p.2 ≠ .tmp t := fun p hp => hne p.2 (by simp; exact ⟨p.1, by simpa using hp⟩)
    simp only [detF, fillD_env _ _ hpp]
theorem kdF_eq {fl st : Bool} {o : AO} (h : kd o.op = .F) : dcore P N B fl st o Q K T σ ↔ match detF P o.op T with | some (side, d) => side ∧ putK N o.d d K T σ | none => False := by
  obtain ⟨dst, op, g⟩ := o
  simp only at h
  cases op <;> simp only [kd, reduceCtorEq] at h <;> try exact Iff.rfl
  case binOp bop xt x y yt =>
    split at h
    · cases h
    · rename_i hn
      have hn' : nilOpnd y = false := by simpa using hn
      simp only [dcore, aop, binA, hn', detF] <;> exact Iff.rfl
  case buildSlice t len parts =>
    simp only [dcore, aop, detF]
    cases sliP P t with
    | none => exact Iff.rfl
    | some e =>
      simp only
      cases szP P e with
      | none => exact Iff.rfl
      | some s =>
        cases zc1 P e with
        | none => exact Iff.rfl
        | some z =>
          simp only
          cases fillD (fun i => some (i * s, e)) P T frz parts.toList (List.replicate len z).flatten with
          | none => simp
          | some cs => simp only [and_assoc]
  case call c =>
    obtain ⟨callee, args, argTypes⟩ := c
    cases callee with
    | value f => simp only [kd] at h; cases h
    | invoke r m => simp only [kd] at h; cases h
    | builtin b =>
      cases b <;> first
        | exact Iff.rfl
        | (simp only [kd] at h; cases h)
def detG (P : Program) (o : AO) (T : Env) : Option (Prop × D) :=
  match o.g with
  | none => detF P o.op T
  | some (t, w) => match gq (T t) w with
    | some c => if c = true then detF P o.op T else some (True, .tup [])
    | none => none
theorem looks_tmps {o : AO} {t : Nat} (h : t ∉ looksO o) : t ∉ tmpsOf o.op := fun h' => h (List.mem_append.2 (.inr h'))
theorem looks_guard {o : AO} {t u : Nat} {w : Bool} (h : t ∉ looksO o) (hg : o.g = some (u, w)) : u ≠ t := fun he => h (by simp [looksO, hg, he])
theorem det_dop {fl st : Bool} {o : AO} (h : kd o.op = .F) : DetT N (dop P N B fl st o Q) o.d (looksO o) (detG P o) := by
  refine ⟨fun K T σ => ?_, fun T t d ht => ?_⟩
  · unfold dop detG
    cases hg : o.g with
    | none => exact kdF_eq h
    | some p =>
      obtain ⟨t, w⟩ := p
      simp only
      cases hT : gq (T t) w <;> try exact Iff.rfl
      rename_i b
      simp only [br]
      by_cases hb : b = true
      · rw [if_pos hb, if_pos hb]; exact kdF_eq h
      · rw [if_neg hb, if_neg hb]; simp
  · unfold detG
    cases hg : o.g with
    | none => exact detF_env (looks_tmps ht)
    | some p =>
      obtain ⟨u, w⟩ := p
      have hu : upd T t d u = T u := by simp [upd, looks_guard ht hg]
      simp only [hu, detF_env (looks_tmps ht)]
theorem callB_env {t : Nat} {d : D} {dst : Option Nat} (hd : dst ≠ some t) {st : Bool} {g : FuncId} {ds : List D} : callB P N B st dst g ds K Q (upd T t d) σ ↔ callB P N B st dst g ds (fun T' σ' => K (upd T' t d) σ') Q T σ := by
  simp only [callB, putK_env hd]
theorem dcore_env {fl st : Bool} {o : AO} {t : Nat} {d : D} (h : t ∉ tmpsOf o.op) (hd : o.d ≠ some t) : dcore P N B fl st o Q K (upd T t d) σ ↔ dcore P N B fl st o Q (fun T' σ' => K (upd T' t d) σ') T σ := by
  obtain ⟨dst, op, g⟩ := o
  have hne := tmpsOf_ne h
  simp only at hd hne
  have ha := aop_env (P := P) (N := N) (K := K) (Q := Q) (T := T) (σ := σ) (d := d) hne hd
  cases op <;> try exact ha
  case load ty x =>
    simp only [opndsOf, Op.operands] at hne
    have hx := ev_upd (T := T) (d := d) (hne x (by simp))
    simp only [dcore, hx, ha]
  case store ty x y =>
    simp only [opndsOf, Op.operands] at hne
    have hx := ev_upd (T := T) (d := d) (hne x (by simp))
    simp only [dcore, hx, ha]
  case call c =>
    obtain ⟨callee, args, argTypes⟩ := c
    cases callee with
    | value f =>
      simp only [opndsOf, Op.operands, Call.operands] at hne
      have hf := ev_upd (T := T) (d := d) (hne f (by simp))
      have har : ∀ x ∈ args.toList, x ≠ .tmp t := fun x hx => hne x (by simp only [Array.toList_append, List.mem_append]; exact .inr hx)
      simp only [dcore, hf, ev_map har, callB_env hd]
    | invoke r m => exact ha
    | builtin b => exact ha
theorem frame_dop {fl st : Bool} {o : AO} : FrameT (dop P N B fl st o Q) o.d (looksO o) := by
  intro K T σ t d ht hd
  unfold dop
  cases hg : o.g with
  | none => exact dcore_env (looks_tmps ht) hd
  | some p =>
    obtain ⟨u, w⟩ := p
    have hu : upd T t d u = T u := by simp [upd, looks_guard ht hg]
    simp only [hu]
    cases gq (T u) w <;> try exact Iff.rfl
    simp only [br, dcore_env (looks_tmps ht) hd, putK_env hd]
end
end Go.AL
namespace Go.AL
section
variable {P : Program} {N : Nat} {T : Env} {σ : St} {K K' : Env → St → Prop} {Q : XA → Env → St → Prop} {B : List Nat}
def whichL (o : AO) (T : Env) : Option Nat :=
  let w := match o.op with
    | .load _ x => match ev T x with
      | .ptr b _ => some b
      | _ => none
    | _ => none
  match o.g with
  | none => w
  | some (t, want) => match gq (T t) want with
    | some c => if c = true then w else none
    | none => none
def detL (P : Program) (fl : Bool) (B : List Nat) (o : AO) (T : Env) (σ : St) : Option D :=
  let r := match o.op with
    | .load t x => match ev T x with
      | .ptr b off => if fl = true → b ∈ B then match σ.box b with
        | some cs => partD P t (cs.drop off) 0
        | none => none
        else none
      | .eptr cs => partD P t cs 0
      | _ => none
    | _ => none
  match o.g with
  | none => r
  | some (t, want) => match gq (T t) want with
    | some c => if c = true then r else some (.tup [])
    | none => none
theorem load_core {fl st : Bool} {dst : Option Nat} {g : Option (Nat × Bool)} {t : TypeId} {x : Operand} : dcore P N B fl st ⟨dst, .load t x, g⟩ Q K T σ ↔
    match (match ev T x with
      | .ptr b off => if fl = true → b ∈ B then match σ.box b with
        | some cs => partD P t (cs.drop off) 0
        | none => none
        else none
      | .eptr cs => partD P t cs 0
      | _ => none) with | some d => putK N dst d K T σ | none => False := by
  simp only [dcore, aop]
  cases ev T x <;> try exact Iff.rfl
  rename_i b off
  simp only
  by_cases hb : fl = true → b ∈ B
  · rw [if_pos hb]
    cases σ.box b with
    | none => simp
    | some cs => exact ⟨fun h => h.2, fun h => ⟨hb, h⟩⟩
  · rw [if_neg hb]
    simp [hb]
theorem load_dop {fl st : Bool} {o : AO} (h : kd o.op = .L) : LoadT N (dop P N B fl st o Q) o.d (looksO o) (whichL o) (detL P fl B o) := by
  obtain ⟨dst, op, g⟩ := o
  cases op <;> simp only [kd, reduceCtorEq] at h
  case binOp => split at h <;> cases h
  case call c =>
    obtain ⟨callee, args, argTypes⟩ := c
    cases callee with
    | builtin b => cases b <;> simp only [kd, reduceCtorEq] at h
    | _ => simp only [kd, reduceCtorEq] at h
  case load t x =>
    refine ⟨fun K T σ => ?_, fun T u d σ hu => ?_, fun T σ σ' hs => ?_⟩
    · cases g with
      | none => exact load_core (st := st)
      | some p =>
        obtain ⟨u, w⟩ := p
        simp only [dop, detL]
        cases hT : gq (T u) w <;> try exact Iff.rfl
        rename_i b
        simp only [br]
        by_cases hb : b = true
        · simp only [hb, if_true]; exact load_core (st := st)
        · simp only [hb, if_false]; exact Iff.rfl
    · have hx : ev (upd T u d) x = ev T x := ev_upd (tmpsOf_ne (looks_tmps hu) x (by simp [opndsOf, Op.operands]))
      cases g with
      | none => simp only [detL, whichL, hx, and_self]
      | some p =>
        obtain ⟨v, w⟩ := p
        have hv : upd T u d v = T v := by simp [upd, looks_guard hu rfl]
        simp only [detL, whichL, hx, hv, and_self]
    · have key : ∀ b, (match ev T x with | .ptr b _ => some b | _ => none) = some b → σ'.box b = σ.box b → (match ev T x with
          | .ptr b off => if fl = true → b ∈ B then match σ'.box b with
            | some cs => partD P t (cs.drop off) 0
            | none => none
            else none
          | .eptr cs => partD P t cs 0
          | _ => none) = (match ev T x with
          | .ptr b off => if fl = true → b ∈ B then match σ.box b with
            | some cs => partD P t (cs.drop off) 0
            | none => none
            else none
          | .eptr cs => partD P t cs 0
          | _ => none) := by
        intro b hb hs
        cases hx : ev T x <;> simp only [hx, reduceCtorEq, Option.some.injEq] at hb
        subst hb
        simp only [hs]
      have key' : (∀ b, (match ev T x with | .ptr b _ => some b | _ => none) = some b → σ'.box b = σ.box b) → (match ev T x with
          | .ptr b off => if fl = true → b ∈ B then match σ'.box b with
            | some cs => partD P t (cs.drop off) 0
            | none => none
            else none
          | .eptr cs => partD P t cs 0
          | _ => none) = (match ev T x with
          | .ptr b off => if fl = true → b ∈ B then match σ.box b with
            | some cs => partD P t (cs.drop off) 0
            | none => none
            else none
          | .eptr cs => partD P t cs 0
          | _ => none) := by
        intro hs
        cases hx : ev T x <;> try rfl
        rename_i b off
        have := key b (by rw [hx]) (hs b (by rw [hx]))
        rw [hx] at this
        exact this
      cases g with
      | none =>
        simp only [detL, whichL] at hs ⊢
        exact key' hs
      | some p =>
        obtain ⟨v, w⟩ := p
        simp only [detL, whichL] at hs ⊢
        cases hT : gq (T v) w <;> try rfl
        rename_i b
        simp only [hT] at hs ⊢
        by_cases hb : b = true
        · simp only [hb, if_true] at hs ⊢
          exact key' hs
        · simp only [hb, if_false]; rfl
theorem which_some {fl : Bool} {o : AO} {d : D} (h : detL P fl B o T σ = some d) : ∀ b, whichL o T = some b → σ.box b ≠ none ∧ (fl = true → b ∈ B) := by
  intro b hb
  obtain ⟨dst, op, g⟩ := o
  unfold detL at h
  unfold whichL at hb
  cases g with
  | none =>
    simp only at h hb
    cases op <;> simp only [reduceCtorEq] at hb
    rename_i t x
    cases hx : ev T x <;> simp only [hx, reduceCtorEq, Option.some.injEq] at h hb
    subst hb
    split at h
    · rename_i hf
      split at h
      · rename_i hc; exact ⟨by simp [hc], hf⟩
      · cases h
    · cases h
  | some p =>
    obtain ⟨v, w⟩ := p
    simp only at h hb
    cases hT : gq (T v) w <;> simp only [hT, reduceCtorEq] at h hb
    rename_i q
    by_cases hq : q = true
    · simp only [hq, if_true] at h hb
      cases op <;> simp only [reduceCtorEq] at hb
      rename_i t x
      cases hx : ev T x <;> simp only [hx, reduceCtorEq, Option.some.injEq] at h hb
      subst hb
      split at h
      · rename_i hf
        split at h
        · rename_i hc; exact ⟨by simp [hc], hf⟩
        · cases h
      · cases h
    · simp [hq] at hb
theorem putK_cases {dst : Option Nat} {v : D} {σ' : St} (h : putK N dst v K T σ') (hk : K (aput T dst v) σ' → K' (aput T dst v) σ') : putK N dst v K' T σ' := putK_mono h hk
theorem keepB_set {b : Nat} {cs : List D} (hb : b ∉ B) : keepB B σ (σ.set b cs) := fun x hx => by
  simp only [St.set]
  rw [if_neg (fun he => hb (by rw [← he]; exact hx))]
theorem keepA_set {b : Nat} {cs : List D} (hb : ¬ σ.has b) : keepA σ (σ.set b cs) := fun x hx => by
  simp only [St.set]
  rw [if_neg (fun he => hb (by subst he; exact .inl hx))]
theorem keepB_join {s s' fr : St} (hs : St.split σ s fr) (hB : ∀ b ∈ B, ¬ s.has b) (hg : good B σ) (hap : St.apart s' fr) : keepB B σ (St.join s' fr) := fun b hb => by
  have h1 := hg.2 b hb
  have h2 : s.box b = none := by
    cases hc : s.box b with
    | none => rfl
    | some c => exact absurd (has_box hc) (hB b hb)
  have h3 : σ.box b = fr.box b := by rw [hs.eq]; simp [St.join, h2]
  have h4 : s'.box b = none := by
    cases hc : s'.box b with
    | none => rfl
    | some c => exact absurd (.inl (by rw [← h3]; exact h1)) (hap b (has_box hc))
  rw [h3]; simp [St.join, h4]
theorem good_set {b : Nat} {cs : List D} (hg : good B σ) (hk : keepB B σ (σ.set b cs)) : good B (σ.set b cs) := hk.good hg (fin_set hg.1 b cs)
theorem append_mono {t t' : TypeId} {x y : D} {dst : Option Nat} (hg : good B σ) (h : appendA P N dst t t' x y K T σ) (hk : ∀ v σ', keepB B σ σ' → good B σ' → K (aput T dst v) σ' → K' (aput T dst v) σ') : appendA P N dst t t' x y K' T σ := by
  have still : ∀ v, putK N dst v K T σ → putK N dst v K' T σ := fun v hv => putK_cases hv (hk v σ (fun _ _ => rfl) hg)
  have grown : ∀ v b s n, putK N dst v K T (σ.setBuf b s n) → putK N dst v K' T (σ.setBuf b s n) := fun v b s n hv =>
    putK_cases hv (hk v _ (fun _ _ => rfl) ⟨fin_setBuf hg.1 b s n, hg.2⟩)
  have moved : ∀ v a b s n, putK N dst v K T ((σ.dropBuf a).setBuf b s n) → putK N dst v K' T ((σ.dropBuf a).setBuf b s n) := fun v a b s n hv =>
    putK_cases hv (hk v _ (fun _ _ => rfl) ⟨fin_setBuf (fin_dropBuf hg.1 a) b s n, hg.2⟩)
  unfold appendA at h ⊢
  split at h
  · rename_i ow xs ow' ys e e' he he'
    obtain ⟨h0, h⟩ := h
    refine ⟨h0, ?_⟩
    split at h
    · obtain ⟨h1, h2, h3, h4, h5, h⟩ := h
      refine ⟨h1, h2, h3, h4, h5, ?_⟩
      cases ow with
      | buf b s' => exact ⟨h.1, h.2.1, fun b' hb' => moved _ _ _ _ _ (h.2.2 b' hb')⟩
      | nil => exact ⟨fun hy => still _ (h.1 hy), fun hy b' hb' => grown _ _ _ _ (h.2 hy b' hb')⟩
      | exact => exact ⟨h.1, fun hy => still _ (h.2.1 hy), fun hy b' hb' => grown _ _ _ _ (h.2.2 hy b' hb')⟩
      | no => exact h.elim
    · exact h.elim
  · obtain ⟨h1, h2, h3, h4, h5, h6, h7, h8, h⟩ := h
    exact ⟨h1, h2, h3, h4, h5, h6, h7, h8, moved _ _ _ _ _ h⟩
  · exact h.elim
theorem append_ex {t t' : TypeId} {x y : D} {dst : Option Nat} (hg : good B σ) (h : appendA P N dst t t' x y K T σ) (z : Nat) : ∃ v σ', keepB B σ σ' ∧ σ'.box z = σ.box z ∧ good B σ' ∧ K (aput T dst v) σ' := by
  unfold appendA at h
  split at h
  · rename_i ow xs ow' ys e e' he he'
    obtain ⟨h0, h⟩ := h
    split at h
    · obtain ⟨h1, h2, h3, h4, h5, h⟩ := h
      cases ow with
      | buf b s' =>
        obtain ⟨b', hb', _⟩ := fin_fresh (fin_dropBuf hg.1 b) 0
        exact ⟨_, (σ.dropBuf b).setBuf b' _ _, (fun _ _ => rfl), rfl, ⟨fin_setBuf (fin_dropBuf hg.1 b) _ _ _, hg.2⟩, (putK_aput.1 (h.2.2 b' hb')).2⟩
      | nil =>
        by_cases hy : ys = []
        · exact ⟨_, _, (fun _ _ => rfl), rfl, hg, (putK_aput.1 (h.1 hy)).2⟩
        · obtain ⟨b', hb', _⟩ := fin_fresh hg.1 0
          exact ⟨_, σ.setBuf b' _ _, (fun _ _ => rfl), rfl, ⟨fin_setBuf hg.1 _ _ _, hg.2⟩, (putK_aput.1 (h.2 hy b' hb')).2⟩
      | exact =>
        by_cases hy : ys = []
        · exact ⟨_, _, (fun _ _ => rfl), rfl, hg, (putK_aput.1 (h.2.1 hy)).2⟩
        · obtain ⟨b', hb', _⟩ := fin_fresh hg.1 0
          exact ⟨_, σ.setBuf b' _ _, (fun _ _ => rfl), rfl, ⟨fin_setBuf hg.1 _ _ _, hg.2⟩, (putK_aput.1 (h.2.2 hy b' hb')).2⟩
      | no => exact h.elim
    · exact h.elim
  · obtain ⟨h1, h2, h3, h4, h5, h6, h7, h8, h⟩ := h
    exact ⟨_, (σ.dropBuf _).setBuf _ _ _, (fun _ _ => rfl), rfl, ⟨fin_setBuf (fin_dropBuf hg.1 _) _ _ _, hg.2⟩, (putK_aput.1 h).2⟩
  · exact h.elim
end
end Go.AL
namespace Go.AL
section
variable {P : Program} {N : Nat} {T : Env} {σ : St} {K K' : Env → St → Prop} {Q : XA → Env → St → Prop} {B : List Nat}
def keepK (B : List Nat) : Kd → St → St → Prop
  | .C => keepB B
  | .A => keepA
  | .X => fun _ _ => True
  | _ => fun σ σ' => σ' = σ
theorem mono_core {fl st : Bool} {o : AO} (hg : good B σ) (h : dcore P N B fl st o Q K T σ) (hk : ∀ v σ', keepK B (kd o.op) σ σ' → good B σ' → K (aput T o.d v) σ' → K' (aput T o.d v) σ') : dcore P N B fl st o Q K' T σ := by
  obtain ⟨dst, op, g⟩ := o
  simp only at hk
  cases op
  case load t x =>
    rw [load_core] at h ⊢
    split at h
    · exact putK_cases h (hk _ σ rfl hg)
    · exact h.elim
  case store t x y =>
    simp only [dcore, aop] at h ⊢
    cases hx : ev T x <;> simp only [hx] at h ⊢
    rename_i b off
    obtain ⟨hb, h⟩ := h
    refine ⟨hb, ?_⟩
    split at h
    · rename_i cs vs hcs hvs
      exact ⟨h.1, putK_cases h.2 (hk _ _ (keepB_set hb) (good_set hg (keepB_set hb)))⟩
    · exact h.elim
  case alloc t =>
    simp only [dcore, aop] at h ⊢
    split at h
    · exact fun b hb => putK_cases (h b hb) (hk _ _ (keepA_set hb) (good_set hg ((keepA_set hb).toB hg)))
    · exact h.elim
  case box t x =>
    simp only [dcore, aop] at h ⊢
    split at h
    · exact fun b hb => putK_cases (h b hb) (hk _ _ (keepA_set hb) (good_set hg ((keepA_set hb).toB hg)))
    · exact h.elim
  case buildSlice t len parts =>
    have hF : kd (Op.buildSlice t len parts) = .F := rfl
    rw [kdF_eq hF] at h ⊢
    split at h
    · exact ⟨h.1, putK_cases h.2 (hk _ σ rfl hg)⟩
    · exact h.elim
  case panic x => exact h
  case binOp bop xt x y yt =>
    have hk' : ∀ v, K (aput T dst v) σ → K' (aput T dst v) σ := fun v => hk v σ (by simp only [kd]; split <;> first | rfl | trivial) hg
    simp only [dcore, aop, binA] at h ⊢
    split at h
    · split at h
      · exact fun r hr => putK_cases (h r hr) (hk' _)
      · exact h.elim
    · split at h
      · exact fun r hr => putK_cases (h r hr) (hk' _)
      · exact h.elim
    · split at h
      · exact ⟨h.1, putK_cases h.2 (hk' _)⟩
      · exact h.elim
  case call c =>
    obtain ⟨callee, args, argTypes⟩ := c
    cases callee with
    | value f =>
      simp only [dcore] at h ⊢
      split at h
      · obtain ⟨s, fr, R, h1, h2, h3, h4, h5⟩ := h
        refine ⟨s, fr, R, h1, h2, h3, h4, fun x s' hR hap hf => ?_⟩
        have := h5 x s' hR hap hf
        cases x with
        | pan d => exact this
        | ret d => exact putK_cases this (hk _ _ (keepB_join h1 h2 hg hap) ((keepB_join h1 h2 hg hap).good hg (fin_join hf (fin_right (by rw [← h1.eq]; exact hg.1)))))
      · exact h.elim
    | invoke r m => exact (show False by simp [dcore, aop, pureD] at h).elim
    | builtin b =>
      cases b
      case append =>
        simp only [dcore, aop] at h ⊢
        split at h
        · exact append_mono hg h fun v σ' hb hg' => hk v σ' hb hg'
        · exact h.elim
      case len =>
        rw [kdF_eq rfl] at h ⊢
        split at h
        · exact ⟨h.1, putK_cases h.2 (hk _ σ rfl hg)⟩
        · exact h.elim
      case min =>
        rw [kdF_eq rfl] at h ⊢
        split at h
        · exact ⟨h.1, putK_cases h.2 (hk _ σ rfl hg)⟩
        · exact h.elim
      case max =>
        rw [kdF_eq rfl] at h ⊢
        split at h
        · exact ⟨h.1, putK_cases h.2 (hk _ σ rfl hg)⟩
        · exact h.elim
      case copy =>
        simp only [dcore, aop] at h ⊢
        split at h
        · unfold copyA at h ⊢
          split at h
          · rename_i b o l c b' o' l' c' e hx hy he
            split at h
            · rename_i cs cs' hsz hcs hcs'
              refine ⟨h.1, h.2.1, putK_cases h.2.2 (hk _ _ trivial ⟨fin_set hg.1 b _, fun x hx => ?_⟩)⟩
              simp only [St.set]
              split
              · simp
              · exact hg.2 x hx
            · exact h.elim
          · exact h.elim
        · exact h.elim
      all_goals exact (show False by simp [dcore, aop, pureD] at h).elim
  all_goals first
    | (rw [kdF_eq rfl] at h ⊢
       split at h
       · exact ⟨h.1, putK_cases h.2 (hk _ σ rfl hg)⟩
       · exact h.elim)
    | (simp [dcore, aop, pureD] at h; done)
theorem keepK_refl (k : Kd) : keepK B k σ σ := by
  cases k <;> first | rfl | exact fun _ _ => rfl | trivial
theorem mono_dop {fl st : Bool} {o : AO} : MonoT (keepK B (kd o.op)) B (dop P N B fl st o Q) o.d := by
  intro K K' T σ hg h hk
  unfold dop at h ⊢
  cases hgo : o.g with
  | none => rw [hgo] at h; exact mono_core hg h hk
  | some p =>
    obtain ⟨u, w⟩ := p
    rw [hgo] at h
    simp only at h ⊢
    cases hT : gq (T u) w <;> simp only [hT] at h ⊢
    rename_i b
    simp only [br] at h ⊢
    split at h
    · rename_i hb; rw [if_pos hb]; exact mono_core hg h hk
    · rename_i hb; rw [if_neg hb]; exact putK_cases h (hk _ σ (keepK_refl _) hg)
theorem kd_cases {op : Op} (h : kd op = .C ∨ kd op = .A) : (∃ t x v, op = .store t x v) ∨ (∃ f args ts, op = .call { callee := .value f, args, argTypes := ts }) ∨ (∃ args ts, op = .call { callee := .builtin .append, args, argTypes := ts }) ∨ (∃ t, op = .alloc t) ∨ ∃ t x, op = .box t x := by
  cases op
  case call c =>
    obtain ⟨callee, args, argTypes⟩ := c
    cases callee with
    | value f => exact .inr (.inl ⟨f, args, argTypes, rfl⟩)
    | invoke r m => rcases h with h | h <;> (simp only [kd] at h; cases h)
    | builtin b =>
      cases b
      case append => exact .inr (.inr (.inl ⟨args, argTypes, rfl⟩))
      all_goals (rcases h with h | h <;> (simp only [kd] at h; cases h))
  case store t x v => exact .inl ⟨t, x, v, rfl⟩
  case alloc t => exact .inr (.inr (.inr (.inl ⟨t, rfl⟩)))
  case box t x => exact .inr (.inr (.inr (.inr ⟨t, x, rfl⟩)))
  case binOp bop xt x y yt =>
    simp only [kd] at h
    split at h <;> (rcases h with h | h <;> cases h)
  all_goals (rcases h with h | h <;> (simp only [kd] at h; cases h))
theorem set_box_ne {b z : Nat} {cs : List D} (h : b ≠ z) : (σ.set b cs).box z = σ.box z := by
  simp only [St.set]; rw [if_neg (Ne.symm h)]
theorem ex_core {fl : Bool} {o : AO} (ho : kd o.op = .C ∨ kd o.op = .A) (hg : good B σ) (h : dcore P N B fl true o Q K T σ) : ∀ z, (kd o.op = .C → z ∈ B ∨ σ.box z = none → True) → ∃ v σ', keepK B (kd o.op) σ σ' ∧ (kd o.op = .A → σ'.box z = σ.box z) ∧ good B σ' ∧ K (aput T o.d v) σ' := by
  intro z _
  obtain ⟨dst, op, g⟩ := o
  simp only at ho ⊢
  rcases kd_cases ho with ⟨t, x, v, rfl⟩ | ⟨f, args, ts, rfl⟩ | ⟨args, ts, rfl⟩ | ⟨t, rfl⟩ | ⟨t, x, rfl⟩
  · simp only [dcore, aop] at h
    cases hx : ev T x <;> simp only [hx] at h
    rename_i b off
    obtain ⟨hb, h⟩ := h
    split at h
    · exact ⟨_, _, keepB_set hb, fun hk => (by cases hk), good_set hg (keepB_set hb), (putK_aput.1 h.2).2⟩
    · exact h.elim
  · simp only [dcore] at h
    split at h
    · obtain ⟨s, fr, R, h1, h2, h3, h4, h5⟩ := h
      obtain ⟨⟨d, s', hR, hin, hf⟩, _⟩ := h4 rfl
      have hap : St.apart s' fr := fun b hb => h1.apart b (hin b hb)
      have hk := keepB_join h1 h2 hg hap
      exact ⟨_, _, hk, fun hk => (by cases hk), hk.good hg (fin_join hf (fin_right (by rw [← h1.eq]; exact hg.1))), (putK_aput.1 (h5 (.ret d) s' hR hap hf)).2⟩
    · exact h.elim
  · simp only [dcore, aop] at h
    split at h
    · obtain ⟨v, σ', h1, _, h2, h3⟩ := append_ex hg h z
      exact ⟨v, σ', h1, fun hk => (by cases hk), h2, h3⟩
    · exact h.elim
  · simp only [dcore, aop] at h
    split at h
    · obtain ⟨b, hb, hbz⟩ := fin_fresh hg.1 z
      exact ⟨_, _, keepA_set hb, fun _ => set_box_ne hbz, good_set hg ((keepA_set hb).toB hg), (putK_aput.1 (h b hb)).2⟩
    · exact h.elim
  · simp only [dcore, aop] at h
    split at h
    · obtain ⟨b, hb, hbz⟩ := fin_fresh hg.1 z
      exact ⟨_, _, keepA_set hb, fun _ => set_box_ne hbz, good_set hg ((keepA_set hb).toB hg), (putK_aput.1 (h b hb)).2⟩
    · exact h.elim
theorem set_has {b x : Nat} {cs : List D} : (σ.set b cs).has x ↔ x = b ∨ σ.has x := by
  simp only [St.has, St.set]
  by_cases h : x = b <;> simp [h]
theorem set_comm {a b : Nat} {cs ds : List D} (h : a ≠ b) : (σ.set a cs).set b ds = (σ.set b ds).set a cs := by
  ext x l
  · simp only [St.set]
    by_cases h1 : x = a <;> by_cases h2 : x = b <;> simp_all
  · rfl
theorem setBuf_has {b x s n : Nat} : (σ.setBuf b s n).has x ↔ x = b ∨ σ.has x := by
  simp only [St.has, St.setBuf]
  by_cases h : x = b <;> simp [h]
def AddT (B : List Nat) (f : Tr) : Prop := ∀ (K : Env → St → Prop) (T : Env) (σ : St) (b : Nat) (z : List D), good B σ → ¬ σ.has b → f (fun T' σ' => ¬ σ'.has b → K T' (σ'.set b z)) T σ → f K T (σ.set b z)
theorem add_append {t t' : TypeId} {x y : D} {dst : Option Nat} {b : Nat} {z : List D} (hb : ¬ σ.has b) (h : appendA P N dst t t' x y (fun T' σ' => ¬ σ'.has b → K T' (σ'.set b z)) T σ) : appendA P N dst t t' x y K T (σ.set b z) := by
  have put : ∀ {v : D} {σ₁ σ₂ : St}, putK N dst v (fun T' σ' => ¬ σ'.has b → K T' (σ'.set b z)) T σ₁ → ¬ σ₁.has b → σ₁.set b z = σ₂ → putK N dst v K T σ₂ := by
    intro v σ₁ σ₂ h h1 h2
    subst h2
    obtain ⟨h3, h4⟩ := putK_aput.1 h
    exact putK_aput.2 ⟨h3, h4 h1⟩
  unfold appendA at h ⊢
  split at h
  · obtain ⟨h0, h⟩ := h
    refine ⟨h0, ?_⟩
    split at h
    · obtain ⟨h1, h2, h3, h4, h5, h⟩ := h
      refine ⟨h1, h2, h3, h4, h5, ?_⟩
      rename_i ow xs ow' ys e e' he he' _ _ _ s by' zz _ _ _
      cases ow with
      | buf a s' =>
        refine ⟨h.1, h.2.1, fun b' hb' => ?_⟩
        have hne : b' ≠ b := fun he => hb' (by subst he; exact .inl (by simp [St.set, St.dropBuf]))
        refine put (h.2.2 b' ?_) ?_ ?_
        · intro hin
          refine hb' ?_
          rcases hin with hin | hin
          · refine .inl ?_; simp only [St.set, St.dropBuf] at hin ⊢; rw [if_neg hne]; exact hin
          · exact .inr hin
        · intro hin
          rcases setBuf_has.1 hin with h6 | h6
          · exact hne h6.symm
          · exact hb (dropBuf_has h6)
        · rfl
      | nil =>
        refine ⟨fun hy => put (h.1 hy) hb rfl, fun hy b' hb' => ?_⟩
        have hne : b' ≠ b := fun he => hb' (set_has.2 (.inl he))
        refine put (h.2 hy b' fun hin => hb' (set_has.2 (.inr hin))) ?_ rfl
        intro hin
        rcases setBuf_has.1 hin with h6 | h6
        · exact hne h6.symm
        · exact hb h6
      | exact =>
        refine ⟨h.1, fun hy => put (h.2.1 hy) hb rfl, fun hy b' hb' => ?_⟩
        have hne : b' ≠ b := fun he => hb' (set_has.2 (.inl he))
        refine put (h.2.2 hy b' fun hin => hb' (set_has.2 (.inr hin))) ?_ rfl
        intro hin
        rcases setBuf_has.1 hin with h6 | h6
        · exact hne h6.symm
        · exact hb h6
      | no => exact h.elim
    · exact h.elim
  · obtain ⟨h1, h2, h3, h4, h5, h6, h7, h8, h⟩ := h
    refine ⟨h1, h2, h3, h4, h5, h6, h7, h8, put h ?_ rfl⟩
    intro hin
    rcases setBuf_has.1 hin with h9 | h9
    · subst h9; exact hb (has_buf h8)
    · exact hb (dropBuf_has h9)
  · exact h.elim
theorem add_core {fl st : Bool} {o : AO} (ho : kd o.op = .C ∨ kd o.op = .A) : AddT B (dcore P N B fl st o Q) := by
  intro K T σ b z hg hb h
  obtain ⟨dst, op, g⟩ := o
  simp only at ho
  rcases kd_cases ho with ⟨t, x, v, rfl⟩ | ⟨f, args, ts, rfl⟩ | ⟨args, ts, rfl⟩ | ⟨t, rfl⟩ | ⟨t, x, rfl⟩
  · simp only [dcore, aop] at h ⊢
    cases hx : ev T x <;> simp only [hx] at h ⊢
    rename_i c off
    obtain ⟨hcB, h⟩ := h
    refine ⟨hcB, ?_⟩
    split at h
    · rename_i cs vs hcs hvs
      have hne : c ≠ b := fun he => hb (by subst he; exact has_box hcs)
      rw [set_box_ne (Ne.symm hne), hcs, hvs]
      refine ⟨h.1, ?_⟩
      obtain ⟨h1, h2⟩ := putK_aput.1 h.2
      refine putK_aput.2 ⟨h1, ?_⟩
      rw [set_comm (Ne.symm hne)]
      exact h2 fun hin => by
        rcases set_has.1 hin with h3 | h3
        · exact hne h3.symm
        · exact hb h3
    · exact h.elim
  · simp only [dcore] at h ⊢
    split at h
    · rename_i gf fi ca hf
      obtain ⟨s, fr, R, h1, h2, h3, h4, h5⟩ := h
      have hsb : ¬ s.has b := fun hin => hb (by rw [h1.eq]; exact (join_has b).2 (.inl hin))
      have hfb : ¬ fr.has b := fun hin => hb (by rw [h1.eq]; exact (join_has b).2 (.inr hin))
      have heq : ∀ s₁ : St, ¬ s₁.has b → (St.join s₁ fr).set b z = St.join s₁ (fr.set b z) := fun s₁ hs₁ => by
        ext x l
        · simp only [St.set, St.join]
          by_cases hx : x = b
          · subst hx
            have : s₁.box x = none := by
              cases hc : s₁.box x with
              | none => rfl
              | some c => exact absurd (has_box hc) hs₁
            simp [this]
          · simp [hx]
        · rfl
      refine ⟨s, fr.set b z, R, ⟨by rw [h1.eq, heq s hsb], fun x hx hin => ?_⟩, h2, h3, h4, fun x s' hR hap hf => ?_⟩
      · rcases set_has.1 hin with h6 | h6
        · subst h6; exact hsb hx
        · exact h1.apart x hx h6
      · have hap' : St.apart s' fr := fun y hy hin => hap y hy (set_has.2 (.inr hin))
        have hs'b : ¬ s'.has b := fun hin => hap b hin (set_has.2 (.inl rfl))
        have := h5 x s' hR hap' hf
        cases x with
        | ret d =>
          obtain ⟨r1, r2⟩ := putK_aput.1 this
          refine putK_aput.2 ⟨r1, ?_⟩
          rw [← heq s' hs'b]
          exact r2 fun hin => by
            rcases (join_has b).1 hin with h6 | h6
            · exact hs'b h6
            · exact hfb h6
        | pan d =>
          obtain ⟨s₁, r1, r2⟩ := this
          refine ⟨s₁, r1.trans ?_, r2⟩
          rw [← heq s' hs'b]
          refine ⟨fun y cs hy => ?_, fun y p hy => hy⟩
          have hne : y ≠ b := fun he => by
            subst he
            rcases (join_has y).1 (has_box hy) with h6 | h6
            · exact hs'b h6
            · exact hfb h6
          rw [set_box_ne (Ne.symm hne)]; exact hy
    · exact h.elim
  · simp only [dcore, aop] at h ⊢
    split at h
    · rename_i x y t t' ha ht
      exact add_append hb h
    · exact h.elim
  · simp only [dcore, aop] at h ⊢
    split at h
    · rename_i zz hz
      intro c hc
      have hne : c ≠ b := fun he => hc (set_has.2 (.inl he))
      have hc' : ¬ σ.has c := fun hin => hc (set_has.2 (.inr hin))
      obtain ⟨h1, h2⟩ := putK_aput.1 (h c hc')
      refine putK_aput.2 ⟨h1, ?_⟩
      rw [set_comm (Ne.symm hne)]
      exact h2 fun hin => by
        rcases set_has.1 hin with h3 | h3
        · exact hne h3.symm
        · exact hb h3
    · exact h.elim
  · simp only [dcore, aop] at h ⊢
    split at h
    · rename_i zz hz
      intro c hc
      have hne : c ≠ b := fun he => hc (set_has.2 (.inl he))
      have hc' : ¬ σ.has c := fun hin => hc (set_has.2 (.inr hin))
      obtain ⟨h1, h2⟩ := putK_aput.1 (h c hc')
      refine putK_aput.2 ⟨h1, ?_⟩
      rw [set_comm (Ne.symm hne)]
      exact h2 fun hin => by
        rcases set_has.1 hin with h3 | h3
        · exact hne h3.symm
        · exact hb h3
    · exact h.elim
end
end Go.AL
namespace Go.AL
def stripO (ops : List Oper) (o : Oper) : AO := ⟨o.dst, o.op, match o.guard with | none => none | some (j, w) => some (((ops[j]?).bind (·.dst)).getD 1000000, w)⟩
structure DO where
  o : AO
  fl : Bool
  st : Bool
def apartO (x y : AO) : Bool :=
  (match x.d with | some d => !(looksO y).contains d && y.d != some d | none => true) && (match y.d with | some d => !(looksO x).contains d | none => true)
theorem apartO_spec {x y : AO} (h : apartO x y = true) : ApartT x.d y.d (looksO x) (looksO y) := by
  unfold apartO at h
  simp only [Bool.and_eq_true] at h
  obtain ⟨h1, h2⟩ := h
  refine ⟨fun t ht => ?_, fun t ht => ?_, fun t ht => ?_⟩
  · rw [ht] at h1; simp at h1; exact h1.1
  · rw [ht] at h2; simpa using h2
  · rw [ht] at h1; simp at h1; exact h1.2
def swapOk (x y : DO) : Bool := apartO x.o y.o && match kd x.o.op, kd y.o.op with
  | .L, .C => x.fl
  | .C, .F => x.st
  | .C, .L => y.fl && x.st
  | .C, .A => x.st
  | .F, _ | .L, .F | .L, .L | .L, .A | .A, .F | .A, .L | .A, .A => true
  | _, _ => false
section
variable {P : Program} {N : Nat} {T : Env} {σ : St} {K K' : Env → St → Prop} {Q : XA → Env → St → Prop} {B : List Nat}
def dO (P : Program) (N : Nat) (B : List Nat) (Q : XA → Env → St → Prop) (x : DO) : Tr := dop P N B x.fl x.st x.o Q
theorem ex_dop {fl : Bool} {o : AO} (ho : kd o.op = .C ∨ kd o.op = .A) (hg : good B σ) (h : dop P N B fl true o Q K T σ) (z : Nat) : ∃ v σ', keepK B (kd o.op) σ σ' ∧ (kd o.op = .A → σ'.box z = σ.box z) ∧ good B σ' ∧ K (aput T o.d v) σ' := by
  unfold dop at h
  cases hgo : o.g with
  | none => rw [hgo] at h; exact ex_core ho hg h z (fun _ _ => trivial)
  | some p =>
    obtain ⟨u, w⟩ := p
    rw [hgo] at h
    simp only at h
    cases hT : gq (T u) w <;> simp only [hT] at h
    rename_i b
    simp only [br] at h
    split at h
    · exact ex_core ho hg h z (fun _ _ => trivial)
    · exact ⟨_, _, keepK_refl _, fun _ => rfl, hg, (putK_aput.1 h).2⟩
theorem add_dop {fl st : Bool} {o : AO} (ho : kd o.op = .C ∨ kd o.op = .A) : AddT B (dop P N B fl st o Q) := by
  intro K T σ b z hg hb h
  unfold dop at h ⊢
  cases hgo : o.g with
  | none => rw [hgo] at h; exact add_core ho K T σ b z hg hb h
  | some p =>
    obtain ⟨u, w⟩ := p
    rw [hgo] at h
    simp only at h ⊢
    cases hT : gq (T u) w <;> simp only [hT] at h ⊢
    rename_i c
    simp only [br] at h ⊢
    split at h
    · rename_i hb'; rw [if_pos hb']; exact add_core ho K T σ b z hg hb h
    · rename_i hb'; rw [if_neg hb']
      obtain ⟨h1, h2⟩ := putK_aput.1 h
      exact putK_aput.2 ⟨h1, h2 hb⟩
theorem dop_alloc_st {fl st st' : Bool} {o : AO} (ho : kd o.op = .A) (h : dop P N B fl st o Q K T σ) : dop P N B fl st' o Q K T σ := by
  obtain ⟨d, op, g⟩ := o
  simp only at ho
  have key : dcore P N B fl st ⟨d, op, g⟩ Q K T σ = dcore P N B fl st' ⟨d, op, g⟩ Q K T σ := by
    rcases kd_cases (.inr ho) with ⟨t, x, v, rfl⟩ | ⟨f, args, ts, rfl⟩ | ⟨args, ts, rfl⟩ | ⟨t, rfl⟩ | ⟨t, x, rfl⟩ <;> first | rfl | (simp only [kd] at ho; cases ho)
  unfold dop at h ⊢
  rw [← key]; exact h
def zOf (P : Program) (op : Op) (T : Env) : Option (List D) :=
  match op with
  | .alloc t => zc1 P t
  | .box t x => cellsD P t (ev T x)
  | _ => none
def allocZ (P : Program) (o : AO) (T : Env) : Option (Option (List D)) :=
  match o.g with
  | none => (zOf P o.op T).map some
  | some (t, want) => match gq (T t) want with
    | some c => if c = true then (zOf P o.op T).map some else some none
    | none => none
theorem alloc_dop {fl st : Bool} {o : AO} (ho : kd o.op = .A) : dop P N B fl st o Q K T σ ↔ match allocZ P o T with
    | none => False
    | some none => putK N o.d (.tup []) K T σ
    | some (some z) => ∀ b, ¬ σ.has b → putK N o.d (.ptr b 0) K T (σ.set b z) := by
  obtain ⟨d, op, g⟩ := o
  simp only at ho
  have key : dcore P N B fl st ⟨d, op, g⟩ Q K T σ ↔ match zOf P op T with
      | none => False
      | some z => ∀ b, ¬ σ.has b → putK N d (.ptr b 0) K T (σ.set b z) := by
    rcases kd_cases (.inr ho) with ⟨t, x, v, rfl⟩ | ⟨f, args, ts, rfl⟩ | ⟨args, ts, rfl⟩ | ⟨t, rfl⟩ | ⟨t, x, rfl⟩ <;> first
      | (simp only [kd] at ho; cases ho; done)
      | skip
    · simp only [dcore, aop, zOf]; cases zc1 P t <;> exact Iff.rfl
    · simp only [dcore, aop, zOf]; cases cellsD P t (ev T x) <;> exact Iff.rfl
  unfold dop allocZ
  cases g with
  | none =>
    simp only
    rw [key]
    generalize zOf P op T = z
    cases z <;> exact Iff.rfl
  | some p =>
    obtain ⟨u, w⟩ := p
    simp only
    cases hT : gq (T u) w <;> try exact Iff.rfl
    rename_i b
    simp only [br]
    by_cases hb : b = true
    · rw [if_pos hb, if_pos hb, key]
      generalize zOf P op T = z
      cases z <;> exact Iff.rfl
    · rw [if_neg hb, if_neg hb]
theorem allocZ_aput {o : AO} {dx : Option Nat} {d : D} (h : notIn dx (looksO o)) (ho : kd o.op = .A) : allocZ P o (aput T dx d) = allocZ P o T := by
  cases dx with
  | none => rfl
  | some t =>
    have ht := h t rfl
    obtain ⟨dd, op, g⟩ := o
    have hop : zOf P op (upd T t d) = zOf P op T := by
      cases op <;> try rfl
      rename_i ty x
      simp only [zOf, ev_upd (tmpsOf_ne (looks_tmps ht) x (by simp [opndsOf, Op.operands]))]
    unfold allocZ
    simp only [aput, hop]
    cases g with
    | none => rfl
    | some p =>
      obtain ⟨u, w⟩ := p
      have hu : upd T t d u = T u := by simp [upd, looks_guard ht rfl]
      simp only [hu]
theorem swap_any_alloc {x y : DO} (hap : ApartT x.o.d y.o.d (looksO x.o) (looksO y.o)) (hx : kd x.o.op = .C ∨ kd x.o.op = .A) (hy : kd y.o.op = .A) (hz : ∀ z, keepK B (kd x.o.op) σ z → True) (hg : good B σ)
    (hex : ∃ v σ', good B σ' ∧ dO P N B Q y K (aput T x.o.d v) σ')
    (h : dO P N B Q x (fun T' σ' => good B σ' → dO P N B Q y K T' σ') T σ) : dO P N B Q y (fun T' σ' => good B σ' → dO P N B Q x K T' σ') T σ := by
  obtain ⟨v, σ₁, hg₁, h1⟩ := hex
  unfold dO at h1 ⊢
  rw [alloc_dop hy, allocZ_aput hap.xy hy] at h1
  rw [alloc_dop hy]
  cases hza : allocZ P y.o T with
  | none => rw [hza] at h1; exact h1.elim
  | some oz =>
    rw [hza] at h1
    cases oz with
    | none =>
      have hn := (putK_aput.1 h1).1
      refine putK_aput.2 ⟨hn, fun _ => ?_⟩
      refine (frame_aput frame_dop hap.yx hap.ne').2 (mono_dop _ _ _ _ hg h fun u σ' _ hg' hK => ?_)
      have h3 := hK hg'
      unfold dO at h3
      rw [alloc_dop hy, allocZ_aput hap.xy hy, hza] at h3
      exact (putK_aput.1 h3).2
    | some z =>
      obtain ⟨b₁, hb₁, _⟩ := fin_fresh hg₁.1 0
      have hn := (putK_aput.1 (h1 b₁ hb₁)).1
      intro b hb
      refine putK_aput.2 ⟨hn, fun _ => ?_⟩
      refine (frame_aput frame_dop hap.yx hap.ne').2 ?_
      refine add_dop hx _ _ _ _ _ hg hb (mono_dop _ _ _ _ hg h fun u σ' _ hg' hK hbn => ?_)
      have h3 := hK hg'
      unfold dO at h3
      rw [alloc_dop hy, allocZ_aput hap.xy hy, hza] at h3
      exact (putK_aput.1 (h3 b hbn)).2
theorem ex_C {x : DO} (hk : kd x.o.op = .C) (hst : x.st = true) : ExT (keepK B .C) False B (dO P N B Q x) x.o.d := fun K T σ hg h z => by
  unfold dO at h
  rw [hst] at h
  obtain ⟨v, σ', h1, _, h2, h3⟩ := ex_dop (.inl hk) hg h z
  rw [hk] at h1
  exact ⟨v, σ', h1, fun h => h.elim, h2, h3⟩
theorem ex_A {x : DO} (hk : kd x.o.op = .A) : ExT (keepK B .A) True B (dO P N B Q x) x.o.d := fun K T σ hg h z => by
  unfold dO at h
  obtain ⟨v, σ', h1, h0, h2, h3⟩ := ex_dop (.inr hk) hg (dop_alloc_st (st' := true) hk h) z
  rw [hk] at h1
  exact ⟨v, σ', h1, fun _ => h0 hk, h2, h3⟩
theorem load_hyp {y : DO} (hky : kd y.o.op = .L) : LoadT N (dO P N B Q y) y.o.d (looksO y.o) (whichL y.o) (detL P y.fl B y.o) := load_dop hky
theorem dop_swap {x y : DO} (hok : swapOk x y = true) (hg : good B σ) (h : dO P N B Q x (fun T' σ' => good B σ' → dO P N B Q y K T' σ') T σ) : dO P N B Q y (fun T' σ' => good B σ' → dO P N B Q x K T' σ') T σ := by
  simp only [swapOk, Bool.and_eq_true] at hok
  obtain ⟨ha, hok⟩ := hok
  have hap := apartO_spec ha
  have hm : MonoT (keepK B (kd x.o.op)) B (dO P N B Q x) x.o.d := mono_dop
  cases hkx : kd x.o.op
  case F => exact swap_det_any hap (det_dop hkx) frame_dop mono_dop hg h
  case L =>
    refine swap_load_any hap (load_hyp hkx) frame_dop mono_dop (fun σ' hg' ht hk b hb => ?_) hg h
    -- the box that is read
    have hd : ∃ d, detL P x.fl B x.o T σ = some d := by
      rw [(load_hyp (P := P) (N := N) (B := B) (Q := Q) hkx).1] at ht
      cases hd : detL P x.fl B x.o T σ with
      | none => rw [hd] at ht; exact ht.elim
      | some d => exact ⟨d, rfl⟩
    obtain ⟨d, hd⟩ := hd
    obtain ⟨h1, h2⟩ := which_some hd b hb
    cases hky : kd y.o.op <;> rw [hkx, hky] at hok <;> rw [hky] at hk <;> simp only [keepK] at hk <;> first
      | (cases hok; done)
      | (rw [hk]; done)
      | exact hk b h1
      | exact hk b (h2 hok)
  case C =>
    rw [hkx] at hm
    cases hky : kd y.o.op <;> rw [hkx, hky] at hok <;> try (cases hok; done)
    case F => exact swap_any_det hap frame_dop hm (ex_C hkx hok) (det_dop hky) hg h
    case L =>
      simp only [Bool.and_eq_true] at hok
      refine swap_any_load hap frame_dop hm (ex_C hkx hok.2) (load_hyp hky) (fun σ' d hk _ hd b hb => ?_) (fun σ' d hk hd b hb => ?_) hg h
      · exact hk b ((which_some hd b hb).2 hok.1)
      · exact hk b ((which_some hd b hb).2 hok.1)
    case A =>
      obtain ⟨v, σ', _, _, h2, h3⟩ := ex_C hkx hok _ _ _ hg h 0
      exact swap_any_alloc hap (.inl hkx) hky (fun _ _ => trivial) hg ⟨v, σ', h2, h3 h2⟩ h
  case A =>
    rw [hkx] at hm
    cases hky : kd y.o.op <;> rw [hkx, hky] at hok <;> try (cases hok; done)
    case F => exact swap_any_det hap frame_dop hm (ex_A hkx) (det_dop hky) hg h
    case L =>
      refine swap_any_load hap frame_dop hm (ex_A hkx) (load_hyp hky) (fun σ' d hk hz hd b hb => ?_) (fun σ' d hk hd b hb => hk b (which_some hd b hb).1) hg h
      have := hz trivial
      rw [hb] at this
      exact this
    case A =>
      obtain ⟨v, σ', _, _, h2, h3⟩ := ex_A hkx _ _ _ hg h 0
      exact swap_any_alloc hap (.inr hkx) hky (fun _ _ => trivial) hg ⟨v, σ', h2, h3 h2⟩ h
  case X => rw [hkx] at hok; cases hok
end
end Go.AL
namespace Go.AL
def bindE (e : Edge) : Bool := Region.binds .any e
def waitsOf (o : Oper) : List Nat := (o.after.toList.filter bindE).map (·.on)
def ancOk (ops : List Oper) (A : List Nat) : Bool :=
  (List.range ops.length).all fun j => match ops[j]? with
    | some o => (waitsOf o).all (· < j) && (List.range j).all fun i => !(A.getD j 0).testBit i || (waitsOf o).any fun e => e == i || (decide (i < e) && (A.getD e 0).testBit i)
    | none => true
def flagL (ks : List Kd) (A : List Nat) (i : Nat) : Bool :=
  (List.range ks.length).any fun j => ks.getD j .X == .C && ((i < j && !(A.getD j 0).testBit i) || (j < i && !(A.getD i 0).testBit j))
def flagC (ks : List Kd) (A : List Nat) (i : Nat) : Bool := (List.range ks.length).any fun j => i < j && !(A.getD j 0).testBit i
def dos (ops : List Oper) (A : List Nat) : List DO :=
  let ks := ops.map (kd ·.op)
  ops.zipIdx.map fun (o, i) => ⟨stripO ops o, flagL ks A i, flagC ks A i⟩
def pairsOk (l : List DO) (A : List Nat) : Bool :=
  (List.range l.length).all fun j => (List.range j).all fun i => (A.getD j 0).testBit i || match l[i]?, l[j]? with
    | some x, some y => swapOk x y
    | _, _ => true
section
variable {P : Program} {N : Nat} {T : Env} {σ : St} {K K' : Env → St → Prop} {Q : XA → Env → St → Prop} {B : List Nat}
variable [DSt]
def aopsD (P : Program) (N : Nat) (B : List Nat) : List DO → (XA → Env → St → Prop) → Env → St → Prop
  | [], Q, T, σ => Q .normal T σ
  | x :: rest, Q, T, σ => dO P N B Q x (aopsD P N B rest Q) T σ
def doAt (P : Program) (N : Nat) (B : List Nat) (Q : XA → Env → St → Prop) (l : List DO) (i : Nat) : Tr := match l[i]? with
  | some x => dO P N B Q x
  | none => fun K T σ => K T σ
def rdy (ops : List Oper) (U : List Nat) (i : Nat) : Prop := ∀ o, ops[i]? = some o → ∀ e ∈ waitsOf o, e ∉ U
def BU (m : Nat) (B U : List Nat) : List Nat := if U.any (fun i => decide (i < m)) = true then B else []
theorem BU_head {m i : Nat} {B r : List Nat} (h : i < m) : BU m B (i :: r) = B := by simp [BU, h]
theorem BU_mem {m j : Nat} {B r : List Nat} (h : j < m) (hj : j ∈ r) : BU m B r = B := by
  have : r.any (fun i => decide (i < m)) = true := List.any_eq_true.2 ⟨j, hj, by simpa using h⟩
  simp [BU, this]
theorem BU_late {m : Nat} {B r : List Nat} (h : ∀ x ∈ r, m ≤ x) : BU m B r = [] := by
  have : ¬ r.any (fun i => decide (i < m)) = true := fun h' => by
    obtain ⟨x, hx, h2⟩ := List.any_eq_true.1 h'
    have := h x hx
    simp at h2; omega
  simp [BU, this]
theorem good_sub {m : Nat} {B U V : List Nat} (hs : ∀ x ∈ V, x ∈ U) (h : good (BU m B U) σ) : good (BU m B V) σ := by
  by_cases hv : V.any (fun i => decide (i < m)) = true
  · obtain ⟨x, hx, h2⟩ := List.any_eq_true.1 hv
    rw [BU_mem (by simpa using h2) (hs x hx)] at h
    rw [BU_mem (by simpa using h2) hx]; exact h
  · rw [show BU m B V = [] by simp only [BU, if_neg hv]]
    exact ⟨h.1, fun b hb => by cases hb⟩
def aU (P : Program) (N : Nat) (m : Nat) (B : List Nat) (Q : XA → Env → St → Prop) (ops : List Oper) (l : List DO) : Nat → List Nat → Env → St → Prop
  | 0, U, T, σ => good (BU m B U) σ → Q .normal T σ
  | n + 1, U, T, σ => good (BU m B U) σ → ∀ i ∈ U, rdy ops U i → doAt P N (BU m B U) Q l i (aU P N m B Q ops l n (U.erase i)) T σ
def lateOk (A : List Nat) (m n : Nat) : Bool := (List.range n).all fun j => decide (j < m) || (List.range m).all fun i => (A.getD j 0).testBit i
def Closed (ops : List Oper) (U : List Nat) : Prop := ∀ k, k ∉ U → rdy ops U k
theorem anc_out {ops : List Oper} {A : List Nat} (hA : ancOk ops A = true) {U : List Nat} (hc : Closed ops U) : ∀ j, j < ops.length → (j ∉ U ∨ rdy ops U j) → ∀ i, i < j → (A.getD j 0).testBit i = true → i ∉ U := by
  intro j
  induction j using Nat.strongRecOn with
  | _ j ih =>
    intro hj hr i hi hb
    have hr' : rdy ops U j := hr.elim (hc j) id
    have h1 := List.all_eq_true.1 hA j (List.mem_range.2 hj)
    have ho : ops[j]? = some ops[j] := by simp [hj]
    rw [ho] at h1
    simp only [Bool.and_eq_true] at h1
    have h2 := List.all_eq_true.1 h1.2 i (List.mem_range.2 hi)
    simp only [hb, Bool.not_true, Bool.false_or] at h2
    obtain ⟨e, he, h3⟩ := List.any_eq_true.1 h2
    have heU := hr' _ ho e he
    simp only [Bool.or_eq_true, beq_iff_eq] at h3
    rcases h3 with h3 | h3
    · subst h3; exact heU
    · have hej : e < j := by
        have := List.all_eq_true.1 h1.1 e he
        simpa using this
      simp only [Bool.and_eq_true, decide_eq_true_eq] at h3
      exact ih e hej (by omega) (.inl heU) i h3.1 h3.2
theorem doAt_mono {l : List DO} {i : Nat} (hg : good B σ) (h : doAt P N B Q l i K T σ) (hk : ∀ T' σ', good B σ' → K T' σ' → K' T' σ') : doAt P N B Q l i K' T σ := by
  unfold doAt at h ⊢
  cases hx : l[i]? with
  | some x => rw [hx] at h; exact mono_dop _ _ _ _ hg h fun v σ' _ hg' hK => hk _ _ hg' hK
  | none => rw [hx] at h; exact hk _ _ hg h
theorem delay {ops : List Oper} {A : List Nat} (hA : ancOk ops A = true) {l : List DO} (hl : l.length = ops.length) (hp : pairsOk l A = true) {m : Nat} (hm : lateOk A m ops.length = true) :
    ∀ (n : Nat) (i : Nat) (rest : List Nat) (T : Env) (σ : St), (i :: rest).Pairwise (· < ·) → (∀ j ∈ i :: rest, j < ops.length) → Closed ops (i :: rest) → rdy ops (i :: rest) i → rest.length = n →
      good (BU m B (i :: rest)) σ → doAt P N (BU m B (i :: rest)) Q l i (aU P N m B Q ops l n rest) T σ → aU P N m B Q ops l (n + 1) (i :: rest) T σ := by
  intro n
  induction n with
  | zero =>
    intro i rest T σ hs hlt hc hr hn hg h _ j hj hrj
    have : rest = [] := List.eq_nil_of_length_eq_zero hn
    subst this
    simp at hj; subst hj
    simpa using h
  | succ n ih =>
    intro i rest T σ hs hlt hc hr hn hg h _ j hj hrj
    by_cases hji : j = i
    · subst hji; simpa using h
    · have hjr : j ∈ rest := by simpa [hji] using hj
      have hij : i < j := (List.pairwise_cons.1 hs).1 j hjr
      have hjl := hlt j hj
      have hnot : (A.getD j 0).testBit i = false := by
        cases hb : (A.getD j 0).testBit i with
        | false => rfl
        | true => exact absurd (List.mem_cons_self) (anc_out hA hc j hjl (.inr hrj) i hij hb)
      have hjm : i < m → j < m := fun him => by
        have h1 := List.all_eq_true.1 hm j (List.mem_range.2 hjl)
        simp only [Bool.or_eq_true, decide_eq_true_eq] at h1
        rcases h1 with h1 | h1
        · exact h1
        · have := List.all_eq_true.1 h1 i (List.mem_range.2 him)
          rw [hnot] at this; cases this
      have hrest : BU m B rest = BU m B (i :: rest) ∧ BU m B (i :: rest.erase j) = BU m B (i :: rest) := by
        by_cases him : i < m
        · rw [BU_head him, BU_head him, BU_mem (hjm him) hjr]; exact ⟨rfl, rfl⟩
        · have hlate : ∀ x ∈ rest, m ≤ x := fun x hx => by have := (List.pairwise_cons.1 hs).1 x hx; omega
          rw [BU_late hlate, BU_late (fun x hx => by
            simp only [List.mem_cons] at hx
            rcases hx with rfl | hx
            · omega
            · exact hlate x hx), BU_late (fun x hx => by
            simp only [List.mem_cons] at hx
            rcases hx with rfl | hx
            · omega
            · exact hlate x (List.mem_of_mem_erase hx))]
          exact ⟨rfl, rfl⟩
      have hil : i < l.length := by omega
      have hjl' : j < l.length := by omega
      have hok : swapOk l[i] l[j] = true := by
        have h1 := List.all_eq_true.1 hp j (List.mem_range.2 hjl')
        have h2 := List.all_eq_true.1 h1 i (List.mem_range.2 hij)
        rw [hnot] at h2
        simpa [hil, hjl'] using h2
      have hrj' : rdy ops rest j := fun o ho e he hin => hrj o ho e he (List.mem_cons_of_mem _ hin)
      have herase : (i :: rest).erase j = i :: rest.erase j := by
        rw [List.erase_cons_tail]
        simpa using fun h => hji h.symm
      rw [herase]
      generalize hBB : BU m B (i :: rest) = BB at *
      -- i, then j
      have h1 : dO P N BB Q l[i] (fun T' σ' => good BB σ' → dO P N BB Q l[j] (aU P N m B Q ops l n (rest.erase j)) T' σ') T σ := by
        have : doAt P N BB Q l i = dO P N BB Q l[i] := by simp [doAt, hil]
        rw [this] at h
        refine mono_dop _ _ _ _ hg h fun v σ' _ hg' hK hg'' => ?_
        have := hK (by rw [hrest.1]; exact hg') j hjr hrj'
        rw [hrest.1] at this
        simpa [doAt, hjl'] using this
      have h2 := dop_swap hok hg h1
      have h3 : doAt P N BB Q l j (fun T' σ' => good BB σ' → dO P N BB Q l[i] (aU P N m B Q ops l n (rest.erase j)) T' σ') T σ := by
        simpa [doAt, hjl'] using h2
      refine doAt_mono hg h3 fun T' σ' hg' hK => ?_
      have hsub : ∀ x ∈ rest.erase j, x ∈ rest := fun x hx => List.mem_of_mem_erase hx
      refine ih i (rest.erase j) T' σ' ?_ ?_ ?_ ?_ ?_ (by rw [hrest.2]; exact hg') ?_
      · exact List.pairwise_cons.2 ⟨fun x hx => (List.pairwise_cons.1 hs).1 x (hsub x hx), (List.pairwise_cons.1 hs).2.sublist List.erase_sublist⟩
      · intro x hx
        simp only [List.mem_cons] at hx
        rcases hx with rfl | hx
        · exact hlt _ List.mem_cons_self
        · exact hlt x (List.mem_cons_of_mem _ (hsub x hx))
      · intro k hk o ho e he hin
        have hin' : e ∈ i :: rest := by
          simp only [List.mem_cons] at hin ⊢
          exact hin.imp id (hsub e)
        by_cases hkj : k = j
        · subst hkj; exact hrj o ho e he hin'
        · refine hc k (fun hk' => hk ?_) o ho e he hin'
          simp only [List.mem_cons] at hk' ⊢
          exact hk'.imp id fun h => (List.mem_erase_of_ne hkj).2 h
      · exact fun o ho e he hin => hr o ho e he (by
          simp only [List.mem_cons] at hin ⊢
          exact hin.imp id (hsub e))
      · rw [List.length_erase_of_mem hjr]; omega
      · rw [hrest.2]; simpa [doAt, hil] using hK hg'
def aopsX (P : Program) (N : Nat) (B : List Nat) (m : Nat) : Nat → List DO → (XA → Env → St → Prop) → Env → St → Prop
  | _, [], Q, T, σ => Q .normal T σ
  | k, x :: rest, Q, T, σ => dO P N (if k < m then B else []) Q x (aopsX P N B m (k + 1) rest Q) T σ
theorem aU_of {ops : List Oper} {A : List Nat} (hA : ancOk ops A = true) {l : List DO} (hl : l.length = ops.length) (hp : pairsOk l A = true) {m : Nat} (hm : lateOk A m ops.length = true) : ∀ (n k : Nat) (T : Env) (σ : St), k + n = ops.length →
    aopsX P N B m k (l.drop k) Q T σ → aU P N m B Q ops l n (List.range' k n) T σ
  | 0, k, T, σ, hk, h => fun _ => by
    have : l.drop k = [] := List.drop_eq_nil_of_le (by omega)
    rw [this] at h
    exact h
  | n + 1, k, T, σ, hk, h => fun hg => by
    have hkl : k < l.length := by omega
    rw [List.drop_eq_getElem_cons hkl] at h
    have hbu : BU m B (List.range' k (n + 1)) = if k < m then B else [] := by
      by_cases hkm : k < m
      · rw [if_pos hkm, List.range'_succ, BU_head hkm]
      · rw [if_neg hkm]; exact BU_late fun x hx => by rw [List.mem_range'_1] at hx; omega
    have h1 : doAt P N (BU m B (List.range' k (n + 1))) Q l k (aU P N m B Q ops l n (List.range' (k + 1) n)) T σ := by
      have : doAt P N (BU m B (List.range' k (n + 1))) Q l k = dO P N (BU m B (List.range' k (n + 1))) Q l[k] := by simp [doAt, hkl]
      rw [this, hbu]
      rw [hbu] at hg
      exact mono_dop _ _ _ _ hg h fun v σ' _ hg' hK => aU_of hA hl hp hm n (k + 1) _ _ (by omega) hK
    have hw : ∀ j o, ops[j]? = some o → ∀ e ∈ waitsOf o, e < j := fun j o ho e he => by
      have hj : j < ops.length := (List.getElem?_eq_some_iff.1 ho).1
      have h1 := List.all_eq_true.1 hA j (List.mem_range.2 hj)
      rw [ho] at h1
      simp only [Bool.and_eq_true] at h1
      simpa using List.all_eq_true.1 h1.1 e he
    have hmem : ∀ x, x ∈ k :: List.range' (k + 1) n ↔ k ≤ x ∧ x < k + n + 1 := fun x => by
      rw [← List.range'_succ, List.mem_range'_1]; omega
    rw [List.range'_succ] at h1 hg
    have := delay (P := P) (N := N) (B := B) (Q := Q) hA hl hp hm n k (List.range' (k + 1) n) T σ ?_ ?_ ?_ ?_ (by simp) hg h1
    · rw [List.range'_succ]; exact this hg
    · rw [← List.range'_succ]; exact List.pairwise_lt_range'
    · intro j hj; have := (hmem j).1 hj; omega
    · intro j hj o ho e he hin
      have h2 := hw j o ho e he
      have h3 := (hmem e).1 hin
      have hjl : j < ops.length := (List.getElem?_eq_some_iff.1 ho).1
      exact hj ((hmem j).2 (by omega))
    · intro o ho e he hin
      have h2 := hw k o ho e he
      have h3 := (hmem e).1 hin
      omega
theorem dO_q {Q' : XA → Env → St → Prop} (hq : ∀ d, Q' (.panic d) = Q (.panic d)) (x : DO) : dO P N B Q' x K T σ = dO P N B Q x K T σ := by
  have hp : ∀ d s, panK Q' d s = panK Q d s := fun d s => by simp only [panK, hq]
  have core : dcore P N B x.fl x.st x.o Q' K T σ = dcore P N B x.fl x.st x.o Q K T σ := by
    obtain ⟨⟨d, op, g⟩, fl, st⟩ := x
    cases op <;> try rfl
    case panic y => simp only [dcore, aop, hp]
    case call c =>
      obtain ⟨callee, args, ts⟩ := c
      cases callee with
      | value f => simp only [dcore, callB, hp]
      | invoke r m => rfl
      | builtin b => cases b <;> rfl
  unfold dO dop
  rw [core]
theorem aopsX_late {m : Nat} : ∀ (l : List DO) (k : Nat) (T : Env) (σ : St), good [] σ → m ≤ k → aopsD P N [] l Q T σ → aopsX P N B m k l Q T σ
  | [], k, T, σ, hg, hk, h => h
  | x :: l, k, T, σ, hg, hk, h => by
    simp only [aopsX, if_neg (show ¬ k < m by omega)]
    simp only [aopsD] at h
    exact mono_dop _ _ _ _ hg h fun v σ' _ hg' hK => aopsX_late l (k + 1) _ _ hg' (by omega) hK
theorem good_any {m : Nat} {U : List Nat} (h : good B σ) : good (BU m B U) σ := by
  unfold BU; split
  · exact h
  · exact ⟨h.1, fun b hb => by cases hb⟩
theorem aopsX_of {m : Nat} : ∀ (l : List DO) (k : Nat) (T : Env) (σ : St), good B σ → k ≤ m → m - k ≤ l.length → aopsD P N B (l.take (m - k)) (thenA (aopsD P N [] (l.drop (m - k)) Q) Q) T σ → aopsX P N B m k l Q T σ
  | l, k, T, σ, hg, hk, hl, h => by
    by_cases hkm : k = m
    · subst hkm
      simp only [Nat.sub_self, List.take_zero, List.drop_zero, aopsD, thenA] at h
      exact aopsX_late l k T σ ⟨hg.1, fun b hb => by cases hb⟩ (Nat.le_refl _) h
    · cases l with
      | nil => simp at hl; omega
      | cons x l =>
        obtain ⟨d, hd⟩ : ∃ d, m - k = d + 1 := ⟨m - k - 1, by omega⟩
        rw [hd] at h hl
        simp only [List.take_succ_cons, List.drop_succ_cons, aopsD] at h
        rw [dO_q (Q := Q) (Q' := thenA (aopsD P N [] (l.drop d) Q) Q) (fun d => rfl)] at h
        simp only [aopsX, if_pos (show k < m by omega)]
        refine mono_dop _ _ _ _ hg h fun v σ' _ hg' hK => ?_
        exact aopsX_of l (k + 1) _ _ hg' (by omega) (by simp at hl; omega) (by rw [show m - (k + 1) = d by omega]; exact hK)
theorem stripO_sound {ops : Array Oper} {o : Oper} {M : MMap} {a : Act} {w : World} (hN : N ≤ 1000000) (x : DO) (hx : x.o = stripO ops.toList o) (h : dO P N B Q x K T σ) (hi : AInv N M T σ a w) {M₀ : MMap} {σ₀ : St} {w₀ : World}
    (hd : ∀ b, M₀ b ≠ none → b < w₀.heap.size) (hk : KeepF M₀ σ₀ w₀ M σ w) {next : Act → World → Prop}
    (hnext : ∀ {M' T' σ' a' w'}, AInv N M' T' σ' a' w' → KeepF M₀ σ₀ w₀ M' σ' w' → K T' σ' → next a' w') :
    if Region.wanted o (yielded ops a.tmps) then o.wp P a w next (Post N M₀ σ₀ w₀ Q) else next (a.put o.dst undef) w := by
  unfold dO dop at h
  have run : dcore P N B x.fl x.st x.o Q K T σ → o.wp P a w next (Post N M₀ σ₀ w₀ Q) := fun hc => by
    have ha := dcore_aop hc
    rw [hx] at ha
    have := aop_sound (o := o) ha hi
    have h1 : o.wp P a w next (Post N M σ w Q) := Oper.wp_mono (fun a' w' ⟨M', T', σ', h1, h2, h3⟩ => hnext h1 (hk.trans hd h2) h3) this
    exact wp_exits h1 fun e a' w' hp => hp.trans hd hk
  have skip : putK N x.o.d (.tup []) K T σ → next (a.put o.dst undef) w := fun hp => by
    have hdst : x.o.d = o.dst := by rw [hx]; rfl
    rw [hdst] at hp
    obtain ⟨M', T', σ', h1, h2, h3⟩ := putK_sound (M := M) (σ := σ) (w := w) (v := undef) hp hi (KeepF.refl _ _ _) ⟨#[], rfl, rfl⟩
    exact hnext h1 (hk.trans hd h2) h3
  have hg : x.o.g = (stripO ops.toList o).g := by rw [hx]
  cases hgd : o.guard with
  | none =>
    have h0 : x.o.g = none := by rw [hg]; simp [stripO, hgd]
    rw [h0] at h
    have hw : Region.wanted o (yielded ops a.tmps) = true := by simp [Region.wanted, hgd]
    rw [hw]
    simp only [if_true]
    exact run h
  | some p =>
    obtain ⟨j, want⟩ := p
    have h0 : x.o.g = some (((ops.toList[j]?).bind (·.dst)).getD 1000000, want) := by rw [hg]; simp [stripO, hgd]
    rw [h0] at h
    simp only at h
    have hga : ∀ c, gq (T (((ops.toList[j]?).bind (·.dst)).getD 1000000)) want = some c → Region.wanted o (yielded ops a.tmps) = c := fun c hc => by
      cases hdst : (ops.toList[j]?).bind (·.dst) with
      | none =>
        rw [hdst] at hc
        have hy : yielded ops a.tmps j = none := by
          have : (ops[j]?).bind (·.dst) = none := by simpa using hdst
          unfold yielded
          simp only [this, Option.bind_none]
        have hno : T 1000000 = .any ∨ ∃ ds, T 1000000 = .tup ds ∨ ∃ b, T 1000000 = .bool b ∨ gq (T 1000000) want = none := by
          cases hT : T 1000000 <;> simp_all [gq]
        have hr := hi.env 1000000
        have hout : a.tmps.getD 1000000 undef = undef := by
          have h9 : a.tmps.size ≤ 1000000 := by rw [hi.size]; exact hN
          simp [Array.getD_eq_getD_getElem?, Array.getElem?_eq_none h9]
        rw [hout] at hr
        simp only [Option.getD_none] at hc
        have hcf : c = false := by
          cases hT : T 1000000 <;> rw [hT] at hc hr <;> simp only [gq, reduceCtorEq, Option.some.injEq] at hc
          · simp only [Rep, undef, reduceCtorEq] at hr
          · exact hc.symm
        simp only [Region.wanted, hgd, hy, hcf]
        rfl
      | some t =>
        rw [hdst] at hc
        refine guardA_sound (T := T) (N := N) (M := M) (σ := σ) (a := a) (w := w) ?_ hi
        unfold guardA
        rw [hgd]
        simp only [hdst]
        exact hc
    cases hT : gq (T (((ops.toList[j]?).bind (·.dst)).getD 1000000)) want <;> rw [hT] at h <;> simp only at h
    rename_i b
    rw [hga b hT]
    cases b
    · rw [br_false] at h
      simp only [Bool.false_eq_true, if_false]
      exact skip h
    · rw [br_true] at h
      simp only [if_true]
      exact run h
def Marks (n : Nat) (listed : Array Bool) (U : List Nat) : Prop := listed.size = n ∧ ∀ j, j < n → (listed.getD j true = false ↔ j ∈ U)
theorem aU_sound {ops : Array Oper} {l : List DO} {m : Nat} (hN : N ≤ 1000000) (hl : ∀ (i : Nat) (o : Oper), ops[i]? = some o → ∃ x, l[i]? = some x ∧ x.o = stripO ops.toList o) (hw : ∀ (j : Nat) (o : Oper), ops[j]? = some o → ∀ e ∈ waitsOf o, e < j) {M₀ : MMap} {σ₀ : St} {w₀ : World}
    (hd : ∀ b, M₀ b ≠ none → b < w₀.heap.size) : ∀ (n : Nat) (U : List Nat) (listed : Array Bool) {M : MMap} {T : Env} {σ : St} {a : Act} {w : World}, aU P N m B Q ops.toList l n U T σ → U.length = n → U.Nodup → (∀ j ∈ U, j < ops.size) → Marks ops.size listed U →
      AInv N M T σ a w → KeepF M₀ σ₀ w₀ M σ w → good (BU m B U) σ → wpAny P .any ops (Post N M₀ σ₀ w₀ Q) n listed a w := by
  have rdyU : ∀ {U : List Nat} {listed : Array Bool} {i : Nat}, Marks ops.size listed U → (∀ j ∈ U, j < ops.size) → (i ∈ Region.ready .any ops listed ↔ i ∈ U ∧ rdy ops.toList U i) := by
    intro U listed i hm hU
    rw [mem_ready]
    constructor
    · rintro ⟨h1, o, ho, h2⟩
      have hi : i < ops.size := (Array.getElem?_eq_some_iff.1 ho).1
      refine ⟨(hm.2 i hi).1 h1, fun o' ho' e he hin => ?_⟩
      have : o' = o := by
        have : ops.toList[i]? = some o := by simpa using ho
        rw [this] at ho'; exact (Option.some.inj ho').symm
      subst this
      simp only [waitsOf, List.mem_map, List.mem_filter] at he
      obtain ⟨ed, ⟨hed, hb⟩, rfl⟩ := he
      have h3 := h2 ed (by simpa using hed) hb
      have h4 := (hm.2 ed.on (hU _ hin)).2 hin
      have hlt : ed.on < listed.size := by rw [hm.1]; exact hU _ hin
      simp [hlt] at h3 h4
      rw [h3] at h4; cases h4
    · rintro ⟨h1, h2⟩
      have hi := hU i h1
      have ho : ops[i]? = some ops[i] := by simp [hi]
      refine ⟨(hm.2 i hi).2 h1, ops[i], ho, fun ed hed hb => ?_⟩
      have hon : ed.on ∈ waitsOf ops[i] := by
        simp only [waitsOf, List.mem_map, List.mem_filter]
        exact ⟨ed, ⟨by simpa using hed, hb⟩, rfl⟩
      have hlt : ed.on < ops.size := by have := hw i _ ho _ hon; omega
      have hnU := h2 ops[i] (by simp [hi]) ed.on hon
      have h3 : ¬ (listed.getD ed.on true = false) := fun h => hnU ((hm.2 ed.on hlt).1 h)
      have hlt' : ed.on < listed.size := by rw [hm.1]; exact hlt
      simp [hlt'] at h3 ⊢
      exact h3
  intro n
  induction n with
  | zero =>
    intro U listed M T σ a w h hlen hnd hU hm hi hk hg
    have : U = [] := List.eq_nil_of_length_eq_zero hlen
    subst this
    refine ⟨?_, M, T, σ, .normal, rfl, hi, hk, h hg⟩
    apply List.eq_nil_iff_forall_not_mem.2
    intro i hin
    have := ((rdyU hm hU).1 hin).1
    cases this
  | succ n ih =>
    intro U listed M T σ a w h hlen hnd hU hm hi hk hg
    refine ⟨fun hemp => ?_, fun i hin => ?_⟩
    · -- the first one that is left is ready
      exfalso
      have hex : ∃ i, i ∈ U ∧ ∀ j ∈ U, i ≤ j := by
        have hne : U ≠ [] := by intro h0; rw [h0] at hlen; simp at hlen
        have key : ∀ (V : List Nat), V ≠ [] → ∃ i, i ∈ V ∧ ∀ j ∈ V, i ≤ j := by
          intro V
          induction V with
          | nil => intro h; exact absurd rfl h
          | cons v V ihV =>
            intro _
            by_cases hV : V = []
            · subst hV; exact ⟨v, by simp, by simp⟩
            · obtain ⟨i, h1, h2⟩ := ihV hV
              by_cases hvi : v ≤ i
              · refine ⟨v, by simp, fun j hj => ?_⟩
                simp only [List.mem_cons] at hj
                rcases hj with rfl | hj
                · exact Nat.le_refl _
                · exact Nat.le_trans hvi (h2 j hj)
              · refine ⟨i, by simp [h1], fun j hj => ?_⟩
                simp only [List.mem_cons] at hj
                rcases hj with rfl | hj
                · omega
                · exact h2 j hj
        exact key U hne
      obtain ⟨i, h1, h2⟩ := hex
      have : i ∈ Region.ready .any ops listed := (rdyU hm hU).2 ⟨h1, fun o ho e he hin => by
        have h3 := hw i o (by simpa using ho) e he
        have h4 := h2 e hin
        omega⟩
      rw [hemp] at this; cases this
    · obtain ⟨hiU, hri⟩ := (rdyU hm hU).1 hin
      have hil := hU i hiU
      have ho : ops[i]? = some ops[i] := by simp [hil]
      obtain ⟨x, hx, hxo⟩ := hl i _ ho
      have h1 := h hg i hiU hri
      have h2 := doAt_mono (K' := fun T' σ' => good (BU m B (U.erase i)) σ' ∧ aU P N m B Q ops.toList l n (U.erase i) T' σ') hg h1 fun T' σ' hg' hK => ⟨good_sub (fun x hx => List.mem_of_mem_erase hx) hg', hK⟩
      simp only [doAt, hx] at h2
      unfold wpOp
      rw [ho]
      simp only
      have := stripO_sound hN x hxo h2 hi hd hk (next := wpAny P .any ops (Post N M₀ σ₀ w₀ Q) n (listed.setIfInBounds i true)) fun {M' T' σ' a' w'} hi' hk' hK => ?_
      · split
        · rename_i hwn; rw [if_pos hwn] at this; exact .inl this
        · rename_i hwn; rw [if_neg hwn] at this; exact this
      · refine ih (U.erase i) _ hK.2 (by rw [List.length_erase_of_mem hiU]; omega) (hnd.erase i) (fun j hj => hU j (List.mem_of_mem_erase hj)) ⟨by simp [hm.1], fun j hj => ?_⟩ hi' hk' hK.1
        by_cases hji : i = j
        · subst hji
          have hlt : i < listed.size := by rw [hm.1]; exact hil
          simp only [hnd.mem_erase_iff, ne_eq, not_true_eq_false, false_and, iff_false]
          simp [hlt]
        · rw [getD_set_ne true hji, hm.2 j hj, hnd.mem_erase_iff]
          exact ⟨fun h => ⟨Ne.symm hji, h⟩, fun h => h.2⟩
theorem awp_draw {id : Nat} {ops : Array Oper} {A : List Nat} {m : Nat} (hm : P.follows .mixedOrders = true) (hN : N ≤ 1000000) (hA : ancOk ops.toList A = true) (hp : pairsOk (dos ops.toList A) A = true) (hl : lateOk A m ops.toList.length = true) (hml : m ≤ ops.toList.length) (hB : ∀ b ∈ B, σ.box b ≠ none)
    (h : aopsD P N B ((dos ops.toList A).take m) (thenA (aopsD P N [] ((dos ops.toList A).drop m) Q) Q) T σ) : awp P N (.region id ops true) Q T σ := by
  intro M a w hi
  refine wp_region_any hm ?_
  obtain ⟨hi1, hk1⟩ := drew_inv hi.inv
  have hg : good B σ := ⟨⟨w.heap.size, fun b hb hin => by have := hi.inv.dom b (hi.inv.lt hin); omega⟩, hB⟩
  have hlen : (dos ops.toList A).length = ops.toList.length := by simp [dos]
  have hU := aU_of (P := P) (N := N) (B := B) (Q := Q) hA hlen hp hl ops.toList.length 0 T σ (by omega) (aopsX_of (dos ops.toList A) 0 T σ hg (Nat.zero_le _) (by omega) h)
  have hw : ∀ (j : Nat) (o : Oper), ops[j]? = some o → ∀ e ∈ waitsOf o, e < j := fun j o ho e he => by
    have hj : j < ops.toList.length := by simpa using (Array.getElem?_eq_some_iff.1 ho).1
    have h1 := List.all_eq_true.1 hA j (List.mem_range.2 hj)
    have ho' : ops.toList[j]? = some o := by simpa using ho
    rw [ho'] at h1
    simp only [Bool.and_eq_true] at h1
    simpa using List.all_eq_true.1 h1.1 e he
  have hlen' : ops.toList.length = ops.size := by simp
  rw [hlen'] at hU
  refine aU_sound hN (fun i o ho => ?_) hw hi.inv.dom ops.size (List.range' 0 ops.size) (Array.replicate ops.size false) hU (by simp) List.nodup_range' (fun j hj => by
    rw [List.mem_range'_1] at hj; omega) ⟨by simp, fun j hj => by simp [hj, List.mem_range'_1]⟩ (hi.keep hk1.toKeep hi1) hk1 (good_any hg)
  have ho' : ops.toList[i]? = some o := by simpa using ho
  exact ⟨⟨stripO ops.toList o, flagL (ops.toList.map (kd ·.op)) A i, flagC (ops.toList.map (kd ·.op)) A i⟩, by simp [dos, List.getElem?_zipIdx, ho'], rfl⟩
end
end Go.AL
