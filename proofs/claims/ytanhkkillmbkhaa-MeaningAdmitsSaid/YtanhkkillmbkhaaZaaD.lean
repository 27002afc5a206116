import Derived.Calls
import Derived.Orders
import Derived.Tactics
import Derived.KernelRfl
namespace Go.AL

inductive Own where
  | no | nil | exact | buf (b size : Nat)

inductive D where
  | any
  | bool (b : Bool) | int (k : IntKind) (n : Int) | str (s : ByteArray)
  | nilptr | ptr (b off : Nat) | eptr (cs : List D)
  | slice (o : Own) (es : List (List D))
  | bsl (b off len cap : Nat)
  | nilfunc | func (fn : Fn) (first captured : List D)
  | niliface | iface (t : TypeId) (d : D)
  | agg (cs : List D) | tup (ds : List D)

inductive MK where
  | box | buf (lim : Nat)

abbrev MMap := Nat → Option MK

def ImmAt (M : MMap) (b off : Nat) : Prop :=
  match M b with
  | none => True
  | some .box => False
  | some (.buf lim) => off < lim

mutual
def Rep (M : MMap) (w : World) : D → Value → Prop
  | .any, _ => True
  | .bool b, v => v = .bool b
  | .int k n, v => v = .int k n
  | .str s, v => v = .string s
  | .nilptr, v => v = .pointer none
  | .ptr b off, v => v = .pointer (some ⟨b, off, none⟩)
  | .eptr cs, v => ∃ b off, v = .pointer (some ⟨b, off, none⟩) ∧ RepCells M w cs b off
  | .slice o es, v => match o with
    | .nil => v = .slice none 0 0 ∧ es = []
    | .exact => ∃ b off size, v = .slice (some ⟨b, off, none⟩) es.length es.length ∧ RepRows M w es b off size
    | .no => (v = .slice none 0 0 ∧ es = []) ∨ (∃ b off cap size, v = .slice (some ⟨b, off, none⟩) es.length cap ∧ es.length ≤ cap ∧ RepRows M w es b off size) ∨ ∃ a cap, v = .slice (some a) 0 cap ∧ es = []
    | .buf b size => ∃ cap c e f, v = .slice (some ⟨b, 0, none⟩) es.length cap ∧ es.length ≤ cap ∧ RepRows M w es b 0 size ∧ w.heap[b]? = some (.cells c e f) ∧ c.size = cap * size ∧ M b ≠ some .box
  | .bsl b off len cap, v => v = .slice (some ⟨b, off, none⟩) len cap
  | .nilfunc, v => v = .nilFunc
  | .func fn fi ca, v => ∃ vf vc, v = .func fn vf vc ∧ RepAll M w fi vf.toList ∧ RepAll M w ca vc.toList
  | .niliface, v => v = .nilIface
  | .iface t d, v => ∃ u, v = .iface t u ∧ Rep M w d u
  | .agg cs, v => ∃ a, v = .agg a ∧ RepAll M w cs a.toList ∧ ∀ u ∈ a.toList, u.oneCell' = true
  | .tup ds, v => ∃ a, v = .tuple a ∧ RepAll M w ds a.toList
def RepAll (M : MMap) (w : World) : List D → List Value → Prop
  | [], vs => vs = []
  | d :: ds, vs => ∃ v vs', vs = v :: vs' ∧ Rep M w d v ∧ RepAll M w ds vs'
def RepCells (M : MMap) (w : World) : List D → Nat → Nat → Prop
  | [], _, _ => True
  | d :: ds, b, off => (∃ v, w.cell? ⟨b, off, none⟩ = some v ∧ v.oneCell' = true ∧ ImmAt M b off ∧ Rep M w d v) ∧ RepCells M w ds b (off + 1)
def RepRows (M : MMap) (w : World) : List (List D) → Nat → Nat → Nat → Prop
  | [], _, _, _ => True
  | e :: es, b, off, size => e.length = size ∧ RepCells M w e b off ∧ RepRows M w es b (off + size) size
end

/-- What a step keeps: the streams; immutable blocks to the bit; the shut part of an owned row. -/
structure Keep (M : MMap) (w : World) (M' : MMap) (w' : World) : Prop where
  os : w'.os = w.os
  tape : w'.tape = w.tape
  output : w'.output = w.output
  size : w.heap.size ≤ w'.heap.size
  imm : ∀ b, b < w.heap.size → M b = none → M' b = none ∧ w'.heap[b]? = w.heap[b]?
  buf : ∀ b lim c e f, M b = some (.buf lim) → w.heap[b]? = some (.cells c e f) →
    (∃ c', w'.heap[b]? = some (.cells c' e f) ∧ c'.size = c.size ∧ ∀ i, i < lim → c'[i]? = c[i]?) ∧
    (M' b = none ∨ ∃ lim', lim ≤ lim' ∧ M' b = some (.buf lim'))

theorem Keep.refl (M : MMap) (w : World) : Keep M w M w :=
  ⟨rfl, rfl, rfl, Nat.le_refl _, fun _ _ h => ⟨h, rfl⟩, fun _ lim c _ _ h hc => ⟨⟨c, hc, rfl, fun _ _ => rfl⟩, .inr ⟨lim, Nat.le_refl _, h⟩⟩⟩

theorem heap_lt {w : World} {b : Nat} {o : Obj} (h : w.heap[b]? = some o) : b < w.heap.size :=
  (Array.getElem?_eq_some_iff.1 h).1

theorem Keep.trans {M M₁ M₂ : MMap} {w w₁ w₂ : World} (h : Keep M w M₁ w₁) (k : Keep M₁ w₁ M₂ w₂) : Keep M w M₂ w₂ := by
  refine ⟨k.os.trans h.os, k.tape.trans h.tape, k.output.trans h.output, Nat.le_trans h.size k.size, fun b hb hM => ?_, fun b lim c e f hM hc => ?_⟩
  · obtain ⟨h1, h2⟩ := h.imm b hb hM
    obtain ⟨k1, k2⟩ := k.imm b (Nat.lt_of_lt_of_le hb h.size) h1
    exact ⟨k1, k2.trans h2⟩
  · obtain ⟨⟨c₁, h1, h2, h3⟩, h4⟩ := h.buf b lim c e f hM hc
    rcases h4 with h4 | ⟨lim₁, h4, h5⟩
    · obtain ⟨k1, k2⟩ := k.imm b (heap_lt h1) h4
      exact ⟨⟨c₁, k2.trans h1, h2, h3⟩, .inl k1⟩
    · obtain ⟨⟨c₂, k1, k2, k3⟩, k4⟩ := k.buf b lim₁ c₁ e f h5 h1
      refine ⟨⟨c₂, k1, k2.trans h2, fun i hi => (k3 i (Nat.lt_of_lt_of_le hi h4)).trans (h3 i hi)⟩, ?_⟩
      rcases k4 with k4 | ⟨lim₂, k4, k5⟩
      · exact .inl k4
      · exact .inr ⟨lim₂, Nat.le_trans h4 k4, k5⟩

theorem cell_some {w : World} {b off : Nat} {v : Value} (h : w.cell? ⟨b, off, none⟩ = some v) : ∃ c e f, w.heap[b]? = some (.cells c e f) ∧ c[off]? = some v := by
  simp only [World.cell?] at h
  split at h
  · rename_i c e f hc
    simp at h
    exact ⟨c, e, f, hc, h⟩
  · cases h

theorem cell_of {w : World} {b off : Nat} {v : Value} {c : Array Value} {e : TypeId} {f : Nat × Nat} (h : w.heap[b]? = some (.cells c e f)) (hv : c[off]? = some v) : w.cell? ⟨b, off, none⟩ = some v := by
  simp [World.cell?, h, hv]

theorem Keep.cell {M M' : MMap} {w w' : World} (h : Keep M w M' w') {b off : Nat} {v : Value} (hc : w.cell? ⟨b, off, none⟩ = some v) (hi : ImmAt M b off) :
    w'.cell? ⟨b, off, none⟩ = some v ∧ ImmAt M' b off := by
  obtain ⟨c, e, f, hh, hv⟩ := cell_some hc
  unfold ImmAt at hi
  cases hM : M b with
  | none =>
    obtain ⟨h1, h2⟩ := h.imm b (heap_lt hh) hM
    exact ⟨cell_of (h2.trans hh) hv, by simp [ImmAt, h1]⟩
  | some m =>
    cases m with
    | box => simp [hM] at hi
    | buf lim =>
      simp [hM] at hi
      obtain ⟨⟨c', h1, _, h3⟩, h4⟩ := h.buf b lim c e f hM hh
      refine ⟨cell_of h1 ((h3 off hi).trans hv), ?_⟩
      rcases h4 with h4 | ⟨lim', h4, h5⟩
      · simp [ImmAt, h4]
      · simp only [ImmAt, h5]; omega

theorem Keep.shape {M M' : MMap} {w w' : World} (h : Keep M w M' w') {b lim : Nat} {c : Array Value} {e : TypeId} {f : Nat × Nat} (hc : w.heap[b]? = some (.cells c e f))
    (hM : M b = none ∨ M b = some (.buf lim)) : ∃ c', w'.heap[b]? = some (.cells c' e f) ∧ c'.size = c.size := by
  rcases hM with hM | hM
  · exact ⟨c, (h.imm b (heap_lt hc) hM).2.trans hc, rfl⟩
  · obtain ⟨⟨c', h1, h2, _⟩, _⟩ := h.buf b lim c e f hM hc
    exact ⟨c', h1, h2⟩

theorem Keep.notBox {M M' : MMap} {w w' : World} (h : Keep M w M' w') {b : Nat} {c : Array Value} {e : TypeId} {f : Nat × Nat} (hc : w.heap[b]? = some (.cells c e f)) (hM : M b ≠ some .box) :
    (∃ c', w'.heap[b]? = some (.cells c' e f) ∧ c'.size = c.size) ∧ M' b ≠ some .box := by
  cases hb : M b with
  | none =>
    obtain ⟨h1, h2⟩ := h.imm b (heap_lt hc) hb
    exact ⟨⟨c, h2.trans hc, rfl⟩, by simp [h1]⟩
  | some m =>
    cases m with
    | box => exact absurd hb hM
    | buf lim =>
      obtain ⟨⟨c', h1, h2, _⟩, h4⟩ := h.buf b lim c e f hb hc
      refine ⟨⟨c', h1, h2⟩, ?_⟩
      rcases h4 with h4 | ⟨lim', _, h5⟩
      · simp [h4]
      · simp [h5]

mutual
theorem Rep.keep {M M' : MMap} {w w' : World} (h : Keep M w M' w') : ∀ (d : D) (v : Value), Rep M w d v → Rep M' w' d v
  | .any, _, _ => trivial
  | .bool _, _, r => r
  | .int _ _, _, r => r
  | .str _, _, r => r
  | .nilptr, _, r => r
  | .ptr _ _, _, r => r
  | .eptr cs, _, r => by
    obtain ⟨b, off, rfl, r⟩ := r
    exact ⟨b, off, rfl, RepCells.keep h cs b off r⟩
  | .slice o es, v, r => by
    cases o with
    | nil => exact r
    | exact =>
      obtain ⟨b, off, size, hv, r⟩ := r
      exact ⟨b, off, size, hv, RepRows.keep h es b off size r⟩
    | no =>
      rcases r with r | ⟨b, off, cap, size, hv, hl, r⟩ | r
      · exact .inl r
      · exact .inr (.inl ⟨b, off, cap, size, hv, hl, RepRows.keep h es b off size r⟩)
      · exact .inr (.inr r)
    | buf b size =>
      obtain ⟨cap, c, e, f, hv, hl, r, hc, hs, hb⟩ := r
      obtain ⟨⟨c', h1, h2⟩, h3⟩ := h.notBox hc hb
      exact ⟨cap, c', e, f, hv, hl, RepRows.keep h es b 0 size r, h1, h2.trans hs, h3⟩
  | .bsl _ _ _ _, _, r => r
  | .nilfunc, _, r => r
  | .func fn fi ca, _, r => by
    obtain ⟨vf, vc, hv, r1, r2⟩ := r
    exact ⟨vf, vc, hv, RepAll.keep h fi _ r1, RepAll.keep h ca _ r2⟩
  | .niliface, _, r => r
  | .iface t d, _, r => by
    obtain ⟨u, hv, r⟩ := r
    exact ⟨u, hv, Rep.keep h d u r⟩
  | .agg cs, _, r => by
    obtain ⟨a, hv, r, h1⟩ := r
    exact ⟨a, hv, RepAll.keep h cs _ r, h1⟩
  | .tup ds, _, r => by
    obtain ⟨a, hv, r⟩ := r
    exact ⟨a, hv, RepAll.keep h ds _ r⟩
theorem RepAll.keep {M M' : MMap} {w w' : World} (h : Keep M w M' w') : ∀ (ds : List D) (vs : List Value), RepAll M w ds vs → RepAll M' w' ds vs
  | [], _, r => r
  | d :: ds, _, r => by
    obtain ⟨v, vs, hv, r1, r2⟩ := r
    exact ⟨v, vs, hv, Rep.keep h d v r1, RepAll.keep h ds vs r2⟩
theorem RepCells.keep {M M' : MMap} {w w' : World} (h : Keep M w M' w') : ∀ (ds : List D) (b off : Nat), RepCells M w ds b off → RepCells M' w' ds b off
  | [], _, _, _ => trivial
  | d :: ds, b, off, r => by
    obtain ⟨⟨v, hv, ho, hi, r1⟩, r2⟩ := r
    obtain ⟨h1, h2⟩ := h.cell hv hi
    exact ⟨⟨v, h1, ho, h2, Rep.keep h d v r1⟩, RepCells.keep h ds b _ r2⟩
theorem RepRows.keep {M M' : MMap} {w w' : World} (h : Keep M w M' w') : ∀ (es : List (List D)) (b off size : Nat), RepRows M w es b off size → RepRows M' w' es b off size
  | [], _, _, _, _ => trivial
  | e :: es, b, off, size, r => by
    obtain ⟨r0, r1, r2⟩ := r
    exact ⟨r0, RepCells.keep h e b off r1, RepRows.keep h es b _ size r2⟩
end
end Go.AL
