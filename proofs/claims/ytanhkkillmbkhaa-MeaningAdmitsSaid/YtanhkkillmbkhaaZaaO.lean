import Derived.Test.YtanhkkillmbkhaaZaaP
namespace Go.AL
set_option linter.unusedVariables false
set_option linter.unusedSimpArgs false

/-- May stand in a cell. -/
def D.cellQ : D → Bool
  | .agg _ | .tup _ | .any => false
  | _ => true

theorem Rep.oneCell {M : MMap} {w : World} {d : D} {v : Value} (h : Rep M w d v) (hq : d.cellQ = true) : v.oneCell' = true := by
  cases d with
  | any => cases hq
  | agg _ => cases hq
  | tup _ => cases hq
  | slice o es =>
    cases o with
    | nil => obtain ⟨rfl, _⟩ := h; rfl
    | exact => obtain ⟨_, _, _, rfl, _⟩ := h; rfl
    | no => rcases h with ⟨rfl, _⟩ | ⟨_, _, _, _, rfl, _⟩ | ⟨_, _, rfl, _⟩ <;> rfl
    | buf b s => obtain ⟨_, _, _, _, rfl, _⟩ := h; rfl
  | eptr cs => obtain ⟨_, _, rfl, _⟩ := h; rfl
  | func fn fi ca => obtain ⟨_, _, rfl, _⟩ := h; rfl
  | iface t d => obtain ⟨_, rfl, _⟩ := h; rfl
  | _ => simp only [Rep] at h; subst h; rfl

/-- A slice that goes into a cell of another row: who owns it is forgotten. -/
def frz : D → D
  | .slice _ es => .slice .no es
  | d => d

theorem frz_rep {M : MMap} {w : World} {d : D} {v : Value} (h : Rep M w d v) : Rep M w (frz d) v := by
  cases d with
  | slice o es =>
    cases o with
    | nil => exact .inl h
    | exact => obtain ⟨b, off, size, hv, h⟩ := h; exact .inr (.inl ⟨b, off, _, size, hv, Nat.le_refl _, h⟩)
    | no => exact h
    | buf b s => obtain ⟨cap, c, e, f, hv, hl, hr, _⟩ := h; exact .inr (.inl ⟨b, 0, cap, s, hv, hl, hr⟩)
  | _ => exact h

theorem frz_cellQ {d : D} (h : d.cellQ = true) : (frz d).cellQ = true := by cases d <;> first | rfl | exact h

/-- The cells of a value that may be stored. -/
def cellsD (P : Program) (t : TypeId) (d : D) : Option (List D) :=
  match aggP P t, szP P t with
  | some true, some n => match d with | .agg cs => if cs.length = n then some cs else none | _ => none
  | some false, some 1 => if d.cellQ = true then some [d] else none
  | _, _ => none

theorem cellsD_rep {P : Program} {M : MMap} {w : World} {t : TypeId} {d : D} {cs : List D} {v : Value} (h : cellsD P t d = some cs) (hr : Rep M w d v) :
    RepAll M w cs v.cells.toList ∧ (∀ u ∈ v.cells.toList, u.oneCell' = true) ∧ szP P t = some v.cells.size := by
  unfold cellsD at h
  split at h
  · rename_i n hg hs
    cases d with
    | agg cs' =>
      simp only at h
      split at h
      · rename_i hl
        cases h
        obtain ⟨a, rfl, h1, h2⟩ := hr
        refine ⟨h1, h2, ?_⟩
        have := h1.length
        simp only [Value.cells]
        rw [hs, ← hl, this]; simp
      · cases h
    | _ => cases h
  · rename_i hg hs
    split at h
    · rename_i hq
      cases h
      have ho := hr.oneCell hq
      have hc : v.cells = #[v] := by cases v <;> first | rfl | cases ho
      rw [hc]
      exact ⟨⟨v, [], rfl, hr, rfl⟩, by simpa using ho, by simpa using hs⟩
    · cases h
  · cases h

def binI (op : BinOp) (k : IntKind) (a b : Int) : Option (Prop × D) :=
  match op with
  | .add => some (True, .int k (k.wrap (a + b)))
  | .sub => some (True, .int k (k.wrap (a - b)))
  | .mul => some (True, .int k (k.wrap (a * b)))
  | .quo => some (b ≠ 0, .int k (k.wrap (a.tdiv b)))
  | .rem => some (b ≠ 0, .int k (a.tmod b))
  | .and => some (True, .int k (k.wrap (BitVec.ofInt k.bits a &&& BitVec.ofInt k.bits b).toNat))
  | .or => some (True, .int k (k.wrap (BitVec.ofInt k.bits a ||| BitVec.ofInt k.bits b).toNat))
  | .xor => some (True, .int k (k.wrap (BitVec.ofInt k.bits a ^^^ BitVec.ofInt k.bits b).toNat))
  | .andNot => some (True, .int k (k.wrap (BitVec.ofInt k.bits a &&& ~~~ BitVec.ofInt k.bits b).toNat))
  | .eql => some (True, .bool (decide (a = b)))
  | .neq => some (True, .bool (!decide (a = b)))
  | .lss => some (True, .bool (decide (a < b)))
  | .leq => some (True, .bool (decide (a ≤ b)))
  | .gtr => some (True, .bool (decide (a > b)))
  | .geq => some (True, .bool (decide (a ≥ b)))
  | .shl | .shr => none

def binD (P : Program) (op : BinOp) (xt : TypeId) : D → D → Option (Prop × D)
  | .int k a, .int k' b =>
    match op with
    | .shl => some (0 ≤ b, .int k (k.wrap (a * 2 ^ (min b.toNat k.bits))))
    | .shr => some (0 ≤ b, .int k (a.fdiv (2 ^ (min b.toNat k.bits))))
    | op => if k = k' then binI op k a b else none
  | .str a, .str b =>
    match op with
    | .add => some (a.size + b.size ≤ 9223372036854775807, .str (a ++ b))
    | .eql => some (True, .bool (decide (a = b)))
    | .neq => some (True, .bool (!decide (a = b)))
    | _ => none
  | .bool a, .bool b =>
    match op, boolP P xt with
    | .eql, true => some (True, .bool (a == b))
    | .neq, true => some (True, .bool (a != b))
    | _, _ => none
  | _, _ => none

def unD (op : UnOp) : D → Option D
  | .int k n => match op with
    | .neg => some (.int k (k.wrap (0 - n)))
    | _ => none
  | .bool b => match op with | .not => some (.bool !b) | _ => none
  | _ => none

def convD (P : Program) (src dst : TypeId) : D → Option D
  | .int _ n => match knownP P src, intP P dst with | true, some k => some (.int k (k.wrap n)) | _, _ => none
  | .str s => match strP P src, strP P dst with | true, true => some (.str s) | _, _ => none
  | _ => none

/-- Cells of an array or a struct that is built: the parts laid over the zero cells. -/
def layD (cells : List D) (off : Nat) (part : List D) : List D := cells.take off ++ part ++ cells.drop (off + part.length)

def fillD (place : Nat → Option (Nat × TypeId)) (P : Program) (T : Env) (fz : D → D) : List (Nat × Operand) → List D → Option (List D)
  | [], cells => some cells
  | (i, x) :: rest, cells =>
    match place i with
    | none => none
    | some (off, t) =>
      match cellsD P t (ev T x) with
      | some cs => if off + cs.length ≤ cells.length then fillD place P T fz rest (layD cells off (cs.map fz)) else none
      | none => none

/-- A type whose values can be built: a struct (none), or an array of so wide elements. -/
def buildP (P : Program) (t : TypeId) : Option (Option (TypeId × Nat)) :=
  match P.underlying t with
  | some (.struct fs) => if fs.toList.all (fun f => (szP P f.type).isSome) then some none else none
  | some (.array _ e) => (szP P e).map fun n => some (e, n)
  | _ => none

def pickD (t : Bool) (a b : D) : D :=
  match a, b with
  | .bool x, .bool y => .bool (if t = true then x else y)
  | a, b => if t = true then a else b

theorem pickD_eq (t : Bool) (a b : D) : pickD t a b = if t = true then a else b := by
  unfold pickD
  split
  · cases t <;> rfl
  · rfl

def toInt? : D → Option Int
  | .int _ n => some n
  | _ => none

/-- Where an element of an array or slice is, or what it is. -/
def indexD (P : Program) (t : TypeId) (x : D) (i : Int) : Option (Prop × D) :=
  match x with
  | .slice _ es => match sliP P t with
    | some e => match szP P e with
      | some n => some ((0 ≤ i ∧ i < es.length) ∧ (es[i.toNat]?.getD []).length = n, .eptr (es[i.toNat]?.getD []))
      | none => none
    | none => none
  | .bsl b off len _ => match sliP P t with
    | some e => match szP P e with
      | some n => some (0 ≤ i ∧ i < len, .ptr b (off + i.toNat * n))
      | none => none
    | none => none
  | .ptr b off => match arrP P t with
    | some (k, e) => match szP P e with
      | some n => some (0 ≤ i ∧ i < k, .ptr b (off + i.toNat * n))
      | none => none
    | none => none
  | .eptr cs => match arrP P t with
    | some (k, e) => match szP P e with
      | some n => some (0 ≤ i ∧ i < k, .eptr (cs.drop (i.toNat * n)))
      | none => none
    | none => none
  | _ => none

def lenD (P : Program) (t : TypeId) : D → Option D
  | .slice _ es => match sliP P t with | some _ => some (.int .i64 es.length) | none => none
  | .bsl _ _ n _ => match sliP P t with | some _ => some (.int .i64 n) | none => none
  | .str s => if strP P t = true then some (.int .i64 s.size) else none
  | .agg _ => match arrP P t with | some (n, _) => some (.int .i64 n) | none => none
  | _ => none

/-- An operation whose answer hangs on its operands alone: what must hold, what it answers. -/
def pureD (P : Program) (op : Op) (T : Env) : Option (Prop × D) :=
  match op with
  | .move x | .assign x => some (True, ev T x)
  | .pick c a b => match ev T c with | .bool t => some (True, pickD t (ev T a) (ev T b)) | _ => none
  | .binOp op xt x y _ => binD P op xt (ev T x) (ev T y)
  | .unOp op _ x => (unD op (ev T x)).map fun d => (True, d)
  | .convert src dst x => (convD P src dst (ev T x)).map fun d => (True, d)
  | .makeInterface t x => if concP P t = true then some (True, .iface t (ev T x)) else none
  | .makeFunc fn first captured => some (True, .func fn (first.toList.map (ev T)) (captured.toList.map (ev T)))
  | .extract x i => match ev T x with | .tup ds => (ds[i]?).map fun d => (True, d) | _ => none
  | .field t x f => match ev T x, fldP P t f with | .agg cs, some (off, ft) => (partD P ft cs off).map fun d => (True, d) | _, _ => none
  | .fieldAddr t x f => match ev T x, fldP P t f with
    | .ptr b off, some (o, _) => some (True, .ptr b (off + o))
    | .eptr cs, some (o, _) => some (True, .eptr (cs.drop o))
    | _, _ => none
  | .indexAddr t x i => match ev T i with | .int _ n => indexD P t (ev T x) n | _ => none
  | .index t x i => match ev T i with
    | .int _ n => match ev T x with
      | .str s => if strP P t = true then some (0 ≤ n ∧ n < s.size, .int .u8 ((s.data.toList[n.toNat]?.getD 0).toNat)) else none
      | .agg cs => match arrP P t with
        | some (k, e) => match szP P e with
          | some m => (partD P e cs (n.toNat * m)).map fun d => (0 ≤ n ∧ n < k, d)
          | none => none
        | none => none
      | _ => none
    | _ => none
  | .nilCheck x => match ev T x with
    | .ptr b off => some (True, .ptr b off)
    | .eptr cs => some (True, .eptr cs)
    | .slice o es => some (True, .slice o es)
    | .func (.func f) a b => some (True, .func (.func f) a b)
    | _ => none
  | .build t parts => match buildP P t, zeroP P t with
    | some none, some z => (fillD (fldP P t) P T id parts.toList z).map fun cs => (True, .agg cs)
    | some (some (e, n)), some z => (fillD (fun i => some (i * n, e)) P T id parts.toList z).map fun cs => (True, .agg cs)
    | _, _ => none
  | .load t x => match ev T x with
    | .eptr cs => (partD P t cs 0).map fun d => (True, d)
    | _ => none
  | .call { callee := .builtin .len, args, argTypes } => match args.toList, argTypes.toList with
    | [x], [t] => (lenD P t (ev T x)).map fun d => (True, d)
    | _, _ => none
  | .call { callee := .builtin .min, args, .. } => match args.toList with
    | [x, y] => match ev T x, ev T y with | .int k a, .int k' b => if k = k' then some (True, .int k (min a b)) else none | _, _ => none
    | _ => none
  | .call { callee := .builtin .max, args, .. } => match args.toList with
    | [x, y] => match ev T x, ev T y with | .int k a, .int k' b => if k = k' then some (True, .int k (max a b)) else none | _, _ => none
    | _ => none
  | .slice t x lo hi none => match ev T x with
    | .slice _ es => match sliP P t with
      | some e => match szP P e with
        | some n =>
          match (match lo with | some l => toInt? (ev T l) | none => some 0), (match hi with | some h => toInt? (ev T h) | none => some (es.length : Int)) with
          | some l, some h => some ((0 ≤ l ∧ l ≤ h ∧ h ≤ es.length) ∧ ∀ e ∈ es, e.length = n, .slice .no ((es.take h.toNat).drop l.toNat))
          | _, _ => none
        | none => none
      | none => none
    | .str s => if strP P t = true then
        match (match lo with | some l => toInt? (ev T l) | none => some 0), (match hi with | some h => toInt? (ev T h) | none => some (s.size : Int)) with
        | some l, some h => some (0 ≤ l ∧ l ≤ h ∧ h ≤ s.size, .str (s.extract l.toNat h.toNat))
        | _, _ => none
      else none
    | _ => none
  | _ => none
end Go.AL
