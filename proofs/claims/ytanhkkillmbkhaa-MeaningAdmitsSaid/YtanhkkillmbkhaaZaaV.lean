import Derived.Test.YtanhkkillmbkhaaZaaU
namespace Go.AL
set_option linter.unusedVariables false
set_option linter.unusedSimpArgs false

/-! ### calls -/
inductive EA where
  | ret (d : D)
  | pan (d : D)

def RepE (M : MMap) (w : World) : EA → Ending → Prop
  | .ret d, e => ∃ v, e = .returned v ∧ Rep M w d v
  | .pan d, e => ∃ v, e = .panicked [{ v, recovered := false }] ∧ Rep M w d v

def Enters (P : Program) (f : FuncId) : Prop := ∃ fn, P.funcs[f]? = some fn ∧ (fn.name == "runtime.NumGoroutine") = false ∧ fn.body.isNone = false

/-- What a call comes to, over owned boxes 's': whatever else is owned beside them stays. -/
structure ACall (P : Program) (f : FuncId) (ds : List D) (s : St) (R : EA → St → Prop) : Prop where
  enters : Enters P f
  run : ∀ M w vs, Inv M s w → RepAll M w ds vs → Calls P f vs.toArray w fun e w' => ∃ M' s' x, RepE M' w' x e ∧ Inv M' s' w' ∧ KeepF M s w M' s' w' ∧ R x s'

/-- A call that only reckons. -/
def PCall (P : Program) (f : FuncId) (ds : List D) (d : D) : Prop := ACall P f ds {} fun x s => x = .ret d ∧ s = {}

theorem ACall.mono {P : Program} {f : FuncId} {ds : List D} {s : St} {R R' : EA → St → Prop} (h : ACall P f ds s R) (hr : ∀ x s, R x s → R' x s) : ACall P f ds s R' :=
  ⟨h.enters, fun M w vs hi hv => (h.run M w vs hi hv).mono fun e w' ⟨M', s', x, h1, h2, h3, h4⟩ => ⟨M', s', x, h1, h2, h3, hr _ _ h4⟩⟩

def putK (N : Nat) (dst : Option Nat) (d : D) (K : Env → St → Prop) (T : Env) (σ : St) : Prop :=
  match dst with
  | some t => t < N ∧ K (upd T t d) σ
  | none => K T σ

/-- A panic goes on: the slots are forgotten. -/
def panK (Q : XA → Env → St → Prop) (d : D) (σ : St) : Prop := ∃ s, St.le s σ ∧ Q (.panic d) (fun _ => .any) s

def callA (P : Program) (N : Nat) (dst : Option Nat) (g : FuncId) (ds : List D) (K : Env → St → Prop) (Q : XA → Env → St → Prop) (T : Env) (σ : St) : Prop :=
  ∃ s fr R, St.split σ s fr ∧ ACall P g ds s R ∧ ∀ x s', R x s' → St.apart s' fr → St.fin s' → match x with
    | .ret d => putK N dst d K T (St.join s' fr)
    | .pan d => panK Q d (St.join s' fr)

def nilR (o : Own) (es : List (List D)) (r : Bool) : Prop :=
  match o with
  | .nil => r = true
  | .exact | .buf _ _ => r = false
  | .no => es ≠ [] → r = false

def chunks (s : Nat) : Nat → List D → List (List D)
  | 0, _ => []
  | n + 1, l => l.take s :: chunks s n (l.drop s)

def bslD (P : Program) (t : TypeId) (b off : Nat) (l h : Int) : Option (Prop × D) :=
  match arrP P t with
  | some (n, e) => match szP P e with
    | some s => some (0 ≤ l ∧ l ≤ h ∧ h ≤ n, .bsl b (if n = l.toNat then off else off + l.toNat * s) (h.toNat - l.toNat) (n - l.toNat))
    | none => none
  | none => none

def appendA (P : Program) (N : Nat) (dst : Option Nat) (t t' : TypeId) (x y : D) (K : Env → St → Prop) (T : Env) (σ : St) : Prop :=
  match x, y, sliP P t, sliP P t' with
  | .slice o xs, .slice _ ys, some e, some e' => e = e' ∧
    match szP P e, bytesP P e, (zeroP P e).map List.length with
    | some s, some by', some z => z = s ∧ 0 < s ∧ 0 < by' ∧ (∀ r ∈ ys, r.length = s) ∧ (xs.length + ys.length) * by' ≤ 140737488355328 ∧
      match o with
      | .buf b s' => s' = s ∧ σ.buf b = some (s, xs.length) ∧ ∀ b', ¬ (σ.dropBuf b).has b' → putK N dst (.slice (.buf b' s) (xs ++ ys)) K T ((σ.dropBuf b).setBuf b' s (xs.length + ys.length))
      | .nil => (ys = [] → putK N dst (.slice .nil []) K T σ) ∧ (ys ≠ [] → ∀ b', ¬ σ.has b' → putK N dst (.slice (.buf b' s) ys) K T (σ.setBuf b' s ys.length))
      | .exact => (∀ r ∈ xs, r.length = s) ∧ (ys = [] → putK N dst (.slice .exact xs) K T σ) ∧ (ys ≠ [] → ∀ b', ¬ σ.has b' → putK N dst (.slice (.buf b' s) (xs ++ ys)) K T (σ.setBuf b' s (xs.length + ys.length)))
      | .no => False
    | _, _, _ => False
  | _, _, _, _ => False

def nilOpnd : Operand → Bool
  | .const (.slice none 0 0) => true
  | _ => false

/-- Two operands: a slice held against nil, or what binD says. -/
def binA (P : Program) (N : Nat) (dst : Option Nat) (bop : BinOp) (xt : TypeId) (x y : D) (nl : Bool) (K : Env → St → Prop) (T : Env) (σ : St) : Prop :=
  match nl, bop, x with
  | true, .eql, .slice ow es => match sliP P xt with
    | some _ => ∀ r, nilR ow es r → putK N dst (.bool r) K T σ
    | none => False
  | true, .neq, .slice ow es => match sliP P xt with
    | some _ => ∀ r, nilR ow es r → putK N dst (.bool (!r)) K T σ
    | none => False
  | _, bop, x => match binD P bop xt x y with
    | some (side, d) => side ∧ putK N dst d K T σ
    | none => False

/-- An operation, as a transformer. -/
def aop (P : Program) (N : Nat) (dst : Option Nat) (op : Op) (K : Env → St → Prop) (Q : XA → Env → St → Prop) (T : Env) (σ : St) : Prop :=
  match op with
  | .load t x => match ev T x with
    | .ptr b off => match σ.box b with
      | some cs => match partD P t (cs.drop off) 0 with
        | some d => putK N dst d K T σ
        | none => False
      | none => False
    | .eptr cs => match partD P t cs 0 with
      | some d => putK N dst d K T σ
      | none => False
    | _ => False
  | .store t x v => match ev T x with
    | .ptr b off => match σ.box b, cellsD P t (ev T v) with
      | some cs, some vs => off + vs.length ≤ cs.length ∧ putK N dst .any K T (σ.set b (layD cs off vs))
      | _, _ => False
    | _ => False
  | .alloc t => match zeroP P t with
    | some z => ∀ b, ¬ σ.has b → putK N dst (.ptr b 0) K T (σ.set b z)
    | none => False
  | .box t x => match cellsD P t (ev T x) with
    | some z => ∀ b, ¬ σ.has b → putK N dst (.ptr b 0) K T (σ.set b z)
    | none => False
  | .buildSlice t len parts => match sliP P t with
    | some e => match szP P e, zeroP P e with
      | some s, some z => z.length = s ∧ len * s ≤ 16777216 ∧ match fillD (fun i => some (i * s, e)) P T frz parts.toList (List.replicate len z).flatten with
        | some cs => putK N dst (.slice .exact (chunks s len cs)) K T σ
        | none => False
      | _, _ => False
    | none => False
  | .panic x => match ev T x with
    | .iface t d => panK Q (.iface t d) σ
    | _ => False
  | .call { callee := .value f, args, .. } => match ev T f with
    | .func (.func g) fi ca => callA P N dst g (fi ++ args.toList.map (ev T) ++ ca) K Q T σ
    | _ => False
  | .call { callee := .builtin .append, args, argTypes } => match args.toList, argTypes.toList with
    | [x, y], [t, t'] => appendA P N dst t t' (ev T x) (ev T y) K T σ
    | _, _ => False
  | .binOp bop xt x y _ => binA P N dst bop xt (ev T x) (ev T y) (nilOpnd y) K T σ
  | op => match pureD P op T with
    | some (side, d) => side ∧ putK N dst d K T σ
    | none => False

/-- A branch: what stands in it is not looked at until the test is decided. -/
def br (c : Bool) (A B : Prop) : Prop := if c = true then A else B
@[congr] theorem br_congr {c c' : Bool} {A B : Prop} (h : c = c') : br c A B = br c' A B := by
  subst h; rfl
theorem br_true {A B : Prop} : br true A B = A := by simp [br]
theorem br_false {A B : Prop} : br false A B = B := by simp [br]
theorem br_split {c : Bool} {A B : Prop} (ha : c = true → A) (hb : c = false → B) : br c A B := by
  cases c
  · rw [br_false]; exact hb rfl
  · rw [br_true]; exact ha rfl

/-- What a guard says: a slot that was passed over holds a tuple. -/
def gq (d : D) (want : Bool) : Option Bool :=
  match d with
  | .bool b => some (b == want)
  | .tup _ => some false
  | _ => none

def guardA (ops : List Oper) (T : Env) (o : Oper) : Option Bool :=
  match o.guard with
  | none => some true
  | some (j, want) => match (ops[j]?).bind (·.dst) with
    | some t => gq (T t) want
    | none => none

def aops (P : Program) (N : Nat) (ops : List Oper) : List Oper → (XA → Env → St → Prop) → Env → St → Prop
  | [], Q, T, σ => Q .normal T σ
  | o :: rest, Q, T, σ => match guardA ops T o with
    | some g => br g (aop P N o.dst o.op (aops P N ops rest Q) Q T σ) (putK N o.dst (.tup []) (aops P N ops rest Q) T σ)
    | none => False
end Go.AL
