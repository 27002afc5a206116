import Derived.Test.YtanhkkillmbkhaaTa
import Derived.Test.YtanhkkillmbkhaaCa
import Derived.Test.YtanhkkillmbkhaaLe
namespace Go.AL
open Go.Proofs
set_option linter.unusedSimpArgs false
set_option linter.unusedVariables false
set_option maxRecDepth 100000

theorem DLe_nils {o : Own} {es : List (List D)} (h : es = []) : DLe (.slice o []) (.slice .no es) := h ▸ DLe.slice o []
/-- Elements as rows of cells. -/
def rws {α : Type} (enc : α → List D) (xs : List α) : List (List D) := xs.map enc
theorem rws_len {α : Type} (enc : α → List D) (xs : List α) : (rws enc xs).length = xs.length := by simp [rws]
theorem rws_nil {α : Type} (enc : α → List D) (xs : List α) : (rws enc xs = []) = (xs = []) := by simp [rws]
theorem rws_mt {α : Type} (enc : α → List D) : rws enc [] = [] := rfl
theorem rws_at {α : Type} {enc : α → List D} {xs : List α} {i : Nat} (h : i < xs.length) : (rws enc xs)[i]?.getD [] = enc xs[i] := by simp [rws, h]
theorem rws_one {α : Type} {enc : α → List D} {xs : List α} {n : Nat} (h : ∀ x, (enc x).length = n) : (∀ r ∈ rws enc xs, r.length = n) = True := by simp [rws, h]
def eI (n : Int) : List D := [.int .i64 n]
abbrev Ty := Fin 256
def eT (t : Ty) : List D := [.int .u8 (t.val : Int)]
theorem eT_len (n : Ty) : (eT n).length = 1 := rfl
theorem eT_eq (a b : Ty) : ((a.val : Int) = (b.val : Int)) = (a = b) := by rw [Fin.ext_iff]; simp only [eq_iff_iff]; omega
theorem DLe_bool {a b : Bool} (h : a = b) : DLe (.bool a) (.bool b) := h ▸ DLe.refl _
theorem nilR_nil {o : Own} {es : List (List D)} {r : Bool} (h : nilR o es r) (hr : r = true) (h0 : o = .nil → es = []) : es = [] := by
  subst hr
  cases o <;> simp_all [nilR]
/-- A slice's way of being nil agrees with what it holds. -/
def nilOk (o : Own) (n : Nat) : Prop := o = .nil → n = 0

theorem clone46 (xs : List Ty) (o : Own) (h0 : nilOk o xs.length) (hl : xs.length * 1 ≤ 140737488355328) : PCall Try.prog 46 [.slice o (rws eT xs)] (.slice .no (rws eT xs)) := by
  refine F46.pcall' rfl fun T hT => ?_
  simp -implicitDefEqProofs only [go_sem, Nat.reduceEqDiff, Nat.reduceLT, Nat.reduceLeDiff, Nat.reduceAdd, Nat.reduceSub, Nat.reduceMul, Nat.reduceBEq, ↓reduceIte, reduceCtorEq, Int.reduceEq, Int.reduceLT, Int.reduceLE, Int.reduceNeg, Int.reduceAdd, Int.reduceSub, Int.reduceToNat, rws_len, vc_cond, c46, hT]
  intro r hr
  refine br_split (fun h => ?_) fun h => ?_
  · exact DLe_nils (nilR_nil hr h fun h => by simpa [rws_nil] using h0 h)
  · simp -implicitDefEqProofs only [go_sem, Nat.reduceEqDiff, Nat.reduceLT, Nat.reduceLeDiff, Nat.reduceAdd, Nat.reduceSub, Nat.reduceMul, Nat.reduceBEq, ↓reduceIte, reduceCtorEq, Int.reduceEq, Int.reduceLT, Int.reduceLE, Int.reduceNeg, Int.reduceAdd, Int.reduceSub, Int.reduceToNat, rws_len, vc_cond, hT, rws_one eT_len, rws_len, rws_nil, hl]
    rintro rfl
    exact DLe_nils rfl

end Go.AL
namespace Go.AL
open Go.Proofs
set_option linter.unusedSimpArgs false
set_option linter.unusedVariables false
set_option maxRecDepth 100000

structure Sg where
  ps : List Ty
  r : Ty
  deriving DecidableEq
def eSg (s : Sg) : List D := [.slice .no (rws eT s.ps), .int .u8 s.r.val]
theorem eSg_len (s : Sg) : (eSg s).length = 2 := rfl

theorem sig11 (s : Sg) (hl : s.ps.length ≤ 140737488355328) : PCall Try.prog 11 [.agg (eSg s)] (.agg (eSg s)) := by
  refine F11.pcall' rfl fun T hT => ?_
  simp -implicitDefEqProofs only [go_sem, Nat.reduceEqDiff, Nat.reduceLT, Nat.reduceLeDiff, Nat.reduceAdd, Nat.reduceSub, Nat.reduceMul, Nat.reduceBEq, ↓reduceIte, reduceCtorEq, Int.reduceEq, Int.reduceLT, Int.reduceLE, Int.reduceNeg, Int.reduceAdd, Int.reduceSub, Int.reduceToNat, rws_len, vc_cond, c11, hT, eSg]
  intro b b' hb hb'
  simp -implicitDefEqProofs only [go_sem, Nat.reduceEqDiff, Nat.reduceLT, Nat.reduceLeDiff, Nat.reduceAdd, Nat.reduceSub, Nat.reduceMul, Nat.reduceBEq, ↓reduceIte, reduceCtorEq, Int.reduceEq, Int.reduceLT, Int.reduceLE, Int.reduceNeg, Int.reduceAdd, Int.reduceSub, Int.reduceToNat, rws_len, vc_cond, hb, hb', hT]
  refine callB_pure (clone46 s.ps .no (by simp [nilOk]) (by omega)) ?_
  simp -implicitDefEqProofs only [go_sem, Nat.reduceEqDiff, Nat.reduceLT, Nat.reduceLeDiff, Nat.reduceAdd, Nat.reduceSub, Nat.reduceMul, Nat.reduceBEq, ↓reduceIte, reduceCtorEq, Int.reduceEq, Int.reduceLT, Int.reduceLE, Int.reduceNeg, Int.reduceAdd, Int.reduceSub, Int.reduceToNat, rws_len, vc_cond, hT, eSg, hb, hb']

end Go.AL
namespace Go.AL
open Go.Proofs
set_option linter.unusedSimpArgs false
set_option linter.unusedVariables false
set_option maxRecDepth 100000

structure Fd where
  name : ByteArray
  ty : Ty
  deriving DecidableEq
structure Cl where
  name : ByteArray
  parent : Int
  fields : List Fd
  deriving DecidableEq
def eF (f : Fd) : List D := [.str f.name, .int .u8 f.ty.val]
def eC (c : Cl) : List D := [.str c.name, .int .i64 c.parent, .slice .no (rws eF c.fields)]
theorem eF_len (f : Fd) : (eF f).length = 2 := rfl
theorem eC_len (c : Cl) : (eC c).length = 3 := rfl

/-- The class of a type over a table of so many. -/
def clsOf (n : Nat) (t : Ty) : Int := if 16 ≤ t.val ∧ t.val - 16 < n then (t.val : Int) - 16 else -1
def validN (n : Nat) (t : Ty) : Bool := decide (t.val ≤ 5 ∨ 16 ≤ t.val ∧ t.val - 16 < n)

theorem class147 (l : List Cl) (o : Own) (t : Ty) : PCall Try.prog 147 [.slice o (rws eC l), .int .u8 t.val] (.int .i64 (clsOf l.length t)) := by
  refine F147.pcall' rfl fun T hT => ?_
  simp -implicitDefEqProofs only [go_sem, Nat.reduceEqDiff, Nat.reduceLT, Nat.reduceLeDiff, Nat.reduceAdd, Nat.reduceSub, Nat.reduceMul, Nat.reduceBEq, ↓reduceIte, reduceCtorEq, Int.reduceEq, Int.reduceLT, Int.reduceLE, Int.reduceNeg, Int.reduceAdd, Int.reduceSub, Int.reduceToNat, rws_len, vc_cond, c147, hT]
  refine gbr_split (fun h => ?_) fun h => ?_
  · have h1 : 16 ≤ t.val := by simp at h; omega
    have h2 : ((t.val : Int) < 16) = False := by simp; omega
    have h3 : IntKind.wrap .u8 ((t.val : Int) - 16) = (t.val : Int) - 16 := wrap_u8 (by omega) (by omega)
    have h4 : IntKind.wrap .i64 ((t.val : Int) - 16) = (t.val : Int) - 16 := wrap_i64 (by omega) (by omega)
    simp -implicitDefEqProofs only [go_sem, Nat.reduceEqDiff, Nat.reduceLT, Nat.reduceLeDiff, Nat.reduceAdd, Nat.reduceSub, Nat.reduceMul, Nat.reduceBEq, ↓reduceIte, reduceCtorEq, Int.reduceEq, Int.reduceLT, Int.reduceLE, Int.reduceNeg, Int.reduceAdd, Int.reduceSub, Int.reduceToNat, rws_len, vc_cond, hT, h2, h3, h4]
    refine br_split (fun h => DLe.of_eq ?_) fun h => DLe.of_eq ?_
    · simp at h
      rw [clsOf, if_neg (by omega)]
    · simp at h
      rw [clsOf, if_pos (by omega)]
  · have h2 : ((t.val : Int) < 16) = True := by simp at h; simp; omega
    simp -implicitDefEqProofs only [go_sem, Nat.reduceEqDiff, Nat.reduceLT, Nat.reduceLeDiff, Nat.reduceAdd, Nat.reduceSub, Nat.reduceMul, Nat.reduceBEq, ↓reduceIte, reduceCtorEq, Int.reduceEq, Int.reduceLT, Int.reduceLE, Int.reduceNeg, Int.reduceAdd, Int.reduceSub, Int.reduceToNat, rws_len, vc_cond, hT, h2]
    refine DLe.of_eq ?_
    simp at h2
    rw [clsOf, if_neg (by omega)]

theorem clsOf_ge (n : Nat) (t : Ty) : (0 ≤ clsOf n t) = (16 ≤ t.val ∧ t.val - 16 < n) := by
  unfold clsOf
  split <;> rename_i h
  · simp [h]; omega
  · simp [h]

theorem valid105 (l : List Cl) (o : Own) (t : Ty) : PCall Try.prog 105 [.slice o (rws eC l), .int .u8 t.val] (.bool (validN l.length t)) := by
  refine F105.pcall' rfl fun T hT => ?_
  simp -implicitDefEqProofs only [go_sem, Nat.reduceEqDiff, Nat.reduceLT, Nat.reduceLeDiff, Nat.reduceAdd, Nat.reduceSub, Nat.reduceMul, Nat.reduceBEq, ↓reduceIte, reduceCtorEq, Int.reduceEq, Int.reduceLT, Int.reduceLE, Int.reduceNeg, Int.reduceAdd, Int.reduceSub, Int.reduceToNat, rws_len, vc_cond, c105, hT]
  refine gbr_split (fun h => ?_) fun h => ?_
  · have h2 : ((t.val : Int) ≤ 5) = False := by simp at h; simp; omega
    simp -implicitDefEqProofs only [go_sem, Nat.reduceEqDiff, Nat.reduceLT, Nat.reduceLeDiff, Nat.reduceAdd, Nat.reduceSub, Nat.reduceMul, Nat.reduceBEq, ↓reduceIte, reduceCtorEq, Int.reduceEq, Int.reduceLT, Int.reduceLE, Int.reduceNeg, Int.reduceAdd, Int.reduceSub, Int.reduceToNat, rws_len, vc_cond, hT, h2]
    refine callB_pure (class147 l o t) ?_
    simp -implicitDefEqProofs only [go_sem, Nat.reduceEqDiff, Nat.reduceLT, Nat.reduceLeDiff, Nat.reduceAdd, Nat.reduceSub, Nat.reduceMul, Nat.reduceBEq, ↓reduceIte, reduceCtorEq, Int.reduceEq, Int.reduceLT, Int.reduceLE, Int.reduceNeg, Int.reduceAdd, Int.reduceSub, Int.reduceToNat, rws_len, vc_cond, hT, h2]
    refine DLe_bool ?_
    simp at h2
    simp [validN, clsOf_ge]
    omega
  · have h2 : ((t.val : Int) ≤ 5) = True := by simp at h; simp; omega
    simp -implicitDefEqProofs only [go_sem, Nat.reduceEqDiff, Nat.reduceLT, Nat.reduceLeDiff, Nat.reduceAdd, Nat.reduceSub, Nat.reduceMul, Nat.reduceBEq, ↓reduceIte, reduceCtorEq, Int.reduceEq, Int.reduceLT, Int.reduceLE, Int.reduceNeg, Int.reduceAdd, Int.reduceSub, Int.reduceToNat, rws_len, vc_cond, hT, h2]
    refine DLe_bool ?_
    simp at h2
    simp [validN]
    omega

theorem refValid87 (l : List Cl) (o : Own) (t : Ty) : PCall Try.prog 87 [.slice o (rws eC l), .int .u8 t.val] (.bool (validN l.length t)) := by
  refine F87.pcall' rfl fun T hT => ?_
  by_cases h1 : t.val ≤ 5
  · have h2 : ((t.val : Int) ≤ 5) = True := by simp; omega
    simp -implicitDefEqProofs only [go_sem, Nat.reduceEqDiff, Nat.reduceLT, Nat.reduceLeDiff, Nat.reduceAdd, Nat.reduceSub, Nat.reduceMul, Nat.reduceBEq, ↓reduceIte, reduceCtorEq, Int.reduceEq, Int.reduceLT, Int.reduceLE, Int.reduceNeg, Int.reduceAdd, Int.reduceSub, Int.reduceToNat, rws_len, vc_cond, c87, hT, h2]
    refine DLe_bool ?_
    simp [validN, h1]
  · have h2 : ((t.val : Int) ≤ 5) = False := by simp; omega
    by_cases h3 : 16 ≤ t.val
    · have h4 : ((16 : Int) ≤ t.val) = True := by simp; omega
      have h5 : IntKind.wrap .u8 ((t.val : Int) - 16) = (t.val : Int) - 16 := wrap_u8 (by omega) (by omega)
      have h6 : IntKind.wrap .i64 ((t.val : Int) - 16) = (t.val : Int) - 16 := wrap_i64 (by omega) (by omega)
      simp -implicitDefEqProofs only [go_sem, Nat.reduceEqDiff, Nat.reduceLT, Nat.reduceLeDiff, Nat.reduceAdd, Nat.reduceSub, Nat.reduceMul, Nat.reduceBEq, ↓reduceIte, reduceCtorEq, Int.reduceEq, Int.reduceLT, Int.reduceLE, Int.reduceNeg, Int.reduceAdd, Int.reduceSub, Int.reduceToNat, rws_len, vc_cond, c87, hT, h2, h4, h5, h6]
      refine DLe_bool ?_
      simp [validN, h1, h3]
      omega
    · have h4 : ((16 : Int) ≤ t.val) = False := by simp; omega
      simp -implicitDefEqProofs only [go_sem, Nat.reduceEqDiff, Nat.reduceLT, Nat.reduceLeDiff, Nat.reduceAdd, Nat.reduceSub, Nat.reduceMul, Nat.reduceBEq, ↓reduceIte, reduceCtorEq, Int.reduceEq, Int.reduceLT, Int.reduceLE, Int.reduceNeg, Int.reduceAdd, Int.reduceSub, Int.reduceToNat, rws_len, vc_cond, c87, hT, h2, h4]
      refine DLe_bool ?_
      simp [validN, h1, h3]
end Go.AL
namespace Go.AL
open Go.Proofs
set_option linter.unusedSimpArgs false
set_option linter.unusedVariables false
set_option maxRecDepth 100000

def storedN (n : Nat) (t : Ty) : Bool := validN n t && decide (t.val ≠ 0 ∧ t.val ≠ 3)

theorem stored146 (l : List Cl) (o : Own) (t : Ty) : PCall Try.prog 146 [.slice o (rws eC l), .int .u8 t.val] (.bool (storedN l.length t)) := by
  refine F146.pcall' rfl fun T hT => ?_
  by_cases h1 : (t.val : Int) = 1
  · simp -implicitDefEqProofs only [go_sem, Nat.reduceEqDiff, Nat.reduceLT, Nat.reduceLeDiff, Nat.reduceAdd, Nat.reduceSub, Nat.reduceMul, Nat.reduceBEq, ↓reduceIte, reduceCtorEq, Int.reduceEq, Int.reduceLT, Int.reduceLE, Int.reduceNeg, Int.reduceAdd, Int.reduceSub, Int.reduceToNat, rws_len, vc_cond, c146, hT, h1]
    exact DLe_bool (by simp [storedN, validN]; omega)
  by_cases h2 : (t.val : Int) = 2
  · simp -implicitDefEqProofs only [go_sem, Nat.reduceEqDiff, Nat.reduceLT, Nat.reduceLeDiff, Nat.reduceAdd, Nat.reduceSub, Nat.reduceMul, Nat.reduceBEq, ↓reduceIte, reduceCtorEq, Int.reduceEq, Int.reduceLT, Int.reduceLE, Int.reduceNeg, Int.reduceAdd, Int.reduceSub, Int.reduceToNat, rws_len, vc_cond, c146, hT, h1, h2]
    exact DLe_bool (by simp [storedN, validN]; omega)
  by_cases h3 : (t.val : Int) = 4
  · simp -implicitDefEqProofs only [go_sem, Nat.reduceEqDiff, Nat.reduceLT, Nat.reduceLeDiff, Nat.reduceAdd, Nat.reduceSub, Nat.reduceMul, Nat.reduceBEq, ↓reduceIte, reduceCtorEq, Int.reduceEq, Int.reduceLT, Int.reduceLE, Int.reduceNeg, Int.reduceAdd, Int.reduceSub, Int.reduceToNat, rws_len, vc_cond, c146, hT, h1, h2, h3]
    exact DLe_bool (by simp [storedN, validN]; omega)
  by_cases h4 : (t.val : Int) = 5
  · simp -implicitDefEqProofs only [go_sem, Nat.reduceEqDiff, Nat.reduceLT, Nat.reduceLeDiff, Nat.reduceAdd, Nat.reduceSub, Nat.reduceMul, Nat.reduceBEq, ↓reduceIte, reduceCtorEq, Int.reduceEq, Int.reduceLT, Int.reduceLE, Int.reduceNeg, Int.reduceAdd, Int.reduceSub, Int.reduceToNat, rws_len, vc_cond, c146, hT, h1, h2, h3, h4]
    exact DLe_bool (by simp [storedN, validN]; omega)
  simp -implicitDefEqProofs only [go_sem, Nat.reduceEqDiff, Nat.reduceLT, Nat.reduceLeDiff, Nat.reduceAdd, Nat.reduceSub, Nat.reduceMul, Nat.reduceBEq, ↓reduceIte, reduceCtorEq, Int.reduceEq, Int.reduceLT, Int.reduceLE, Int.reduceNeg, Int.reduceAdd, Int.reduceSub, Int.reduceToNat, rws_len, vc_cond, c146, hT, h1, h2, h3, h4]
  refine callB_pure (class147 l o t) ?_
  simp -implicitDefEqProofs only [go_sem, Nat.reduceEqDiff, Nat.reduceLT, Nat.reduceLeDiff, Nat.reduceAdd, Nat.reduceSub, Nat.reduceMul, Nat.reduceBEq, ↓reduceIte, reduceCtorEq, Int.reduceEq, Int.reduceLT, Int.reduceLE, Int.reduceNeg, Int.reduceAdd, Int.reduceSub, Int.reduceToNat, rws_len, vc_cond, hT, h1, h2, h3, h4]
  exact DLe_bool (by rw [Bool.eq_iff_iff]; simp [storedN, validN, clsOf_ge]; omega)

theorem refStored109 (l : List Cl) (o : Own) (t : Ty) : PCall Try.prog 109 [.slice o (rws eC l), .int .u8 t.val] (.bool (storedN l.length t)) := by
  refine F109.pcall' rfl fun T hT => ?_
  simp -implicitDefEqProofs only [go_sem, Nat.reduceEqDiff, Nat.reduceLT, Nat.reduceLeDiff, Nat.reduceAdd, Nat.reduceSub, Nat.reduceMul, Nat.reduceBEq, ↓reduceIte, reduceCtorEq, Int.reduceEq, Int.reduceLT, Int.reduceLE, Int.reduceNeg, Int.reduceAdd, Int.reduceSub, Int.reduceToNat, rws_len, vc_cond, c109, hT]
  refine callB_pure (refValid87 l o t) ?_
  cases hv : validN l.length t
  · simp -implicitDefEqProofs only [go_sem, Nat.reduceEqDiff, Nat.reduceLT, Nat.reduceLeDiff, Nat.reduceAdd, Nat.reduceSub, Nat.reduceMul, Nat.reduceBEq, ↓reduceIte, reduceCtorEq, Int.reduceEq, Int.reduceLT, Int.reduceLE, Int.reduceNeg, Int.reduceAdd, Int.reduceSub, Int.reduceToNat, rws_len, vc_cond, hT]
    exact DLe_bool (by simp [storedN, hv])
  · by_cases h1 : (t.val : Int) = 0
    · simp -implicitDefEqProofs only [go_sem, Nat.reduceEqDiff, Nat.reduceLT, Nat.reduceLeDiff, Nat.reduceAdd, Nat.reduceSub, Nat.reduceMul, Nat.reduceBEq, ↓reduceIte, reduceCtorEq, Int.reduceEq, Int.reduceLT, Int.reduceLE, Int.reduceNeg, Int.reduceAdd, Int.reduceSub, Int.reduceToNat, rws_len, vc_cond, hT, h1]
      exact DLe_bool (by rw [Bool.eq_iff_iff]; simp [storedN, hv]; omega)
    · simp -implicitDefEqProofs only [go_sem, Nat.reduceEqDiff, Nat.reduceLT, Nat.reduceLeDiff, Nat.reduceAdd, Nat.reduceSub, Nat.reduceMul, Nat.reduceBEq, ↓reduceIte, reduceCtorEq, Int.reduceEq, Int.reduceLT, Int.reduceLE, Int.reduceNeg, Int.reduceAdd, Int.reduceSub, Int.reduceToNat, rws_len, vc_cond, hT, h1]
      exact DLe_bool (by rw [Bool.eq_iff_iff]; simp [storedN, hv]; omega)

/-- The first place where a test holds; -1: none. -/
def idxFrom {α : Type} (p : α → Bool) : List α → Nat → Int
  | [], _ => -1
  | x :: xs, i => if p x then (i : Int) else idxFrom p xs (i + 1)
def idxOf {α : Type} (p : α → Bool) (xs : List α) : Int := idxFrom p xs 0
theorem idxFrom_drop {α : Type} {p : α → Bool} {xs : List α} {i : Nat} (h : i < xs.length) : idxFrom p (xs.drop i) i = if p xs[i] then (i : Int) else idxFrom p (xs.drop (i + 1)) (i + 1) := by
  rw [List.drop_eq_getElem_cons h]; rfl
theorem idxFrom_ge {α : Type} {p : α → Bool} : ∀ {xs : List α} {i : Nat}, (0 ≤ idxFrom p xs i) = (xs.any p = true)
  | [], i => by simp [idxFrom]
  | x :: xs, i => by
    unfold idxFrom
    cases h : p x
    · simp [h, idxFrom_ge (xs := xs)]
    · simp [h]

/-- A function value as a test over elements, over owned boxes that stay. -/
def Tests {α : Type} (g : FuncId) (fi ca : List D) (one : α → D) (p : α → Bool) (xs : List α) (σ : St) : Prop :=
  ∀ x ∈ xs, RCall Try.prog g (fi ++ [one x] ++ ca) σ fun d s' => d = .bool (p x) ∧ s' = σ

end Go.AL
namespace Go.AL
open Go.Proofs
set_option linter.unusedSimpArgs false
set_option linter.unusedVariables false
set_option maxRecDepth 100000

/-- A class and those above it, as long as the numbers fall. -/
def upL (l : List Cl) (c : Nat) : List Nat :=
  match l[c]? with
  | some x => c :: (if h : 0 ≤ x.parent ∧ x.parent < c then upL l x.parent.toNat else [])
  | none => []
termination_by c
decreasing_by omega
def upI (l : List Cl) (c : Int) : List Nat := if 0 ≤ c then upL l c.toNat else []

theorem upI_step {l : List Cl} {c : Nat} (h : c < l.length) : upI l c = c :: (if l[c].parent < c then upI l l[c].parent else []) := by
  rw [upI, if_pos (by omega), upL]
  simp only [Int.toNat_natCast, List.getElem?_eq_getElem h]
  unfold upI
  by_cases h1 : 0 ≤ l[c].parent <;> by_cases h2 : l[c].parent < (c : Int) <;> simp [h1, h2]
theorem upI_neg {l : List Cl} {c : Int} (h : c < 0) : upI l c = [] := by rw [upI, if_neg (by omega)]
theorem upI_out {l : List Cl} {c : Int} (h : (l.length : Int) ≤ c) : upI l c = [] := by
  rw [upI, if_pos (by omega), upL, List.getElem?_eq_none (by omega)]

/-- A run over a list, until a step says no. -/
def Runs {α : Type} (Step : α → Nat → Bool → α → Prop) : List Nat → α → α → Prop
  | [], a, a' => a' = a
  | c :: cs, a, a'' => ∃ b a', Step a c b a' ∧ if b = true then Runs Step cs a' a'' else a'' = a'

end Go.AL
