import Derived.Test.YtanhkkillmbkhaaTa
import Derived.Test.YtanhkkillmbkhaaCa
import Derived.Test.YtanhkkillmbkhaaLe
namespace Go.AL
open Go.Proofs
set_option linter.unusedSimpArgs false
set_option linter.unusedVariables false
set_option maxRecDepth 100000

theorem DLe_nils {o : Own} {es : List (List D)} (h : es = []) : DLe (.slice o []) (.slice .no es) := h ▸ DLe.slice o []
/-- Elements as rows of cells. -/
def rws {α : Type} (enc : α → List D) (xs : List α) : List (List D) := xs.map enc
theorem rws_len {α : Type} (enc : α → List D) (xs : List α) : (rws enc xs).length = xs.length := by simp [rws]
theorem rws_nil {α : Type} (enc : α → List D) (xs : List α) : (rws enc xs = []) = (xs = []) := by simp [rws]
theorem rws_mt {α : Type} (enc : α → List D) : rws enc [] = [] := rfl
theorem rws_at {α : Type} {enc : α → List D} {xs : List α} {i : Nat} (h : i < xs.length) : (rws enc xs)[i]?.getD [] = enc xs[i] := by simp [rws, h]
theorem rws_app {α : Type} {enc : α → List D} {xs ys : List α} : rws enc xs ++ rws enc ys = rws enc (xs ++ ys) := by simp [rws]
theorem rws_one {α : Type} {enc : α → List D} {xs : List α} {n : Nat} (h : ∀ x, (enc x).length = n) : (∀ r ∈ rws enc xs, r.length = n) = True := by simp [rws, h]
def eI (n : Int) : List D := [.int .i64 n]
abbrev Ty := Fin 256
def eT (t : Ty) : List D := [.int .u8 (t.val : Int)]
def eS (s : ByteArray) : List D := [.str s]
theorem eI_len (n : Int) : (eI n).length = 1 := rfl
theorem eT_len (n : Ty) : (eT n).length = 1 := rfl
theorem eS_len (n : ByteArray) : (eS n).length = 1 := rfl
theorem eT_eq (a b : Ty) : ((a.val : Int) = (b.val : Int)) = (a = b) := by rw [Fin.ext_iff]; simp only [eq_iff_iff]; omega
theorem DLe_bool {a b : Bool} (h : a = b) : DLe (.bool a) (.bool b) := h ▸ DLe.refl _
theorem nilR_nil {o : Own} {es : List (List D)} {r : Bool} (h : nilR o es r) (hr : r = true) (h0 : o = .nil → es = []) : es = [] := by
  subst hr
  cases o <;> simp_all [nilR]
/-- A slice's way of being nil agrees with what it holds. -/
def nilOk (o : Own) (n : Nat) : Prop := o = .nil → n = 0

theorem take_eq_step {α : Type} {xs ys : List α} {i : Nat} (h : xs.take i = ys.take i) (hx : i < xs.length) (hy : i < ys.length) (he : xs[i] = ys[i]) : xs.take (i + 1) = ys.take (i + 1) := by
  rw [List.take_succ_eq_append_getElem hx, List.take_succ_eq_append_getElem hy, h, he]


theorem clone12 (xs : List Int) (o : Own) (h0 : nilOk o xs.length) (hl : xs.length * 8 ≤ 140737488355328) : PCall Try.prog 12 [.slice o (rws eI xs)] (.slice .no (rws eI xs)) := by
  refine F12.pcall' rfl fun T hT => ?_
  simp -implicitDefEqProofs only [go_sem, Nat.reduceEqDiff, Nat.reduceLT, Nat.reduceLeDiff, Nat.reduceAdd, Nat.reduceSub, Nat.reduceMul, Nat.reduceBEq, ↓reduceIte, reduceCtorEq, Int.reduceEq, Int.reduceLT, Int.reduceLE, Int.reduceNeg, Int.reduceAdd, Int.reduceSub, Int.reduceToNat, rws_len, vc_cond, c12, hT]
  intro r hr
  refine br_split (fun h => ?_) fun h => ?_
  · exact DLe_nils (nilR_nil hr h fun h => by simpa [rws_nil] using h0 h)
  · simp -implicitDefEqProofs only [go_sem, Nat.reduceEqDiff, Nat.reduceLT, Nat.reduceLeDiff, Nat.reduceAdd, Nat.reduceSub, Nat.reduceMul, Nat.reduceBEq, ↓reduceIte, reduceCtorEq, Int.reduceEq, Int.reduceLT, Int.reduceLE, Int.reduceNeg, Int.reduceAdd, Int.reduceSub, Int.reduceToNat, rws_len, vc_cond, hT, rws_one eI_len, rws_len, rws_nil, hl]
    rintro rfl
    exact DLe_nils rfl

theorem clone46 (xs : List Ty) (o : Own) (h0 : nilOk o xs.length) (hl : xs.length * 1 ≤ 140737488355328) : PCall Try.prog 46 [.slice o (rws eT xs)] (.slice .no (rws eT xs)) := by
  refine F46.pcall' rfl fun T hT => ?_
  simp -implicitDefEqProofs only [go_sem, Nat.reduceEqDiff, Nat.reduceLT, Nat.reduceLeDiff, Nat.reduceAdd, Nat.reduceSub, Nat.reduceMul, Nat.reduceBEq, ↓reduceIte, reduceCtorEq, Int.reduceEq, Int.reduceLT, Int.reduceLE, Int.reduceNeg, Int.reduceAdd, Int.reduceSub, Int.reduceToNat, rws_len, vc_cond, c46, hT]
  intro r hr
  refine br_split (fun h => ?_) fun h => ?_
  · exact DLe_nils (nilR_nil hr h fun h => by simpa [rws_nil] using h0 h)
  · simp -implicitDefEqProofs only [go_sem, Nat.reduceEqDiff, Nat.reduceLT, Nat.reduceLeDiff, Nat.reduceAdd, Nat.reduceSub, Nat.reduceMul, Nat.reduceBEq, ↓reduceIte, reduceCtorEq, Int.reduceEq, Int.reduceLT, Int.reduceLE, Int.reduceNeg, Int.reduceAdd, Int.reduceSub, Int.reduceToNat, rws_len, vc_cond, hT, rws_one eT_len, rws_len, rws_nil, hl]
    rintro rfl
    exact DLe_nils rfl

theorem equal16 (xs ys : List Int) (o o' : Own) (hl : xs.length ≤ 140737488355328) : PCall Try.prog 16 [.slice o (rws eI xs), .slice o' (rws eI ys)] (.bool (decide (xs = ys))) := by
  refine F16.pcall' rfl fun T hT => ?_
  simp -implicitDefEqProofs only [go_sem, Nat.reduceEqDiff, Nat.reduceLT, Nat.reduceLeDiff, Nat.reduceAdd, Nat.reduceSub, Nat.reduceMul, Nat.reduceBEq, ↓reduceIte, reduceCtorEq, Int.reduceEq, Int.reduceLT, Int.reduceLE, Int.reduceNeg, Int.reduceAdd, Int.reduceSub, Int.reduceToNat, rws_len, vc_cond, c16, hT, rws_len]
  refine br_split (fun h => ?_) fun h => ?_
  · refine DLe_bool ?_
    simp at h
    simp
    rintro rfl
    exact h rfl
  have hxy : xs.length = ys.length := by simp at h; omega
  refine loopL F16 (fun i : Nat => [(0, .slice o (rws eI xs)), (1, .slice o' (rws eI ys)), (12, .int .i64 xs.length), (13, .int .i64 i)]) (fun _ => {}) (fun i => i ≤ xs.length ∧ xs.take i = ys.take i) (fun i => xs.length - i) 0
    ⟨Nat.zero_le _, rfl⟩ ?_ (St.le.refl _) ?_
  · simp -implicitDefEqProofs only [go_sem, Nat.reduceEqDiff, Nat.reduceLT, Nat.reduceLeDiff, Nat.reduceAdd, Nat.reduceSub, Nat.reduceMul, Nat.reduceBEq, ↓reduceIte, reduceCtorEq, Int.reduceEq, Int.reduceLT, Int.reduceLE, Int.reduceNeg, Int.reduceAdd, Int.reduceSub, Int.reduceToNat, rws_len, vc_cond, hT, Int.ofNat_zero]
  rintro i ⟨hi, heq⟩ T hT
  simp -implicitDefEqProofs only [go_sem, Nat.reduceEqDiff, Nat.reduceLT, Nat.reduceLeDiff, Nat.reduceAdd, Nat.reduceSub, Nat.reduceMul, Nat.reduceBEq, ↓reduceIte, reduceCtorEq, Int.reduceEq, Int.reduceLT, Int.reduceLE, Int.reduceNeg, Int.reduceAdd, Int.reduceSub, Int.reduceToNat, rws_len, vc_cond, hT]
  refine br_split (fun h => ?_) fun h => ?_
  · have h : i < xs.length := by simpa using h
    simp -implicitDefEqProofs only [go_sem, Nat.reduceEqDiff, Nat.reduceLT, Nat.reduceLeDiff, Nat.reduceAdd, Nat.reduceSub, Nat.reduceMul, Nat.reduceBEq, ↓reduceIte, reduceCtorEq, Int.reduceEq, Int.reduceLT, Int.reduceLE, Int.reduceNeg, Int.reduceAdd, Int.reduceSub, Int.reduceToNat, rws_len, vc_cond, hT, rws_len, Int.toNat_natCast, rws_at h, rws_at (show i < ys.length by omega), eI_len, eI]
    refine ⟨⟨by omega, by omega⟩, ⟨by omega, by omega⟩, ?_⟩
    refine br_split (fun h' => ?_) fun h' => ?_
    · refine DLe_bool ?_
      simp at h'
      simp
      rintro rfl
      exact h' rfl
    · simp at h'
      refine ⟨i + 1, ⟨by omega, take_eq_step heq h (by omega) h'⟩, by omega, ?_, St.le.refl _⟩
      rw [wrap_i64 (by omega) (by omega)]
      simp
  · have h : ¬ i < xs.length := by simpa using h
    refine DLe_bool ?_
    rw [List.take_of_length_le (by omega), List.take_of_length_le (by omega)] at heq
    simp [heq]

theorem equal47 (xs ys : List Ty) (o o' : Own) (hl : xs.length ≤ 140737488355328) : PCall Try.prog 47 [.slice o (rws eT xs), .slice o' (rws eT ys)] (.bool (decide (xs = ys))) := by
  refine F47.pcall' rfl fun T hT => ?_
  simp -implicitDefEqProofs only [go_sem, Nat.reduceEqDiff, Nat.reduceLT, Nat.reduceLeDiff, Nat.reduceAdd, Nat.reduceSub, Nat.reduceMul, Nat.reduceBEq, ↓reduceIte, reduceCtorEq, Int.reduceEq, Int.reduceLT, Int.reduceLE, Int.reduceNeg, Int.reduceAdd, Int.reduceSub, Int.reduceToNat, rws_len, vc_cond, c47, hT, rws_len]
  refine br_split (fun h => ?_) fun h => ?_
  · refine DLe_bool ?_
    simp at h
    simp
    rintro rfl
    exact h rfl
  have hxy : xs.length = ys.length := by simp at h; omega
  refine loopL F47 (fun i : Nat => [(0, .slice o (rws eT xs)), (1, .slice o' (rws eT ys)), (12, .int .i64 xs.length), (13, .int .i64 i)]) (fun _ => {}) (fun i => i ≤ xs.length ∧ xs.take i = ys.take i) (fun i => xs.length - i) 0
    ⟨Nat.zero_le _, rfl⟩ ?_ (St.le.refl _) ?_
  · simp -implicitDefEqProofs only [go_sem, Nat.reduceEqDiff, Nat.reduceLT, Nat.reduceLeDiff, Nat.reduceAdd, Nat.reduceSub, Nat.reduceMul, Nat.reduceBEq, ↓reduceIte, reduceCtorEq, Int.reduceEq, Int.reduceLT, Int.reduceLE, Int.reduceNeg, Int.reduceAdd, Int.reduceSub, Int.reduceToNat, rws_len, vc_cond, hT, Int.ofNat_zero]
  rintro i ⟨hi, heq⟩ T hT
  simp -implicitDefEqProofs only [go_sem, Nat.reduceEqDiff, Nat.reduceLT, Nat.reduceLeDiff, Nat.reduceAdd, Nat.reduceSub, Nat.reduceMul, Nat.reduceBEq, ↓reduceIte, reduceCtorEq, Int.reduceEq, Int.reduceLT, Int.reduceLE, Int.reduceNeg, Int.reduceAdd, Int.reduceSub, Int.reduceToNat, rws_len, vc_cond, hT]
  refine br_split (fun h => ?_) fun h => ?_
  · have h : i < xs.length := by simpa using h
    simp -implicitDefEqProofs only [go_sem, Nat.reduceEqDiff, Nat.reduceLT, Nat.reduceLeDiff, Nat.reduceAdd, Nat.reduceSub, Nat.reduceMul, Nat.reduceBEq, ↓reduceIte, reduceCtorEq, Int.reduceEq, Int.reduceLT, Int.reduceLE, Int.reduceNeg, Int.reduceAdd, Int.reduceSub, Int.reduceToNat, rws_len, vc_cond, hT, rws_len, Int.toNat_natCast, rws_at h, rws_at (show i < ys.length by omega), eT_len, eT, eT_eq]
    refine ⟨⟨by omega, by omega⟩, ⟨by omega, by omega⟩, ?_⟩
    refine br_split (fun h' => ?_) fun h' => ?_
    · refine DLe_bool ?_
      simp at h'
      simp
      rintro rfl
      exact h' rfl
    · simp at h'
      refine ⟨i + 1, ⟨by omega, take_eq_step heq h (by omega) h'⟩, by omega, ?_, St.le.refl _⟩
      rw [wrap_i64 (by omega) (by omega)]
      simp
  · have h : ¬ i < xs.length := by simpa using h
    refine DLe_bool ?_
    rw [List.take_of_length_le (by omega), List.take_of_length_le (by omega)] at heq
    simp [heq]
end Go.AL
namespace Go.AL
open Go.Proofs
set_option linter.unusedSimpArgs false
set_option linter.unusedVariables false
set_option maxRecDepth 100000

structure Sg where
  ps : List Ty
  r : Ty
  deriving DecidableEq
def eSg (s : Sg) : List D := [.slice .no (rws eT s.ps), .int .u8 s.r.val]
theorem eSg_len (s : Sg) : (eSg s).length = 2 := rfl

theorem sig11 (s : Sg) (hl : s.ps.length ≤ 140737488355328) : PCall Try.prog 11 [.agg (eSg s)] (.agg (eSg s)) := by
  refine F11.pcall' rfl fun T hT => ?_
  simp -implicitDefEqProofs only [go_sem, Nat.reduceEqDiff, Nat.reduceLT, Nat.reduceLeDiff, Nat.reduceAdd, Nat.reduceSub, Nat.reduceMul, Nat.reduceBEq, ↓reduceIte, reduceCtorEq, Int.reduceEq, Int.reduceLT, Int.reduceLE, Int.reduceNeg, Int.reduceAdd, Int.reduceSub, Int.reduceToNat, rws_len, vc_cond, c11, hT, eSg]
  intro b b' hb hb'
  simp -implicitDefEqProofs only [go_sem, Nat.reduceEqDiff, Nat.reduceLT, Nat.reduceLeDiff, Nat.reduceAdd, Nat.reduceSub, Nat.reduceMul, Nat.reduceBEq, ↓reduceIte, reduceCtorEq, Int.reduceEq, Int.reduceLT, Int.reduceLE, Int.reduceNeg, Int.reduceAdd, Int.reduceSub, Int.reduceToNat, rws_len, vc_cond, hb, hb', hT]
  refine callB_pure (clone46 s.ps .no (by simp [nilOk]) (by omega)) ?_
  simp -implicitDefEqProofs only [go_sem, Nat.reduceEqDiff, Nat.reduceLT, Nat.reduceLeDiff, Nat.reduceAdd, Nat.reduceSub, Nat.reduceMul, Nat.reduceBEq, ↓reduceIte, reduceCtorEq, Int.reduceEq, Int.reduceLT, Int.reduceLE, Int.reduceNeg, Int.reduceAdd, Int.reduceSub, Int.reduceToNat, rws_len, vc_cond, hT, eSg, hb, hb']

theorem sameSig15 (s u : Sg) (hl : s.ps.length ≤ 140737488355328) : PCall Try.prog 15 [.agg (eSg s), .agg (eSg u)] (.bool (decide (s = u))) := by
  refine F15.pcall' rfl fun T hT => ?_
  simp -implicitDefEqProofs only [go_sem, Nat.reduceEqDiff, Nat.reduceLT, Nat.reduceLeDiff, Nat.reduceAdd, Nat.reduceSub, Nat.reduceMul, Nat.reduceBEq, ↓reduceIte, reduceCtorEq, Int.reduceEq, Int.reduceLT, Int.reduceLE, Int.reduceNeg, Int.reduceAdd, Int.reduceSub, Int.reduceToNat, rws_len, vc_cond, c15, hT, eSg]
  intro b b' hb hb'
  simp -implicitDefEqProofs only [go_sem, Nat.reduceEqDiff, Nat.reduceLT, Nat.reduceLeDiff, Nat.reduceAdd, Nat.reduceSub, Nat.reduceMul, Nat.reduceBEq, ↓reduceIte, reduceCtorEq, Int.reduceEq, Int.reduceLT, Int.reduceLE, Int.reduceNeg, Int.reduceAdd, Int.reduceSub, Int.reduceToNat, rws_len, vc_cond, hb, hb', hT, eT_eq]
  refine gbr_split (fun h => ?_) fun h => ?_
  · simp -implicitDefEqProofs only [go_sem, Nat.reduceEqDiff, Nat.reduceLT, Nat.reduceLeDiff, Nat.reduceAdd, Nat.reduceSub, Nat.reduceMul, Nat.reduceBEq, ↓reduceIte, reduceCtorEq, Int.reduceEq, Int.reduceLT, Int.reduceLE, Int.reduceNeg, Int.reduceAdd, Int.reduceSub, Int.reduceToNat, rws_len, vc_cond, hb, hb', hT, h]
    refine callB_pure (equal47 s.ps u.ps .no .no hl) ?_
    simp -implicitDefEqProofs only [go_sem, Nat.reduceEqDiff, Nat.reduceLT, Nat.reduceLeDiff, Nat.reduceAdd, Nat.reduceSub, Nat.reduceMul, Nat.reduceBEq, ↓reduceIte, reduceCtorEq, Int.reduceEq, Int.reduceLT, Int.reduceLE, Int.reduceNeg, Int.reduceAdd, Int.reduceSub, Int.reduceToNat, rws_len, vc_cond, hT, h]
    refine DLe_bool ?_
    obtain ⟨a, b⟩ := s
    obtain ⟨c, d⟩ := u
    simp at h
    simp [h]
  · simp -implicitDefEqProofs only [go_sem, Nat.reduceEqDiff, Nat.reduceLT, Nat.reduceLeDiff, Nat.reduceAdd, Nat.reduceSub, Nat.reduceMul, Nat.reduceBEq, ↓reduceIte, reduceCtorEq, Int.reduceEq, Int.reduceLT, Int.reduceLE, Int.reduceNeg, Int.reduceAdd, Int.reduceSub, Int.reduceToNat, rws_len, vc_cond, hT, h]
    refine DLe_bool ?_
    obtain ⟨a, b⟩ := s
    obtain ⟨c, d⟩ := u
    simp at h
    simp [h]

def fitsOne (t : Ty) (n : Int) : Bool := decide ((t.val = 1 ∧ -2147483648 ≤ n ∧ n ≤ 2147483647) ∨ (t.val = 2 ∧ (n = 0 ∨ n = 1)))
def admits (ps : List Ty) (xs : List Int) : Bool := decide (xs.length = ps.length ∧ ∀ j < ps.length, fitsOne (ps.getD j 0) (xs.getD j 0) = true)

theorem wrap_back (n : Int) : (n = IntKind.wrap .i64 (IntKind.wrap .i32 n)) = (-2147483648 ≤ n ∧ n ≤ 2147483647) := by
  have e : IntKind.wrap .i32 n = if 2147483648 ≤ n % 4294967296 then n % 4294967296 - 4294967296 else n % 4294967296 := by simp [IntKind.wrap, IntKind.bits, IntKind.signed]
  have h : -2147483648 ≤ IntKind.wrap .i32 n ∧ IntKind.wrap .i32 n ≤ 2147483647 := by rw [e]; split <;> omega
  rw [wrap_i64 (by omega) (by omega), e]
  simp only [eq_iff_iff]
  split <;> omega
theorem admits13 (s : Sg) (xs : List Int) (hl : s.ps.length ≤ 140737488355328) : PCall Try.prog 13 [.agg (eSg s), .slice .no (rws eI xs)] (.bool (admits s.ps xs)) := by
  refine F13.pcall' rfl fun T hT => ?_
  simp -implicitDefEqProofs only [go_sem, Nat.reduceEqDiff, Nat.reduceLT, Nat.reduceLeDiff, Nat.reduceAdd, Nat.reduceSub, Nat.reduceMul, Nat.reduceBEq, ↓reduceIte, reduceCtorEq, Int.reduceEq, Int.reduceLT, Int.reduceLE, Int.reduceNeg, Int.reduceAdd, Int.reduceSub, Int.reduceToNat, rws_len, vc_cond, c13, hT, eSg, rws_len]
  intro b
  refine br_split (fun h => ?_) fun h => ?_
  · refine DLe_bool ?_
    simp at h
    have : ¬ xs.length = s.ps.length := by omega
    simp [admits, this]
  have hxy : xs.length = s.ps.length := by simp at h; omega
  refine loopL F13 (fun i : Nat => [(1, .slice .no (rws eI xs)), (15, .slice .no (rws eT s.ps)), (16, .int .i64 s.ps.length), (17, .int .i64 i)]) (fun _ => {})
    (fun i => i ≤ s.ps.length ∧ ∀ j < i, fitsOne (s.ps.getD j 0) (xs.getD j 0) = true) (fun i => s.ps.length - i) 0
    ⟨Nat.zero_le _, by simp⟩ ?_ (St.le.nil _) ?_
  · simp -implicitDefEqProofs only [go_sem, Nat.reduceEqDiff, Nat.reduceLT, Nat.reduceLeDiff, Nat.reduceAdd, Nat.reduceSub, Nat.reduceMul, Nat.reduceBEq, ↓reduceIte, reduceCtorEq, Int.reduceEq, Int.reduceLT, Int.reduceLE, Int.reduceNeg, Int.reduceAdd, Int.reduceSub, Int.reduceToNat, rws_len, vc_cond, hT, Int.ofNat_zero]
  rintro i ⟨hi, heq⟩ T hT
  simp -implicitDefEqProofs only [go_sem, Nat.reduceEqDiff, Nat.reduceLT, Nat.reduceLeDiff, Nat.reduceAdd, Nat.reduceSub, Nat.reduceMul, Nat.reduceBEq, ↓reduceIte, reduceCtorEq, Int.reduceEq, Int.reduceLT, Int.reduceLE, Int.reduceNeg, Int.reduceAdd, Int.reduceSub, Int.reduceToNat, rws_len, vc_cond, hT]
  refine br_split (fun h => ?_) fun h => ?_
  · have h : i < s.ps.length := by simpa using h
    simp -implicitDefEqProofs only [go_sem, Nat.reduceEqDiff, Nat.reduceLT, Nat.reduceLeDiff, Nat.reduceAdd, Nat.reduceSub, Nat.reduceMul, Nat.reduceBEq, ↓reduceIte, reduceCtorEq, Int.reduceEq, Int.reduceLT, Int.reduceLE, Int.reduceNeg, Int.reduceAdd, Int.reduceSub, Int.reduceToNat, rws_len, vc_cond, hT, rws_len, Int.toNat_natCast, rws_at h, rws_at (show i < xs.length by omega), eI_len, eT_len, eI, eT]
    have hs : (s.ps.getD i 0) = s.ps[i] := by simp [h]
    have hx : (xs.getD i 0) = xs[i] := by simp [show i < xs.length by omega]
    have ha : admits s.ps xs = true → fitsOne s.ps[i] xs[i] = true := fun ha => by
      rw [← hs, ← hx]; exact (of_decide_eq_true ha).2 i h
    have hg : fitsOne s.ps[i] xs[i] = true → ∀ j < i + 1, fitsOne (s.ps.getD j 0) (xs.getD j 0) = true := fun hg j hj => by
      rcases Nat.lt_or_eq_of_le (Nat.le_of_lt_succ hj) with hj | rfl
      · exact heq j hj
      · rw [hs, hx]; exact hg
    have hw : IntKind.wrap .i64 ((i : Int) + 1) = ((i + 1 : Nat) : Int) := by rw [wrap_i64 (by omega) (by omega)]; simp
    refine ⟨⟨by omega, by omega⟩, ⟨by omega, by omega⟩, ?_⟩
    generalize s.ps[i] = t at *
    generalize xs[i] = n at *
    have good : fitsOne t n = true → ∃ y : Nat, (y ≤ s.ps.length ∧ ∀ j < y, fitsOne (s.ps.getD j 0) (xs.getD j 0) = true) ∧ s.ps.length - y < s.ps.length - i ∧ D.int .i64 (IntKind.wrap .i64 ((i : Int) + 1)) = D.int .i64 (y : Int) ∧ ({} : St).le {} :=
      fun g => ⟨i + 1, ⟨by omega, hg g⟩, by omega, by rw [hw], St.le.refl _⟩
    have bad : fitsOne t n = false → DLe (.bool false) (.bool (admits s.ps xs)) := fun g => DLe_bool (by
      cases hh : admits s.ps xs with
      | false => rfl
      | true => rw [ha hh] at g; cases g)
    by_cases h1 : (t.val : Int) = 1
    · simp -implicitDefEqProofs only [go_sem, Nat.reduceEqDiff, Nat.reduceLT, Nat.reduceLeDiff, Nat.reduceAdd, Nat.reduceSub, Nat.reduceMul, Nat.reduceBEq, ↓reduceIte, reduceCtorEq, Int.reduceEq, Int.reduceLT, Int.reduceLE, Int.reduceNeg, Int.reduceAdd, Int.reduceSub, Int.reduceToNat, rws_len, vc_cond, hT, h1, decide_true, decide_false, eq_self, wrap_back]
      refine br_split (fun h => good ?_) fun h => bad ?_
      · simp at h; simp [fitsOne]; omega
      · simp at h; simp [fitsOne]; omega
    · by_cases h2 : (t.val : Int) = 2
      · by_cases h3 : n = 0
        · simp -implicitDefEqProofs only [go_sem, Nat.reduceEqDiff, Nat.reduceLT, Nat.reduceLeDiff, Nat.reduceAdd, Nat.reduceSub, Nat.reduceMul, Nat.reduceBEq, ↓reduceIte, reduceCtorEq, Int.reduceEq, Int.reduceLT, Int.reduceLE, Int.reduceNeg, Int.reduceAdd, Int.reduceSub, Int.reduceToNat, rws_len, vc_cond, hT, h1, h2, h3]
          exact good (by simp [fitsOne]; omega)
        · simp -implicitDefEqProofs only [go_sem, Nat.reduceEqDiff, Nat.reduceLT, Nat.reduceLeDiff, Nat.reduceAdd, Nat.reduceSub, Nat.reduceMul, Nat.reduceBEq, ↓reduceIte, reduceCtorEq, Int.reduceEq, Int.reduceLT, Int.reduceLE, Int.reduceNeg, Int.reduceAdd, Int.reduceSub, Int.reduceToNat, rws_len, vc_cond, hT, h1, h2, h3]
          refine br_split (fun h => good ?_) fun h => bad ?_
          · simp at h; simp [fitsOne]; omega
          · simp at h; simp [fitsOne]; omega
      · simp -implicitDefEqProofs only [go_sem, Nat.reduceEqDiff, Nat.reduceLT, Nat.reduceLeDiff, Nat.reduceAdd, Nat.reduceSub, Nat.reduceMul, Nat.reduceBEq, ↓reduceIte, reduceCtorEq, Int.reduceEq, Int.reduceLT, Int.reduceLE, Int.reduceNeg, Int.reduceAdd, Int.reduceSub, Int.reduceToNat, rws_len, vc_cond, hT, h1, h2]
        exact bad (by simp [fitsOne]; omega)
  · have h : ¬ i < s.ps.length := by simpa using h
    refine DLe_bool ?_
    have : i = s.ps.length := by omega
    subst this
    symm
    exact decide_eq_true ⟨hxy, heq⟩

theorem refAdmits14 (s : Sg) (xs : List Int) (hl : s.ps.length ≤ 140737488355328) : PCall Try.prog 14 [.agg (eSg s), .slice .no (rws eI xs)] (.bool (admits s.ps xs)) := by
  refine F14.pcall' rfl fun T hT => ?_
  simp -implicitDefEqProofs only [go_sem, Nat.reduceEqDiff, Nat.reduceLT, Nat.reduceLeDiff, Nat.reduceAdd, Nat.reduceSub, Nat.reduceMul, Nat.reduceBEq, ↓reduceIte, reduceCtorEq, Int.reduceEq, Int.reduceLT, Int.reduceLE, Int.reduceNeg, Int.reduceAdd, Int.reduceSub, Int.reduceToNat, rws_len, vc_cond, c14, hT, eSg]
  intro b
  refine br_split (fun h => ?_) fun h => ?_
  · refine DLe_bool ?_
    simp at h
    have : ¬ xs.length = s.ps.length := by omega
    simp [admits, this]
  have hxy : xs.length = s.ps.length := by simp at h; omega
  refine loopL F14 (fun i : Nat => [(1, .slice .no (rws eI xs)), (15, .slice .no (rws eT s.ps)), (16, .int .i64 s.ps.length), (17, .int .i64 i)]) (fun _ => {})
    (fun i => i ≤ s.ps.length ∧ ∀ j < i, fitsOne (s.ps.getD j 0) (xs.getD j 0) = true) (fun i => s.ps.length - i) 0
    ⟨Nat.zero_le _, by simp⟩ ?_ (St.le.nil _) ?_
  · simp -implicitDefEqProofs only [go_sem, Nat.reduceEqDiff, Nat.reduceLT, Nat.reduceLeDiff, Nat.reduceAdd, Nat.reduceSub, Nat.reduceMul, Nat.reduceBEq, ↓reduceIte, reduceCtorEq, Int.reduceEq, Int.reduceLT, Int.reduceLE, Int.reduceNeg, Int.reduceAdd, Int.reduceSub, Int.reduceToNat, rws_len, vc_cond, hT, Int.ofNat_zero]
  rintro i ⟨hi, heq⟩ T hT
  simp -implicitDefEqProofs only [go_sem, Nat.reduceEqDiff, Nat.reduceLT, Nat.reduceLeDiff, Nat.reduceAdd, Nat.reduceSub, Nat.reduceMul, Nat.reduceBEq, ↓reduceIte, reduceCtorEq, Int.reduceEq, Int.reduceLT, Int.reduceLE, Int.reduceNeg, Int.reduceAdd, Int.reduceSub, Int.reduceToNat, rws_len, vc_cond, hT]
  refine br_split (fun h => ?_) fun h => ?_
  · have h : i < s.ps.length := by simpa using h
    simp -implicitDefEqProofs only [go_sem, Nat.reduceEqDiff, Nat.reduceLT, Nat.reduceLeDiff, Nat.reduceAdd, Nat.reduceSub, Nat.reduceMul, Nat.reduceBEq, ↓reduceIte, reduceCtorEq, Int.reduceEq, Int.reduceLT, Int.reduceLE, Int.reduceNeg, Int.reduceAdd, Int.reduceSub, Int.reduceToNat, rws_len, vc_cond, hT, rws_at h, rws_at (show i < xs.length by omega), eI_len, eT_len, eI, eT]
    have hs : (s.ps.getD i 0) = s.ps[i] := by simp [h]
    have hx : (xs.getD i 0) = xs[i] := by simp [show i < xs.length by omega]
    have ha : admits s.ps xs = true → fitsOne s.ps[i] xs[i] = true := fun ha => by
      rw [← hs, ← hx]; exact (of_decide_eq_true ha).2 i h
    have hg : fitsOne s.ps[i] xs[i] = true → ∀ j < i + 1, fitsOne (s.ps.getD j 0) (xs.getD j 0) = true := fun hg j hj => by
      rcases Nat.lt_or_eq_of_le (Nat.le_of_lt_succ hj) with hj | rfl
      · exact heq j hj
      · rw [hs, hx]; exact hg
    have hw : IntKind.wrap .i64 ((i : Int) + 1) = ((i + 1 : Nat) : Int) := by rw [wrap_i64 (by omega) (by omega)]; simp
    refine ⟨⟨by omega, by omega⟩, ⟨by omega, by omega⟩, ?_⟩
    generalize s.ps[i] = t at *
    generalize xs[i] = n at *
    have good : fitsOne t n = true → ∃ y : Nat, (y ≤ s.ps.length ∧ ∀ j < y, fitsOne (s.ps.getD j 0) (xs.getD j 0) = true) ∧ s.ps.length - y < s.ps.length - i ∧ D.int .i64 (IntKind.wrap .i64 ((i : Int) + 1)) = D.int .i64 (y : Int) ∧ ({} : St).le {} :=
      fun g => ⟨i + 1, ⟨by omega, hg g⟩, by omega, by rw [hw], St.le.refl _⟩
    have bad : fitsOne t n = false → DLe (.bool false) (.bool (admits s.ps xs)) := fun g => DLe_bool (by
      cases hh : admits s.ps xs with
      | false => rfl
      | true => rw [ha hh] at g; cases g)
    by_cases h1 : (t.val : Int) = 1
    · by_cases h3 : n < -2147483648
      · simp -implicitDefEqProofs only [go_sem, Nat.reduceEqDiff, Nat.reduceLT, Nat.reduceLeDiff, Nat.reduceAdd, Nat.reduceSub, Nat.reduceMul, Nat.reduceBEq, ↓reduceIte, reduceCtorEq, Int.reduceEq, Int.reduceLT, Int.reduceLE, Int.reduceNeg, Int.reduceAdd, Int.reduceSub, Int.reduceToNat, rws_len, vc_cond, hT, h1, h3]
        exact bad (by simp [fitsOne]; omega)
      · simp -implicitDefEqProofs only [go_sem, Nat.reduceEqDiff, Nat.reduceLT, Nat.reduceLeDiff, Nat.reduceAdd, Nat.reduceSub, Nat.reduceMul, Nat.reduceBEq, ↓reduceIte, reduceCtorEq, Int.reduceEq, Int.reduceLT, Int.reduceLE, Int.reduceNeg, Int.reduceAdd, Int.reduceSub, Int.reduceToNat, rws_len, vc_cond, hT, h1, h3]
        refine br_split (fun h => bad ?_) fun h => good ?_
        · simp at h; simp [fitsOne]; omega
        · simp at h; simp [fitsOne]; omega
    · by_cases h2 : (t.val : Int) = 2
      · by_cases h3 : n = 0
        · simp -implicitDefEqProofs only [go_sem, Nat.reduceEqDiff, Nat.reduceLT, Nat.reduceLeDiff, Nat.reduceAdd, Nat.reduceSub, Nat.reduceMul, Nat.reduceBEq, ↓reduceIte, reduceCtorEq, Int.reduceEq, Int.reduceLT, Int.reduceLE, Int.reduceNeg, Int.reduceAdd, Int.reduceSub, Int.reduceToNat, rws_len, vc_cond, hT, h1, h2, h3]
          exact good (by simp [fitsOne]; omega)
        · simp -implicitDefEqProofs only [go_sem, Nat.reduceEqDiff, Nat.reduceLT, Nat.reduceLeDiff, Nat.reduceAdd, Nat.reduceSub, Nat.reduceMul, Nat.reduceBEq, ↓reduceIte, reduceCtorEq, Int.reduceEq, Int.reduceLT, Int.reduceLE, Int.reduceNeg, Int.reduceAdd, Int.reduceSub, Int.reduceToNat, rws_len, vc_cond, hT, h1, h2, h3]
          refine br_split (fun h => bad ?_) fun h => good ?_
          · simp at h; simp [fitsOne]; omega
          · simp at h; simp [fitsOne]; omega
      · simp -implicitDefEqProofs only [go_sem, Nat.reduceEqDiff, Nat.reduceLT, Nat.reduceLeDiff, Nat.reduceAdd, Nat.reduceSub, Nat.reduceMul, Nat.reduceBEq, ↓reduceIte, reduceCtorEq, Int.reduceEq, Int.reduceLT, Int.reduceLE, Int.reduceNeg, Int.reduceAdd, Int.reduceSub, Int.reduceToNat, rws_len, vc_cond, hT, h1, h2]
        exact bad (by simp [fitsOne]; omega)
  · have h : ¬ i < s.ps.length := by simpa using h
    refine DLe_bool ?_
    have : i = s.ps.length := by omega
    subst this
    symm
    exact decide_eq_true ⟨hxy, heq⟩
end Go.AL
namespace Go.AL
open Go.Proofs
set_option linter.unusedSimpArgs false
set_option linter.unusedVariables false
set_option maxRecDepth 100000

structure Fd where
  name : ByteArray
  ty : Ty
  deriving DecidableEq
structure Cl where
  name : ByteArray
  parent : Int
  fields : List Fd
  deriving DecidableEq
def eF (f : Fd) : List D := [.str f.name, .int .u8 f.ty.val]
def eC (c : Cl) : List D := [.str c.name, .int .i64 c.parent, .slice .no (rws eF c.fields)]
theorem eF_len (f : Fd) : (eF f).length = 2 := rfl
theorem eC_len (c : Cl) : (eC c).length = 3 := rfl

theorem wrap_ty_i64 (t : Ty) : IntKind.wrap .i64 (t.val : Int) = t.val := wrap_i64 (by omega) (by omega)

/-- The class of a type over a table of so many. -/
def clsOf (n : Nat) (t : Ty) : Int := if 16 ≤ t.val ∧ t.val - 16 < n then (t.val : Int) - 16 else -1
def validN (n : Nat) (t : Ty) : Bool := decide (t.val ≤ 5 ∨ 16 ≤ t.val ∧ t.val - 16 < n)

theorem class147 (l : List Cl) (o : Own) (t : Ty) : PCall Try.prog 147 [.slice o (rws eC l), .int .u8 t.val] (.int .i64 (clsOf l.length t)) := by
  refine F147.pcall' rfl fun T hT => ?_
  simp -implicitDefEqProofs only [go_sem, Nat.reduceEqDiff, Nat.reduceLT, Nat.reduceLeDiff, Nat.reduceAdd, Nat.reduceSub, Nat.reduceMul, Nat.reduceBEq, ↓reduceIte, reduceCtorEq, Int.reduceEq, Int.reduceLT, Int.reduceLE, Int.reduceNeg, Int.reduceAdd, Int.reduceSub, Int.reduceToNat, rws_len, vc_cond, c147, hT]
  refine gbr_split (fun h => ?_) fun h => ?_
  · have h1 : 16 ≤ t.val := by simp at h; omega
    have h2 : ((t.val : Int) < 16) = False := by simp; omega
    have h3 : IntKind.wrap .u8 ((t.val : Int) - 16) = (t.val : Int) - 16 := wrap_u8 (by omega) (by omega)
    have h4 : IntKind.wrap .i64 ((t.val : Int) - 16) = (t.val : Int) - 16 := wrap_i64 (by omega) (by omega)
    simp -implicitDefEqProofs only [go_sem, Nat.reduceEqDiff, Nat.reduceLT, Nat.reduceLeDiff, Nat.reduceAdd, Nat.reduceSub, Nat.reduceMul, Nat.reduceBEq, ↓reduceIte, reduceCtorEq, Int.reduceEq, Int.reduceLT, Int.reduceLE, Int.reduceNeg, Int.reduceAdd, Int.reduceSub, Int.reduceToNat, rws_len, vc_cond, hT, h2, h3, h4]
    refine br_split (fun h => DLe.of_eq ?_) fun h => DLe.of_eq ?_
    · simp at h
      rw [clsOf, if_neg (by omega)]
    · simp at h
      rw [clsOf, if_pos (by omega)]
  · have h2 : ((t.val : Int) < 16) = True := by simp at h; simp; omega
    simp -implicitDefEqProofs only [go_sem, Nat.reduceEqDiff, Nat.reduceLT, Nat.reduceLeDiff, Nat.reduceAdd, Nat.reduceSub, Nat.reduceMul, Nat.reduceBEq, ↓reduceIte, reduceCtorEq, Int.reduceEq, Int.reduceLT, Int.reduceLE, Int.reduceNeg, Int.reduceAdd, Int.reduceSub, Int.reduceToNat, rws_len, vc_cond, hT, h2]
    refine DLe.of_eq ?_
    simp at h2
    rw [clsOf, if_neg (by omega)]

theorem clsOf_ge (n : Nat) (t : Ty) : (0 ≤ clsOf n t) = (16 ≤ t.val ∧ t.val - 16 < n) := by
  unfold clsOf
  split <;> rename_i h
  · simp [h]; omega
  · simp [h]

theorem valid105 (l : List Cl) (o : Own) (t : Ty) : PCall Try.prog 105 [.slice o (rws eC l), .int .u8 t.val] (.bool (validN l.length t)) := by
  refine F105.pcall' rfl fun T hT => ?_
  simp -implicitDefEqProofs only [go_sem, Nat.reduceEqDiff, Nat.reduceLT, Nat.reduceLeDiff, Nat.reduceAdd, Nat.reduceSub, Nat.reduceMul, Nat.reduceBEq, ↓reduceIte, reduceCtorEq, Int.reduceEq, Int.reduceLT, Int.reduceLE, Int.reduceNeg, Int.reduceAdd, Int.reduceSub, Int.reduceToNat, rws_len, vc_cond, c105, hT]
  refine gbr_split (fun h => ?_) fun h => ?_
  · have h2 : ((t.val : Int) ≤ 5) = False := by simp at h; simp; omega
    simp -implicitDefEqProofs only [go_sem, Nat.reduceEqDiff, Nat.reduceLT, Nat.reduceLeDiff, Nat.reduceAdd, Nat.reduceSub, Nat.reduceMul, Nat.reduceBEq, ↓reduceIte, reduceCtorEq, Int.reduceEq, Int.reduceLT, Int.reduceLE, Int.reduceNeg, Int.reduceAdd, Int.reduceSub, Int.reduceToNat, rws_len, vc_cond, hT, h2]
    refine callB_pure (class147 l o t) ?_
    simp -implicitDefEqProofs only [go_sem, Nat.reduceEqDiff, Nat.reduceLT, Nat.reduceLeDiff, Nat.reduceAdd, Nat.reduceSub, Nat.reduceMul, Nat.reduceBEq, ↓reduceIte, reduceCtorEq, Int.reduceEq, Int.reduceLT, Int.reduceLE, Int.reduceNeg, Int.reduceAdd, Int.reduceSub, Int.reduceToNat, rws_len, vc_cond, hT, h2]
    refine DLe_bool ?_
    simp at h2
    simp [validN, clsOf_ge]
    omega
  · have h2 : ((t.val : Int) ≤ 5) = True := by simp at h; simp; omega
    simp -implicitDefEqProofs only [go_sem, Nat.reduceEqDiff, Nat.reduceLT, Nat.reduceLeDiff, Nat.reduceAdd, Nat.reduceSub, Nat.reduceMul, Nat.reduceBEq, ↓reduceIte, reduceCtorEq, Int.reduceEq, Int.reduceLT, Int.reduceLE, Int.reduceNeg, Int.reduceAdd, Int.reduceSub, Int.reduceToNat, rws_len, vc_cond, hT, h2]
    refine DLe_bool ?_
    simp at h2
    simp [validN]
    omega

theorem refValid87 (l : List Cl) (o : Own) (t : Ty) : PCall Try.prog 87 [.slice o (rws eC l), .int .u8 t.val] (.bool (validN l.length t)) := by
  refine F87.pcall' rfl fun T hT => ?_
  by_cases h1 : t.val ≤ 5
  · have h2 : ((t.val : Int) ≤ 5) = True := by simp; omega
    simp -implicitDefEqProofs only [go_sem, Nat.reduceEqDiff, Nat.reduceLT, Nat.reduceLeDiff, Nat.reduceAdd, Nat.reduceSub, Nat.reduceMul, Nat.reduceBEq, ↓reduceIte, reduceCtorEq, Int.reduceEq, Int.reduceLT, Int.reduceLE, Int.reduceNeg, Int.reduceAdd, Int.reduceSub, Int.reduceToNat, rws_len, vc_cond, c87, hT, h2]
    refine DLe_bool ?_
    simp [validN, h1]
  · have h2 : ((t.val : Int) ≤ 5) = False := by simp; omega
    by_cases h3 : 16 ≤ t.val
    · have h4 : ((16 : Int) ≤ t.val) = True := by simp; omega
      have h5 : IntKind.wrap .u8 ((t.val : Int) - 16) = (t.val : Int) - 16 := wrap_u8 (by omega) (by omega)
      have h6 : IntKind.wrap .i64 ((t.val : Int) - 16) = (t.val : Int) - 16 := wrap_i64 (by omega) (by omega)
      simp -implicitDefEqProofs only [go_sem, Nat.reduceEqDiff, Nat.reduceLT, Nat.reduceLeDiff, Nat.reduceAdd, Nat.reduceSub, Nat.reduceMul, Nat.reduceBEq, ↓reduceIte, reduceCtorEq, Int.reduceEq, Int.reduceLT, Int.reduceLE, Int.reduceNeg, Int.reduceAdd, Int.reduceSub, Int.reduceToNat, rws_len, vc_cond, c87, hT, h2, h4, h5, h6]
      refine DLe_bool ?_
      simp [validN, h1, h3]
      omega
    · have h4 : ((16 : Int) ≤ t.val) = False := by simp; omega
      simp -implicitDefEqProofs only [go_sem, Nat.reduceEqDiff, Nat.reduceLT, Nat.reduceLeDiff, Nat.reduceAdd, Nat.reduceSub, Nat.reduceMul, Nat.reduceBEq, ↓reduceIte, reduceCtorEq, Int.reduceEq, Int.reduceLT, Int.reduceLE, Int.reduceNeg, Int.reduceAdd, Int.reduceSub, Int.reduceToNat, rws_len, vc_cond, c87, hT, h2, h4]
      refine DLe_bool ?_
      simp [validN, h1, h3]
end Go.AL
namespace Go.AL
open Go.Proofs
set_option linter.unusedSimpArgs false
set_option linter.unusedVariables false
set_option maxRecDepth 100000

def storedN (n : Nat) (t : Ty) : Bool := validN n t && decide (t.val ≠ 0 ∧ t.val ≠ 3)

theorem stored146 (l : List Cl) (o : Own) (t : Ty) : PCall Try.prog 146 [.slice o (rws eC l), .int .u8 t.val] (.bool (storedN l.length t)) := by
  refine F146.pcall' rfl fun T hT => ?_
  by_cases h1 : (t.val : Int) = 1
  · simp -implicitDefEqProofs only [go_sem, Nat.reduceEqDiff, Nat.reduceLT, Nat.reduceLeDiff, Nat.reduceAdd, Nat.reduceSub, Nat.reduceMul, Nat.reduceBEq, ↓reduceIte, reduceCtorEq, Int.reduceEq, Int.reduceLT, Int.reduceLE, Int.reduceNeg, Int.reduceAdd, Int.reduceSub, Int.reduceToNat, rws_len, vc_cond, c146, hT, h1]
    exact DLe_bool (by simp [storedN, validN]; omega)
  by_cases h2 : (t.val : Int) = 2
  · simp -implicitDefEqProofs only [go_sem, Nat.reduceEqDiff, Nat.reduceLT, Nat.reduceLeDiff, Nat.reduceAdd, Nat.reduceSub, Nat.reduceMul, Nat.reduceBEq, ↓reduceIte, reduceCtorEq, Int.reduceEq, Int.reduceLT, Int.reduceLE, Int.reduceNeg, Int.reduceAdd, Int.reduceSub, Int.reduceToNat, rws_len, vc_cond, c146, hT, h1, h2]
    exact DLe_bool (by simp [storedN, validN]; omega)
  by_cases h3 : (t.val : Int) = 4
  · simp -implicitDefEqProofs only [go_sem, Nat.reduceEqDiff, Nat.reduceLT, Nat.reduceLeDiff, Nat.reduceAdd, Nat.reduceSub, Nat.reduceMul, Nat.reduceBEq, ↓reduceIte, reduceCtorEq, Int.reduceEq, Int.reduceLT, Int.reduceLE, Int.reduceNeg, Int.reduceAdd, Int.reduceSub, Int.reduceToNat, rws_len, vc_cond, c146, hT, h1, h2, h3]
    exact DLe_bool (by simp [storedN, validN]; omega)
  by_cases h4 : (t.val : Int) = 5
  · simp -implicitDefEqProofs only [go_sem, Nat.reduceEqDiff, Nat.reduceLT, Nat.reduceLeDiff, Nat.reduceAdd, Nat.reduceSub, Nat.reduceMul, Nat.reduceBEq, ↓reduceIte, reduceCtorEq, Int.reduceEq, Int.reduceLT, Int.reduceLE, Int.reduceNeg, Int.reduceAdd, Int.reduceSub, Int.reduceToNat, rws_len, vc_cond, c146, hT, h1, h2, h3, h4]
    exact DLe_bool (by simp [storedN, validN]; omega)
  simp -implicitDefEqProofs only [go_sem, Nat.reduceEqDiff, Nat.reduceLT, Nat.reduceLeDiff, Nat.reduceAdd, Nat.reduceSub, Nat.reduceMul, Nat.reduceBEq, ↓reduceIte, reduceCtorEq, Int.reduceEq, Int.reduceLT, Int.reduceLE, Int.reduceNeg, Int.reduceAdd, Int.reduceSub, Int.reduceToNat, rws_len, vc_cond, c146, hT, h1, h2, h3, h4]
  refine callB_pure (class147 l o t) ?_
  simp -implicitDefEqProofs only [go_sem, Nat.reduceEqDiff, Nat.reduceLT, Nat.reduceLeDiff, Nat.reduceAdd, Nat.reduceSub, Nat.reduceMul, Nat.reduceBEq, ↓reduceIte, reduceCtorEq, Int.reduceEq, Int.reduceLT, Int.reduceLE, Int.reduceNeg, Int.reduceAdd, Int.reduceSub, Int.reduceToNat, rws_len, vc_cond, hT, h1, h2, h3, h4]
  exact DLe_bool (by rw [Bool.eq_iff_iff]; simp [storedN, validN, clsOf_ge]; omega)

theorem stored66 (l : List Cl) (o : Own) (t : Ty) : PCall Try.prog 66 [.slice o (rws eC l), .int .u8 t.val] (.bool (storedN l.length t)) := by
  refine F66.pcall' rfl fun T hT => ?_
  simp -implicitDefEqProofs only [go_sem, Nat.reduceEqDiff, Nat.reduceLT, Nat.reduceLeDiff, Nat.reduceAdd, Nat.reduceSub, Nat.reduceMul, Nat.reduceBEq, ↓reduceIte, reduceCtorEq, Int.reduceEq, Int.reduceLT, Int.reduceLE, Int.reduceNeg, Int.reduceAdd, Int.reduceSub, Int.reduceToNat, rws_len, vc_cond, c66, hT]
  refine callB_pure (valid105 l o t) ?_
  cases hv : validN l.length t
  · simp -implicitDefEqProofs only [go_sem, Nat.reduceEqDiff, Nat.reduceLT, Nat.reduceLeDiff, Nat.reduceAdd, Nat.reduceSub, Nat.reduceMul, Nat.reduceBEq, ↓reduceIte, reduceCtorEq, Int.reduceEq, Int.reduceLT, Int.reduceLE, Int.reduceNeg, Int.reduceAdd, Int.reduceSub, Int.reduceToNat, rws_len, vc_cond, hT]
    exact DLe_bool (by simp [storedN, hv])
  · by_cases h1 : (t.val : Int) = 0
    · simp -implicitDefEqProofs only [go_sem, Nat.reduceEqDiff, Nat.reduceLT, Nat.reduceLeDiff, Nat.reduceAdd, Nat.reduceSub, Nat.reduceMul, Nat.reduceBEq, ↓reduceIte, reduceCtorEq, Int.reduceEq, Int.reduceLT, Int.reduceLE, Int.reduceNeg, Int.reduceAdd, Int.reduceSub, Int.reduceToNat, rws_len, vc_cond, hT, h1]
      exact DLe_bool (by rw [Bool.eq_iff_iff]; simp [storedN, hv]; omega)
    · simp -implicitDefEqProofs only [go_sem, Nat.reduceEqDiff, Nat.reduceLT, Nat.reduceLeDiff, Nat.reduceAdd, Nat.reduceSub, Nat.reduceMul, Nat.reduceBEq, ↓reduceIte, reduceCtorEq, Int.reduceEq, Int.reduceLT, Int.reduceLE, Int.reduceNeg, Int.reduceAdd, Int.reduceSub, Int.reduceToNat, rws_len, vc_cond, hT, h1]
      exact DLe_bool (by rw [Bool.eq_iff_iff]; simp [storedN, hv]; omega)

theorem refStored109 (l : List Cl) (o : Own) (t : Ty) : PCall Try.prog 109 [.slice o (rws eC l), .int .u8 t.val] (.bool (storedN l.length t)) := by
  refine F109.pcall' rfl fun T hT => ?_
  simp -implicitDefEqProofs only [go_sem, Nat.reduceEqDiff, Nat.reduceLT, Nat.reduceLeDiff, Nat.reduceAdd, Nat.reduceSub, Nat.reduceMul, Nat.reduceBEq, ↓reduceIte, reduceCtorEq, Int.reduceEq, Int.reduceLT, Int.reduceLE, Int.reduceNeg, Int.reduceAdd, Int.reduceSub, Int.reduceToNat, rws_len, vc_cond, c109, hT]
  refine callB_pure (refValid87 l o t) ?_
  cases hv : validN l.length t
  · simp -implicitDefEqProofs only [go_sem, Nat.reduceEqDiff, Nat.reduceLT, Nat.reduceLeDiff, Nat.reduceAdd, Nat.reduceSub, Nat.reduceMul, Nat.reduceBEq, ↓reduceIte, reduceCtorEq, Int.reduceEq, Int.reduceLT, Int.reduceLE, Int.reduceNeg, Int.reduceAdd, Int.reduceSub, Int.reduceToNat, rws_len, vc_cond, hT]
    exact DLe_bool (by simp [storedN, hv])
  · by_cases h1 : (t.val : Int) = 0
    · simp -implicitDefEqProofs only [go_sem, Nat.reduceEqDiff, Nat.reduceLT, Nat.reduceLeDiff, Nat.reduceAdd, Nat.reduceSub, Nat.reduceMul, Nat.reduceBEq, ↓reduceIte, reduceCtorEq, Int.reduceEq, Int.reduceLT, Int.reduceLE, Int.reduceNeg, Int.reduceAdd, Int.reduceSub, Int.reduceToNat, rws_len, vc_cond, hT, h1]
      exact DLe_bool (by rw [Bool.eq_iff_iff]; simp [storedN, hv]; omega)
    · simp -implicitDefEqProofs only [go_sem, Nat.reduceEqDiff, Nat.reduceLT, Nat.reduceLeDiff, Nat.reduceAdd, Nat.reduceSub, Nat.reduceMul, Nat.reduceBEq, ↓reduceIte, reduceCtorEq, Int.reduceEq, Int.reduceLT, Int.reduceLE, Int.reduceNeg, Int.reduceAdd, Int.reduceSub, Int.reduceToNat, rws_len, vc_cond, hT, h1]
      exact DLe_bool (by rw [Bool.eq_iff_iff]; simp [storedN, hv]; omega)

theorem refStored111 (l : List Cl) (o : Own) (t : Ty) : PCall Try.prog 111 [.slice o (rws eC l), .int .u8 t.val] (.bool (storedN l.length t)) := by
  refine F111.pcall' rfl fun T hT => ?_
  simp -implicitDefEqProofs only [go_sem, Nat.reduceEqDiff, Nat.reduceLT, Nat.reduceLeDiff, Nat.reduceAdd, Nat.reduceSub, Nat.reduceMul, Nat.reduceBEq, ↓reduceIte, reduceCtorEq, Int.reduceEq, Int.reduceLT, Int.reduceLE, Int.reduceNeg, Int.reduceAdd, Int.reduceSub, Int.reduceToNat, rws_len, vc_cond, c111, hT]
  refine callB_pure (refValid87 l o t) ?_
  cases hv : validN l.length t
  · simp -implicitDefEqProofs only [go_sem, Nat.reduceEqDiff, Nat.reduceLT, Nat.reduceLeDiff, Nat.reduceAdd, Nat.reduceSub, Nat.reduceMul, Nat.reduceBEq, ↓reduceIte, reduceCtorEq, Int.reduceEq, Int.reduceLT, Int.reduceLE, Int.reduceNeg, Int.reduceAdd, Int.reduceSub, Int.reduceToNat, rws_len, vc_cond, hT]
    exact DLe_bool (by simp [storedN, hv])
  · by_cases h1 : (t.val : Int) = 0
    · simp -implicitDefEqProofs only [go_sem, Nat.reduceEqDiff, Nat.reduceLT, Nat.reduceLeDiff, Nat.reduceAdd, Nat.reduceSub, Nat.reduceMul, Nat.reduceBEq, ↓reduceIte, reduceCtorEq, Int.reduceEq, Int.reduceLT, Int.reduceLE, Int.reduceNeg, Int.reduceAdd, Int.reduceSub, Int.reduceToNat, rws_len, vc_cond, hT, h1]
      exact DLe_bool (by rw [Bool.eq_iff_iff]; simp [storedN, hv]; omega)
    · simp -implicitDefEqProofs only [go_sem, Nat.reduceEqDiff, Nat.reduceLT, Nat.reduceLeDiff, Nat.reduceAdd, Nat.reduceSub, Nat.reduceMul, Nat.reduceBEq, ↓reduceIte, reduceCtorEq, Int.reduceEq, Int.reduceLT, Int.reduceLE, Int.reduceNeg, Int.reduceAdd, Int.reduceSub, Int.reduceToNat, rws_len, vc_cond, hT, h1]
      exact DLe_bool (by rw [Bool.eq_iff_iff]; simp [storedN, hv]; omega)

/-- The first place where a test holds; -1: none. -/
def idxFrom {α : Type} (p : α → Bool) : List α → Nat → Int
  | [], _ => -1
  | x :: xs, i => if p x then (i : Int) else idxFrom p xs (i + 1)
def idxOf {α : Type} (p : α → Bool) (xs : List α) : Int := idxFrom p xs 0
theorem idxFrom_drop {α : Type} {p : α → Bool} {xs : List α} {i : Nat} (h : i < xs.length) : idxFrom p (xs.drop i) i = if p xs[i] then (i : Int) else idxFrom p (xs.drop (i + 1)) (i + 1) := by
  rw [List.drop_eq_getElem_cons h]; rfl
theorem idxFrom_ge {α : Type} {p : α → Bool} : ∀ {xs : List α} {i : Nat}, (0 ≤ idxFrom p xs i) = (xs.any p = true)
  | [], i => by simp [idxFrom]
  | x :: xs, i => by
    unfold idxFrom
    cases h : p x
    · simp [h, idxFrom_ge (xs := xs)]
    · simp [h]

/-- A function value as a test over elements, over owned boxes that stay. -/
def Tests {α : Type} (g : FuncId) (fi ca : List D) (one : α → D) (p : α → Bool) (xs : List α) (σ : St) : Prop :=
  ∀ x ∈ xs, RCall Try.prog g (fi ++ [one x] ++ ca) σ fun d s' => d = .bool (p x) ∧ s' = σ

theorem idxFunc106 (xs : List Ty) (o : Own) (g : FuncId) (fi ca : List D) (p : Ty → Bool) (σ : St) (hl : xs.length ≤ 140737488355328) (hp : Tests g fi ca (fun t : Ty => D.int .u8 t.val) p xs σ) :
    RCall Try.prog 106 [.slice o (rws eT xs), .func (.func g) fi ca] σ fun d s' => d = .int .i64 (idxOf p xs) ∧ s' = σ := by
  refine F106.rcall rfl fun T hT => ?_
  simp -implicitDefEqProofs only [go_sem, Nat.reduceEqDiff, Nat.reduceLT, Nat.reduceLeDiff, Nat.reduceAdd, Nat.reduceSub, Nat.reduceMul, Nat.reduceBEq, ↓reduceIte, reduceCtorEq, Int.reduceEq, Int.reduceLT, Int.reduceLE, Int.reduceNeg, Int.reduceAdd, Int.reduceSub, Int.reduceToNat, rws_len, vc_cond, c106, hT]
  refine loopL F106 (fun i : Nat => [(0, .slice o (rws eT xs)), (1, .func (.func g) fi ca), (7, .int .i64 xs.length), (8, .int .i64 i)]) (fun _ => σ) (fun i => i ≤ xs.length ∧ idxFrom p xs 0 = idxFrom p (xs.drop i) i) (fun i => xs.length - i) 0
    ⟨Nat.zero_le _, rfl⟩ ?_ (St.le.refl _) ?_
  · simp -implicitDefEqProofs only [go_sem, Nat.reduceEqDiff, Nat.reduceLT, Nat.reduceLeDiff, Nat.reduceAdd, Nat.reduceSub, Nat.reduceMul, Nat.reduceBEq, ↓reduceIte, reduceCtorEq, Int.reduceEq, Int.reduceLT, Int.reduceLE, Int.reduceNeg, Int.reduceAdd, Int.reduceSub, Int.reduceToNat, rws_len, vc_cond, hT, Int.ofNat_zero]
  rintro i ⟨hi, heq⟩ T hT
  simp -implicitDefEqProofs only [go_sem, Nat.reduceEqDiff, Nat.reduceLT, Nat.reduceLeDiff, Nat.reduceAdd, Nat.reduceSub, Nat.reduceMul, Nat.reduceBEq, ↓reduceIte, reduceCtorEq, Int.reduceEq, Int.reduceLT, Int.reduceLE, Int.reduceNeg, Int.reduceAdd, Int.reduceSub, Int.reduceToNat, rws_len, vc_cond, hT]
  refine br_split (fun h => ?_) fun h => ?_
  · have h : i < xs.length := by simpa using h
    simp -implicitDefEqProofs only [go_sem, Nat.reduceEqDiff, Nat.reduceLT, Nat.reduceLeDiff, Nat.reduceAdd, Nat.reduceSub, Nat.reduceMul, Nat.reduceBEq, ↓reduceIte, reduceCtorEq, Int.reduceEq, Int.reduceLT, Int.reduceLE, Int.reduceNeg, Int.reduceAdd, Int.reduceSub, Int.reduceToNat, rws_len, vc_cond, hT, rws_at h, eT_len, eT]
    refine ⟨⟨by omega, by omega⟩, ?_⟩
    refine callB_all (hp xs[i] (by simp)) ?_
    rintro d s' ⟨rfl, rfl⟩
    rw [idxFrom_drop h] at heq
    simp -implicitDefEqProofs only [go_sem, Nat.reduceEqDiff, Nat.reduceLT, Nat.reduceLeDiff, Nat.reduceAdd, Nat.reduceSub, Nat.reduceMul, Nat.reduceBEq, ↓reduceIte, reduceCtorEq, Int.reduceEq, Int.reduceLT, Int.reduceLE, Int.reduceNeg, Int.reduceAdd, Int.reduceSub, Int.reduceToNat, rws_len, vc_cond, hT]
    refine br_split (fun h' => ?_) fun h' => ?_
    · exact ⟨_, _, DLe.refl _, St.le.refl _, by simp [idxOf, heq, h'], rfl⟩
    · refine ⟨i + 1, ⟨by omega, by simpa [h'] using heq⟩, by omega, ?_, St.le.refl _⟩
      rw [wrap_i64 (by omega) (by omega)]
      simp
  · have h : ¬ i < xs.length := by simpa using h
    refine ⟨_, _, DLe.refl _, St.le.refl _, ?_, rfl⟩
    rw [idxOf, heq, List.drop_of_length_le (by omega)]
    rfl

theorem contFunc67 (xs : List Ty) (o : Own) (g : FuncId) (fi ca : List D) (p : Ty → Bool) (σ : St) (hl : xs.length ≤ 140737488355328) (hp : Tests g fi ca (fun t : Ty => D.int .u8 t.val) p xs σ) :
    RCall Try.prog 67 [.slice o (rws eT xs), .func (.func g) fi ca] σ fun d s' => d = .bool (xs.any p) ∧ s' = σ := by
  refine F67.rcall rfl fun T hT => ?_
  simp -implicitDefEqProofs only [go_sem, Nat.reduceEqDiff, Nat.reduceLT, Nat.reduceLeDiff, Nat.reduceAdd, Nat.reduceSub, Nat.reduceMul, Nat.reduceBEq, ↓reduceIte, reduceCtorEq, Int.reduceEq, Int.reduceLT, Int.reduceLE, Int.reduceNeg, Int.reduceAdd, Int.reduceSub, Int.reduceToNat, rws_len, vc_cond, c67, hT]
  refine callB_all (idxFunc106 xs o g fi ca p σ hl hp) ?_
  rintro d s' ⟨rfl, rfl⟩
  simp -implicitDefEqProofs only [go_sem, Nat.reduceEqDiff, Nat.reduceLT, Nat.reduceLeDiff, Nat.reduceAdd, Nat.reduceSub, Nat.reduceMul, Nat.reduceBEq, ↓reduceIte, reduceCtorEq, Int.reduceEq, Int.reduceLT, Int.reduceLE, Int.reduceNeg, Int.reduceAdd, Int.reduceSub, Int.reduceToNat, rws_len, vc_cond, hT, idxOf, idxFrom_ge]
  exact ⟨_, _, DLe.refl _, St.le.refl _, by rw [D.bool.injEq, Bool.eq_iff_iff]; simp, rfl⟩
end Go.AL
namespace Go.AL
open Go.Proofs
set_option linter.unusedSimpArgs false
set_option linter.unusedVariables false
set_option maxRecDepth 100000

/-- A class and those above it, as long as the numbers fall. -/
def upL (l : List Cl) (c : Nat) : List Nat :=
  match l[c]? with
  | some x => c :: (if h : 0 ≤ x.parent ∧ x.parent < c then upL l x.parent.toNat else [])
  | none => []
termination_by c
decreasing_by omega
def upI (l : List Cl) (c : Int) : List Nat := if 0 ≤ c then upL l c.toNat else []

theorem upI_step {l : List Cl} {c : Nat} (h : c < l.length) : upI l c = c :: (if l[c].parent < c then upI l l[c].parent else []) := by
  rw [upI, if_pos (by omega), upL]
  simp only [Int.toNat_natCast, List.getElem?_eq_getElem h]
  unfold upI
  by_cases h1 : 0 ≤ l[c].parent <;> by_cases h2 : l[c].parent < (c : Int) <;> simp [h1, h2]
theorem upI_neg {l : List Cl} {c : Int} (h : c < 0) : upI l c = [] := by rw [upI, if_neg (by omega)]
theorem upI_out {l : List Cl} {c : Int} (h : (l.length : Int) ≤ c) : upI l c = [] := by
  rw [upI, if_pos (by omega), upL, List.getElem?_eq_none (by omega)]

/-- A run over a list, until a step says no. -/
def Runs {α : Type} (Step : α → Nat → Bool → α → Prop) : List Nat → α → α → Prop
  | [], a, a' => a' = a
  | c :: cs, a, a'' => ∃ b a', Step a c b a' ∧ if b = true then Runs Step cs a' a'' else a'' = a'

theorem climb144 (l : List Cl) (o : Own) (g : FuncId) (fi ca : List D) {α : Type} (I : α → St) (Step : α → Nat → Bool → α → Prop)
    (hl : l.length ≤ 140737488355328)
    (hdo : ∀ a (c : Nat), c < l.length → RCall Try.prog g (fi ++ [.int .i64 c] ++ ca) (I a) fun d s' => ∃ b a', d = .bool b ∧ s' = I a' ∧ Step a c b a') (a₀ : α) (c₀ : Int) :
    RCall Try.prog 144 [.slice o (rws eC l), .int .i64 c₀, .func (.func g) fi ca] (I a₀) fun d s' => d = .tup [] ∧ ∃ a', s' = I a' ∧ Runs Step (upI l c₀) a₀ a' := by
  refine F144.rcall rfl fun T hT => ?_
  simp -implicitDefEqProofs only [go_sem, Nat.reduceEqDiff, Nat.reduceLT, Nat.reduceLeDiff, Nat.reduceAdd, Nat.reduceSub, Nat.reduceMul, Nat.reduceBEq, ↓reduceIte, reduceCtorEq, Int.reduceEq, Int.reduceLT, Int.reduceLE, Int.reduceNeg, Int.reduceAdd, Int.reduceSub, Int.reduceToNat, rws_len, vc_cond, c144, hT]
  refine loopL F144 (fun x : α × Int => [(0, .slice o (rws eC l)), (1, .int .i64 x.2), (2, .func (.func g) fi ca)]) (fun x => I x.1) (fun x => ∀ a'', Runs Step (upI l x.2) x.1 a'' → Runs Step (upI l c₀) a₀ a'') (fun x => (x.2 + 1).toNat) (a₀, c₀)
    (fun _ h => h) ?_ (St.le.refl _) ?_
  · simp -implicitDefEqProofs only [go_sem, Nat.reduceEqDiff, Nat.reduceLT, Nat.reduceLeDiff, Nat.reduceAdd, Nat.reduceSub, Nat.reduceMul, Nat.reduceBEq, ↓reduceIte, reduceCtorEq, Int.reduceEq, Int.reduceLT, Int.reduceLE, Int.reduceNeg, Int.reduceAdd, Int.reduceSub, Int.reduceToNat, rws_len, vc_cond, hT]
  rintro ⟨a, c⟩ hok T hT
  simp only at hok hT ⊢
  by_cases h0 : 0 ≤ c
  · by_cases h1 : c < (l.length : Int)
    · obtain ⟨n, rfl⟩ : ∃ n : Nat, c = n := ⟨c.toNat, by omega⟩
      have hn : n < l.length := by omega
      simp -implicitDefEqProofs only [go_sem, Nat.reduceEqDiff, Nat.reduceLT, Nat.reduceLeDiff, Nat.reduceAdd, Nat.reduceSub, Nat.reduceMul, Nat.reduceBEq, ↓reduceIte, reduceCtorEq, Int.reduceEq, Int.reduceLT, Int.reduceLE, Int.reduceNeg, Int.reduceAdd, Int.reduceSub, Int.reduceToNat, rws_len, vc_cond, hT, h0, h1]
      refine callB_all (hdo a n hn) ?_
      rintro d s' ⟨b, a', rfl, rfl, hs⟩
      rw [upI_step hn] at hok
      cases b
      · simp -implicitDefEqProofs only [go_sem, Nat.reduceEqDiff, Nat.reduceLT, Nat.reduceLeDiff, Nat.reduceAdd, Nat.reduceSub, Nat.reduceMul, Nat.reduceBEq, ↓reduceIte, reduceCtorEq, Int.reduceEq, Int.reduceLT, Int.reduceLE, Int.reduceNeg, Int.reduceAdd, Int.reduceSub, Int.reduceToNat, rws_len, vc_cond, hT]
        exact ⟨_, _, DLe.refl _, St.le.refl _, rfl, a', rfl, hok a' ⟨false, a', hs, rfl⟩⟩
      · simp -implicitDefEqProofs only [go_sem, Nat.reduceEqDiff, Nat.reduceLT, Nat.reduceLeDiff, Nat.reduceAdd, Nat.reduceSub, Nat.reduceMul, Nat.reduceBEq, ↓reduceIte, reduceCtorEq, Int.reduceEq, Int.reduceLT, Int.reduceLE, Int.reduceNeg, Int.reduceAdd, Int.reduceSub, Int.reduceToNat, rws_len, vc_cond, hT, rws_at hn, eC_len, eC]
        refine ⟨⟨by omega, by omega⟩, ?_⟩
        refine br_split (fun h => ?_) fun h => ?_
        · have : ¬ l[n].parent < (n : Int) := by simpa using h
          rw [if_neg this] at hok
          exact ⟨_, _, DLe.refl _, St.le.refl _, rfl, a', rfl, hok a' ⟨true, a', hs, by simp [Runs]⟩⟩
        · have : l[n].parent < (n : Int) := by simpa using h
          rw [if_pos this] at hok
          refine ⟨(a', l[n].parent), fun a'' hr => hok a'' ⟨true, a', hs, by simpa using hr⟩, by simp only; omega, rfl, St.le.refl _⟩
    · simp -implicitDefEqProofs only [go_sem, Nat.reduceEqDiff, Nat.reduceLT, Nat.reduceLeDiff, Nat.reduceAdd, Nat.reduceSub, Nat.reduceMul, Nat.reduceBEq, ↓reduceIte, reduceCtorEq, Int.reduceEq, Int.reduceLT, Int.reduceLE, Int.reduceNeg, Int.reduceAdd, Int.reduceSub, Int.reduceToNat, rws_len, vc_cond, hT, h0, h1]
      refine ⟨_, _, DLe.refl _, St.le.refl _, rfl, a, rfl, hok a ?_⟩
      rw [upI_out (by omega)]; rfl
  · simp -implicitDefEqProofs only [go_sem, Nat.reduceEqDiff, Nat.reduceLT, Nat.reduceLeDiff, Nat.reduceAdd, Nat.reduceSub, Nat.reduceMul, Nat.reduceBEq, ↓reduceIte, reduceCtorEq, Int.reduceEq, Int.reduceLT, Int.reduceLE, Int.reduceNeg, Int.reduceAdd, Int.reduceSub, Int.reduceToNat, rws_len, vc_cond, hT, h0]
    refine ⟨_, _, DLe.refl _, St.le.refl _, rfl, a, rfl, hok a ?_⟩
    rw [upI_neg (by omega)]; rfl
end Go.AL
