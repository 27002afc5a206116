import Derived.Test.YtanhkkillmbkhaaPa
import Derived.Test.YtanhkkillmbkhaaLe
namespace Go.AL
open Go.Proofs
set_option linter.unusedSimpArgs false
set_option linter.unusedVariables false
set_option maxRecDepth 100000

/-- A byte of a text, as a number. -/
def byteI (s : ByteArray) (i : Nat) : Int := ((s.data.toList[i]?.getD 0).toNat : Int)
theorem byteI_eq (s : ByteArray) (i : Nat) : (((s.data.toList[i]?.getD 0).toNat : Nat) : Int) = byteI s i := rfl
def letterI (c : Int) : Bool := decide (97 ≤ c ∧ c ≤ 122 ∨ 65 ≤ c ∧ c ≤ 90)
def nameByte (s : ByteArray) (i : Nat) : Bool := letterI (byteI s i) || decide (0 < i ∧ (48 ≤ byteI s i ∧ byteI s i ≤ 57 ∨ byteI s i = 95))
def isNameB (s : ByteArray) : Bool := decide (0 < s.size ∧ s.size ≤ 24 ∧ ∀ i < s.size, nameByte s i = true)

theorem isName99 (s : ByteArray) : PCall Try.prog 99 [.str s] (.bool (isNameB s)) := by
  refine F99.pcall' rfl fun T hT => ?_
  by_cases h0 : (s.size : Int) = 0
  · simp -implicitDefEqProofs only [go_sem, Nat.reduceEqDiff, Nat.reduceLT, Nat.reduceLeDiff, Nat.reduceAdd, Nat.reduceSub, Nat.reduceMul, Nat.reduceBEq, ↓reduceIte, reduceCtorEq, Int.reduceEq, Int.reduceLT, Int.reduceLE, Int.reduceNeg, Int.reduceAdd, Int.reduceSub, Int.reduceToNat, rws_len, vc_cond, c99, hT, h0]
    exact DLe_bool (by rw [Bool.eq_iff_iff]; simp [isNameB]; omega)
  by_cases h1 : (24 : Int) < s.size
  · simp -implicitDefEqProofs only [go_sem, Nat.reduceEqDiff, Nat.reduceLT, Nat.reduceLeDiff, Nat.reduceAdd, Nat.reduceSub, Nat.reduceMul, Nat.reduceBEq, ↓reduceIte, reduceCtorEq, Int.reduceEq, Int.reduceLT, Int.reduceLE, Int.reduceNeg, Int.reduceAdd, Int.reduceSub, Int.reduceToNat, rws_len, vc_cond, c99, hT, h0, h1]
    exact DLe_bool (by rw [Bool.eq_iff_iff]; simp [isNameB]; omega)
  simp -implicitDefEqProofs only [go_sem, Nat.reduceEqDiff, Nat.reduceLT, Nat.reduceLeDiff, Nat.reduceAdd, Nat.reduceSub, Nat.reduceMul, Nat.reduceBEq, ↓reduceIte, reduceCtorEq, Int.reduceEq, Int.reduceLT, Int.reduceLE, Int.reduceNeg, Int.reduceAdd, Int.reduceSub, Int.reduceToNat, rws_len, vc_cond, c99, hT, h0, h1]
  refine loopL F99 (fun i : Nat => [(0, .str s), (14, .int .i64 s.size), (15, .int .i64 i)]) (fun _ => {}) (fun i => i ≤ s.size ∧ ∀ j < i, nameByte s j = true) (fun i => s.size - i) 0
    ⟨Nat.zero_le _, by simp⟩ ?_ (St.le.refl _) ?_
  · simp -implicitDefEqProofs only [go_sem, Nat.reduceEqDiff, Nat.reduceLT, Nat.reduceLeDiff, Nat.reduceAdd, Nat.reduceSub, Nat.reduceMul, Nat.reduceBEq, ↓reduceIte, reduceCtorEq, Int.reduceEq, Int.reduceLT, Int.reduceLE, Int.reduceNeg, Int.reduceAdd, Int.reduceSub, Int.reduceToNat, rws_len, vc_cond, hT, Int.ofNat_zero]
  rintro i ⟨hi, hok⟩ T hT
  by_cases h : i < s.size
  · have h2 : ((i : Int) < s.size) = True := by simp; omega
    have good : nameByte s i = true → ∃ y : Nat, (y ≤ s.size ∧ ∀ j < y, nameByte s j = true) ∧ s.size - y < s.size - i ∧ D.int .i64 (IntKind.wrap .i64 ((i : Int) + 1)) = D.int .i64 (y : Int) ∧ ({} : St).le {} := fun g =>
      ⟨i + 1, ⟨by omega, fun j hj => by
        rcases Nat.lt_or_eq_of_le (Nat.le_of_lt_succ hj) with hj | rfl
        · exact hok j hj
        · exact g⟩, by omega, by rw [wrap_i64 (by omega) (by omega)]; simp, St.le.refl _⟩
    have bad : nameByte s i = false → DLe (.bool false) (.bool (isNameB s)) := fun g => DLe_bool (by
      cases hh : isNameB s with
      | false => rfl
      | true => rw [(of_decide_eq_true hh).2.2 i h] at g; cases g)
    simp -implicitDefEqProofs only [go_sem, Nat.reduceEqDiff, Nat.reduceLT, Nat.reduceLeDiff, Nat.reduceAdd, Nat.reduceSub, Nat.reduceMul, Nat.reduceBEq, ↓reduceIte, reduceCtorEq, Int.reduceEq, Int.reduceLT, Int.reduceLE, Int.reduceNeg, Int.reduceAdd, Int.reduceSub, Int.reduceToNat, rws_len, vc_condQ, w_guardO, ite_and, ite_or, ite_nor, ite_nand, ite_aor, ite_aand, ite_same, gm_move, gm_assign, gm_pick, gm_bin_t, gm_bin_i, gm_bin_b, gm_bin_s, gm_un, gm_conv, gm_iface, gm_func, gm_extract, gm_field, gm_faddr, gm_iaddr, gm_idx, gm_nilc, gm_len, gm_slice, gm_load, hT, h2, byteI_eq]
    refine ⟨by omega, br_split (fun h => good ?_) fun h => bad ?_⟩
    · simp at h; simp [nameByte, letterI]; omega
    · rw [← Bool.not_eq_true] at h ⊢; simp at h; simp [nameByte, letterI]; omega
  · have h2 : ((i : Int) < s.size) = False := by simp; omega
    simp -implicitDefEqProofs only [go_sem, Nat.reduceEqDiff, Nat.reduceLT, Nat.reduceLeDiff, Nat.reduceAdd, Nat.reduceSub, Nat.reduceMul, Nat.reduceBEq, ↓reduceIte, reduceCtorEq, Int.reduceEq, Int.reduceLT, Int.reduceLE, Int.reduceNeg, Int.reduceAdd, Int.reduceSub, Int.reduceToNat, rws_len, vc_cond, hT, h2]
    refine DLe_bool ?_
    symm
    exact decide_eq_true ⟨by omega, by omega, fun j hj => hok j (by omega)⟩
end Go.AL
namespace Go.AL
open Go.Proofs
set_option linter.unusedSimpArgs false
set_option linter.unusedVariables false
set_option maxRecDepth 100000

theorem isName148 (s : ByteArray) : PCall Try.prog 148 [.str s] (.bool (isNameB s)) := by
  refine F148.pcall' rfl fun T hT => ?_
  by_cases h0 : ((s.size : Int) < 1)
  · simp -implicitDefEqProofs only [go_sem, Nat.reduceEqDiff, Nat.reduceLT, Nat.reduceLeDiff, Nat.reduceAdd, Nat.reduceSub, Nat.reduceMul, Nat.reduceBEq, ↓reduceIte, reduceCtorEq, Int.reduceEq, Int.reduceLT, Int.reduceLE, Int.reduceNeg, Int.reduceAdd, Int.reduceSub, Int.reduceToNat, rws_len, vc_condQ, w_guardO, ite_and, ite_or, ite_nor, ite_nand, ite_aor, ite_aand, ite_same, gm_move, gm_assign, gm_pick, gm_bin_t, gm_bin_i, gm_bin_b, gm_bin_s, gm_un, gm_conv, gm_iface, gm_func, gm_extract, gm_field, gm_faddr, gm_iaddr, gm_idx, gm_nilc, gm_len, gm_slice, gm_load, c148, hT, h0]
    exact DLe_bool (by rw [Bool.eq_iff_iff]; simp [isNameB]; omega)
  by_cases h1 : (24 : Int) < s.size
  · simp -implicitDefEqProofs only [go_sem, Nat.reduceEqDiff, Nat.reduceLT, Nat.reduceLeDiff, Nat.reduceAdd, Nat.reduceSub, Nat.reduceMul, Nat.reduceBEq, ↓reduceIte, reduceCtorEq, Int.reduceEq, Int.reduceLT, Int.reduceLE, Int.reduceNeg, Int.reduceAdd, Int.reduceSub, Int.reduceToNat, rws_len, vc_condQ, w_guardO, ite_and, ite_or, ite_nor, ite_nand, ite_aor, ite_aand, ite_same, gm_move, gm_assign, gm_pick, gm_bin_t, gm_bin_i, gm_bin_b, gm_bin_s, gm_un, gm_conv, gm_iface, gm_func, gm_extract, gm_field, gm_faddr, gm_iaddr, gm_idx, gm_nilc, gm_len, gm_slice, gm_load, c148, hT, h0, h1]
    exact DLe_bool (by rw [Bool.eq_iff_iff]; simp [isNameB]; omega)
  simp -implicitDefEqProofs only [go_sem, Nat.reduceEqDiff, Nat.reduceLT, Nat.reduceLeDiff, Nat.reduceAdd, Nat.reduceSub, Nat.reduceMul, Nat.reduceBEq, ↓reduceIte, reduceCtorEq, Int.reduceEq, Int.reduceLT, Int.reduceLE, Int.reduceNeg, Int.reduceAdd, Int.reduceSub, Int.reduceToNat, rws_len, vc_condQ, w_guardO, ite_and, ite_or, ite_nor, ite_nand, ite_aor, ite_aand, ite_same, gm_move, gm_assign, gm_pick, gm_bin_t, gm_bin_i, gm_bin_b, gm_bin_s, gm_un, gm_conv, gm_iface, gm_func, gm_extract, gm_field, gm_faddr, gm_iaddr, gm_idx, gm_nilc, gm_len, gm_slice, gm_load, c148, hT, h0, h1]
  refine loopL F148 (fun i : Nat => [(0, .str s), (3, .int .i64 i)]) (fun _ => {}) (fun i => i ≤ s.size ∧ ∀ j < i, nameByte s j = true) (fun i => s.size - i) 0
    ⟨Nat.zero_le _, by simp⟩ ?_ (St.le.refl _) ?_
  · simp -implicitDefEqProofs only [go_sem, Nat.reduceEqDiff, Nat.reduceLT, Nat.reduceLeDiff, Nat.reduceAdd, Nat.reduceSub, Nat.reduceMul, Nat.reduceBEq, ↓reduceIte, reduceCtorEq, Int.reduceEq, Int.reduceLT, Int.reduceLE, Int.reduceNeg, Int.reduceAdd, Int.reduceSub, Int.reduceToNat, rws_len, vc_cond, hT, Int.ofNat_zero]
  rintro i ⟨hi, hok⟩ T hT
  by_cases h : i < s.size
  · have h2 : ((i : Int) < s.size) = True := by simp; omega
    have good : nameByte s i = true → ∃ y : Nat, (y ≤ s.size ∧ ∀ j < y, nameByte s j = true) ∧ s.size - y < s.size - i ∧ D.int .i64 (IntKind.wrap .i64 ((i : Int) + 1)) = D.int .i64 (y : Int) ∧ ({} : St).le {} := fun g =>
      ⟨i + 1, ⟨by omega, fun j hj => by
        rcases Nat.lt_or_eq_of_le (Nat.le_of_lt_succ hj) with hj | rfl
        · exact hok j hj
        · exact g⟩, by omega, by rw [wrap_i64 (by omega) (by omega)]; simp, St.le.refl _⟩
    have bad : nameByte s i = false → DLe (.bool false) (.bool (isNameB s)) := fun g => DLe_bool (by
      cases hh : isNameB s with
      | false => rfl
      | true => rw [(of_decide_eq_true hh).2.2 i h] at g; cases g)
    simp -implicitDefEqProofs only [go_sem, Nat.reduceEqDiff, Nat.reduceLT, Nat.reduceLeDiff, Nat.reduceAdd, Nat.reduceSub, Nat.reduceMul, Nat.reduceBEq, ↓reduceIte, reduceCtorEq, Int.reduceEq, Int.reduceLT, Int.reduceLE, Int.reduceNeg, Int.reduceAdd, Int.reduceSub, Int.reduceToNat, rws_len, vc_condQ, w_guardO, ite_and, ite_or, ite_nor, ite_nand, ite_aor, ite_aand, ite_same, gm_move, gm_assign, gm_pick, gm_bin_t, gm_bin_i, gm_bin_b, gm_bin_s, gm_un, gm_conv, gm_iface, gm_func, gm_extract, gm_field, gm_faddr, gm_iaddr, gm_idx, gm_nilc, gm_len, gm_slice, gm_load, hT, h2, byteI_eq]
    refine ⟨by omega, br_split (fun h => bad ?_) fun h => good ?_⟩
    · rw [← Bool.not_eq_true]; simp at h; simp [nameByte, letterI]; omega
    · rw [← Bool.not_eq_true] at h; simp at h; simp [nameByte, letterI]; omega
  · have h2 : ((i : Int) < s.size) = False := by simp; omega
    simp -implicitDefEqProofs only [go_sem, Nat.reduceEqDiff, Nat.reduceLT, Nat.reduceLeDiff, Nat.reduceAdd, Nat.reduceSub, Nat.reduceMul, Nat.reduceBEq, ↓reduceIte, reduceCtorEq, Int.reduceEq, Int.reduceLT, Int.reduceLE, Int.reduceNeg, Int.reduceAdd, Int.reduceSub, Int.reduceToNat, rws_len, vc_condQ, w_guardO, ite_and, ite_or, ite_nor, ite_nand, ite_aor, ite_aand, ite_same, gm_move, gm_assign, gm_pick, gm_bin_t, gm_bin_i, gm_bin_b, gm_bin_s, gm_un, gm_conv, gm_iface, gm_func, gm_extract, gm_field, gm_faddr, gm_iaddr, gm_idx, gm_nilc, gm_len, gm_slice, gm_load, hT, h2]
    refine DLe_bool ?_
    symm
    exact decide_eq_true ⟨by omega, by omega, fun j hj => hok j (by omega)⟩

def wordsL : List ByteArray := [⟨#[116, 111, 112]⟩, ⟨#[105, 110, 116]⟩, ⟨#[98, 111, 111, 108]⟩, ⟨#[110, 117, 108, 108]⟩, ⟨#[105, 110, 116, 115]⟩, ⟨#[97, 110, 121]⟩]
def wordOf (t : Nat) : ByteArray := (wordsL[t]?).getD ⟨#[]⟩
def hasN (l : List ByteArray) (x : ByteArray) : Bool := l.any fun y => decide (y = x)
theorem hasN_mem {l : List ByteArray} {x : ByteArray} : (hasN l x = true) = (x ∈ l) := by simp [hasN]
theorem hasN_congr {a b : List ByteArray} (h : ∀ x, x ∈ a ↔ x ∈ b) (x : ByteArray) : hasN a x = hasN b x := by
  rw [Bool.eq_iff_iff, hasN_mem, hasN_mem]; exact h x
def isWordB (s : ByteArray) : Bool := hasN wordsL s
def eY (s : ByteArray) : List D := [.str s]
theorem eY_len (s : ByteArray) : (eY s).length = 1 := rfl

theorem word183 (t : Ty) : PCall Try.prog 183 [.int .u8 t.val] (.str (wordOf t.val)) := by
  refine F183.pcall' rfl fun T hT => ?_
  have six : t.val = 0 ∨ t.val = 1 ∨ t.val = 2 ∨ t.val = 3 ∨ t.val = 4 ∨ t.val = 5 ∨ 6 ≤ t.val := by omega
  rcases six with h | h | h | h | h | h | h
  case inr.inr.inr.inr.inr.inr =>
    have h0 : ((t.val : Int) = 0) = False := by simp; omega
    have h1 : ((t.val : Int) = 1) = False := by simp; omega
    have h2 : ((t.val : Int) = 2) = False := by simp; omega
    have h3 : ((t.val : Int) = 3) = False := by simp; omega
    have h4 : ((t.val : Int) = 4) = False := by simp; omega
    have h5 : ((t.val : Int) = 5) = False := by simp; omega
    simp -implicitDefEqProofs only [go_sem, Nat.reduceEqDiff, Nat.reduceLT, Nat.reduceLeDiff, Nat.reduceAdd, Nat.reduceSub, Nat.reduceMul, Nat.reduceBEq, ↓reduceIte, reduceCtorEq, Int.reduceEq, Int.reduceLT, Int.reduceLE, Int.reduceNeg, Int.reduceAdd, Int.reduceSub, Int.reduceToNat, rws_len, vc_cond, c183, hT, h0, h1, h2, h3, h4, h5]
    exact DLe.of_eq (by rw [wordOf, List.getElem?_eq_none (by simp [wordsL]; omega)]; rfl)
  all_goals
    rw [h]
    have h' := congrArg (Nat.cast (R := Int)) h
    simp only [Int.ofNat_zero, Int.ofNat_one, Int.cast_ofNat_Int] at h'
    simp -implicitDefEqProofs only [go_sem, Nat.reduceEqDiff, Nat.reduceLT, Nat.reduceLeDiff, Nat.reduceAdd, Nat.reduceSub, Nat.reduceMul, Nat.reduceBEq, ↓reduceIte, reduceCtorEq, Int.reduceEq, Int.reduceLT, Int.reduceLE, Int.reduceNeg, Int.reduceAdd, Int.reduceSub, Int.reduceToNat, rws_len, vc_cond, c183, hT, h']
    exact DLe.of_eq rfl

theorem isWord149 (s : ByteArray) : PCall Try.prog 149 [.str s] (.bool (isWordB s)) := by
  refine F149.pcall' rfl fun T hT => ?_
  simp -implicitDefEqProofs only [go_sem, Nat.reduceEqDiff, Nat.reduceLT, Nat.reduceLeDiff, Nat.reduceAdd, Nat.reduceSub, Nat.reduceMul, Nat.reduceBEq, ↓reduceIte, reduceCtorEq, Int.reduceEq, Int.reduceLT, Int.reduceLE, Int.reduceNeg, Int.reduceAdd, Int.reduceSub, Int.reduceToNat, rws_len, vc_cond, c149, hT]
  refine loopL F149 (fun i : Nat => [(0, .str s), (3, .int .u8 i)]) (fun _ => {}) (fun i => i ≤ 6 ∧ ∀ j < i, wordOf j ≠ s) (fun i => 6 - i) 0
    ⟨Nat.zero_le _, by simp⟩ ?_ (St.le.refl _) ?_
  · simp -implicitDefEqProofs only [go_sem, Nat.reduceEqDiff, Nat.reduceLT, Nat.reduceLeDiff, Nat.reduceAdd, Nat.reduceSub, Nat.reduceMul, Nat.reduceBEq, ↓reduceIte, reduceCtorEq, Int.reduceEq, Int.reduceLT, Int.reduceLE, Int.reduceNeg, Int.reduceAdd, Int.reduceSub, Int.reduceToNat, rws_len, vc_cond, hT, Int.ofNat_zero]
  rintro i ⟨hi, hok⟩ T hT
  have iff : (isWordB s = true) ↔ ∃ j < 6, wordOf j = s := by
    simp only [isWordB, hasN_mem]
    constructor
    · intro h
      obtain ⟨j, hj, he⟩ := List.getElem_of_mem h
      exact ⟨j, hj, by rw [wordOf, List.getElem?_eq_getElem hj]; exact he⟩
    · rintro ⟨j, hj, rfl⟩
      rw [wordOf, List.getElem?_eq_getElem (show j < wordsL.length from hj)]
      exact List.getElem_mem _
  by_cases h : i < 6
  · have h2 : ((i : Int) ≤ 5) = True := by simp; omega
    simp -implicitDefEqProofs only [go_sem, Nat.reduceEqDiff, Nat.reduceLT, Nat.reduceLeDiff, Nat.reduceAdd, Nat.reduceSub, Nat.reduceMul, Nat.reduceBEq, ↓reduceIte, reduceCtorEq, Int.reduceEq, Int.reduceLT, Int.reduceLE, Int.reduceNeg, Int.reduceAdd, Int.reduceSub, Int.reduceToNat, rws_len, vc_cond, hT, h2]
    refine callB_pure (word183 ⟨i, by omega⟩) ?_
    simp -implicitDefEqProofs only [go_sem, Nat.reduceEqDiff, Nat.reduceLT, Nat.reduceLeDiff, Nat.reduceAdd, Nat.reduceSub, Nat.reduceMul, Nat.reduceBEq, ↓reduceIte, reduceCtorEq, Int.reduceEq, Int.reduceLT, Int.reduceLE, Int.reduceNeg, Int.reduceAdd, Int.reduceSub, Int.reduceToNat, rws_len, vc_cond, hT, h2]
    refine br_split (fun h' => DLe_bool ?_) fun h' => ?_
    · symm; rw [iff]; exact ⟨i, h, of_decide_eq_true h'⟩
    · refine ⟨i + 1, ⟨by omega, fun j hj => ?_⟩, by omega, ?_, St.le.refl _⟩
      · rcases Nat.lt_or_eq_of_le (Nat.le_of_lt_succ hj) with hj | rfl
        · exact hok j hj
        · simpa using h'
      · rw [wrap_u8 (by omega) (by omega)]; simp
  · have h2 : ((i : Int) ≤ 5) = False := by simp; omega
    simp -implicitDefEqProofs only [go_sem, Nat.reduceEqDiff, Nat.reduceLT, Nat.reduceLeDiff, Nat.reduceAdd, Nat.reduceSub, Nat.reduceMul, Nat.reduceBEq, ↓reduceIte, reduceCtorEq, Int.reduceEq, Int.reduceLT, Int.reduceLE, Int.reduceNeg, Int.reduceAdd, Int.reduceSub, Int.reduceToNat, rws_len, vc_cond, hT, h2]
    refine DLe_bool ?_
    symm; rw [← Bool.not_eq_true, iff]
    rintro ⟨j, hj, he⟩
    exact hok j (by omega) he

theorem words101 : PCall Try.prog 101 [] (.slice .no (rws eY wordsL)) := by
  refine F101.pcall' rfl fun T hT => ?_
  simp -implicitDefEqProofs only [go_sem, Nat.reduceEqDiff, Nat.reduceLT, Nat.reduceLeDiff, Nat.reduceAdd, Nat.reduceSub, Nat.reduceMul, Nat.reduceBEq, ↓reduceIte, reduceCtorEq, Int.reduceEq, Int.reduceLT, Int.reduceLE, Int.reduceNeg, Int.reduceAdd, Int.reduceSub, Int.reduceToNat, rws_len, vc_cond, c101, hT, frz]
  exact DLe.slice _ _

theorem index142 (xs : List ByteArray) (o : Own) (s : ByteArray) (hl : xs.length ≤ 140737488355328) : PCall Try.prog 142 [.slice o (rws eY xs), .str s] (.int .i64 (idxOf (fun y => decide (y = s)) xs)) := by
  refine F142.pcall' rfl fun T hT => ?_
  simp -implicitDefEqProofs only [go_sem, Nat.reduceEqDiff, Nat.reduceLT, Nat.reduceLeDiff, Nat.reduceAdd, Nat.reduceSub, Nat.reduceMul, Nat.reduceBEq, ↓reduceIte, reduceCtorEq, Int.reduceEq, Int.reduceLT, Int.reduceLE, Int.reduceNeg, Int.reduceAdd, Int.reduceSub, Int.reduceToNat, rws_len, vc_cond, c142, hT]
  refine loopL F142 (fun i : Nat => [(0, .slice o (rws eY xs)), (1, .str s), (7, .int .i64 xs.length), (8, .int .i64 i)]) (fun _ => {}) (fun i => i ≤ xs.length ∧ idxFrom (fun y => decide (y = s)) xs 0 = idxFrom (fun y => decide (y = s)) (xs.drop i) i) (fun i => xs.length - i) 0
    ⟨Nat.zero_le _, rfl⟩ ?_ (St.le.refl _) ?_
  · simp -implicitDefEqProofs only [go_sem, Nat.reduceEqDiff, Nat.reduceLT, Nat.reduceLeDiff, Nat.reduceAdd, Nat.reduceSub, Nat.reduceMul, Nat.reduceBEq, ↓reduceIte, reduceCtorEq, Int.reduceEq, Int.reduceLT, Int.reduceLE, Int.reduceNeg, Int.reduceAdd, Int.reduceSub, Int.reduceToNat, rws_len, vc_cond, hT, Int.ofNat_zero]
  rintro i ⟨hi, heq⟩ T hT
  simp -implicitDefEqProofs only [go_sem, Nat.reduceEqDiff, Nat.reduceLT, Nat.reduceLeDiff, Nat.reduceAdd, Nat.reduceSub, Nat.reduceMul, Nat.reduceBEq, ↓reduceIte, reduceCtorEq, Int.reduceEq, Int.reduceLT, Int.reduceLE, Int.reduceNeg, Int.reduceAdd, Int.reduceSub, Int.reduceToNat, rws_len, vc_cond, hT]
  refine br_split (fun h => ?_) fun h => ?_
  · have h : i < xs.length := by simpa using h
    simp -implicitDefEqProofs only [go_sem, Nat.reduceEqDiff, Nat.reduceLT, Nat.reduceLeDiff, Nat.reduceAdd, Nat.reduceSub, Nat.reduceMul, Nat.reduceBEq, ↓reduceIte, reduceCtorEq, Int.reduceEq, Int.reduceLT, Int.reduceLE, Int.reduceNeg, Int.reduceAdd, Int.reduceSub, Int.reduceToNat, rws_len, vc_cond, hT, rws_at h, eY_len, eY]
    refine ⟨⟨by omega, by omega⟩, ?_⟩
    rw [idxFrom_drop h] at heq
    refine br_split (fun h' => ?_) fun h' => ?_
    · have h' : xs[i] = s := (of_decide_eq_true h').symm
      exact DLe.of_eq (by simp [idxOf, heq, h'])
    · have h' : ¬ xs[i] = s := fun e => by simp [e] at h'
      refine ⟨i + 1, ⟨by omega, by simpa [h'] using heq⟩, by omega, ?_, St.le.refl _⟩
      rw [wrap_i64 (by omega) (by omega)]
      simp
  · have h : ¬ i < xs.length := by simpa using h
    refine DLe.of_eq ?_
    rw [idxOf, heq, List.drop_of_length_le (by omega)]
    rfl

theorem contains100 (xs : List ByteArray) (o : Own) (s : ByteArray) (hl : xs.length ≤ 140737488355328) : PCall Try.prog 100 [.slice o (rws eY xs), .str s] (.bool (hasN xs s)) := by
  refine F100.pcall' rfl fun T hT => ?_
  simp -implicitDefEqProofs only [go_sem, Nat.reduceEqDiff, Nat.reduceLT, Nat.reduceLeDiff, Nat.reduceAdd, Nat.reduceSub, Nat.reduceMul, Nat.reduceBEq, ↓reduceIte, reduceCtorEq, Int.reduceEq, Int.reduceLT, Int.reduceLE, Int.reduceNeg, Int.reduceAdd, Int.reduceSub, Int.reduceToNat, rws_len, vc_cond, c100, hT]
  refine callB_pure (index142 xs o s hl) ?_
  simp -implicitDefEqProofs only [go_sem, Nat.reduceEqDiff, Nat.reduceLT, Nat.reduceLeDiff, Nat.reduceAdd, Nat.reduceSub, Nat.reduceMul, Nat.reduceBEq, ↓reduceIte, reduceCtorEq, Int.reduceEq, Int.reduceLT, Int.reduceLE, Int.reduceNeg, Int.reduceAdd, Int.reduceSub, Int.reduceToNat, rws_len, vc_cond, hT]
  exact DLe_bool (by rw [Bool.eq_iff_iff, decide_eq_true_iff, idxOf, idxFrom_ge]; rfl)

theorem has150 (l : List Fd) (o : Own) (s : ByteArray) (hl : l.length ≤ 140737488355328) : PCall Try.prog 150 [.slice o (rws eF l), .str s] (.bool (hasN (l.map Fd.name) s)) := by
  refine F150.pcall' rfl fun T hT => ?_
  simp -implicitDefEqProofs only [go_sem, Nat.reduceEqDiff, Nat.reduceLT, Nat.reduceLeDiff, Nat.reduceAdd, Nat.reduceSub, Nat.reduceMul, Nat.reduceBEq, ↓reduceIte, reduceCtorEq, Int.reduceEq, Int.reduceLT, Int.reduceLE, Int.reduceNeg, Int.reduceAdd, Int.reduceSub, Int.reduceToNat, rws_len, vc_cond, c150, hT]
  refine loopL F150 (fun i : Nat => [(0, .slice o (rws eF l)), (1, .str s), (5, .int .i64 i)]) (fun _ => {}) (fun i => i ≤ l.length ∧ hasN (l.map Fd.name) s = hasN ((l.drop i).map Fd.name) s) (fun i => l.length - i) 0
    ⟨Nat.zero_le _, rfl⟩ ?_ (St.le.refl _) ?_
  · simp -implicitDefEqProofs only [go_sem, Nat.reduceEqDiff, Nat.reduceLT, Nat.reduceLeDiff, Nat.reduceAdd, Nat.reduceSub, Nat.reduceMul, Nat.reduceBEq, ↓reduceIte, reduceCtorEq, Int.reduceEq, Int.reduceLT, Int.reduceLE, Int.reduceNeg, Int.reduceAdd, Int.reduceSub, Int.reduceToNat, rws_len, vc_cond, hT, Int.ofNat_zero]
  rintro i ⟨hi, heq⟩ T hT
  simp -implicitDefEqProofs only [go_sem, Nat.reduceEqDiff, Nat.reduceLT, Nat.reduceLeDiff, Nat.reduceAdd, Nat.reduceSub, Nat.reduceMul, Nat.reduceBEq, ↓reduceIte, reduceCtorEq, Int.reduceEq, Int.reduceLT, Int.reduceLE, Int.reduceNeg, Int.reduceAdd, Int.reduceSub, Int.reduceToNat, rws_len, vc_cond, hT]
  refine br_split (fun h => ?_) fun h => ?_
  · have h : i < l.length := by simpa using h
    simp -implicitDefEqProofs only [go_sem, Nat.reduceEqDiff, Nat.reduceLT, Nat.reduceLeDiff, Nat.reduceAdd, Nat.reduceSub, Nat.reduceMul, Nat.reduceBEq, ↓reduceIte, reduceCtorEq, Int.reduceEq, Int.reduceLT, Int.reduceLE, Int.reduceNeg, Int.reduceAdd, Int.reduceSub, Int.reduceToNat, rws_len, vc_cond, hT, rws_at h, eF_len, eF]
    refine ⟨⟨by omega, by omega⟩, ?_⟩
    rw [List.drop_eq_getElem_cons h] at heq
    refine br_split (fun h' => ?_) fun h' => ?_
    · have h' : l[i].name = s := of_decide_eq_true h'
      exact DLe_bool (by rw [heq]; simp only [hasN, List.map_cons, List.any_cons, h', decide_true, Bool.true_or])
    · have h' : ¬ l[i].name = s := by simpa using h'
      refine ⟨i + 1, ⟨by omega, by rw [heq]; simp only [hasN, List.map_cons, List.any_cons, h', decide_false, Bool.false_or]⟩, by omega, ?_, St.le.refl _⟩
      rw [wrap_i64 (by omega) (by omega)]
      simp
  · have h : ¬ i < l.length := by simpa using h
    refine DLe_bool ?_
    rw [heq, List.drop_of_length_le (by omega)]
    rfl
end Go.AL
namespace Go.AL
open Go.Proofs
set_option linter.unusedSimpArgs false
set_option linter.unusedVariables false
set_option maxRecDepth 100000

/-! ### tables of classes: what is right -/
def lineF (l : List Cl) : Nat → Int → List Nat
  | 0, _ => []
  | k + 1, c => if h : 0 ≤ c ∧ c.toNat < l.length then c.toNat :: lineF l k l[c.toNat].parent else []
def lineR (l : List Cl) (c : Int) : List Nat := lineF l (l.length + 1) c

/-- Up to m, each class stands behind its parent. -/
def Falls (l : List Cl) (m : Nat) : Prop := ∀ i (h : i < l.length), i < m → l[i].parent < i

theorem lineF_up {l : List Cl} {m : Nat} (hf : Falls l m) : ∀ (k : Nat) (c : Int), c < m → c < k → lineF l k c = upI l c
  | 0, c, _, h => by rw [upI_neg (by omega)]; rfl
  | k + 1, c, hm, h => by
    unfold lineF
    split
    · rename_i hc
      obtain ⟨n, rfl⟩ : ∃ n : Nat, c = n := ⟨c.toNat, by omega⟩
      simp only [Int.toNat_natCast] at hc ⊢
      have := hf n hc.2 (by omega)
      rw [upI_step hc.2, if_pos this, lineF_up hf k _ (by omega) (by omega)]
    · rename_i hc
      by_cases h0 : c < 0
      · rw [upI_neg h0]
      · rw [upI_out (by omega)]

theorem lineR_up {l : List Cl} {m : Nat} (hf : Falls l m) (hm : m ≤ l.length + 1) {c : Int} (h : c < m) : lineR l c = upI l c :=
  lineF_up hf _ c h (by omega)

def fieldsAt (l : List Cl) (i : Nat) : List Fd := (l[i]?.map Cl.fields).getD []
def fieldsOn (l : List Cl) (L : List Nat) : List Fd := L.flatMap (fieldsAt l)

theorem fieldsOn_mem {l : List Cl} {L : List Nat} {f : Fd} : f ∈ fieldsOn l L.reverse ↔ f ∈ fieldsOn l L := by
  simp [fieldsOn]
theorem fieldsOn_len {l : List Cl} {L : List Nat} : (fieldsOn l L.reverse).length = (fieldsOn l L).length := by
  simp only [fieldsOn, List.length_flatMap, List.map_reverse, List.sum_reverse]

/-- What is wrong with fields, so many names being ahead, these being met. -/
def fieldsErr (n : Nat) (ahead : List ByteArray) : List ByteArray → List Fd → Nat
  | own, [] => if 32 < ahead.length + own.length then 4 else 0
  | own, f :: r => if isNameB f.name = false then 6 else if hasN ahead f.name || hasN own f.name then 20 else if storedN n f.ty = false then 22 else fieldsErr n ahead (own ++ [f.name]) r

theorem fieldsErr_congr {n : Nat} {a b : List ByteArray} (hm : ∀ x, x ∈ a ↔ x ∈ b) (hl : a.length = b.length) : ∀ (own : List ByteArray) (r : List Fd), fieldsErr n a own r = fieldsErr n b own r
  | own, [] => by simp only [fieldsErr, hl]
  | own, f :: r => by
    simp only [fieldsErr, hasN_congr hm, fieldsErr_congr hm hl]

theorem fieldsErr_len {n : Nat} {a : List ByteArray} : ∀ (own : List ByteArray) (r : List Fd), fieldsErr n a own r = 0 → a.length + own.length + r.length ≤ 32
  | own, [], h => by
    simp only [fieldsErr] at h
    split at h
    · cases h
    · simp; omega
  | own, f :: r, h => by
    simp only [fieldsErr] at h
    repeat' split at h
    all_goals first
      | cases h
      | (have := fieldsErr_len _ _ h; simp at this ⊢; omega)

def namesUp (l : List Cl) (p : Int) : List ByteArray := (fieldsOn l (upI l p)).map Fd.name
def namesRef (l : List Cl) (p : Int) : List ByteArray := (fieldsOn l (lineR l p).reverse).map Fd.name

/-- What is wrong with a class, those ahead being right. -/
def classErr (isWord : ByteArray → Bool) (l : List Cl) (i : Nat) (x : Cl) : Nat :=
  if 32 ≤ i then 4 else if isNameB x.name = false ∨ isWord x.name = true then 6 else if (l.take i).any (fun y => decide (y.name = x.name)) then 20
  else if x.parent < -1 ∨ (i : Int) ≤ x.parent then 21 else fieldsErr l.length (namesUp l x.parent) [] x.fields

def Right (w : ByteArray → Bool) (l : List Cl) (m : Nat) : Prop := ∀ i (h : i < l.length), i < m → classErr w l i l[i] = 0

theorem Right.at {w : ByteArray → Bool} {l : List Cl} {m i : Nat} (hr : Right w l m) (h : i < l.length) (him : i < m) : i < 32 ∧ -1 ≤ l[i].parent ∧ l[i].parent < i ∧ (namesUp l l[i].parent).length + l[i].fields.length ≤ 32 := by
  have := hr i h him
  unfold classErr at this
  repeat' split at this
  all_goals first
    | cases this
    | skip
  have h2 := fieldsErr_len _ _ this
  simp at h2
  omega

theorem Right.falls {w : ByteArray → Bool} {l : List Cl} {m : Nat} (hr : Right w l m) : Falls l m := fun i h him => (hr.at h him).2.2.1

theorem namesUp_len {w : ByteArray → Bool} {l : List Cl} {m : Nat} (hr : Right w l m) (c : Int) (h : c < m) : (namesUp l c).length ≤ 32 := by
  by_cases h0 : c < 0
  · simp [namesUp, upI_neg h0, fieldsOn]
  · obtain ⟨n, rfl⟩ : ∃ n : Nat, c = n := ⟨c.toNat, by omega⟩
    by_cases hn : n < l.length
    · have ⟨h1, h2, h3, h4⟩ := hr.at hn (by omega)
      rw [namesUp, upI_step hn, if_pos h3]
      simp only [namesUp, fieldsOn, List.length_map, List.flatMap_cons, List.length_append] at h4 ⊢
      simp only [fieldsAt, List.getElem?_eq_getElem hn, Option.map_some, Option.getD_some] at h4 ⊢
      omega
    · simp [namesUp, upI_out (show (l.length : Int) ≤ n by omega), fieldsOn]

theorem namesRef_eq {w : ByteArray → Bool} {l : List Cl} {m : Nat} (hr : Right w l m) (hm : m ≤ l.length + 1) {p : Int} (h : p < m) (own : List ByteArray) (r : List Fd) :
    fieldsErr l.length (namesRef l p) own r = fieldsErr l.length (namesUp l p) own r := by
  refine fieldsErr_congr ?_ ?_ own r
  · intro x
    simp only [namesRef, namesUp, List.mem_map, fieldsOn_mem, lineR_up hr.falls hm h]
  · simp only [namesRef, namesUp, List.length_map, fieldsOn_len, lineR_up hr.falls hm h]

/-- What is wrong with a table from a place on: where, and what. -/
def checkFrom (w : ByteArray → Bool) (l : List Cl) : Nat → Nat → Nat × Nat
  | 0, _ => (0, 0)
  | k + 1, i => if h : i < l.length then (if classErr w l i l[i] = 0 then checkFrom w l k (i + 1) else (i, classErr w l i l[i])) else (0, 0)
def checkL (w : ByteArray → Bool) (l : List Cl) : Nat × Nat := checkFrom w l l.length 0
end Go.AL
namespace Go.AL
open Go.Proofs
set_option linter.unusedSimpArgs false
set_option linter.unusedVariables false
set_option maxRecDepth 100000

def toI (L : List Nat) : List Int := L.map fun n : Nat => (n : Int)
theorem lineF_len {l : List Cl} : ∀ {k : Nat} {c : Int}, (lineF l k c).length ≤ k
  | 0, c => by simp [lineF]
  | k + 1, c => by
    unfold lineF
    split
    · simp; exact lineF_len
    · simp

theorem line121 (l : List Cl) (o : Own) (c₀ : Int) (hl : l.length * 48 ≤ 140737488355328) : PCall Try.prog 121 [.slice o (rws eC l), .int .i64 c₀] (.slice .no (rws eI (toI (lineR l c₀)))) := by
  refine F121.pcall' rfl fun T hT => ?_
  simp -implicitDefEqProofs only [go_sem, Nat.reduceEqDiff, Nat.reduceLT, Nat.reduceLeDiff, Nat.reduceAdd, Nat.reduceSub, Nat.reduceMul, Nat.reduceBEq, ↓reduceIte, reduceCtorEq, Int.reduceEq, Int.reduceLT, Int.reduceLE, Int.reduceNeg, Int.reduceAdd, Int.reduceSub, Int.reduceToNat, rws_len, vc_condQ, w_guardO, ite_and, ite_or, ite_nor, ite_nand, ite_aor, ite_aand, ite_same, gm_move, gm_assign, gm_pick, gm_bin_t, gm_bin_i, gm_bin_b, gm_bin_s, gm_un, gm_conv, gm_iface, gm_func, gm_extract, gm_field, gm_faddr, gm_iaddr, gm_idx, gm_nilc, gm_len, gm_slice, gm_load, c121, hT]
  refine loopL F121 (fun x : List Nat × Int × Option Nat => [(0, .slice o (rws eC l)), (1, .int .i64 x.2.1), (5, grD 1 x.2.2 (rws eI (toI x.1)))]) (fun x => grS 1 x.1.length x.2.2 {})
    (fun x => (x.2.2 = none → x.1.length = 0) ∧ x.1.length ≤ l.length + 1 ∧ lineR l c₀ = x.1 ++ lineF l (l.length + 1 - x.1.length) x.2.1) (fun x => l.length + 1 - x.1.length) ([], c₀, none)
    ⟨fun _ => rfl, by simp, by simp [lineR]⟩ ?_ (St.le.refl _) ?_
  · simp -implicitDefEqProofs only [go_sem, Nat.reduceEqDiff, Nat.reduceLT, Nat.reduceLeDiff, Nat.reduceAdd, Nat.reduceSub, Nat.reduceMul, Nat.reduceBEq, ↓reduceIte, reduceCtorEq, Int.reduceEq, Int.reduceLT, Int.reduceLE, Int.reduceNeg, Int.reduceAdd, Int.reduceSub, Int.reduceToNat, rws_len, vc_condQ, w_guardO, ite_and, ite_or, ite_nor, ite_nand, ite_aor, ite_aand, ite_same, gm_move, gm_assign, gm_pick, gm_bin_t, gm_bin_i, gm_bin_b, gm_bin_s, gm_un, gm_conv, gm_iface, gm_func, gm_extract, gm_field, gm_faddr, gm_iaddr, gm_idx, gm_nilc, gm_len, gm_slice, gm_load, hT]
    rfl
  rintro ⟨out, c, ob⟩ ⟨hn, ho, heq⟩ T hT
  simp only at hn ho heq hT ⊢
  have hlen : (toI out).length = out.length := by simp [toI]
  by_cases h : 0 ≤ c ∧ c < l.length ∧ out.length ≤ l.length
  · obtain ⟨n, rfl⟩ : ∃ n : Nat, c = n := ⟨c.toNat, by omega⟩
    have h1 : ((0 : Int) ≤ n) = True := by simp
    have h2 : ((n : Int) < l.length) = True := by simp; omega
    have h3 : ((out.length : Int) ≤ l.length) = True := by simp; omega
    have hin : n < l.length := by omega
    simp -implicitDefEqProofs only [go_sem, Nat.reduceEqDiff, Nat.reduceLT, Nat.reduceLeDiff, Nat.reduceAdd, Nat.reduceSub, Nat.reduceMul, Nat.reduceBEq, ↓reduceIte, reduceCtorEq, Int.reduceEq, Int.reduceLT, Int.reduceLE, Int.reduceNeg, Int.reduceAdd, Int.reduceSub, Int.reduceToNat, rws_len, vc_condQ, w_guardO, ite_and, ite_or, ite_nor, ite_nand, ite_aor, ite_aand, ite_same, gm_move, gm_assign, gm_pick, gm_bin_t, gm_bin_i, gm_bin_b, gm_bin_s, gm_un, gm_conv, gm_iface, gm_func, gm_extract, gm_field, gm_faddr, gm_iaddr, gm_idx, gm_nilc, gm_len, gm_slice, gm_load, hT, h1, h2, hlen, h3, frz]
    refine app_gr' Try.sli26 Try.sz3 Try.by3 Try.zero3 rfl (n := out.length) (m := 1) (by rw [rws_len, hlen]) rfl (St.le.refl _) grN_nil hn (by simp) (by omega) fun o' σ' hbox hle _ hno => ?_
    simp -implicitDefEqProofs only [go_sem, Nat.reduceEqDiff, Nat.reduceLT, Nat.reduceLeDiff, Nat.reduceAdd, Nat.reduceSub, Nat.reduceMul, Nat.reduceBEq, ↓reduceIte, reduceCtorEq, Int.reduceEq, Int.reduceLT, Int.reduceLE, Int.reduceNeg, Int.reduceAdd, Int.reduceSub, Int.reduceToNat, rws_len, vc_condQ, w_guardO, ite_and, ite_or, ite_nor, ite_nand, ite_aor, ite_aand, ite_same, gm_move, gm_assign, gm_pick, gm_bin_t, gm_bin_i, gm_bin_b, gm_bin_s, gm_un, gm_conv, gm_iface, gm_func, gm_extract, gm_field, gm_faddr, gm_iaddr, gm_idx, gm_nilc, gm_len, gm_slice, gm_load, hT, rws_at hin, eC, eC_len]
    refine ⟨⟨by omega, by omega⟩, (out ++ [n], l[n].parent, o'), ⟨by simpa using hno, by simp; omega, ?_⟩, by simp; omega, ⟨rfl, ?_⟩, by simpa using hle⟩
    · rw [heq, show l.length + 1 - out.length = (l.length + 1 - (out ++ [n]).length) + 1 by simp; omega, lineF, dif_pos ⟨by omega, by simpa using hin⟩]
      simp
    · simp [toI, rws, eI]
  · have stop : lineF l (l.length + 1 - out.length) c = [] := by
      cases hk : l.length + 1 - out.length with
      | zero => rfl
      | succ k => rw [lineF, dif_neg (by omega)]
    rw [stop, List.append_nil] at heq
    have fin : DLe (grD 1 ob (rws eI (toI out))) (.slice .no (rws eI (toI (lineR l c₀)))) := by rw [heq]; exact grD_le
    have hf : (decide (0 ≤ c) && decide (c < (l.length : Int)) && decide ((out.length : Int) ≤ l.length)) = false := by
      rw [Bool.eq_false_iff]; simp; omega
    simp -implicitDefEqProofs only [go_sem, Nat.reduceEqDiff, Nat.reduceLT, Nat.reduceLeDiff, Nat.reduceAdd, Nat.reduceSub, Nat.reduceMul, Nat.reduceBEq, ↓reduceIte, reduceCtorEq, Int.reduceEq, Int.reduceLT, Int.reduceLE, Int.reduceNeg, Int.reduceAdd, Int.reduceSub, Int.reduceToNat, rws_len, vc_condQ, w_guardO, ite_and, ite_or, ite_nor, ite_nand, ite_aor, ite_aand, ite_same, gm_move, gm_assign, gm_pick, gm_bin_t, gm_bin_i, gm_bin_b, gm_bin_s, gm_un, gm_conv, gm_iface, gm_func, gm_extract, gm_field, gm_faddr, gm_iaddr, gm_idx, gm_nilc, gm_len, gm_slice, gm_load, hT, hlen, hf]
    exact fin
end Go.AL
namespace Go.AL
open Go.Proofs
set_option linter.unusedSimpArgs false
set_option linter.unusedVariables false
set_option maxRecDepth 100000

theorem lineF_lt {l : List Cl} : ∀ {k : Nat} {c : Int} {n : Nat}, n ∈ lineF l k c → n < l.length
  | 0, c, n, h => by simp [lineF] at h
  | k + 1, c, n, h => by
    unfold lineF at h
    split at h
    · rename_i hc
      rcases List.mem_cons.1 h with rfl | h
      · exact hc.2
      · exact lineF_lt h
    · cases h

theorem fieldsOn_snoc {l : List Cl} {L : List Nat} {n : Nat} (h : n < l.length) : fieldsOn l (L ++ [n]) = fieldsOn l L ++ l[n].fields := by
  simp [fieldsOn, fieldsAt, h]
theorem fieldsOn_drop_le {l : List Cl} {L : List Nat} (k : Nat) : (fieldsOn l (L.drop k).reverse).length ≤ (fieldsOn l L.reverse).length := by
  rw [fieldsOn_len, fieldsOn_len]
  conv => rhs; rw [← List.take_append_drop k L]
  simp only [fieldsOn, List.flatMap_append, List.length_append]; omega

theorem toI_at {L : List Nat} {i : Nat} (h : i < L.length) : (rws eI (toI L))[i]? = some [.int .i64 (L[i] : Int)] := by
  simp [toI, rws, eI, h]

theorem refFields114 (l : List Cl) (o : Own) (c : Int) (hl : l.length * 48 ≤ 140737488355328) (hf : (fieldsOn l (lineR l c).reverse).length * 24 ≤ 140737488355328) :
    PCall Try.prog 114 [.slice o (rws eC l), .int .i64 c] (.slice .no (rws eF (fieldsOn l (lineR l c).reverse))) := by
  refine F114.pcall' rfl fun T hT => ?_
  simp -implicitDefEqProofs only [go_sem, Nat.reduceEqDiff, Nat.reduceLT, Nat.reduceLeDiff, Nat.reduceAdd, Nat.reduceSub, Nat.reduceMul, Nat.reduceBEq, ↓reduceIte, reduceCtorEq, Int.reduceEq, Int.reduceLT, Int.reduceLE, Int.reduceNeg, Int.reduceAdd, Int.reduceSub, Int.reduceToNat, rws_len, vc_condQ, w_guardO, ite_and, ite_or, ite_nor, ite_nand, ite_aor, ite_aand, ite_same, gm_move, gm_assign, gm_pick, gm_bin_t, gm_bin_i, gm_bin_b, gm_bin_s, gm_un, gm_conv, gm_iface, gm_func, gm_extract, gm_field, gm_faddr, gm_iaddr, gm_idx, gm_nilc, gm_len, gm_slice, gm_load, c114, hT]
  refine callB_pure (line121 l o c hl) ?_
  obtain ⟨L, hL⟩ : ∃ L, lineR l c = L := ⟨_, rfl⟩
  have hlt : ∀ n ∈ L, n < l.length := fun n hn => lineF_lt (by rw [← hL] at hn; exact hn)
  have hLl : L.length ≤ l.length + 1 := by rw [← hL]; exact lineF_len
  rw [hL] at hf ⊢
  have hlen : (toI L).length = L.length := by simp [toI]
  simp -implicitDefEqProofs only [go_sem, Nat.reduceEqDiff, Nat.reduceLT, Nat.reduceLeDiff, Nat.reduceAdd, Nat.reduceSub, Nat.reduceMul, Nat.reduceBEq, ↓reduceIte, reduceCtorEq, Int.reduceEq, Int.reduceLT, Int.reduceLE, Int.reduceNeg, Int.reduceAdd, Int.reduceSub, Int.reduceToNat, rws_len, vc_condQ, w_guardO, ite_and, ite_or, ite_nor, ite_nand, ite_aor, ite_aand, ite_same, gm_move, gm_assign, gm_pick, gm_bin_t, gm_bin_i, gm_bin_b, gm_bin_s, gm_un, gm_conv, gm_iface, gm_func, gm_extract, gm_field, gm_faddr, gm_iaddr, gm_idx, gm_nilc, gm_len, gm_slice, gm_load, hT, hlen]
  refine loopL F114 (fun x : Nat × Option Nat => [(0, .slice o (rws eC l)), (5, .slice .no (rws eI (toI L))), (7, .int .i64 ((x.1 : Int) - 1)), (6, grD 2 x.2 (rws eF (fieldsOn l (L.drop x.1).reverse)))]) (fun x => grS 2 (fieldsOn l (L.drop x.1).reverse).length x.2 {})
    (fun x => x.1 ≤ L.length ∧ (x.2 = none → (fieldsOn l (L.drop x.1).reverse).length = 0)) (fun x => x.1) (L.length, none)
    ⟨Nat.le_refl _, fun _ => by simp [fieldsOn]⟩ ?_ (St.le.refl _) ?_
  · simp -implicitDefEqProofs only [go_sem, Nat.reduceEqDiff, Nat.reduceLT, Nat.reduceLeDiff, Nat.reduceAdd, Nat.reduceSub, Nat.reduceMul, Nat.reduceBEq, ↓reduceIte, reduceCtorEq, Int.reduceEq, Int.reduceLT, Int.reduceLE, Int.reduceNeg, Int.reduceAdd, Int.reduceSub, Int.reduceToNat, rws_len, vc_condQ, w_guardO, ite_and, ite_or, ite_nor, ite_nand, ite_aor, ite_aand, ite_same, gm_move, gm_assign, gm_pick, gm_bin_t, gm_bin_i, gm_bin_b, gm_bin_s, gm_un, gm_conv, gm_iface, gm_func, gm_extract, gm_field, gm_faddr, gm_iaddr, gm_idx, gm_nilc, gm_len, gm_slice, gm_load, hT, hlen]
    refine ⟨?_, ?_⟩
    · rw [wrap_i64 (by omega) (by omega)]
    · simp [fieldsOn, rws, grD]
  rintro ⟨k, ob⟩ ⟨hk, hn⟩ T hT
  simp only at hk hn hT ⊢
  by_cases h : k = 0
  · subst h
    have h1 : ((0 : Int) ≤ (0 : Nat) - 1) = False := by simp
    simp -implicitDefEqProofs only [go_sem, Nat.reduceEqDiff, Nat.reduceLT, Nat.reduceLeDiff, Nat.reduceAdd, Nat.reduceSub, Nat.reduceMul, Nat.reduceBEq, ↓reduceIte, reduceCtorEq, Int.reduceEq, Int.reduceLT, Int.reduceLE, Int.reduceNeg, Int.reduceAdd, Int.reduceSub, Int.reduceToNat, rws_len, vc_condQ, w_guardO, ite_and, ite_or, ite_nor, ite_nand, ite_aor, ite_aand, ite_same, gm_move, gm_assign, gm_pick, gm_bin_t, gm_bin_i, gm_bin_b, gm_bin_s, gm_un, gm_conv, gm_iface, gm_func, gm_extract, gm_field, gm_faddr, gm_iaddr, gm_idx, gm_nilc, gm_len, gm_slice, gm_load, hT, h1]
    exact grD_le
  · obtain ⟨i, rfl⟩ : ∃ i, k = i + 1 := ⟨k - 1, by omega⟩
    have h1 : ((i + 1 : Nat) : Int) - 1 = i := by omega
    have h2 : ((0 : Int) ≤ i) = True := by simp
    have hi : i < L.length := by omega
    have hn' : L[i] < l.length := hlt _ (by simp)
    rw [h1] at hT
    simp -implicitDefEqProofs only [go_sem, Nat.reduceEqDiff, Nat.reduceLT, Nat.reduceLeDiff, Nat.reduceAdd, Nat.reduceSub, Nat.reduceMul, Nat.reduceBEq, ↓reduceIte, reduceCtorEq, Int.reduceEq, Int.reduceLT, Int.reduceLE, Int.reduceNeg, Int.reduceAdd, Int.reduceSub, Int.reduceToNat, rws_len, vc_condQ, w_guardO, ite_and, ite_or, ite_nor, ite_nand, ite_aor, ite_aand, ite_same, gm_move, gm_assign, gm_pick, gm_bin_t, gm_bin_i, gm_bin_b, gm_bin_s, gm_un, gm_conv, gm_iface, gm_func, gm_extract, gm_field, gm_faddr, gm_iaddr, gm_idx, gm_nilc, gm_len, gm_slice, gm_load, hT, h2, toI_at hi, hlen, rws_at hn', eC, eC_len]
    refine ⟨by omega, by omega, ?_⟩
    have hsnoc : fieldsOn l (L.drop i).reverse = fieldsOn l (L.drop (i + 1)).reverse ++ l[L[i]].fields := by
      rw [List.drop_eq_getElem_cons hi, List.reverse_cons, fieldsOn_snoc hn']
    have hle := fieldsOn_drop_le (l := l) (L := L) i
    have hsl := congrArg List.length hsnoc
    rw [List.length_append] at hsl
    refine app_gr' Try.sli105 Try.sz110 Try.by110 Try.zero110 rfl (n := (fieldsOn l (L.drop (i + 1)).reverse).length) (m := l[L[i]].fields.length) (by rw [rws_len]) (by rw [rws_len]) (St.le.refl _) grN_nil hn (by simp [rws, eF_len]) (by omega) fun o' σ' hbox hle' _ hno => ?_
    simp -implicitDefEqProofs only [go_sem, Nat.reduceEqDiff, Nat.reduceLT, Nat.reduceLeDiff, Nat.reduceAdd, Nat.reduceSub, Nat.reduceMul, Nat.reduceBEq, ↓reduceIte, reduceCtorEq, Int.reduceEq, Int.reduceLT, Int.reduceLE, Int.reduceNeg, Int.reduceAdd, Int.reduceSub, Int.reduceToNat, rws_len, vc_condQ, w_guardO, ite_and, ite_or, ite_nor, ite_nand, ite_aor, ite_aand, ite_same, gm_move, gm_assign, gm_pick, gm_bin_t, gm_bin_i, gm_bin_b, gm_bin_s, gm_un, gm_conv, gm_iface, gm_func, gm_extract, gm_field, gm_faddr, gm_iaddr, gm_idx, gm_nilc, gm_len, gm_slice, gm_load, hT]
    refine ⟨(i, o'), ⟨by omega, by rw [hsl]; exact hno⟩, by simp, ⟨?_, ?_⟩, by rw [hsl]; exact hle'⟩
    · rw [wrap_i64 (by omega) (by omega)]
    · rw [hsnoc]; simp [rws]
end Go.AL
