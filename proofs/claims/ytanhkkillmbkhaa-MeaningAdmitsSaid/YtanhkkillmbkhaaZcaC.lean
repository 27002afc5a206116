import Derived.Test.YtanhkkillmbkhaaZcaT
import Derived.Test.YtanhkkillmbkhaaZcaA
namespace Go.AL
open Go.Proofs
set_option linter.unusedSimpArgs false
set_option linter.unusedVariables false
set_option maxRecDepth 100000

theorem DLe_nils {o : Own} {es : List (List D)} (h : es = []) : DLe (.slice o []) (.slice .no es) := h ▸ DLe.slice o []
/-- Elements as rows of cells. -/
def rws {α : Type} (enc : α → List D) (xs : List α) : List (List D) := xs.map enc
theorem rws_len {α : Type} (enc : α → List D) (xs : List α) : (rws enc xs).length = xs.length := by simp [rws]
theorem rws_nil {α : Type} (enc : α → List D) (xs : List α) : (rws enc xs = []) = (xs = []) := by simp [rws]
theorem rws_mt {α : Type} (enc : α → List D) : rws enc [] = [] := rfl
theorem rws_at {α : Type} {enc : α → List D} {xs : List α} {i : Nat} (h : i < xs.length) : (rws enc xs)[i]?.getD [] = enc xs[i] := by simp [rws, h]
theorem rws_app {α : Type} {enc : α → List D} {xs ys : List α} : rws enc xs ++ rws enc ys = rws enc (xs ++ ys) := by simp [rws]
theorem rws_one {α : Type} {enc : α → List D} {xs : List α} {n : Nat} (h : ∀ x, (enc x).length = n) : (∀ r ∈ rws enc xs, r.length = n) = True := by simp [rws, h]
def eI (n : Int) : List D := [.int .i64 n]
abbrev Ty := Fin 256
def eT (t : Ty) : List D := [.int .u8 (t.val : Int)]
def eS (s : ByteArray) : List D := [.str s]
theorem eI_len (n : Int) : (eI n).length = 1 := rfl
theorem eT_len (n : Ty) : (eT n).length = 1 := rfl
theorem eS_len (n : ByteArray) : (eS n).length = 1 := rfl
theorem eT_eq (a b : Ty) : ((a.val : Int) = (b.val : Int)) = (a = b) := by rw [Fin.ext_iff]; simp only [eq_iff_iff]; omega
theorem DLe_bool {a b : Bool} (h : a = b) : DLe (.bool a) (.bool b) := h ▸ DLe.refl _
theorem nilR_nil {o : Own} {es : List (List D)} {r : Bool} (h : nilR o es r) (hr : r = true) (h0 : o = .nil → es = []) : es = [] := by
  subst hr
  cases o <;> simp_all [nilR]
/-- A slice's way of being nil agrees with what it holds. -/
def nilOk (o : Own) (n : Nat) : Prop := o = .nil → n = 0

theorem take_eq_step {α : Type} {xs ys : List α} {i : Nat} (h : xs.take i = ys.take i) (hx : i < xs.length) (hy : i < ys.length) (he : xs[i] = ys[i]) : xs.take (i + 1) = ys.take (i + 1) := by
  rw [List.take_succ_eq_append_getElem hx, List.take_succ_eq_append_getElem hy, h, he]


theorem clone12 (xs : List Int) (o : Own) (h0 : nilOk o xs.length) (hl : xs.length * 8 ≤ 140737488355328) : PCall Try.prog 12 [.slice o (rws eI xs)] (.slice .no (rws eI xs)) := by
  refine F12.pcall' rfl fun T hT => ?_
  simp only [go_sem, Nat.reduceEqDiff, Nat.reduceLT, Nat.reduceLeDiff, Nat.reduceAdd, Nat.reduceSub, Nat.reduceMul, Nat.reduceBEq, Nat.succ_ne_self, reduceIte, reduceCtorEq, ne_eq, not_true_eq_false, not_false_eq_true, true_and, and_true, true_implies, implies_true, List.toList_toArray, List.map_cons, List.map_nil, List.getElem?_cons_zero, List.getElem?_cons_succ, List.getElem?_nil, Option.getD_some, Option.getD_none, Option.map_some, List.length_cons, List.length_nil, List.cons_append, List.nil_append, List.append_nil, beq_true, beq_false, Bool.not_true, Bool.not_false, Bool.true_eq_false, Bool.false_eq_true, List.drop_zero, List.drop_succ_cons, Nat.zero_add, Nat.add_zero, forall_const, Nat.zero_mul, Nat.zero_le, List.replicate_zero, List.replicate_succ, List.flatten_nil, List.flatten_cons, List.not_mem_nil, false_implies, List.forall_mem_nil, List.take_zero, List.take_succ_cons, List.take_nil, List.drop_nil, and_self, List.length_map, not_or, Classical.not_not, and_imp, or_false, false_or, List.forall_mem_cons, List.mem_cons, or_true, true_or, not_false_eq_true, not_true_eq_false, Int.reduceEq, Int.reduceLT, Int.reduceLE, Int.reduceNeg, Int.reduceAdd, Int.reduceSub, Int.reduceToNat, decide_true, decide_false, eq_self, Int.toNat_natCast, rws_len, id_eq, List.map_id_fun, c12, hT]
  intro r hr
  refine br_split (fun h => ?_) fun h => ?_
  · exact DLe_nils (nilR_nil hr h fun h => by simpa [rws_nil] using h0 h)
  · simp only [go_sem, Nat.reduceEqDiff, Nat.reduceLT, Nat.reduceLeDiff, Nat.reduceAdd, Nat.reduceSub, Nat.reduceMul, Nat.reduceBEq, Nat.succ_ne_self, reduceIte, reduceCtorEq, ne_eq, not_true_eq_false, not_false_eq_true, true_and, and_true, true_implies, implies_true, List.toList_toArray, List.map_cons, List.map_nil, List.getElem?_cons_zero, List.getElem?_cons_succ, List.getElem?_nil, Option.getD_some, Option.getD_none, Option.map_some, List.length_cons, List.length_nil, List.cons_append, List.nil_append, List.append_nil, beq_true, beq_false, Bool.not_true, Bool.not_false, Bool.true_eq_false, Bool.false_eq_true, List.drop_zero, List.drop_succ_cons, Nat.zero_add, Nat.add_zero, forall_const, Nat.zero_mul, Nat.zero_le, List.replicate_zero, List.replicate_succ, List.flatten_nil, List.flatten_cons, List.not_mem_nil, false_implies, List.forall_mem_nil, List.take_zero, List.take_succ_cons, List.take_nil, List.drop_nil, and_self, List.length_map, not_or, Classical.not_not, and_imp, or_false, false_or, List.forall_mem_cons, List.mem_cons, or_true, true_or, not_false_eq_true, not_true_eq_false, Int.reduceEq, Int.reduceLT, Int.reduceLE, Int.reduceNeg, Int.reduceAdd, Int.reduceSub, Int.reduceToNat, decide_true, decide_false, eq_self, Int.toNat_natCast, rws_len, id_eq, List.map_id_fun, hT, rws_one eI_len, rws_len, rws_nil, hl]
    rintro rfl
    exact DLe_nils rfl

theorem clone46 (xs : List Ty) (o : Own) (h0 : nilOk o xs.length) (hl : xs.length * 1 ≤ 140737488355328) : PCall Try.prog 46 [.slice o (rws eT xs)] (.slice .no (rws eT xs)) := by
  refine F46.pcall' rfl fun T hT => ?_
  simp only [go_sem, Nat.reduceEqDiff, Nat.reduceLT, Nat.reduceLeDiff, Nat.reduceAdd, Nat.reduceSub, Nat.reduceMul, Nat.reduceBEq, Nat.succ_ne_self, reduceIte, reduceCtorEq, ne_eq, not_true_eq_false, not_false_eq_true, true_and, and_true, true_implies, implies_true, List.toList_toArray, List.map_cons, List.map_nil, List.getElem?_cons_zero, List.getElem?_cons_succ, List.getElem?_nil, Option.getD_some, Option.getD_none, Option.map_some, List.length_cons, List.length_nil, List.cons_append, List.nil_append, List.append_nil, beq_true, beq_false, Bool.not_true, Bool.not_false, Bool.true_eq_false, Bool.false_eq_true, List.drop_zero, List.drop_succ_cons, Nat.zero_add, Nat.add_zero, forall_const, Nat.zero_mul, Nat.zero_le, List.replicate_zero, List.replicate_succ, List.flatten_nil, List.flatten_cons, List.not_mem_nil, false_implies, List.forall_mem_nil, List.take_zero, List.take_succ_cons, List.take_nil, List.drop_nil, and_self, List.length_map, not_or, Classical.not_not, and_imp, or_false, false_or, List.forall_mem_cons, List.mem_cons, or_true, true_or, not_false_eq_true, not_true_eq_false, Int.reduceEq, Int.reduceLT, Int.reduceLE, Int.reduceNeg, Int.reduceAdd, Int.reduceSub, Int.reduceToNat, decide_true, decide_false, eq_self, Int.toNat_natCast, rws_len, id_eq, List.map_id_fun, c46, hT]
  intro r hr
  refine br_split (fun h => ?_) fun h => ?_
  · exact DLe_nils (nilR_nil hr h fun h => by simpa [rws_nil] using h0 h)
  · simp only [go_sem, Nat.reduceEqDiff, Nat.reduceLT, Nat.reduceLeDiff, Nat.reduceAdd, Nat.reduceSub, Nat.reduceMul, Nat.reduceBEq, Nat.succ_ne_self, reduceIte, reduceCtorEq, ne_eq, not_true_eq_false, not_false_eq_true, true_and, and_true, true_implies, implies_true, List.toList_toArray, List.map_cons, List.map_nil, List.getElem?_cons_zero, List.getElem?_cons_succ, List.getElem?_nil, Option.getD_some, Option.getD_none, Option.map_some, List.length_cons, List.length_nil, List.cons_append, List.nil_append, List.append_nil, beq_true, beq_false, Bool.not_true, Bool.not_false, Bool.true_eq_false, Bool.false_eq_true, List.drop_zero, List.drop_succ_cons, Nat.zero_add, Nat.add_zero, forall_const, Nat.zero_mul, Nat.zero_le, List.replicate_zero, List.replicate_succ, List.flatten_nil, List.flatten_cons, List.not_mem_nil, false_implies, List.forall_mem_nil, List.take_zero, List.take_succ_cons, List.take_nil, List.drop_nil, and_self, List.length_map, not_or, Classical.not_not, and_imp, or_false, false_or, List.forall_mem_cons, List.mem_cons, or_true, true_or, not_false_eq_true, not_true_eq_false, Int.reduceEq, Int.reduceLT, Int.reduceLE, Int.reduceNeg, Int.reduceAdd, Int.reduceSub, Int.reduceToNat, decide_true, decide_false, eq_self, Int.toNat_natCast, rws_len, id_eq, List.map_id_fun, hT, rws_one eT_len, rws_len, rws_nil, hl]
    rintro rfl
    exact DLe_nils rfl

theorem equal16 (xs ys : List Int) (o o' : Own) (hl : xs.length ≤ 140737488355328) : PCall Try.prog 16 [.slice o (rws eI xs), .slice o' (rws eI ys)] (.bool (decide (xs = ys))) := by
  refine F16.pcall' rfl fun T hT => ?_
  simp only [go_sem, Nat.reduceEqDiff, Nat.reduceLT, Nat.reduceLeDiff, Nat.reduceAdd, Nat.reduceSub, Nat.reduceMul, Nat.reduceBEq, Nat.succ_ne_self, reduceIte, reduceCtorEq, ne_eq, not_true_eq_false, not_false_eq_true, true_and, and_true, true_implies, implies_true, List.toList_toArray, List.map_cons, List.map_nil, List.getElem?_cons_zero, List.getElem?_cons_succ, List.getElem?_nil, Option.getD_some, Option.getD_none, Option.map_some, List.length_cons, List.length_nil, List.cons_append, List.nil_append, List.append_nil, beq_true, beq_false, Bool.not_true, Bool.not_false, Bool.true_eq_false, Bool.false_eq_true, List.drop_zero, List.drop_succ_cons, Nat.zero_add, Nat.add_zero, forall_const, Nat.zero_mul, Nat.zero_le, List.replicate_zero, List.replicate_succ, List.flatten_nil, List.flatten_cons, List.not_mem_nil, false_implies, List.forall_mem_nil, List.take_zero, List.take_succ_cons, List.take_nil, List.drop_nil, and_self, List.length_map, not_or, Classical.not_not, and_imp, or_false, false_or, List.forall_mem_cons, List.mem_cons, or_true, true_or, not_false_eq_true, not_true_eq_false, Int.reduceEq, Int.reduceLT, Int.reduceLE, Int.reduceNeg, Int.reduceAdd, Int.reduceSub, Int.reduceToNat, decide_true, decide_false, eq_self, Int.toNat_natCast, rws_len, id_eq, List.map_id_fun, c16, hT, rws_len]
  refine br_split (fun h => ?_) fun h => ?_
  · refine DLe_bool ?_
    simp at h
    simp
    rintro rfl
    exact h rfl
  have hxy : xs.length = ys.length := by simp at h; omega
  refine loopL F16 (fun i : Nat => [(0, .slice o (rws eI xs)), (1, .slice o' (rws eI ys)), (12, .int .i64 xs.length), (13, .int .i64 i)]) (fun _ => {}) (fun i => i ≤ xs.length ∧ xs.take i = ys.take i) (fun i => xs.length - i) 0
    ⟨Nat.zero_le _, rfl⟩ ?_ (St.le.refl _) ?_
  · simp only [go_sem, Nat.reduceEqDiff, Nat.reduceLT, Nat.reduceLeDiff, Nat.reduceAdd, Nat.reduceSub, Nat.reduceMul, Nat.reduceBEq, Nat.succ_ne_self, reduceIte, reduceCtorEq, ne_eq, not_true_eq_false, not_false_eq_true, true_and, and_true, true_implies, implies_true, List.toList_toArray, List.map_cons, List.map_nil, List.getElem?_cons_zero, List.getElem?_cons_succ, List.getElem?_nil, Option.getD_some, Option.getD_none, Option.map_some, List.length_cons, List.length_nil, List.cons_append, List.nil_append, List.append_nil, beq_true, beq_false, Bool.not_true, Bool.not_false, Bool.true_eq_false, Bool.false_eq_true, List.drop_zero, List.drop_succ_cons, Nat.zero_add, Nat.add_zero, forall_const, Nat.zero_mul, Nat.zero_le, List.replicate_zero, List.replicate_succ, List.flatten_nil, List.flatten_cons, List.not_mem_nil, false_implies, List.forall_mem_nil, List.take_zero, List.take_succ_cons, List.take_nil, List.drop_nil, and_self, List.length_map, not_or, Classical.not_not, and_imp, or_false, false_or, List.forall_mem_cons, List.mem_cons, or_true, true_or, not_false_eq_true, not_true_eq_false, Int.reduceEq, Int.reduceLT, Int.reduceLE, Int.reduceNeg, Int.reduceAdd, Int.reduceSub, Int.reduceToNat, decide_true, decide_false, eq_self, Int.toNat_natCast, rws_len, id_eq, List.map_id_fun, hT, Int.ofNat_zero]
  rintro i ⟨hi, heq⟩ T hT
  simp only [go_sem, Nat.reduceEqDiff, Nat.reduceLT, Nat.reduceLeDiff, Nat.reduceAdd, Nat.reduceSub, Nat.reduceMul, Nat.reduceBEq, Nat.succ_ne_self, reduceIte, reduceCtorEq, ne_eq, not_true_eq_false, not_false_eq_true, true_and, and_true, true_implies, implies_true, List.toList_toArray, List.map_cons, List.map_nil, List.getElem?_cons_zero, List.getElem?_cons_succ, List.getElem?_nil, Option.getD_some, Option.getD_none, Option.map_some, List.length_cons, List.length_nil, List.cons_append, List.nil_append, List.append_nil, beq_true, beq_false, Bool.not_true, Bool.not_false, Bool.true_eq_false, Bool.false_eq_true, List.drop_zero, List.drop_succ_cons, Nat.zero_add, Nat.add_zero, forall_const, Nat.zero_mul, Nat.zero_le, List.replicate_zero, List.replicate_succ, List.flatten_nil, List.flatten_cons, List.not_mem_nil, false_implies, List.forall_mem_nil, List.take_zero, List.take_succ_cons, List.take_nil, List.drop_nil, and_self, List.length_map, not_or, Classical.not_not, and_imp, or_false, false_or, List.forall_mem_cons, List.mem_cons, or_true, true_or, not_false_eq_true, not_true_eq_false, Int.reduceEq, Int.reduceLT, Int.reduceLE, Int.reduceNeg, Int.reduceAdd, Int.reduceSub, Int.reduceToNat, decide_true, decide_false, eq_self, Int.toNat_natCast, rws_len, id_eq, List.map_id_fun, hT]
  refine br_split (fun h => ?_) fun h => ?_
  · have h : i < xs.length := by simpa using h
    simp only [go_sem, Nat.reduceEqDiff, Nat.reduceLT, Nat.reduceLeDiff, Nat.reduceAdd, Nat.reduceSub, Nat.reduceMul, Nat.reduceBEq, Nat.succ_ne_self, reduceIte, reduceCtorEq, ne_eq, not_true_eq_false, not_false_eq_true, true_and, and_true, true_implies, implies_true, List.toList_toArray, List.map_cons, List.map_nil, List.getElem?_cons_zero, List.getElem?_cons_succ, List.getElem?_nil, Option.getD_some, Option.getD_none, Option.map_some, List.length_cons, List.length_nil, List.cons_append, List.nil_append, List.append_nil, beq_true, beq_false, Bool.not_true, Bool.not_false, Bool.true_eq_false, Bool.false_eq_true, List.drop_zero, List.drop_succ_cons, Nat.zero_add, Nat.add_zero, forall_const, Nat.zero_mul, Nat.zero_le, List.replicate_zero, List.replicate_succ, List.flatten_nil, List.flatten_cons, List.not_mem_nil, false_implies, List.forall_mem_nil, List.take_zero, List.take_succ_cons, List.take_nil, List.drop_nil, and_self, List.length_map, not_or, Classical.not_not, and_imp, or_false, false_or, List.forall_mem_cons, List.mem_cons, or_true, true_or, not_false_eq_true, not_true_eq_false, Int.reduceEq, Int.reduceLT, Int.reduceLE, Int.reduceNeg, Int.reduceAdd, Int.reduceSub, Int.reduceToNat, decide_true, decide_false, eq_self, Int.toNat_natCast, rws_len, id_eq, List.map_id_fun, hT, rws_len, Int.toNat_natCast, rws_at h, rws_at (show i < ys.length by omega), eI_len, eI]
    refine ⟨⟨by omega, by omega⟩, ⟨by omega, by omega⟩, ?_⟩
    refine br_split (fun h' => ?_) fun h' => ?_
    · refine DLe_bool ?_
      simp at h'
      simp
      rintro rfl
      exact h' rfl
    · simp at h'
      refine ⟨i + 1, ⟨by omega, take_eq_step heq h (by omega) h'⟩, by omega, ?_, St.le.refl _⟩
      rw [wrap_i64 (by omega) (by omega)]
      simp
  · have h : ¬ i < xs.length := by simpa using h
    refine DLe_bool ?_
    rw [List.take_of_length_le (by omega), List.take_of_length_le (by omega)] at heq
    simp [heq]

theorem equal47 (xs ys : List Ty) (o o' : Own) (hl : xs.length ≤ 140737488355328) : PCall Try.prog 47 [.slice o (rws eT xs), .slice o' (rws eT ys)] (.bool (decide (xs = ys))) := by
  refine F47.pcall' rfl fun T hT => ?_
  simp only [go_sem, Nat.reduceEqDiff, Nat.reduceLT, Nat.reduceLeDiff, Nat.reduceAdd, Nat.reduceSub, Nat.reduceMul, Nat.reduceBEq, Nat.succ_ne_self, reduceIte, reduceCtorEq, ne_eq, not_true_eq_false, not_false_eq_true, true_and, and_true, true_implies, implies_true, List.toList_toArray, List.map_cons, List.map_nil, List.getElem?_cons_zero, List.getElem?_cons_succ, List.getElem?_nil, Option.getD_some, Option.getD_none, Option.map_some, List.length_cons, List.length_nil, List.cons_append, List.nil_append, List.append_nil, beq_true, beq_false, Bool.not_true, Bool.not_false, Bool.true_eq_false, Bool.false_eq_true, List.drop_zero, List.drop_succ_cons, Nat.zero_add, Nat.add_zero, forall_const, Nat.zero_mul, Nat.zero_le, List.replicate_zero, List.replicate_succ, List.flatten_nil, List.flatten_cons, List.not_mem_nil, false_implies, List.forall_mem_nil, List.take_zero, List.take_succ_cons, List.take_nil, List.drop_nil, and_self, List.length_map, not_or, Classical.not_not, and_imp, or_false, false_or, List.forall_mem_cons, List.mem_cons, or_true, true_or, not_false_eq_true, not_true_eq_false, Int.reduceEq, Int.reduceLT, Int.reduceLE, Int.reduceNeg, Int.reduceAdd, Int.reduceSub, Int.reduceToNat, decide_true, decide_false, eq_self, Int.toNat_natCast, rws_len, id_eq, List.map_id_fun, c47, hT, rws_len]
  refine br_split (fun h => ?_) fun h => ?_
  · refine DLe_bool ?_
    simp at h
    simp
    rintro rfl
    exact h rfl
  have hxy : xs.length = ys.length := by simp at h; omega
  refine loopL F47 (fun i : Nat => [(0, .slice o (rws eT xs)), (1, .slice o' (rws eT ys)), (12, .int .i64 xs.length), (13, .int .i64 i)]) (fun _ => {}) (fun i => i ≤ xs.length ∧ xs.take i = ys.take i) (fun i => xs.length - i) 0
    ⟨Nat.zero_le _, rfl⟩ ?_ (St.le.refl _) ?_
  · simp only [go_sem, Nat.reduceEqDiff, Nat.reduceLT, Nat.reduceLeDiff, Nat.reduceAdd, Nat.reduceSub, Nat.reduceMul, Nat.reduceBEq, Nat.succ_ne_self, reduceIte, reduceCtorEq, ne_eq, not_true_eq_false, not_false_eq_true, true_and, and_true, true_implies, implies_true, List.toList_toArray, List.map_cons, List.map_nil, List.getElem?_cons_zero, List.getElem?_cons_succ, List.getElem?_nil, Option.getD_some, Option.getD_none, Option.map_some, List.length_cons, List.length_nil, List.cons_append, List.nil_append, List.append_nil, beq_true, beq_false, Bool.not_true, Bool.not_false, Bool.true_eq_false, Bool.false_eq_true, List.drop_zero, List.drop_succ_cons, Nat.zero_add, Nat.add_zero, forall_const, Nat.zero_mul, Nat.zero_le, List.replicate_zero, List.replicate_succ, List.flatten_nil, List.flatten_cons, List.not_mem_nil, false_implies, List.forall_mem_nil, List.take_zero, List.take_succ_cons, List.take_nil, List.drop_nil, and_self, List.length_map, not_or, Classical.not_not, and_imp, or_false, false_or, List.forall_mem_cons, List.mem_cons, or_true, true_or, not_false_eq_true, not_true_eq_false, Int.reduceEq, Int.reduceLT, Int.reduceLE, Int.reduceNeg, Int.reduceAdd, Int.reduceSub, Int.reduceToNat, decide_true, decide_false, eq_self, Int.toNat_natCast, rws_len, id_eq, List.map_id_fun, hT, Int.ofNat_zero]
  rintro i ⟨hi, heq⟩ T hT
  simp only [go_sem, Nat.reduceEqDiff, Nat.reduceLT, Nat.reduceLeDiff, Nat.reduceAdd, Nat.reduceSub, Nat.reduceMul, Nat.reduceBEq, Nat.succ_ne_self, reduceIte, reduceCtorEq, ne_eq, not_true_eq_false, not_false_eq_true, true_and, and_true, true_implies, implies_true, List.toList_toArray, List.map_cons, List.map_nil, List.getElem?_cons_zero, List.getElem?_cons_succ, List.getElem?_nil, Option.getD_some, Option.getD_none, Option.map_some, List.length_cons, List.length_nil, List.cons_append, List.nil_append, List.append_nil, beq_true, beq_false, Bool.not_true, Bool.not_false, Bool.true_eq_false, Bool.false_eq_true, List.drop_zero, List.drop_succ_cons, Nat.zero_add, Nat.add_zero, forall_const, Nat.zero_mul, Nat.zero_le, List.replicate_zero, List.replicate_succ, List.flatten_nil, List.flatten_cons, List.not_mem_nil, false_implies, List.forall_mem_nil, List.take_zero, List.take_succ_cons, List.take_nil, List.drop_nil, and_self, List.length_map, not_or, Classical.not_not, and_imp, or_false, false_or, List.forall_mem_cons, List.mem_cons, or_true, true_or, not_false_eq_true, not_true_eq_false, Int.reduceEq, Int.reduceLT, Int.reduceLE, Int.reduceNeg, Int.reduceAdd, Int.reduceSub, Int.reduceToNat, decide_true, decide_false, eq_self, Int.toNat_natCast, rws_len, id_eq, List.map_id_fun, hT]
  refine br_split (fun h => ?_) fun h => ?_
  · have h : i < xs.length := by simpa using h
    simp only [go_sem, Nat.reduceEqDiff, Nat.reduceLT, Nat.reduceLeDiff, Nat.reduceAdd, Nat.reduceSub, Nat.reduceMul, Nat.reduceBEq, Nat.succ_ne_self, reduceIte, reduceCtorEq, ne_eq, not_true_eq_false, not_false_eq_true, true_and, and_true, true_implies, implies_true, List.toList_toArray, List.map_cons, List.map_nil, List.getElem?_cons_zero, List.getElem?_cons_succ, List.getElem?_nil, Option.getD_some, Option.getD_none, Option.map_some, List.length_cons, List.length_nil, List.cons_append, List.nil_append, List.append_nil, beq_true, beq_false, Bool.not_true, Bool.not_false, Bool.true_eq_false, Bool.false_eq_true, List.drop_zero, List.drop_succ_cons, Nat.zero_add, Nat.add_zero, forall_const, Nat.zero_mul, Nat.zero_le, List.replicate_zero, List.replicate_succ, List.flatten_nil, List.flatten_cons, List.not_mem_nil, false_implies, List.forall_mem_nil, List.take_zero, List.take_succ_cons, List.take_nil, List.drop_nil, and_self, List.length_map, not_or, Classical.not_not, and_imp, or_false, false_or, List.forall_mem_cons, List.mem_cons, or_true, true_or, not_false_eq_true, not_true_eq_false, Int.reduceEq, Int.reduceLT, Int.reduceLE, Int.reduceNeg, Int.reduceAdd, Int.reduceSub, Int.reduceToNat, decide_true, decide_false, eq_self, Int.toNat_natCast, rws_len, id_eq, List.map_id_fun, hT, rws_len, Int.toNat_natCast, rws_at h, rws_at (show i < ys.length by omega), eT_len, eT, eT_eq]
    refine ⟨⟨by omega, by omega⟩, ⟨by omega, by omega⟩, ?_⟩
    refine br_split (fun h' => ?_) fun h' => ?_
    · refine DLe_bool ?_
      simp at h'
      simp
      rintro rfl
      exact h' rfl
    · simp at h'
      refine ⟨i + 1, ⟨by omega, take_eq_step heq h (by omega) h'⟩, by omega, ?_, St.le.refl _⟩
      rw [wrap_i64 (by omega) (by omega)]
      simp
  · have h : ¬ i < xs.length := by simpa using h
    refine DLe_bool ?_
    rw [List.take_of_length_le (by omega), List.take_of_length_le (by omega)] at heq
    simp [heq]
end Go.AL
