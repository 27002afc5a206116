import Derived.Test.YtobmoajkfbigkaaGreatHp
import Derived.Test.YtobmoajkfbigkaaGreatHd
set_option linter.unusedSimpArgs false
set_option linter.unusedVariables false
set_option maxRecDepth 100000
set_option maxHeartbeats 4000000
set_option linter.defProp false
namespace Go.AL
open Go.Proofs
def jumpsB (op : Nat) : Bool := decide (op = 19 ∨ op = 20)
theorem jumps83 (t : Ty) : PCall Tryz.prog 83 [.int .u8 t.val] (.bool (jumpsB t.val)) := by
  refine F83.pcall' rfl fun T hT => ?_
  simp -implicitDefEqProofs only [go_sem, mmB, c83, hT]
  exact DLe_bool (by rw [Bool.eq_iff_iff]; simp [jumpsB]; omega)
theorem refJumps22 (t : Ty) : PCall Tryz.prog 22 [.int .u8 t.val] (.bool (jumpsB t.val)) := by
  refine F22.pcall' rfl fun T hT => ?_
  simp -implicitDefEqProofs only [go_sem, mmB, c22, hT]
  exact DLe_bool (by rw [Bool.eq_iff_iff]; simp [jumpsB]; omega)
def numB : List Ty → Nat → Nat
  | [], n => n
  | b :: r, n => numB r (256 * n + b.val)
theorem numB_lt : ∀ (l : List Ty) (n : Nat), numB l n < 256 ^ l.length * (n + 1)
  | [], n => by simp [numB]
  | b :: r, n => by
    have := numB_lt r (256 * n + b.val)
    have hb := b.isLt
    rw [numB, List.length_cons, Nat.pow_succ]
    have h2 : 256 ^ r.length * (256 * n + b.val + 1) ≤ 256 ^ r.length * (256 * (n + 1)) := Nat.mul_le_mul_left _ (by omega)
    rw [Nat.mul_assoc]
    omega
theorem numB_snoc : ∀ (l : List Ty) (b : Ty) (n : Nat), numB (l ++ [b]) n = 256 * numB l n + b.val
  | [], b, n => rfl
  | a :: r, b, n => by rw [List.cons_append, numB, numB_snoc r b]; rfl
def opdB (l : List Ty) : Int := if l.length = 4 ∧ 2147483647 < numB l 0 then (numB l 0 : Int) - 4294967296 else numB l 0
theorem refTake64 (l : List Ty) (o : Own) (k : Nat) (hk : k ≤ 4) (hl : k ≤ l.length) : PCall Tryz.prog 64 [.slice o (rws eT l), .int .i64 k] (.int .i64 (opdB (l.take k))) := by
  refine F64.pcall' rfl fun T hT => ?_
  simp -implicitDefEqProofs only [go_sem, c64, hT]
  have hp : ∀ i : Nat, i ≤ 4 → (256 : Nat) ^ i ≤ 4294967296 := fun i hi => by
    have : i = 0 ∨ i = 1 ∨ i = 2 ∨ i = 3 ∨ i = 4 := by omega
    rcases this with rfl | rfl | rfl | rfl | rfl <;> decide
  refine loopL F64 (fun i : Nat => [(0, .slice o (rws eT l)), (1, .int .i64 k), (5, .int .i64 (numB (l.take i) 0)), (6, .int .i64 i)]) (fun _ => {}) (fun i => i ≤ k) (fun i => k - i) 0 (Nat.zero_le _) ?_ (St.le.nil _) ?_
  · simp -implicitDefEqProofs only [go_sem, hT, Int.ofNat_zero]
    all_goals rfl
  clear hT T
  rintro i hi T hT
  by_cases h : i < k
  · have h1 : ((i : Int) < k) = True := by simp; omega
    have hil : i < l.length := by omega
    have hR : (rws eT l)[i]?.getD [] = eT l[i] := rws_at hil
    have htk : l.take (i + 1) = l.take i ++ [l[i]] := List.take_succ_eq_append_getElem hil
    have hlt := numB_lt (l.take i) 0
    have hpi := hp i (by omega)
    rw [List.length_take, Nat.min_eq_left (by omega)] at hlt
    have hlt2 : numB (l.take i) 0 < 4294967296 := by omega
    have hns := numB_snoc (l.take i) l[i] 0
    rw [← htk] at hns
    have hb := l[i].isLt
    generalize l[i] = b at *
    have w1 : IntKind.wrap .i64 (256 * (numB (l.take i) 0 : Int)) = 256 * (numB (l.take i) 0 : Int) := wrap_i64 (by omega) (by omega)
    have w2 : IntKind.wrap .i64 (b.val : Int) = b.val := wrap_i64 (by omega) (by omega)
    have w3 : IntKind.wrap .i64 (256 * (numB (l.take i) 0 : Int) + b.val) = (numB (l.take (i + 1)) 0 : Int) := by rw [wrap_i64 (by omega) (by omega), hns]; simp
    have w4 : IntKind.wrap .i64 ((i : Int) + 1) = ((i + 1 : Nat) : Int) := by rw [wrap_i64 (by omega) (by omega)]; simp
    have hm : k - (i + 1) < k - i := by omega
    simp -implicitDefEqProofs only [go_sem, hT, h1, hR, eT, eT_len, w1, w2, w3]
    refine ⟨by omega, i + 1, h, hm, ⟨rfl, ?_⟩, St.le.refl _⟩
    rw [w4]
  · obtain rfl : i = k := by omega
    have h1 : ((i : Int) < i) = False := by simp
    have hlt := numB_lt (l.take i) 0
    have hpi := hp i hk
    have hlen : (l.take i).length = i := by rw [List.length_take, Nat.min_eq_left hl]
    rw [hlen] at hlt
    obtain ⟨n, hn⟩ : ∃ n, numB (l.take i) 0 = n := ⟨_, rfl⟩
    have hod : opdB (l.take i) = if i = 4 ∧ 2147483647 < n then (n : Int) - 4294967296 else n := by rw [opdB, hlen, hn]
    rw [hn] at hlt hT
    rw [hod]
    by_cases h4 : i = 4
    · subst h4
      have c4 : (((4 : Nat) : Int) = 4) = True := by simp
      by_cases hbig : 2147483647 < n
      · have hq : ((2147483647 : Int) < n) = True := by simp; omega
        have w5 : IntKind.wrap .i64 ((n : Int) - 4294967296) = (n : Int) - 4294967296 := wrap_i64 (by omega) (by omega)
        rw [if_pos ⟨rfl, hbig⟩]
        simp -implicitDefEqProofs only [go_sem, hT, h1, hq, w5, c4]
      · have hq : ((2147483647 : Int) < n) = False := by simp; omega
        rw [if_neg (fun h => hbig h.2)]
        simp -implicitDefEqProofs only [go_sem, hT, h1, hq, c4]
    · have hq : ((i : Int) = 4) = False := by simp; omega
      rw [if_neg (fun h => h4 h.1)]
      simp -implicitDefEqProofs only [go_sem, hT, h1, hq]
theorem or_byte (n b : Nat) (hn : n < 16777216) (hb : b < 256) : IntKind.wrap .i64 ((BitVec.ofInt 64 (256 * (n : Int)) ||| BitVec.ofInt 64 (b : Int)).toNat : Int) = ((256 * n + b : Nat) : Int) := by
  have e1 : BitVec.ofInt 64 (256 * (n : Int)) = BitVec.ofNat 64 (256 * n) := by
    rw [show (256 * (n : Int)) = ((256 * n : Nat) : Int) by simp]; exact BitVec.ofInt_natCast _ _
  have e2 : BitVec.ofInt 64 (b : Int) = BitVec.ofNat 64 b := BitVec.ofInt_natCast _ _
  rw [e1, e2, BitVec.toNat_or, BitVec.toNat_ofNat, BitVec.toNat_ofNat]
  rw [Nat.mod_eq_of_lt (show 256 * n < 2 ^ 64 by omega), Nat.mod_eq_of_lt (show b < 2 ^ 64 by omega)]
  have : 256 * n ||| b = 256 * n + b := by
    have := Nat.two_pow_add_eq_or_of_lt (i := 8) (b := b) (show b < 2 ^ 8 by omega) n
    rw [show (2 : Nat) ^ 8 = 256 from rfl] at this
    exact this.symm
  rw [this, wrap_i64 (by omega) (by omega)]
theorem wrap_i32n (n : Nat) (h : n < 4294967296) : IntKind.wrap .i32 (n : Int) = if 2147483647 < n then (n : Int) - 4294967296 else n := by
  have e : IntKind.wrap .i32 (n : Int) = if 2147483648 ≤ (n : Int) % 4294967296 then (n : Int) % 4294967296 - 4294967296 else (n : Int) % 4294967296 := by simp [IntKind.wrap, IntKind.bits, IntKind.signed]
  rw [e]; split <;> split <;> omega
theorem rws_drop {α : Type} {enc : α → List D} {l : List α} {k : Nat} : (rws enc l).drop k = rws enc (l.drop k) := by simp [rws]
theorem rows_len {α : Type} {enc : α → List D} {n : Nat} (h : ∀ a, (enc a).length = n) (l : List α) : ∀ e ∈ rws enc l, e.length = n := fun e he => by
  simp only [rws, List.mem_map] at he
  obtain ⟨a, _, rfl⟩ := he; exact h a
theorem take127 (l : List Ty) (o : Own) (k b : Nat) (hk : k = 0 ∨ k = 1 ∨ k = 2 ∨ k = 4) (hl : k ≤ l.length) :
    RCall Tryz.prog 127 [.int .i64 k, .ptr b 0] (({} : St).set b [.slice o (rws eT l)]) fun d s' => d = .int .i64 (opdB (l.take k)) ∧ s' = (({} : St).set b [.slice .no (rws eT (l.drop k))]) := by
  refine F127.rcall rfl fun T hT => ?_
  simp -implicitDefEqProofs only [go_sem, c127, hT]
  refine ⟨⟨by omega, rows_len eT_len l⟩, ?_⟩
  have hlen : (l.take k).length = k := by rw [List.length_take, Nat.min_eq_left hl]
  have hp : ∀ i : Nat, i ≤ 4 → (256 : Nat) ^ i ≤ 4294967296 := fun i hi => by
    have : i = 0 ∨ i = 1 ∨ i = 2 ∨ i = 3 ∨ i = 4 := by omega
    rcases this with rfl | rfl | rfl | rfl | rfl <;> decide
  have hp3 : ∀ i : Nat, i ≤ 3 → (256 : Nat) ^ i ≤ 16777216 := fun i hi => by
    have : i = 0 ∨ i = 1 ∨ i = 2 ∨ i = 3 := by omega
    rcases this with rfl | rfl | rfl | rfl <;> decide
  have hk4 : k ≤ 4 := by omega
  refine loopL F127 (fun i : Nat => [(0, .int .i64 k), (1, .ptr b 0), (4, .int .i64 (numB (l.take i) 0)), (9, .slice .no (rws eT (l.take k))), (10, .int .i64 k), (11, .int .i64 i)]) (fun _ => ({} : St).set b [.slice o (rws eT l)]) (fun i => i ≤ k) (fun i => k - i) 0 (Nat.zero_le _) ?_ (St.le.refl _) ?_
  · simp -implicitDefEqProofs only [go_sem, hT, Int.ofNat_zero, rws_take, rws_drop, List.drop_zero, hlen]
    all_goals rfl
  clear hT T
  rintro i hi T hT
  by_cases h : i < k
  · have h1 : ((i : Int) < k) = True := by simp; omega
    have hil : i < l.length := by omega
    have hik : i < (l.take k).length := by omega
    have hR : (rws eT (l.take k))[i]?.getD [] = eT l[i] := by rw [rws_at hik]; simp
    have htk : l.take (i + 1) = l.take i ++ [l[i]] := List.take_succ_eq_append_getElem hil
    have hlt := numB_lt (l.take i) 0
    have hpi := hp3 i (by omega)
    rw [List.length_take, Nat.min_eq_left (by omega)] at hlt
    have hns := numB_snoc (l.take i) l[i] 0
    rw [← htk] at hns
    have hb := l[i].isLt
    have hor := or_byte (numB (l.take i) 0) l[i].val (by omega) hb
    generalize l[i] = x at *
    have w0 : IntKind.wrap .i64 ((numB (l.take i) 0 : Int) * 256) = 256 * (numB (l.take i) 0 : Int) := by rw [wrap_i64 (by omega) (by omega)]; omega
    have w2 : IntKind.wrap .i64 (x.val : Int) = x.val := wrap_i64 (by omega) (by omega)
    have w4 : IntKind.wrap .i64 ((i : Int) + 1) = ((i + 1 : Nat) : Int) := by rw [wrap_i64 (by omega) (by omega)]; simp
    have hm : k - (i + 1) < k - i := by omega
    have h28 : (2 : Int) ^ min 8 64 = 256 := by decide
    rw [← hns] at hor
    simp -implicitDefEqProofs only [go_sem, hT, h1, hR, eT, eT_len, hlen, h28, w0, w2, hor]
    refine ⟨by omega, i + 1, h, hm, ?_, St.le.refl _⟩
    exact ⟨congrArg (D.int .i64) hor, by rw [w4]⟩
  · obtain rfl : i = k := by omega
    have h1 : ((i : Int) < i) = False := by simp
    have hlt := numB_lt (l.take i) 0
    have hpi := hp i hk4
    rw [hlen] at hlt
    obtain ⟨n, hn⟩ : ∃ n, numB (l.take i) 0 = n := ⟨_, rfl⟩
    have hod : opdB (l.take i) = if i = 4 ∧ 2147483647 < n then (n : Int) - 4294967296 else n := by rw [opdB, hlen, hn]
    rw [hn] at hlt hT
    rw [hod]
    have hdl : ((i : Int)).toNat = i := by simp
    by_cases h4 : i = 4
    · subst h4
      have c4 : (((4 : Nat) : Int) = 4) = True := by simp
      have hw32 := wrap_i32n n (by omega)
      have hw64 : IntKind.wrap .i64 (if 2147483647 < n then (n : Int) - 4294967296 else n) = if 2147483647 < n then (n : Int) - 4294967296 else n := by
        refine wrap_i64 ?_ ?_ <;> split <;> omega
      simp -implicitDefEqProofs only [go_sem, hT, h1, c4, rws_take, rws_drop, hw32, hw64, set_set]
      refine ⟨⟨by omega, rows_len eT_len l⟩, _, _, DLe.refl _, St.le.refl _, ?_, ?_⟩
      · simp
      · simp [rws_take, rws_drop, rws_len]
    · have hq : ((i : Int) = 4) = False := by simp; omega
      rw [if_neg (fun h => h4 h.1)]
      simp -implicitDefEqProofs only [go_sem, hT, h1, hq, rws_take, rws_drop, set_set]
      refine ⟨⟨by omega, rows_len eT_len l⟩, _, _, DLe.refl _, St.le.refl _, rfl, ?_⟩
      simp [rws_take, rws_drop, rws_len]
def ins0 : Ins := ⟨0, 0, 0, 0⟩
def decIn (b : List Ty) (at' : Nat) (op : Ty) : Ins := ⟨at', op, opdB ((b.drop (at' + 1)).take (wid op.val).1), opdB ((b.drop (at' + 1 + (wid op.val).1)).take (wid op.val).2)⟩
def decF (b : List Ty) (at' : Nat) : Ins × Nat :=
  if b.length < at' then (ins0, 1)
  else if b.length = at' then (ins0, 2)
  else if sizeOp ((b[at']?).getD 0).val = 0 then (ins0, 40)
  else if b.length - at' < sizeOp ((b[at']?).getD 0).val then (ins0, 2)
  else if ((b[at']?).getD 0).val = 2 ∧ 1 < (decIn b at' ((b[at']?).getD 0)).a then (ins0, 5)
  else (decIn b at' ((b[at']?).getD 0), 0)
theorem eIn_zero : [D.int .i64 0, D.int .u8 0, D.int .i64 0, D.int .i64 0] = eIn ins0 := rfl
theorem sizeOp_le (n : Nat) : sizeOp n ≤ 6 := by
  have := wid_le n
  unfold sizeOp; split <;> omega
theorem wid_vals (n : Nat) : ((wid n).1 = 0 ∨ (wid n).1 = 1 ∨ (wid n).1 = 2 ∨ (wid n).1 = 4) ∧ ((wid n).2 = 0 ∨ (wid n).2 = 1) := by
  unfold wid; repeat' split
  all_goals simp
def bYfaD0 := aI @eIn_len (aI @eIn_take (aI @set_set (aI @resM_cell @eIn_zero)))
theorem refDecode19 (b : List Ty) (o : Own) (at' : Nat) (hl : b.length ≤ 140737488355328) (ha : at' ≤ 140737488355328) : PCall Tryz.prog 19 [.slice o (rws eT b), .int .i64 at'] (.tup [.agg (eIn (decF b at').1), .int .i64 (decF b at').2]) := by
  have g0 : ((at' : Int) < 0) = False := by simp
  refine F19.pcall' rfl fun T hT => ?_
  simp -implicitDefEqProofs only [go_sem, c19, hT, bYfaD0]
  intro b4 b6 n1 n2
  by_cases h1 : b.length < at'
  · have q1 : ((b.length : Int) < at') = True := by simp; omega
    rw [decF, if_pos h1]
    simp -implicitDefEqProofs only [go_sem, hT, n1, n2, g0, q1, bYfaD0]
    all_goals exact DLe.refl _
  have q1 : ((b.length : Int) < at') = False := by simp; omega
  by_cases h2 : b.length = at'
  · have q2 : ((at' : Int) = b.length) = True := by simp; omega
    rw [decF, if_neg h1, if_pos h2]
    simp -implicitDefEqProofs only [go_sem, hT, n1, n2, g0, q1, q2, bYfaD0]
    all_goals exact DLe.refl _
  have q2 : ((at' : Int) = b.length) = False := by simp; omega
  have hlt : at' < b.length := by omega
  have hR : (rws eT b)[at']?.getD [] = eT b[at'] := rws_at hlt
  have hget : (b[at']?).getD 0 = b[at'] := by rw [List.getElem?_eq_getElem hlt]; rfl
  have hd : decF b at' = if sizeOp b[at'].val = 0 then (ins0, 40) else if b.length - at' < sizeOp b[at'].val then (ins0, 2) else if b[at'].val = 2 ∧ 1 < (decIn b at' b[at']).a then (ins0, 5) else (decIn b at' b[at'], 0) := by
    rw [decF, if_neg h1, if_neg h2, hget]
  rw [hd]
  clear hd hget
  generalize b[at'] = op at *
  have hsz := sizeOp_le op.val
  have hso : sizeOp op.val ≠ 0 → sizeOp op.val = 1 + (wid op.val).1 + (wid op.val).2 := fun h => by
    unfold sizeOp at h ⊢; split
    · rename_i h'; rw [if_pos h'] at h; exact absurd rfl h
    · rfl
  have hwl := wid_le op.val
  have wS : IntKind.wrap .i64 ((b.length : Int) - at') = (b.length : Int) - at' := wrap_i64 (by omega) (by omega)
  have b0 : (0 : Int) ≤ at' ∧ (at' : Int) < b.length := by omega
  simp -implicitDefEqProofs only [go_sem, hT, eIn_len, eIn_take, set_set, resM_cell, n1, n2, g0, q1, q2, hR, eT, eT_len]
  refine ⟨b0, ?_⟩
  refine callB_pure (refSize74 op) ?_
  by_cases h3 : sizeOp op.val = 0
  · have q3 : ((sizeOp op.val : Int) = 0) = True := by simp; omega
    rw [if_pos h3]
    simp -implicitDefEqProofs only [go_sem, hT, n1, n2, q3, bYfaD0]
    all_goals exact DLe.refl _
  have q3 : ((sizeOp op.val : Int) = 0) = False := by simp; omega
  rw [if_neg h3]
  by_cases h4 : b.length - at' < sizeOp op.val
  · have q4 : ((b.length : Int) - at' < sizeOp op.val) = True := by simp; omega
    rw [if_pos h4]
    simp -implicitDefEqProofs only [go_sem, hT, n1, n2, q3, wS, q4, bYfaD0]
    all_goals exact DLe.refl _
  have q4 : ((b.length : Int) - at' < sizeOp op.val) = False := by simp; omega
  rw [if_neg h4]
  have hs := hso h3
  have w1 : IntKind.wrap .i64 ((at' : Int) + 1) = ((at' + 1 : Nat) : Int) := by rw [wrap_i64 (by omega) (by omega)]; simp
  have w2 : IntKind.wrap .i64 (((at' + 1 : Nat) : Int) + (wid op.val).1) = ((at' + 1 + (wid op.val).1 : Nat) : Int) := by rw [wrap_i64 (by omega) (by omega)]; simp
  have t1 := refTake64 (b.drop (at' + 1)) .no (wid op.val).1 hwl.1 (by rw [List.length_drop]; omega)
  have t2 := refTake64 (b.drop (at' + 1 + (wid op.val).1)) .no (wid op.val).2 (by omega) (by rw [List.length_drop]; omega)
  have b1 : (0 : Int) ≤ ((at' + 1 : Nat) : Int) ∧ ((at' + 1 : Nat) : Int) ≤ b.length := by omega
  have b2 : (0 : Int) ≤ ((at' + 1 + (wid op.val).1 : Nat) : Int) ∧ ((at' + 1 + (wid op.val).1 : Nat) : Int) ≤ b.length := by omega
  obtain ⟨A, hA⟩ : ∃ A, opdB ((b.drop (at' + 1)).take (wid op.val).1) = A := ⟨_, rfl⟩
  obtain ⟨B, hB⟩ : ∃ B, opdB ((b.drop (at' + 1 + (wid op.val).1)).take (wid op.val).2) = B := ⟨_, rfl⟩
  have hdi : decIn b at' op = ⟨at', op, A, B⟩ := by rw [decIn, hA, hB]
  rw [hdi]
  rw [hA] at t1
  rw [hB] at t2
  simp -implicitDefEqProofs only [go_sem, hT, eIn_len, eIn_take, set_set, resM_cell, n1, n2, q3, wS, q4]
  refine callB_pure (wide113 op) ?_
  simp -implicitDefEqProofs only [go_sem, hT, eIn_len, eIn_take, set_set, resM_cell, n1, n2, w1, w2, rws_take, rws_drop, List.take_length]
  refine ⟨⟨by omega, rows_len eT_len b⟩, callB_pure t1 ?_⟩
  simp -implicitDefEqProofs only [go_sem, hT, eIn_len, eIn_take, set_set, resM_cell, n1, n2, w1, w2, rws_take, rws_drop, List.take_length]
  refine ⟨⟨by omega, rows_len eT_len b⟩, callB_pure t2 ?_⟩
  have j2 : (eIn ⟨at', op, A, B⟩)[2]? = some (.int .i64 A) := rfl
  simp -implicitDefEqProofs only [go_sem, hT, eIn_len, eIn_take, set_set, resM_cell, n1, n2]
  intro b11 m1 m2 m3 m4
  have hfold : [D.int .i64 at', D.int .u8 op.val, D.int .i64 A, D.int .i64 B] = eIn ⟨at', op, A, B⟩ := rfl
  by_cases h5 : op.val = 2
  · have q5 : ((op.val : Int) = 2) = True := by simp; omega
    by_cases h6 : 1 < A
    · have q6 : (1 < A) = True := by simp [h6]
      rw [if_pos ⟨h5, h6⟩]
      simp -implicitDefEqProofs only [go_sem, hT, eIn_len, eIn_take, set_set, resM_cell, n1, n2, m1, m2, m3, m4, q5, q6, hfold, j2, gdD]
      all_goals exact DLe.refl _
    · have q6 : (1 < A) = False := by simp; omega
      rw [if_neg (fun h => h6 h.2)]
      simp -implicitDefEqProofs only [go_sem, hT, eIn_len, eIn_take, set_set, resM_cell, n1, n2, m1, m2, m3, m4, q5, q6, hfold, j2, gdD]
      all_goals exact DLe.refl _
  · have q5 : ((op.val : Int) = 2) = False := by simp; omega
    rw [if_neg (fun h => h5 h.1)]
    simp -implicitDefEqProofs only [go_sem, hT, eIn_len, eIn_take, set_set, resM_cell, n1, n2, m1, m2, m3, m4, q5, hfold, j2, gdD]
    all_goals exact DLe.refl _
theorem eIn_drop4 (i : Ins) : (eIn i).drop 4 = [] := rfl
def bYfaE0 := aI @eIn_len (aI @eIn_take (aI @eIn_drop4 (aI @anD (aI @set_set (aI @resM_cell @eIn_zero)))))
def bYfaE1 := aI @eIn_len (aI @eIn_take (aI @eIn_drop4 (aI @anD (aI @set_set (aI @resM_cell @eT_len)))))
def bYfaE2 := aI @eIn_len (aI @eIn_take (aI @eIn_drop4 (aI @anD (aI @set_set (aI @resM_cell @gdD)))))
theorem decode82 (b : List Ty) (o : Own) (at' : Nat) (hl : b.length ≤ 140737488355328) (ha : at' ≤ 140737488355328) : PCall Tryz.prog 82 [.slice o (rws eT b), .int .i64 at'] (.tup [.agg (eIn (decF b at').1), .int .i64 (decF b at').2]) := by
  have g0 : ((at' : Int) < 0) = False := by simp
  refine F82.pcall' rfl fun T hT => ?_
  simp -implicitDefEqProofs only [go_sem, c82, hT, bYfaE0]
  intro b4 b6 n1 n2
  by_cases h1 : b.length < at'
  · have q1 : ((b.length : Int) < at') = True := by simp; omega
    rw [decF, if_pos h1]
    simp -implicitDefEqProofs only [go_sem, hT, n1, n2, g0, q1, bYfaE0]
    all_goals exact DLe.refl _
  have q1 : ((b.length : Int) < at') = False := by simp; omega
  by_cases h2 : b.length = at'
  · have q2 : ((at' : Int) = b.length) = True := by simp; omega
    rw [decF, if_neg h1, if_pos h2]
    simp -implicitDefEqProofs only [go_sem, hT, n1, n2, g0, q1, q2, bYfaE0]
    all_goals exact DLe.refl _
  have q2 : ((at' : Int) = b.length) = False := by simp; omega
  have hlt : at' < b.length := by omega
  have hR : (rws eT b)[at']?.getD [] = eT b[at'] := rws_at hlt
  have hget : (b[at']?).getD 0 = b[at'] := by rw [List.getElem?_eq_getElem hlt]; rfl
  have hd : decF b at' = if sizeOp b[at'].val = 0 then (ins0, 40) else if b.length - at' < sizeOp b[at'].val then (ins0, 2) else if b[at'].val = 2 ∧ 1 < (decIn b at' b[at']).a then (ins0, 5) else (decIn b at' b[at'], 0) := by
    rw [decF, if_neg h1, if_neg h2, hget]
  rw [hd]
  clear hd hget
  generalize b[at'] = op at *
  have hsz := sizeOp_le op.val
  have hso : sizeOp op.val ≠ 0 → sizeOp op.val = 1 + (wid op.val).1 + (wid op.val).2 := fun h => by
    unfold sizeOp at h ⊢; split
    · rename_i h'; rw [if_pos h'] at h; exact absurd rfl h
    · rfl
  have hwl := wid_le op.val
  have wS : IntKind.wrap .i64 ((b.length : Int) - at') = (b.length : Int) - at' := wrap_i64 (by omega) (by omega)
  have b0 : (0 : Int) ≤ at' ∧ (at' : Int) < b.length := by omega
  simp -implicitDefEqProofs only [go_sem, hT, n1, n2, g0, q1, q2, hR, eT, bYfaE1]
  refine ⟨b0, ?_⟩
  refine callB_pure (size125 op) ?_
  by_cases h3 : sizeOp op.val = 0
  · have q3 : ((sizeOp op.val : Int) = 0) = True := by simp; omega
    rw [if_pos h3]
    simp -implicitDefEqProofs only [go_sem, hT, n1, n2, q3, bYfaE0]
    all_goals exact DLe.refl _
  have q3 : ((sizeOp op.val : Int) = 0) = False := by simp; omega
  rw [if_neg h3]
  by_cases h4 : b.length - at' < sizeOp op.val
  · have q4 : ((b.length : Int) - at' < sizeOp op.val) = True := by simp; omega
    rw [if_pos h4]
    simp -implicitDefEqProofs only [go_sem, hT, n1, n2, q3, wS, hR, eT, bYfaE1]
    refine ⟨b0, callB_pure (size125 op) ?_⟩
    simp -implicitDefEqProofs only [go_sem, hT, n1, n2, q4, bYfaE0]
    all_goals exact DLe.refl _
  have q4 : ((b.length : Int) - at' < sizeOp op.val) = False := by simp; omega
  rw [if_neg h4]
  have hs := hso h3
  have w1 : IntKind.wrap .i64 ((at' : Int) + 1) = ((at' + 1 : Nat) : Int) := by rw [wrap_i64 (by omega) (by omega)]; simp
  have b1 : (0 : Int) ≤ ((at' + 1 : Nat) : Int) ∧ ((at' + 1 : Nat) : Int) ≤ b.length := by omega
  obtain ⟨A, hA⟩ : ∃ A, opdB ((b.drop (at' + 1)).take (wid op.val).1) = A := ⟨_, rfl⟩
  obtain ⟨B, hB⟩ : ∃ B, opdB ((b.drop (at' + 1 + (wid op.val).1)).take (wid op.val).2) = B := ⟨_, rfl⟩
  have hdi : decIn b at' op = ⟨at', op, A, B⟩ := by rw [decIn, hA, hB]
  rw [hdi]
  have t1 := fun bb o => take127 (b.drop (at' + 1)) o (wid op.val).1 bb (wid_vals op.val).1 (by rw [List.length_drop]; omega)
  have t2 := fun bb o => take127 (b.drop (at' + 1 + (wid op.val).1)) o (wid op.val).2 bb (by have := (wid_vals op.val).2; omega) (by rw [List.length_drop]; omega)
  rw [List.drop_drop] at t1
  rw [hA] at t1
  rw [hB] at t2
  simp -implicitDefEqProofs only [go_sem, hT, n1, n2, q3, wS, hR, eT, bYfaE1]
  refine ⟨b0, callB_pure (size125 op) ?_⟩
  simp -implicitDefEqProofs only [go_sem, hT, n1, n2, q4, hR, eT, bYfaE1]
  refine ⟨b0, fun b7 m1 m2 m3 m4 => ?_⟩
  simp -implicitDefEqProofs only [go_sem, hT, eIn_len, eIn_take, eIn_drop4, anD, set_set, resM_cell, n1, n2, m1, m2, m3, m4, w1, rws_take, rws_drop, List.take_length]
  refine ⟨⟨by omega, rows_len eT_len b⟩, fun b8 k1 k2 k3 k4 k5 k6 => ?_⟩
  simp -implicitDefEqProofs only [go_sem, hT, n1, n2, m1, m2, m3, m4, k1, k2, k3, k4, k5, k6, bYfaE2]
  refine callB_pure (widths152 op) ?_
  simp -implicitDefEqProofs only [go_sem, hT, eIn_len, eIn_take, eIn_drop4, anD, set_set, resM_cell, n1, n2, m1, m2, m3, m4, k1, k2, k3, k4, k5, k6]
  refine callB_box (b := b8) (by simp [St.set]) rfl (t1 b8 .no) ?_
  simp -implicitDefEqProofs only [go_sem, hT, n1, n2, m1, m2, m3, m4, k1, k2, k3, k4, k5, k6, bYfaE2]
  refine callB_box (b := b8) (by simp [St.set, k1]) rfl (t2 b8 .no) ?_
  simp -implicitDefEqProofs only [go_sem, hT, n1, n2, m1, m2, m3, m4, k1, k2, k3, k4, k5, k6, bYfaE2]
  by_cases h5 : op.val = 2
  · have q5 : ((op.val : Int) = 2) = True := by simp; omega
    by_cases h6 : 1 < A
    · have q6 : (1 < A) = True := by simp [h6]
      rw [if_pos ⟨h5, h6⟩]
      simp -implicitDefEqProofs only [go_sem, hT, n1, n2, m1, m2, m3, m4, k1, k2, k3, k4, k5, k6, q5, q6, bYfaE2]
      all_goals exact DLe.refl _
    · have q6 : (1 < A) = False := by simp; omega
      rw [if_neg (fun h => h6 h.2)]
      simp -implicitDefEqProofs only [go_sem, hT, n1, n2, m1, m2, m3, m4, k1, k2, k3, k4, k5, k6, q5, q6, bYfaE2]
      all_goals exact DLe.refl _
  · have q5 : ((op.val : Int) = 2) = False := by simp; omega
    rw [if_neg (fun h => h5 h.1)]
    simp -implicitDefEqProofs only [go_sem, hT, n1, n2, m1, m2, m3, m4, k1, k2, k3, k4, k5, k6, q5, bYfaE2]
    all_goals exact DLe.refl _
def c31 : AC :=
.seq (.reg false [] [oO 2 (.alloc 52), oO 3 (.assign (kI 0)), oO 4 (.assign (kI 0))])
 (.seq (.reg false [] [oO 10 (.move (tT 0)), oO 11 (cF (.func 72) #[tT 10] #[26]), oO 9 (.move (tT 11)), oO 12 (.extract (tT 9) 0), oO 13 (.extract (tT 9) 1), oO 14 (.extract (tT 9) 2), oO 15 (.extract (tT 9) 3), oO 5 (.assign (tT 12)), oO 6 (.assign (tT 13)), oO 7 (.assign (tT 14)), oO 8 (.assign (tT 15))])
 (.seq (.seq (.reg false [] [oO 16 (.move (tT 8)), oO 17 (.binOp .neq 32 (tT 16) (kI 0) 32)])
 (.cond (tT 17) (.seq (.reg false [] [oO 18 (.build 52 #[]), oO 19 (.move (tT 7)), oO 20 (.move (tT 8)), oN (.store 52 (tT 2) (tT 18)), oO 3 (.assign (tT 19)), oO 4 (.assign (tT 20))])
 (.ret))
 (.skip)))
 (.seq (.reg false [] [oO 21 (.move (tT 0)), oO 22 (.indexAddr 26 (tT 21) (kI 3)), oO 23 (.load 5 (tT 22)), oO 24 (.convert 5 3 (tT 23)), oO 25 (.move (tT 5)), oO 26 (.build 52 #[(0, .tmp 24), (1, .tmp 25)]), oN (.store 52 (tT 2) (tT 26)), oO 3 (.assign (kI 0)), oO 4 (.assign (kI 0))])
 .ret)))
theorem F31 : Fun1 Tryz.prog 31 27 c31 [.cell 2 52, .tmp 3, .tmp 4] := Fun1.mk' AL.Tryz.follows_mixed Tryz.func31 rfl (by decide +kernel) Tryz.ntmps31 rfl (by kernel_rfl) rfl
def c72 : AC :=
.seq (.reg false [] [oO 2 (.assign (.const (.slice none 0 0))), oO 3 (.assign (.const (.slice none 0 0))), oO 4 (.assign (kI 0)), oO 5 (.assign (kI 0))])
 (.seq (.reg false [] [oO 18 (.move (tT 0)), oO 19 (cF (.func 116) #[tT 18] #[26]), oO 17 (.move (tT 19)), oO 20 (.extract (tT 17) 0), oO 21 (.extract (tT 17) 1), oO 22 (.extract (tT 17) 2), oO 23 (.extract (tT 17) 3), oO 6 (.assign (tT 20)), oO 7 (.assign (tT 21)), oO 8 (.assign (tT 22)), oO 9 (.assign (tT 23))])
 (.seq (.seq (.reg false [] [oO 24 (.move (tT 9)), oO 25 (.binOp .neq 32 (tT 24) (kI 0) 32)])
 (.cond (tT 25) (.seq (.reg false [] [oO 26 (.move (tT 8)), oO 27 (.move (tT 9)), oO 2 (.assign (.const (.slice none 0 0))), oO 3 (.assign (.const (.slice none 0 0))), oO 4 (.assign (tT 26)), oO 5 (.assign (tT 27))])
 (.ret))
 (.skip)))
 (.seq (.reg false [] [oO 10 (.assign (.const (.slice none 0 0)))])
 (.seq (.reg false [] [oO 11 (.assign (.const (.slice none 0 0)))])
 (.seq (.reg false [] [oO 8 (.assign (kI 6))])
 (.seq (.reg false [] [oO 12 (.assign (kI (-1)))])
 (.seq (.seq (.reg false [] [oO 13 (.assign (kI 0))])
 (.block 0 (.loop (.seq (.seq (.reg false [] [oO 28 (.move (tT 13)), oO 29 (.move (tT 7)), oO 30 (.binOp .lss 3 (tT 28) (tT 29) 3)])
 (.cond (tT 30) (.skip)
 (.exit 0)))
 (.seq (.block 1 (.seq (.reg false [] [oO 34 (.move (tT 0)), oO 35 (.move (tT 6)), oO 36 (.move (tT 8)), oO 37 (.move (tT 12)), oO 38 (cF (.func 117) #[tT 34, tT 35, tT 36, tT 37] #[26, 3, 3, 3]), oO 33 (.move (tT 38)), oO 39 (.extract (tT 33) 0), oO 40 (.extract (tT 33) 1), oO 41 (.extract (tT 33) 2), oO 14 (.alloc 86), oN (.store 86 (tT 14) (tT 39)), oO 15 (.assign (tT 40)), oO 16 (.assign (tT 41))])
 (.seq (.seq (.reg false [] [oO 42 (.move (tT 16)), oO 43 (.binOp .neq 32 (tT 42) (kI 0) 32)])
 (.cond (tT 43) (.seq (.reg false [] [oO 44 (.move (tT 10)), oO 45 (.move (tT 11)), oO 46 (.move (tT 15)), oO 47 (.move (tT 16)), oO 2 (.assign (tT 44)), oO 3 (.assign (tT 45)), oO 4 (.assign (tT 46)), oO 5 (.assign (tT 47))])
 (.ret))
 (.skip)))
 (.seq (.reg false [] [oO 48 (.move (tT 10)), oO 49 (.load 86 (tT 14)), oO 50 (.buildSlice 50 1 #[(0, .tmp 49)]), oO 51 (cB .append #[tT 48, tT 50] #[50, 50]), oO 10 (.assign (tT 51))])
 (.seq (.reg false [] [oO 52 (.move (tT 11)), oO 53 (.move (tT 15)), oO 54 (.buildSlice 29 1 #[(0, .tmp 53)]), oO 55 (cB .append #[tT 52, tT 54] #[29, 29]), oO 11 (.assign (tT 55))])
 (.seq (.reg false [] [oO 56 (.move (tT 15)), oO 8 (.assign (tT 56))])
 (.reg false [] [oO 57 (.fieldAddr 86 (tT 14) 0), oO 58 (.load 3 (tT 57)), oO 12 (.assign (tT 58))])))))))
 (.reg false [] [oO 31 (.move (tT 13)), oO 32 (.binOp .add 3 (tT 31) (kI 1) 3), oO 13 (.assign (tT 32))]))))))
 (.seq (.seq (.reg false [] [oO 59 (.move (tT 8)), oO 60 (.move (tT 0)), oO 61 (cB .len #[tT 60] #[26]), oO 62 (.binOp .lss 3 (tT 59) (tT 61) 3)])
 (.cond (tT 62) (.seq (.reg false [] [oO 63 (.move (tT 10)), oO 64 (.move (tT 11)), oO 65 (.move (tT 8)), oO 2 (.assign (tT 63)), oO 3 (.assign (tT 64)), oO 4 (.assign (tT 65)), oO 5 (.assign (kI 3))])
 (.ret))
 (.skip)))
 (.seq (.reg false [] [oO 66 (.move (tT 10)), oO 67 (.move (tT 11)), oO 2 (.assign (tT 66)), oO 3 (.assign (tT 67)), oO 4 (.assign (kI 0)), oO 5 (.assign (kI 0))])
 .ret)))))))))
theorem F72 : Fun1 Tryz.prog 72 68 c72 [.tmp 2, .tmp 3, .tmp 4, .tmp 5] := Fun1.mk' AL.Tryz.follows_mixed Tryz.func72 rfl (by decide +kernel) Tryz.ntmps72 rfl (by kernel_rfl) rfl
def c116 : AC :=
.seq (.reg false [] [oO 2 (.assign (kI 0)), oO 3 (.assign (kI 0)), oO 4 (.assign (kI 0)), oO 5 (.assign (kI 0))])
 (.seq (.reg false [] [oO 9 (.buildSlice 26 3 #[(0, kB 112), (1, kB 118), (2, kB 1)]), oO 6 (.assign (tT 9))])
 (.seq (.seq (.reg false [] [oO 7 (.assign (kI 0))])
 (.block 0 (.loop (.seq (.seq (.reg false [] [oO 10 (.move (tT 7)), oO 11 (.binOp .lss 3 (tT 10) (kI 3) 3)])
 (.cond (tT 11) (.skip)
 (.exit 0)))
 (.seq (.block 1 (.seq (.seq (.reg false [] [oO 14 (.move (tT 7)), oO 15 (.move (tT 0)), oO 16 (cB .len #[tT 15] #[26]), oO 17 (.binOp .geq 3 (tT 14) (tT 16) 3)])
 (.cond (tT 17) (.seq (.reg false [] [oO 18 (.move (tT 0)), oO 19 (cB .len #[tT 18] #[26]), oO 2 (.assign (kI 0)), oO 3 (.assign (kI 0)), oO 4 (.assign (tT 19)), oO 5 (.assign (kI 2))])
 (.ret))
 (.skip)))
 (.seq (.reg true [] [⟨⟨some 20, .move (tT 0), none⟩, false, true⟩, ⟨⟨some 21, .move (tT 7), none⟩, false, true⟩, ⟨⟨some 22, .indexAddr 26 (tT 20) (tT 21), none⟩, false, true⟩, ⟨⟨some 23, .load 5 (tT 22), none⟩, false, true⟩, ⟨⟨some 24, .move (tT 6), none⟩, false, true⟩, oO 25 (.move (tT 7)), oO 26 (.indexAddr 26 (tT 24) (tT 25)), oO 27 (.load 5 (tT 26)), oO 28 (.binOp .neq 5 (tT 23) (tT 27) 5)])
 (.cond (tT 28) (.seq (.reg false [] [oO 29 (.move (tT 7)), oO 2 (.assign (kI 0)), oO 3 (.assign (kI 0)), oO 4 (.assign (tT 29)), oO 5 (.assign (kI 64))])
 (.ret))
 (.skip)))))
 (.reg false [] [oO 12 (.move (tT 7)), oO 13 (.binOp .add 3 (tT 12) (kI 1) 3), oO 7 (.assign (tT 13))]))))))
 (.seq (.seq (.reg false [] [oO 30 (.move (tT 0)), oO 31 (cB .len #[tT 30] #[26]), oO 32 (.binOp .lss 3 (tT 31) (kI 6) 3)])
 (.cond (tT 32) (.seq (.reg false [] [oO 33 (.move (tT 0)), oO 34 (cB .len #[tT 33] #[26]), oO 2 (.assign (kI 0)), oO 3 (.assign (kI 0)), oO 4 (.assign (tT 34)), oO 5 (.assign (kI 2))])
 (.ret))
 (.skip)))
 (.seq (.seq (.reg false [] [oO 35 (.move (tT 0)), oO 36 (.indexAddr 26 (tT 35) (kI 3)), oO 37 (.load 5 (tT 36)), oO 38 (.binOp .gtr 5 (tT 37) (kB 16) 5)])
 (.cond (tT 38) (.seq (.reg false [] [oO 2 (.assign (kI 0)), oO 3 (.assign (kI 0)), oO 4 (.assign (kI 3)), oO 5 (.assign (kI 5))])
 (.ret))
 (.skip)))
 (.seq (.reg true [] [⟨⟨some 39, .move (tT 0), none⟩, false, true⟩, ⟨⟨some 40, .indexAddr 26 (tT 39) (kI 4), none⟩, false, true⟩, ⟨⟨some 41, .load 5 (tT 40), none⟩, false, true⟩, ⟨⟨some 42, .convert 5 3 (tT 41), none⟩, false, true⟩, ⟨⟨some 43, .binOp .mul 3 (kI 256) (tT 42) 3, none⟩, false, true⟩, oO 44 (.move (tT 0)), oO 45 (.indexAddr 26 (tT 44) (kI 5)), oO 46 (.load 5 (tT 45)), oO 47 (.convert 5 3 (tT 46)), oO 48 (.binOp .add 3 (tT 43) (tT 47) 3), oO 8 (.assign (tT 48))])
 (.seq (.seq (.reg false [] [oO 49 (.move (tT 8)), oO 50 (.binOp .gtr 3 (tT 49) (kI 4096) 3)])
 (.cond (tT 50) (.seq (.reg false [] [oO 2 (.assign (kI 0)), oO 3 (.assign (kI 0)), oO 4 (.assign (kI 4)), oO 5 (.assign (kI 4))])
 (.ret))
 (.skip)))
 (.seq (.reg false [] [oO 51 (.move (tT 0)), oO 52 (.indexAddr 26 (tT 51) (kI 3)), oO 53 (.load 5 (tT 52)), oO 54 (.convert 5 3 (tT 53)), oO 55 (.move (tT 8)), oO 2 (.assign (tT 54)), oO 3 (.assign (tT 55)), oO 4 (.assign (kI 0)), oO 5 (.assign (kI 0))])
 .ret)))))))
theorem F116 : Fun1 Tryz.prog 116 56 c116 [.tmp 2, .tmp 3, .tmp 4, .tmp 5] := Fun1.mk' AL.Tryz.follows_mixed Tryz.func116 rfl (by decide +kernel) Tryz.ntmps116 rfl (by kernel_rfl) rfl
def c117 : AC :=
.seq (.reg false [] [oO 8 (.alloc 86), oO 9 (.assign (kI 0)), oO 10 (.assign (kI 0))])
 (.seq (.reg false [] [oO 11 (.alloc 86)])
 (.seq (.seq (.reg false [] [oO 18 (.move (tT 2)), oO 19 (.binOp .add 3 (tT 18) (kI 1) 3), oO 20 (.move (tT 0)), oO 21 (cB .len #[tT 20] #[26]), oO 22 (.binOp .geq 3 (tT 19) (tT 21) 3)])
 (.cond (tT 22) (.seq (.reg false [] [oO 23 (.load 86 (tT 11)), oO 24 (.move (tT 0)), oO 25 (cB .len #[tT 24] #[26]), oN (.store 86 (tT 8) (tT 23)), oO 9 (.assign (tT 25)), oO 10 (.assign (kI 2))])
 (.ret))
 (.skip)))
 (.seq (.reg true [] [⟨⟨some 26, .move (tT 0), none⟩, false, true⟩, ⟨⟨some 27, .move (tT 2), none⟩, false, true⟩, ⟨⟨some 28, .indexAddr 26 (tT 26) (tT 27), none⟩, false, true⟩, ⟨⟨some 29, .load 5 (tT 28), none⟩, false, true⟩, ⟨⟨some 30, .convert 5 3 (tT 29), none⟩, false, true⟩, ⟨⟨some 31, .binOp .mul 3 (kI 256) (tT 30) 3, none⟩, false, true⟩, ⟨⟨some 32, .move (tT 0), none⟩, false, true⟩, oO 33 (.move (tT 2)), oO 34 (.binOp .add 3 (tT 33) (kI 1) 3), oO 35 (.indexAddr 26 (tT 32) (tT 34)), oO 36 (.load 5 (tT 35)), oO 37 (.convert 5 3 (tT 36)), oO 38 (.binOp .add 3 (tT 31) (tT 37) 3), oO 12 (.assign (tT 38))])
 (.seq (.reg false [] [oO 39 (.move (tT 12)), oO 40 (.move (tT 3)), oO 41 (cF (.func 108) #[tT 39, tT 40] #[3, 3]), oO 13 (.assign (tT 41))])
 (.seq (.seq (.reg false [] [oO 42 (.move (tT 13)), oO 43 (.binOp .neq 32 (tT 42) (kI 0) 32)])
 (.cond (tT 43) (.seq (.reg false [] [oO 44 (.load 86 (tT 11)), oO 45 (.move (tT 2)), oO 46 (.move (tT 13)), oN (.store 86 (tT 8) (tT 44)), oO 9 (.assign (tT 45)), oO 10 (.assign (tT 46))])
 (.ret))
 (.skip)))
 (.seq (.seq (.reg false [] [oO 47 (.move (tT 2)), oO 48 (.binOp .add 3 (tT 47) (kI 2) 3), oO 49 (.move (tT 0)), oO 50 (cB .len #[tT 49] #[26]), oO 51 (.binOp .geq 3 (tT 48) (tT 50) 3)])
 (.cond (tT 51) (.seq (.reg false [] [oO 52 (.load 86 (tT 11)), oO 53 (.move (tT 0)), oO 54 (cB .len #[tT 53] #[26]), oN (.store 86 (tT 8) (tT 52)), oO 9 (.assign (tT 54)), oO 10 (.assign (kI 2))])
 (.ret))
 (.skip)))
 (.seq (.seq (.reg false [] [oO 55 (.move (tT 0)), oO 56 (.move (tT 2)), oO 57 (.binOp .add 3 (tT 56) (kI 2) 3), oO 58 (.indexAddr 26 (tT 55) (tT 57)), oO 59 (.load 5 (tT 58)), oO 60 (.binOp .gtr 5 (tT 59) (kB 1) 5)])
 (.cond (tT 60) (.seq (.reg false [] [oO 61 (.load 86 (tT 11)), oO 62 (.move (tT 2)), oO 63 (.binOp .add 3 (tT 62) (kI 2) 3), oN (.store 86 (tT 8) (tT 61)), oO 9 (.assign (tT 63)), oO 10 (.assign (kI 63))])
 (.ret))
 (.skip)))
 (.seq (.seq (.reg false [] [oO 64 (.move (tT 0)), oO 65 (.move (tT 2)), oO 66 (.binOp .add 3 (tT 65) (kI 2) 3), oO 67 (.indexAddr 26 (tT 64) (tT 66)), oO 68 (.load 5 (tT 67)), oO 69 (.binOp .eql 5 (tT 68) (kB 0) 5)])
 (.cond (tT 69) (.seq (.reg false [] [oO 70 (.move (tT 12)), oO 71 (.build 86 #[(0, .tmp 70), (1, .const (.bool true))]), oO 72 (.move (tT 2)), oO 73 (.binOp .add 3 (tT 72) (kI 3) 3), oN (.store 86 (tT 8) (tT 71)), oO 9 (.assign (tT 73)), oO 10 (.assign (kI 0))])
 (.ret))
 (.skip)))
 (.seq (.seq (.reg false [] [oO 74 (.move (tT 2)), oO 75 (.binOp .add 3 (tT 74) (kI 3) 3), oO 76 (.move (tT 0)), oO 77 (cB .len #[tT 76] #[26]), oO 78 (.binOp .geq 3 (tT 75) (tT 77) 3)])
 (.cond (tT 78) (.seq (.reg false [] [oO 79 (.load 86 (tT 11)), oO 80 (.move (tT 0)), oO 81 (cB .len #[tT 80] #[26]), oN (.store 86 (tT 8) (tT 79)), oO 9 (.assign (tT 81)), oO 10 (.assign (kI 2))])
 (.ret))
 (.skip)))
 (.seq (.reg false [] [oO 82 (.move (tT 0)), oO 83 (.move (tT 2)), oO 84 (.binOp .add 3 (tT 83) (kI 3) 3), oO 85 (.indexAddr 26 (tT 82) (tT 84)), oO 86 (.load 5 (tT 85)), oO 87 (.convert 5 3 (tT 86)), oO 14 (.assign (tT 87))])
 (.seq (.seq (.reg false [] [oO 88 (.move (tT 14)), oO 89 (.move (tT 1)), oO 90 (.binOp .sub 3 (kI 24) (tT 89) 3), oO 91 (.binOp .gtr 3 (tT 88) (tT 90) 3)])
 (.cond (tT 91) (.seq (.reg false [] [oO 92 (.load 86 (tT 11)), oO 93 (.move (tT 2)), oO 94 (.binOp .add 3 (tT 93) (kI 3) 3), oN (.store 86 (tT 8) (tT 92)), oO 9 (.assign (tT 94)), oO 10 (.assign (kI 65))])
 (.ret))
 (.skip)))
 (.seq (.reg false [] [oO 95 (.move (tT 1)), oO 96 (.move (tT 14)), oO 97 (.build 84 #[(0, .tmp 95), (1, .tmp 96)]), oO 15 (.alloc 84), oN (.store 84 (tT 15) (tT 97))])
 (.seq (.seq (.reg false [] [oO 16 (.assign (kI 0))])
 (.block 0 (.loop (.seq (.seq (.reg false [] [oO 98 (.move (tT 16)), oO 99 (.move (tT 1)), oO 100 (.move (tT 14)), oO 101 (.binOp .add 3 (tT 99) (tT 100) 3), oO 102 (.binOp .lss 3 (tT 98) (tT 101) 3)])
 (.cond (tT 102) (.skip)
 (.exit 0)))
 (.seq (.block 1 (.seq (.reg false [] [oO 105 (.move (tT 2)), oO 106 (.binOp .add 3 (tT 105) (kI 4) 3), oO 107 (.move (tT 16)), oO 108 (.binOp .add 3 (tT 106) (tT 107) 3), oO 17 (.assign (tT 108))])
 (.seq (.seq (.reg false [] [oO 109 (.move (tT 17)), oO 110 (.move (tT 0)), oO 111 (cB .len #[tT 110] #[26]), oO 112 (.binOp .geq 3 (tT 109) (tT 111) 3)])
 (.cond (tT 112) (.seq (.reg false [] [oO 113 (.load 86 (tT 11)), oO 114 (.move (tT 0)), oO 115 (cB .len #[tT 114] #[26]), oN (.store 86 (tT 8) (tT 113)), oO 9 (.assign (tT 115)), oO 10 (.assign (kI 2))])
 (.ret))
 (.skip)))
 (.seq (.seq (.reg false [] [oO 116 (.move (tT 0)), oO 117 (.move (tT 17)), oO 118 (.indexAddr 26 (tT 116) (tT 117)), oO 119 (.load 5 (tT 118)), oO 120 (cF (.func 149) #[tT 119] #[81]), oO 121 (.unOp .not 4 (tT 120))])
 (.cond (tT 121) (.seq (.reg false [] [oO 122 (.load 86 (tT 11)), oO 123 (.move (tT 17)), oN (.store 86 (tT 8) (tT 122)), oO 9 (.assign (tT 123)), oO 10 (.assign (kI 62))])
 (.ret))
 (.skip)))
 (.reg false [] [oO 124 (.move (tT 16)), oO 125 (.move (tT 0)), oO 126 (.move (tT 17)), oO 127 (.indexAddr 26 (tT 125) (tT 126)), oO 128 (.load 5 (tT 127)), oO 129 (.fieldAddr 84 (tT 15) 2), oO 130 (.indexAddr 82 (tT 129) (tT 124)), oN (.store 81 (tT 130) (tT 128))])))))
 (.reg false [] [oO 103 (.move (tT 16)), oO 104 (.binOp .add 3 (tT 103) (kI 1) 3), oO 16 (.assign (tT 104))]))))))
 (.seq (.reg false [] [oO 131 (.move (tT 12)), oO 132 (.load 84 (tT 15)), oO 133 (.build 86 #[(0, .tmp 131), (2, .tmp 132)]), oO 134 (.move (tT 2)), oO 135 (.binOp .add 3 (tT 134) (kI 4) 3), oO 136 (.move (tT 1)), oO 137 (.binOp .add 3 (tT 135) (tT 136) 3), oO 138 (.move (tT 14)), oO 139 (.binOp .add 3 (tT 137) (tT 138) 3), oN (.store 86 (tT 8) (tT 133)), oO 9 (.assign (tT 139)), oO 10 (.assign (kI 0))])
 .ret))))))))))))))
theorem F117 : Fun1 Tryz.prog 117 140 c117 [.cell 8 86, .tmp 9, .tmp 10] := Fun1.mk' AL.Tryz.follows_mixed Tryz.func117 rfl (by decide +kernel) Tryz.ntmps117 rfl (by kernel_rfl) rfl
def c108 : AC :=
.seq (.reg false [] [oO 4 (.assign (kI 0))])
 (.seq (.seq (.reg false [] [oO 5 (.move (tT 0)), oO 6 (.binOp .lss 3 (tT 5) (kI 0) 3), oO 7 (.move (tT 6)), oG 8 (.move (tT 0)) 7 false, oG 9 (.binOp .gtr 3 (tT 8) (kI 4095) 3) 7 false, oO 10 (.pick (tT 7) (.const (.bool true)) (tT 9))])
 (.cond (tT 10) (.seq (.reg false [] [oO 4 (.assign (kI 5))])
 (.ret))
 (.skip)))
 (.seq (.seq (.reg false [] [oO 11 (.move (tT 0)), oO 12 (.move (tT 1)), oO 13 (.binOp .eql 3 (tT 11) (tT 12) 3)])
 (.cond (tT 13) (.seq (.reg false [] [oO 4 (.assign (kI 61))])
 (.ret))
 (.skip)))
 (.seq (.seq (.reg false [] [oO 14 (.move (tT 0)), oO 15 (.move (tT 1)), oO 16 (.binOp .lss 3 (tT 14) (tT 15) 3)])
 (.cond (tT 16) (.seq (.reg false [] [oO 4 (.assign (kI 60))])
 (.ret))
 (.skip)))
 (.seq (.reg false [] [oO 4 (.assign (kI 0))])
 .ret))))
theorem F108 : Fun1 Tryz.prog 108 17 c108 [.tmp 4] := Fun1.mk' AL.Tryz.follows_mixed Tryz.func108 rfl (by decide +kernel) Tryz.ntmps108 rfl (by kernel_rfl) rfl
def c149 : AC :=
.seq (.reg false [] [oO 2 (.assign (.const (.bool false)))])
 (.seq (.reg false [] [oO 3 (.move (tT 0)), oO 4 (.binOp .leq 81 (tT 3) (kB 5) 81), oO 5 (.move (tT 4)), oG 6 (.move (tT 0)) 5 false, oG 7 (.binOp .geq 81 (tT 6) (kB 16) 81) 5 false, oG 8 (.move (tT 7)) 5 false, oG 9 (.move (tT 0)) 8 true, oG 10 (.binOp .leq 81 (tT 9) (kB 47) 81) 8 true, oG 11 (.pick (tT 8) (tT 10) (.const (.bool false))) 5 false, oO 12 (.pick (tT 5) (.const (.bool true)) (tT 11)), oO 2 (.assign (tT 12))])
 .ret)
theorem F149 : Fun1 Tryz.prog 149 13 c149 [.tmp 2] := Fun1.mk' AL.Tryz.follows_mixed Tryz.func149 rfl (by decide +kernel) Tryz.ntmps149 rfl (by kernel_rfl) rfl
def c134 : AC :=
.seq (.reg false [] [oO 2 (.assign (.const (.pointer none))), oO 3 (.assign (kI 0)), oO 4 (.assign (kI 0))])
 (.seq (.seq (.reg false [] [oO 8 (.buildSlice 26 3 #[(0, kB 112), (1, kB 118), (2, kB 1)]), oO 9 (cB .len #[tT 8] #[26]), oO 10 (.move (kI 0))])
 (.block 0 (.loop (.seq (.reg false [] [oO 11 (.binOp .lss 3 (tT 10) (tT 9) 3)])
 (.seq (.cond (tT 11) (.skip)
 (.exit 0))
 (.seq (.block 1 (.seq (.reg false [] [oO 12 (.move (tT 10)), oO 13 (.indexAddr 26 (tT 8) (tT 10)), oO 14 (.load 5 (tT 13)), oO 5 (.assign (tT 12)), oO 6 (.assign (tT 14))])
 (.seq (.seq (.reg false [] [oO 15 (.move (tT 5)), oO 16 (.move (tT 0)), oO 17 (cB .len #[tT 16] #[26]), oO 18 (.binOp .eql 3 (tT 15) (tT 17) 3)])
 (.cond (tT 18) (.seq (.reg false [] [oO 19 (.move (tT 5)), oO 2 (.assign (.const (.pointer none))), oO 3 (.assign (tT 19)), oO 4 (.assign (kI 2))])
 (.ret))
 (.skip)))
 (.seq (.reg false [] [oO 20 (.move (tT 0)), oO 21 (.move (tT 5)), oO 22 (.indexAddr 26 (tT 20) (tT 21)), oO 23 (.load 5 (tT 22)), oO 24 (.move (tT 6)), oO 25 (.binOp .neq 5 (tT 23) (tT 24) 5)])
 (.cond (tT 25) (.seq (.reg false [] [oO 26 (.move (tT 5)), oO 2 (.assign (.const (.pointer none))), oO 3 (.assign (tT 26)), oO 4 (.assign (kI 64))])
 (.ret))
 (.skip))))))
 (.reg false [] [oO 27 (.binOp .add 3 (tT 10) (kI 1) 3), oO 10 (.move (tT 27))])))))))
 (.seq (.block 2 (.seq (.reg false [] [oO 29 (.move (tT 0)), oO 30 (cB .len #[tT 29] #[26]), oO 31 (.binOp .lss 3 (tT 30) (kI 6) 3), oO 28 (.assign (tT 31))])
 (.cond (tT 28) (.seq (.reg false [] [oO 32 (.move (tT 0)), oO 33 (cB .len #[tT 32] #[26]), oO 2 (.assign (.const (.pointer none))), oO 3 (.assign (tT 33)), oO 4 (.assign (kI 2))])
 (.ret))
 (.seq (.reg false [] [oO 35 (.move (tT 0)), oO 36 (.indexAddr 26 (tT 35) (kI 3)), oO 37 (.load 5 (tT 36)), oO 38 (.binOp .gtr 5 (tT 37) (kB 16) 5), oO 34 (.assign (tT 38))])
 (.cond (tT 34) (.seq (.reg false [] [oO 2 (.assign (.const (.pointer none))), oO 3 (.assign (kI 3)), oO 4 (.assign (kI 5))])
 (.ret))
 (.seq (.reg false [] [oO 40 (.move (tT 0)), oO 41 (.slice 26 (tT 40) (some (kI 4)) none none), oO 42 (cF (.func 167) #[tT 41] #[26]), oO 43 (.binOp .gtr 3 (tT 42) (kI 4096) 3), oO 39 (.assign (tT 43))])
 (.cond (tT 39) (.seq (.reg false [] [oO 2 (.assign (.const (.pointer none))), oO 3 (.assign (kI 4)), oO 4 (.assign (kI 4))])
 (.ret))
 (.skip))))))))
 (.seq (.reg false [] [oO 44 (.move (tT 0)), oO 45 (.slice 26 (tT 44) (some (kI 4)) none none), oO 46 (cF (.func 167) #[tT 45] #[26]), oO 7 (.assign (tT 46))])
 (.seq (.reg false [] [oO 47 (.move (tT 0)), oO 48 (.move (tT 7)), oO 49 (.move (tT 7)), oO 50 (.build 199 #[(0, .tmp 47), (1, kI 6), (2, kI (-1)), (3, .tmp 48), (4, .tmp 49), (7, .const (.bool true))]), oO 51 (.box 199 (tT 50)), oO 2 (.assign (tT 51)), oO 3 (.assign (kI 0)), oO 4 (.assign (kI 0))])
 .ret))))
theorem F134 : Fun1 Tryz.prog 134 52 c134 [.tmp 2, .tmp 3, .tmp 4] := Fun1.mk' AL.Tryz.follows_mixed Tryz.func134 rfl (by decide +kernel) Tryz.ntmps134 rfl (by kernel_rfl) rfl
def c167 : AC :=
.seq (.reg false [] [oO 2 (.assign (kI 0))])
 (.seq (.reg true [] [⟨⟨some 3, .move (tT 0), none⟩, false, true⟩, ⟨⟨some 4, .indexAddr 26 (tT 3) (kI 0), none⟩, false, true⟩, ⟨⟨some 5, .load 5 (tT 4), none⟩, false, true⟩, ⟨⟨some 6, .convert 5 3 (tT 5), none⟩, false, true⟩, ⟨⟨some 7, .binOp .shl 3 (tT 6) (.const (.int .u64 8)) 67, none⟩, false, true⟩, oO 8 (.move (tT 0)), oO 9 (.indexAddr 26 (tT 8) (kI 1)), oO 10 (.load 5 (tT 9)), oO 11 (.convert 5 3 (tT 10)), oO 12 (.binOp .or 3 (tT 7) (tT 11) 3), oO 2 (.assign (tT 12))])
 .ret)
theorem F167 : Fun1 Tryz.prog 167 13 c167 [.tmp 2] := Fun1.mk' AL.Tryz.follows_mixed Tryz.func167 rfl (by decide +kernel) Tryz.ntmps167 rfl (by kernel_rfl) rfl
def c135 : AC :=
.seq (.reg false [] [oO 2 (.assign (kI 0))])
 (.seq (.seq (.reg false [] [oO 3 (.move (tT 0)), oO 4 (.binOp .eql 192 (tT 3) (.const (.pointer none)) 192), oO 5 (.move (tT 4)), oG 6 (.move (tT 0)) 5 false, oG 7 (.nilCheck (tT 6)) 5 false, oG 8 (.fieldAddr 199 (tT 7) 7) 5 false, oG 9 (.load 4 (tT 8)) 5 false, oG 10 (.unOp .not 4 (tT 9)) 5 false, oO 11 (.pick (tT 5) (.const (.bool true)) (tT 10))])
 (.cond (tT 11) (.seq (.reg false [] [oO 2 (.assign (kI 0))])
 (.ret))
 (.skip)))
 (.seq (.reg false [] [oO 12 (.move (tT 0)), oO 13 (.nilCheck (tT 12)), oO 14 (.fieldAddr 199 (tT 13) 0), oO 15 (.load 26 (tT 14)), oO 16 (.indexAddr 26 (tT 15) (kI 3)), oO 17 (.load 5 (tT 16)), oO 18 (.convert 5 3 (tT 17)), oO 2 (.assign (tT 18))])
 .ret))
theorem F135 : Fun1 Tryz.prog 135 19 c135 [.tmp 2] := Fun1.mk' AL.Tryz.follows_mixed Tryz.func135 rfl (by decide +kernel) Tryz.ntmps135 rfl (by kernel_rfl) rfl
def c165 : AC :=
.seq (.reg false [] [oO 4 (.assign (kI 0))])
 (.seq (.block 0 (.seq (.reg false [] [oO 6 (.move (tT 1)), oO 7 (.binOp .lss 3 (tT 6) (kI 0) 3), oO 8 (.move (tT 7)), oG 9 (.move (tT 1)) 8 false, oG 10 (.binOp .geq 3 (tT 9) (kI 4096) 3) 8 false, oO 11 (.pick (tT 8) (.const (.bool true)) (tT 10)), oO 5 (.assign (tT 11))])
 (.cond (tT 5) (.seq (.reg false [] [oO 4 (.assign (kI 5))])
 (.ret))
 (.seq (.reg false [] [oO 13 (.move (tT 1)), oO 14 (.move (tT 0)), oO 15 (.binOp .eql 3 (tT 13) (tT 14) 3), oO 12 (.assign (tT 15))])
 (.cond (tT 12) (.seq (.reg false [] [oO 4 (.assign (kI 61))])
 (.ret))
 (.seq (.reg false [] [oO 17 (.move (tT 1)), oO 18 (.move (tT 0)), oO 19 (.binOp .lss 3 (tT 17) (tT 18) 3), oO 16 (.assign (tT 19))])
 (.cond (tT 16) (.seq (.reg false [] [oO 4 (.assign (kI 60))])
 (.ret))
 (.skip))))))))
 (.seq (.reg false [] [oO 4 (.assign (kI 0))])
 .ret))
theorem F165 : Fun1 Tryz.prog 165 20 c165 [.tmp 4] := Fun1.mk' AL.Tryz.follows_mixed Tryz.func165 rfl (by decide +kernel) Tryz.ntmps165 rfl (by kernel_rfl) rfl
def c204 : AC :=
.seq (.reg false [] [oO 2 (.assign (.const (.bool false)))])
 (.seq (.reg false [] [oO 3 (.move (tT 0)), oO 4 (.binOp .leq 81 (tT 3) (kB 5) 81), oO 5 (.move (tT 4)), oG 6 (.move (tT 0)) 5 false, oG 7 (.binOp .geq 81 (tT 6) (kB 16) 81) 5 false, oG 8 (.move (tT 7)) 5 false, oG 9 (.move (tT 0)) 8 true, oG 10 (.binOp .lss 81 (tT 9) (kB 48) 81) 8 true, oG 11 (.pick (tT 8) (tT 10) (.const (.bool false))) 5 false, oO 12 (.pick (tT 5) (.const (.bool true)) (tT 11)), oO 2 (.assign (tT 12))])
 .ret)
theorem F204 : Fun1 Tryz.prog 204 13 c204 [.tmp 2] := Fun1.mk' AL.Tryz.follows_mixed Tryz.func204 rfl (by decide +kernel) Tryz.ntmps204 rfl (by kernel_rfl) rfl
def c205 : AC :=
.seq (.reg false [] [oO 2 (.alloc 86), oO 3 (.assign (kI 0)), oO 4 (.assign (kI 0))])
 (.seq (.reg true [0] [⟨⟨some 12, .build 86 #[], none⟩, false, true⟩, ⟨⟨some 13, .move (tT 0), none⟩, true, true⟩, ⟨⟨some 14, .nilCheck (tT 13), none⟩, true, true⟩, ⟨⟨some 15, .fieldAddr 199 (tT 14) 0, none⟩, true, true⟩, ⟨⟨some 16, .load 26 (tT 15), none⟩, true, true⟩, ⟨⟨some 17, .move (tT 0), none⟩, true, true⟩, ⟨⟨some 18, .nilCheck (tT 17), none⟩, true, true⟩, ⟨⟨some 19, .fieldAddr 199 (tT 18) 1, none⟩, true, true⟩, ⟨⟨some 20, .load 3 (tT 19), none⟩, true, true⟩, oO 5 (.alloc 86), oN (.store 86 (tT 5) (tT 12)), oO 6 (.assign (tT 16)), oO 7 (.assign (tT 20))])
 (.seq (.seq (.reg false [] [oO 21 (.move (tT 6)), oO 22 (cB .len #[tT 21] #[26]), oO 23 (.move (tT 7)), oO 24 (.binOp .sub 3 (tT 22) (tT 23) 3), oO 25 (.binOp .lss 3 (tT 24) (kI 2) 3)])
 (.cond (tT 25) (.seq (.reg false [] [oO 26 (.load 86 (tT 5)), oO 27 (.move (tT 6)), oO 28 (cB .len #[tT 27] #[26]), oN (.store 86 (tT 2) (tT 26)), oO 3 (.assign (tT 28)), oO 4 (.assign (kI 2))])
 (.ret))
 (.skip)))
 (.seq (.reg false [] [oO 29 (.move (tT 6)), oO 30 (.move (tT 7)), oO 31 (.slice 26 (tT 29) (some (tT 30)) none none), oO 32 (cF (.func 167) #[tT 31] #[26]), oO 33 (.build 86 #[(0, .tmp 32)]), oO 8 (.alloc 86), oN (.store 86 (tT 8) (tT 33))])
 (.seq (.seq (.reg true [] [⟨⟨some 34, .move (tT 0), none⟩, false, true⟩, ⟨⟨some 35, .nilCheck (tT 34), none⟩, false, true⟩, ⟨⟨some 36, .fieldAddr 199 (tT 35) 2, none⟩, false, true⟩, ⟨⟨some 37, .load 3 (tT 36), none⟩, false, true⟩, oO 38 (.fieldAddr 86 (tT 8) 0), oO 39 (.load 3 (tT 38)), oO 40 (cF (.func 165) #[tT 37, tT 39] #[3, 3]), oO 9 (.assign (tT 40))])
 (.seq (.reg false [] [oO 41 (.move (tT 9)), oO 42 (.binOp .neq 32 (tT 41) (kI 0) 32)])
 (.cond (tT 42) (.seq (.reg false [] [oO 43 (.load 86 (tT 5)), oO 44 (.move (tT 7)), oO 45 (.move (tT 9)), oN (.store 86 (tT 2) (tT 43)), oO 3 (.assign (tT 44)), oO 4 (.assign (tT 45))])
 (.ret))
 (.skip))))
 (.seq (.reg false [] [oO 46 (.move (tT 7)), oO 47 (.binOp .add 3 (tT 46) (kI 2) 3), oO 7 (.assign (tT 47))])
 (.seq (.seq (.reg false [] [oO 48 (.move (tT 7)), oO 49 (.move (tT 6)), oO 50 (cB .len #[tT 49] #[26]), oO 51 (.binOp .eql 3 (tT 48) (tT 50) 3)])
 (.cond (tT 51) (.seq (.reg false [] [oO 52 (.load 86 (tT 5)), oO 53 (.move (tT 7)), oN (.store 86 (tT 2) (tT 52)), oO 3 (.assign (tT 53)), oO 4 (.assign (kI 2))])
 (.ret))
 (.skip)))
 (.seq (.seq (.reg false [] [oO 54 (.move (tT 6)), oO 55 (.move (tT 7)), oO 56 (.indexAddr 26 (tT 54) (tT 55)), oO 57 (.load 5 (tT 56)), oO 58 (.binOp .gtr 5 (tT 57) (kB 1) 5)])
 (.cond (tT 58) (.seq (.reg false [] [oO 59 (.load 86 (tT 5)), oO 60 (.move (tT 7)), oN (.store 86 (tT 2) (tT 59)), oO 3 (.assign (tT 60)), oO 4 (.assign (kI 63))])
 (.ret))
 (.skip)))
 (.seq (.seq (.reg false [] [oO 61 (.move (tT 6)), oO 62 (.move (tT 7)), oO 63 (.indexAddr 26 (tT 61) (tT 62)), oO 64 (.load 5 (tT 63)), oO 65 (.binOp .eql 5 (tT 64) (kB 0) 5)])
 (.cond (tT 65) (.seq (.reg false [] [oO 66 (.fieldAddr 86 (tT 8) 1), oN (.store 4 (tT 66) (.const (.bool true)))])
 (.seq (.reg false [] [oO 67 (.load 86 (tT 8)), oO 68 (.move (tT 7)), oO 69 (.binOp .add 3 (tT 68) (kI 1) 3), oN (.store 86 (tT 2) (tT 67)), oO 3 (.assign (tT 69)), oO 4 (.assign (kI 0))])
 (.ret)))
 (.skip)))
 (.seq (.reg false [] [oO 70 (.move (tT 7)), oO 71 (.binOp .add 3 (tT 70) (kI 1) 3), oO 7 (.assign (tT 71))])
 (.seq (.seq (.reg false [] [oO 72 (.move (tT 7)), oO 73 (.move (tT 6)), oO 74 (cB .len #[tT 73] #[26]), oO 75 (.binOp .eql 3 (tT 72) (tT 74) 3)])
 (.cond (tT 75) (.seq (.reg false [] [oO 76 (.load 86 (tT 5)), oO 77 (.move (tT 7)), oN (.store 86 (tT 2) (tT 76)), oO 3 (.assign (tT 77)), oO 4 (.assign (kI 2))])
 (.ret))
 (.skip)))
 (.seq (.seq (.reg true [6] [⟨⟨some 78, .move (tT 6), none⟩, false, true⟩, ⟨⟨some 79, .indexAddr 26 (tT 78) (kI 3), none⟩, false, true⟩, ⟨⟨some 80, .load 5 (tT 79), none⟩, false, true⟩, ⟨⟨some 81, .convert 5 3 (tT 80), none⟩, false, true⟩, ⟨⟨some 82, .move (tT 6), none⟩, true, true⟩, ⟨⟨some 83, .move (tT 7), none⟩, true, true⟩, ⟨⟨some 84, .indexAddr 26 (tT 82) (tT 83), none⟩, true, true⟩, ⟨⟨some 85, .load 5 (tT 84), none⟩, true, true⟩, ⟨⟨some 86, .convert 5 3 (tT 85), none⟩, true, true⟩, oO 87 (.fieldAddr 86 (tT 8) 2), oO 88 (.fieldAddr 84 (tT 87) 0), oN (.store 3 (tT 88) (tT 81))])
 (.reg false [] [oO 89 (.fieldAddr 86 (tT 8) 2), oO 90 (.fieldAddr 84 (tT 89) 1), oN (.store 3 (tT 90) (tT 86))]))
 (.seq (.reg false [] [oO 91 (.fieldAddr 86 (tT 8) 2), oO 92 (.fieldAddr 84 (tT 91) 0), oO 93 (.load 3 (tT 92)), oO 94 (.fieldAddr 86 (tT 8) 2), oO 95 (.fieldAddr 84 (tT 94) 1), oO 96 (.load 3 (tT 95)), oO 97 (.binOp .add 3 (tT 93) (tT 96) 3), oO 10 (.assign (tT 97))])
 (.seq (.seq (.reg false [] [oO 98 (.move (tT 10)), oO 99 (.binOp .gtr 3 (tT 98) (kI 24) 3)])
 (.cond (tT 99) (.seq (.reg false [] [oO 100 (.load 86 (tT 5)), oO 101 (.move (tT 7)), oN (.store 86 (tT 2) (tT 100)), oO 3 (.assign (tT 101)), oO 4 (.assign (kI 65))])
 (.ret))
 (.skip)))
 (.seq (.reg false [] [oO 102 (.move (tT 7)), oO 103 (.binOp .add 3 (tT 102) (kI 1) 3), oO 7 (.assign (tT 103))])
 (.seq (.seq (.reg false [] [oO 104 (.move (tT 10)), oO 105 (.move (kI 0))])
 (.block 0 (.loop (.seq (.reg false [] [oO 106 (.binOp .lss 3 (tT 105) (tT 104) 3)])
 (.seq (.cond (tT 106) (.skip)
 (.exit 0))
 (.seq (.block 1 (.seq (.reg false [] [oO 107 (.move (tT 105)), oO 11 (.assign (tT 107))])
 (.seq (.seq (.reg false [] [oO 108 (.move (tT 7)), oO 109 (.move (tT 6)), oO 110 (cB .len #[tT 109] #[26]), oO 111 (.binOp .eql 3 (tT 108) (tT 110) 3)])
 (.cond (tT 111) (.seq (.reg false [] [oO 112 (.load 86 (tT 5)), oO 113 (.move (tT 7)), oN (.store 86 (tT 2) (tT 112)), oO 3 (.assign (tT 113)), oO 4 (.assign (kI 2))])
 (.ret))
 (.skip)))
 (.seq (.seq (.reg false [] [oO 114 (.move (tT 6)), oO 115 (.move (tT 7)), oO 116 (.indexAddr 26 (tT 114) (tT 115)), oO 117 (.load 5 (tT 116)), oO 118 (cF (.func 204) #[tT 117] #[81]), oO 119 (.unOp .not 4 (tT 118))])
 (.cond (tT 119) (.seq (.reg false [] [oO 120 (.load 86 (tT 5)), oO 121 (.move (tT 7)), oN (.store 86 (tT 2) (tT 120)), oO 3 (.assign (tT 121)), oO 4 (.assign (kI 62))])
 (.ret))
 (.skip)))
 (.seq (.reg false [] [oO 122 (.move (tT 11)), oO 123 (.move (tT 6)), oO 124 (.move (tT 7)), oO 125 (.indexAddr 26 (tT 123) (tT 124)), oO 126 (.load 5 (tT 125)), oO 127 (.fieldAddr 86 (tT 8) 2), oO 128 (.fieldAddr 84 (tT 127) 2), oO 129 (.indexAddr 82 (tT 128) (tT 122)), oN (.store 81 (tT 129) (tT 126))])
 (.reg false [] [oO 130 (.move (tT 7)), oO 131 (.binOp .add 3 (tT 130) (kI 1) 3), oO 7 (.assign (tT 131))]))))))
 (.reg false [] [oO 132 (.binOp .add 3 (tT 105) (kI 1) 3), oO 105 (.move (tT 132))])))))))
 (.seq (.reg false [] [oO 133 (.load 86 (tT 8)), oO 134 (.move (tT 7)), oN (.store 86 (tT 2) (tT 133)), oO 3 (.assign (tT 134)), oO 4 (.assign (kI 0))])
 .ret))))))))))))))))
theorem F205 : Fun1 Tryz.prog 205 135 c205 [.cell 2 86, .tmp 3, .tmp 4] := Fun1.mk' AL.Tryz.follows_mixed Tryz.func205 rfl (by decide +kernel) Tryz.ntmps205 rfl (by kernel_rfl) rfl
def c169 : AC :=
.seq (.reg false [] [oO 2 (.alloc 86), oO 3 (.assign (.const (.bool false))), oO 4 (.assign (kI 0))])
 (.seq (.reg false [] [oO 9 (.build 86 #[]), oO 5 (.alloc 86), oN (.store 86 (tT 5) (tT 9))])
 (.seq (.block 0 (.seq (.reg false [] [oO 11 (.move (tT 0)), oO 12 (.binOp .eql 192 (tT 11) (.const (.pointer none)) 192), oO 13 (.move (tT 12)), oG 14 (.move (tT 0)) 13 false, oG 15 (.nilCheck (tT 14)) 13 false, oG 16 (.fieldAddr 199 (tT 15) 7) 13 false, oG 17 (.load 4 (tT 16)) 13 false, oG 18 (.unOp .not 4 (tT 17)) 13 false, oO 19 (.pick (tT 13) (.const (.bool true)) (tT 18)), oO 10 (.assign (tT 19))])
 (.cond (tT 10) (.seq (.reg false [] [oO 20 (.load 86 (tT 5)), oN (.store 86 (tT 2) (tT 20)), oO 3 (.assign (.const (.bool false))), oO 4 (.assign (kI 8))])
 (.ret))
 (.seq (.reg false [] [oO 22 (.move (tT 0)), oO 23 (.nilCheck (tT 22)), oO 24 (.fieldAddr 199 (tT 23) 6), oO 25 (.load 32 (tT 24)), oO 26 (.binOp .neq 32 (tT 25) (kI 0) 32), oO 21 (.assign (tT 26))])
 (.cond (tT 21) (.seq (.reg true [0] [⟨⟨some 27, .load 86 (tT 5), none⟩, false, true⟩, ⟨⟨some 28, .move (tT 0), none⟩, true, true⟩, ⟨⟨some 29, .nilCheck (tT 28), none⟩, true, true⟩, ⟨⟨some 30, .fieldAddr 199 (tT 29) 6, none⟩, true, true⟩, ⟨⟨some 31, .load 32 (tT 30), none⟩, true, true⟩, oN (.store 86 (tT 2) (tT 27)), oO 3 (.assign (.const (.bool false))), oO 4 (.assign (tT 31))])
 (.ret))
 (.seq (.reg true [] [oO 33 (.move (tT 0)), oO 34 (.nilCheck (tT 33)), oO 35 (.fieldAddr 199 (tT 34) 3), oO 36 (.load 3 (tT 35)), oO 37 (.binOp .eql 3 (tT 36) (kI 0) 3), oO 38 (.move (tT 37)), ⟨⟨some 39, .move (tT 0), some (38, true)⟩, false, true⟩, ⟨⟨some 40, .nilCheck (tT 39), some (38, true)⟩, false, true⟩, ⟨⟨some 41, .fieldAddr 199 (tT 40) 1, some (38, true)⟩, false, true⟩, ⟨⟨some 42, .load 3 (tT 41), some (38, true)⟩, false, true⟩, oG 43 (.move (tT 0)) 38 true, oG 44 (.nilCheck (tT 43)) 38 true, oG 45 (.fieldAddr 199 (tT 44) 0) 38 true, oG 46 (.load 26 (tT 45)) 38 true, oG 47 (cB .len #[tT 46] #[26]) 38 true, oG 48 (.binOp .lss 3 (tT 42) (tT 47) 3) 38 true, oO 49 (.pick (tT 38) (tT 48) (.const (.bool false))), oO 32 (.assign (tT 49))])
 (.cond (tT 32) (.seq (.reg false [] [oO 50 (.move (tT 0)), oO 51 (.move (tT 0)), oO 52 (.move (tT 0)), oO 53 (.nilCheck (tT 52)), oO 54 (.fieldAddr 199 (tT 53) 1), oO 55 (.load 3 (tT 54)), oO 56 (.nilCheck (tT 50)), oO 57 (.fieldAddr 199 (tT 56) 5), oN (.store 3 (tT 57) (tT 55)), oO 58 (.nilCheck (tT 51)), oO 59 (.fieldAddr 199 (tT 58) 6), oN (.store 32 (tT 59) (kI 3))])
 (.seq (.reg true [0] [⟨⟨some 60, .load 86 (tT 5), none⟩, false, true⟩, ⟨⟨some 61, .move (tT 0), none⟩, true, true⟩, ⟨⟨some 62, .nilCheck (tT 61), none⟩, true, true⟩, ⟨⟨some 63, .fieldAddr 199 (tT 62) 6, none⟩, true, true⟩, ⟨⟨some 64, .load 32 (tT 63), none⟩, true, true⟩, oN (.store 86 (tT 2) (tT 60)), oO 3 (.assign (.const (.bool false))), oO 4 (.assign (tT 64))])
 (.ret)))
 (.seq (.reg false [] [oO 66 (.move (tT 0)), oO 67 (.nilCheck (tT 66)), oO 68 (.fieldAddr 199 (tT 67) 3), oO 69 (.load 3 (tT 68)), oO 70 (.binOp .eql 3 (tT 69) (kI 0) 3), oO 65 (.assign (tT 70))])
 (.cond (tT 65) (.seq (.reg false [] [oO 71 (.load 86 (tT 5)), oN (.store 86 (tT 2) (tT 71)), oO 3 (.assign (.const (.bool false))), oO 4 (.assign (kI 0))])
 (.ret))
 (.skip))))))))))
 (.seq (.reg false [] [oO 73 (.move (tT 0)), oO 74 (cF (.func 205) #[tT 73] #[192]), oO 72 (.move (tT 74)), oO 75 (.extract (tT 72) 0), oO 76 (.extract (tT 72) 1), oO 77 (.extract (tT 72) 2), oO 6 (.alloc 86), oN (.store 86 (tT 6) (tT 75)), oO 7 (.assign (tT 76)), oO 8 (.assign (tT 77))])
 (.seq (.seq (.reg false [] [oO 78 (.move (tT 8)), oO 79 (.binOp .neq 32 (tT 78) (kI 0) 32)])
 (.cond (tT 79) (.seq (.reg false [] [oO 80 (.move (tT 0)), oO 81 (.move (tT 0)), oO 82 (.move (tT 7)), oO 83 (.move (tT 8)), oO 84 (.nilCheck (tT 80)), oO 85 (.fieldAddr 199 (tT 84) 5), oN (.store 3 (tT 85) (tT 82)), oO 86 (.nilCheck (tT 81)), oO 87 (.fieldAddr 199 (tT 86) 6), oN (.store 32 (tT 87) (tT 83))])
 (.seq (.reg false [] [oO 88 (.load 86 (tT 5)), oO 89 (.move (tT 8)), oN (.store 86 (tT 2) (tT 88)), oO 3 (.assign (.const (.bool false))), oO 4 (.assign (tT 89))])
 (.ret)))
 (.skip)))
 (.seq (.seq (.reg true [6] [⟨⟨some 90, .move (tT 0), none⟩, false, true⟩, ⟨⟨some 91, .move (tT 0), none⟩, true, true⟩, ⟨⟨some 92, .move (tT 7), none⟩, false, true⟩, ⟨⟨some 93, .fieldAddr 86 (tT 6) 0, none⟩, true, true⟩, ⟨⟨some 94, .load 3 (tT 93), none⟩, true, true⟩, oO 95 (.nilCheck (tT 90)), oO 96 (.fieldAddr 199 (tT 95) 1), oN (.store 3 (tT 96) (tT 92))])
 (.reg false [] [oO 97 (.nilCheck (tT 91)), oO 98 (.fieldAddr 199 (tT 97) 2), oN (.store 3 (tT 98) (tT 94))]))
 (.seq (.reg false [] [oO 99 (.move (tT 0)), oO 100 (.nilCheck (tT 99)), oO 101 (.fieldAddr 199 (tT 100) 3), oO 102 (.load 3 (tT 101)), oO 103 (.binOp .sub 3 (tT 102) (kI 1) 3), oO 104 (.nilCheck (tT 99)), oO 105 (.fieldAddr 199 (tT 104) 3), oN (.store 3 (tT 105) (tT 103))])
 (.seq (.reg false [] [oO 106 (.load 86 (tT 6)), oN (.store 86 (tT 2) (tT 106)), oO 3 (.assign (.const (.bool true))), oO 4 (.assign (kI 0))])
 .ret)))))))
theorem F169 : Fun1 Tryz.prog 169 107 c169 [.cell 2 86, .tmp 3, .tmp 4] := Fun1.mk' AL.Tryz.follows_mixed Tryz.func169 rfl (by decide +kernel) Tryz.ntmps169 rfl (by kernel_rfl) rfl
def c136 : AC :=
.seq (.reg false [] [oO 1 (.box 192 (tT 0)), oO 2 (.assign (.const .nilFunc))])
 (.seq (.reg false [] [oO 3 (.makeFunc (.func 168) #[] #[tT 1]), oO 2 (.assign (tT 3))])
 .ret)
theorem F136 : Fun1 Tryz.prog 136 4 c136 [.tmp 2] := Fun1.mk' AL.Tryz.follows_mixed Tryz.func136 rfl (by decide +kernel) Tryz.ntmps136 rfl (by kernel_rfl) rfl
end Go.AL
