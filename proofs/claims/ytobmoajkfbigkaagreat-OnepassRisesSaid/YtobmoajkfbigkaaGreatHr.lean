import Derived.Test.YtobmoajkfbigkaaGreatHq
set_option linter.unusedSimpArgs false
set_option linter.unusedVariables false
set_option maxRecDepth 100000
set_option maxHeartbeats 4000000
set_option linter.defProp false
namespace Go.AL
open Go.Proofs
structure Ey where
  pos : Int
  dead : Bool
  fr : Fr
def eEy (e : Ey) : List D := .int .i64 e.pos :: .bool e.dead :: eFr e.fr
theorem eEy_len (e : Ey) : (eEy e).length = 28 := by simp [eEy, eFr_len]
theorem eEy_take (e : Ey) : (eEy e).take 28 = eEy e := List.take_of_length_le (by rw [eEy_len]; exact Nat.le_refl _)
theorem eEy_drop (e : Ey) : (eEy e).drop 28 = [] := List.drop_eq_nil_of_le (by rw [eEy_len]; exact Nat.le_refl _)
theorem ey_0 (e : Ey) : (eEy e)[0]? = some (.int .i64 e.pos) := rfl
theorem ey_1 (e : Ey) : (eEy e)[1]? = some (.bool e.dead) := rfl
def ey0 : Ey := ⟨0, false, fr0 0⟩
def bt (b : List Ty) (i : Nat) : Nat := ((b[i]?).getD 0).val
theorem bt_lt (b : List Ty) (i : Nat) : bt b i < 256 := ((b[i]?).getD 0).isLt
def word2 (b : List Ty) (p : Nat) : Nat := 256 * bt b p + bt b (p + 1)
def afterE (a last : Int) : Nat := if a < 0 ∨ 4095 < a then 5 else if a = last then 61 else if a < last then 60 else 0
def knownT (t : Ty) : Bool := decide (t.val ≤ 5 ∨ 16 ≤ t.val ∧ t.val ≤ 47)
def scanT (b : List Ty) : Nat → Nat → Nat × Nat
  | q, 0 => (q, 0)
  | q, n + 1 => if b.length ≤ q then (b.length, 2) else if knownT ((b[q]?).getD 0) then scanT b (q + 1) n else (q, 62)
def entD (b : List Ty) (loc p : Nat) (last : Int) : Ey × Nat × Nat :=
  if b.length < p + 2 then (ey0, b.length, 2)
  else if afterE (word2 b p) last ≠ 0 then (ey0, p, afterE (word2 b p) last)
  else if b.length = p + 2 then (ey0, p + 2, 2)
  else if 1 < bt b (p + 2) then (ey0, p + 2, 63)
  else if bt b (p + 2) = 0 then (⟨word2 b p, true, fr0 0⟩, p + 3, 0)
  else if b.length = p + 3 then (ey0, p + 3, 2)
  else if 24 < loc + bt b (p + 3) then (ey0, p + 3, 65)
  else if (scanT b (p + 4) (loc + bt b (p + 3))).2 ≠ 0 then (ey0, scanT b (p + 4) (loc + bt b (p + 3)))
  else (⟨word2 b p, false, ⟨loc, bt b (p + 3), slOf ((b.drop (p + 4)).take (loc + bt b (p + 3)))⟩⟩, p + 4 + (loc + bt b (p + 3)), 0)
def decP (b : List Ty) (loc : Nat) : Nat → Nat → Int → List (Ey × Nat) × Nat × Nat
  | 0, p, _ => ([], p, 0)
  | n + 1, p, last =>
    if (entD b loc p last).2.2 ≠ 0 then ([], (entD b loc p last).2)
    else (((entD b loc p last).1, (entD b loc p last).2.1) :: (decP b loc n (entD b loc p last).2.1 (entD b loc p last).1.pos).1, (decP b loc n (entD b loc p last).2.1 (entD b loc p last).1.pos).2)
def headD (b : List Ty) : Nat × Nat :=
  if b.length = 0 ∨ bt b 0 = 112 ∧ b.length = 1 ∨ bt b 0 = 112 ∧ bt b 1 = 118 ∧ b.length = 2 then (b.length, 2)
  else if bt b 0 ≠ 112 then (0, 64)
  else if bt b 1 ≠ 118 then (1, 64)
  else if bt b 2 ≠ 1 then (2, 64)
  else if b.length < 6 then (b.length, 2)
  else if 16 < bt b 3 then (3, 5)
  else if 4096 < word2 b 4 then (4, 4)
  else (0, 0)
structure Ct where
  loc : Nat
  es : List Ey
def eCt (c : Ct) : List D := [.int .i64 c.loc, .slice .no (rws eEy c.es)]
def ct0 : Ct := ⟨0, []⟩
def toldD (b : List Ty) : List (Ey × Nat) × Nat × Nat :=
  if (headD b).2 ≠ 0 then ([], headD b)
  else if (decP b (bt b 3) (word2 b 4) 6 (-1)).2.2 ≠ 0 then decP b (bt b 3) (word2 b 4) 6 (-1)
  else if (decP b (bt b 3) (word2 b 4) 6 (-1)).2.1 < b.length then ((decP b (bt b 3) (word2 b 4) 6 (-1)).1, (decP b (bt b 3) (word2 b 4) 6 (-1)).2.1, 3)
  else ((decP b (bt b 3) (word2 b 4) 6 (-1)).1, 0, 0)
def esOf (l : List (Ey × Nat)) : List Ey := l.map Prod.fst
def endsOf (l : List (Ey × Nat)) : List Int := l.map fun x => (x.2 : Int)
def decC (b : List Ty) : Ct × Nat × Nat := if (toldD b).2.2 ≠ 0 then (ct0, (toldD b).2) else (⟨bt b 3, esOf (toldD b).1⟩, 0, 0)
theorem known204 (t : Ty) : PCall Tryz.prog 204 [.int .u8 t.val] (.bool (knownT t)) := by
  refine F204.pcall' rfl fun T hT => ?_
  by_cases h1 : t.val ≤ 5
  · have q1 : ((t.val : Int) ≤ 5) = True := by simp; omega
    simp -implicitDefEqProofs only [go_sem, c204, hT, q1]
    exact DLe_bool (by simp [knownT, h1])
  have q1 : ((t.val : Int) ≤ 5) = False := by simp; omega
  by_cases h2 : 16 ≤ t.val
  · have q2 : ((16 : Int) ≤ t.val) = True := by simp; omega
    simp -implicitDefEqProofs only [go_sem, c204, hT, q1, q2]
    exact DLe_bool (by simp only [knownT, decide_eq_decide]; omega)
  · have q2 : ((16 : Int) ≤ t.val) = False := by simp; omega
    simp -implicitDefEqProofs only [go_sem, c204, hT, q1, q2]
    exact DLe_bool (by simp only [knownT]; rw [decide_eq_false (by omega)])
theorem isCode149 (t : Ty) : PCall Tryz.prog 149 [.int .u8 t.val] (.bool (knownT t)) := by
  refine F149.pcall' rfl fun T hT => ?_
  by_cases h1 : t.val ≤ 5
  · have q1 : ((t.val : Int) ≤ 5) = True := by simp; omega
    simp -implicitDefEqProofs only [go_sem, c149, hT, q1]
    exact DLe_bool (by simp [knownT, h1])
  have q1 : ((t.val : Int) ≤ 5) = False := by simp; omega
  by_cases h2 : 16 ≤ t.val
  · have q2 : ((16 : Int) ≤ t.val) = True := by simp; omega
    simp -implicitDefEqProofs only [go_sem, c149, hT, q1, q2]
    exact DLe_bool (by simp only [knownT, decide_eq_decide]; omega)
  · have q2 : ((16 : Int) ≤ t.val) = False := by simp; omega
    simp -implicitDefEqProofs only [go_sem, c149, hT, q1, q2]
    exact DLe_bool (by simp only [knownT]; rw [decide_eq_false (by omega)])
theorem rises165 (last a : Int) : PCall Tryz.prog 165 [.int .i64 last, .int .i64 a] (.int .i64 (afterE a last)) := by
  refine F165.pcall' rfl fun T hT => ?_
  by_cases h1 : a < 0
  · rw [afterE, if_pos (Or.inl h1)]
    simp -implicitDefEqProofs only [go_sem, c165, hT, h1]
    all_goals exact DLe.refl _
  by_cases h2 : 4095 < a
  · have q2 : ((4096 : Int) ≤ a) = True := by simp; omega
    rw [afterE, if_pos (Or.inr h2)]
    simp -implicitDefEqProofs only [go_sem, c165, hT, h1, q2]
    all_goals exact DLe.refl _
  have q2 : ((4096 : Int) ≤ a) = False := by simp; omega
  rw [afterE, if_neg (by omega)]
  by_cases h3 : a = last
  · rw [if_pos h3]
    subst h3
    simp -implicitDefEqProofs only [go_sem, c165, hT, h1, q2]
    all_goals exact DLe.refl _
  rw [if_neg h3]
  by_cases h4 : a < last
  · rw [if_pos h4]
    simp -implicitDefEqProofs only [go_sem, c165, hT, h1, q2, h3, h4]
    all_goals exact DLe.refl _
  · rw [if_neg h4]
    simp -implicitDefEqProofs only [go_sem, c165, hT, h1, q2, h3, h4]
    all_goals exact DLe.refl _
theorem after108 (last a : Int) : PCall Tryz.prog 108 [.int .i64 a, .int .i64 last] (.int .i64 (afterE a last)) := by
  refine F108.pcall' rfl fun T hT => ?_
  by_cases h1 : a < 0
  · rw [afterE, if_pos (Or.inl h1)]
    simp -implicitDefEqProofs only [go_sem, c108, hT, h1]
    all_goals exact DLe.refl _
  by_cases h2 : 4095 < a
  · have q2 : ((4095 : Int) < a) = True := by simp; omega
    rw [afterE, if_pos (Or.inr h2)]
    simp -implicitDefEqProofs only [go_sem, c108, hT, h1, q2]
    all_goals exact DLe.refl _
  have q2 : ((4095 : Int) < a) = False := by simp; omega
  rw [afterE, if_neg (by omega)]
  by_cases h3 : a = last
  · rw [if_pos h3]
    subst h3
    simp -implicitDefEqProofs only [go_sem, c108, hT, h1, q2]
    all_goals exact DLe.refl _
  rw [if_neg h3]
  by_cases h4 : a < last
  · rw [if_pos h4]
    simp -implicitDefEqProofs only [go_sem, c108, hT, h1, q2, h3, h4]
    all_goals exact DLe.refl _
  · rw [if_neg h4]
    simp -implicitDefEqProofs only [go_sem, c108, hT, h1, q2, h3, h4]
    all_goals exact DLe.refl _
theorem word167 (b : List Ty) (o : Own) (h : 2 ≤ b.length) : PCall Tryz.prog 167 [.slice o (rws eT b)] (.int .i64 (word2 b 0)) := by
  have b0 : (0 : Int) < b.length := by omega
  have b1 : (1 : Int) < b.length := by omega
  have hR0 : (rws eT b)[0]?.getD [] = eT ((b[0]?).getD 0) := by rw [rws_at (by omega), List.getElem?_eq_getElem (by omega)]; rfl
  have hR1 : (rws eT b)[1]?.getD [] = eT ((b[1]?).getD 0) := by rw [rws_at (by omega), List.getElem?_eq_getElem (by omega)]; rfl
  have hw : word2 b 0 = 256 * ((b[0]?).getD 0).val + ((b[1]?).getD 0).val := rfl
  rw [hw]
  generalize (b[0]?).getD 0 = x at *
  generalize (b[1]?).getD 0 = y at *
  have hx := x.isLt
  have hy := y.isLt
  have w0 : IntKind.wrap .i64 (x.val : Int) = x.val := wrap_ty_i64 x
  have w1 : IntKind.wrap .i64 (y.val : Int) = y.val := wrap_ty_i64 y
  have w2 : IntKind.wrap .i64 ((x.val : Int) * 256) = 256 * (x.val : Int) := by rw [wrap_i64 (by omega) (by omega)]; omega
  have hor := or_byte x.val y.val (by omega) hy
  have h28 : (2 : Int) ^ min 8 64 = 256 := by decide
  refine F167.pcall' rfl fun T hT => ?_
  simp -implicitDefEqProofs only [go_sem, c167, hT, hR0, hR1, eT, eT_len]
  refine ⟨b0, b1, ?_⟩
  simp only [w0, w1, w2, h28]
  exact (congrArg (fun z => DLe (D.int .i64 z) (D.int .i64 ((256 * x.val + y.val : Nat) : Int))) hor).mpr (DLe.refl _)
def mg : Nat → Nat | 0 => 112 | 1 => 118 | _ => 1
theorem bt_at {b : List Ty} {i : Nat} (h : i < b.length) : (rws eT b)[i]?.getD [] = [.int .u8 (bt b i : Nat)] := by rw [rws_at h, bt, List.getElem?_eq_getElem h]; rfl
def okTo (b : List Ty) (i : Nat) : Prop := i ≤ b.length ∧ ∀ j < i, bt b j = mg j
theorem headD_short {b : List Ty} {i : Nat} (hi : i < 3) (h : okTo b i) (hl : b.length = i) : headD b = (i, 2) := by
  obtain ⟨h1, h2⟩ := h
  have : i = 0 ∨ i = 1 ∨ i = 2 := by omega
  rcases this with rfl | rfl | rfl
  · simp [headD, hl]
  · have := h2 0 (by omega); simp [mg] at this; simp [headD, hl, this]
  · have q := h2 0 (by omega); have r := h2 1 (by omega); simp [mg] at q r; simp [headD, hl, q, r]
theorem headD_bad {b : List Ty} {i : Nat} (hi : i < 3) (h : okTo b i) (hl : i < b.length) (hb : bt b i ≠ mg i) : headD b = (i, 64) := by
  obtain ⟨h1, h2⟩ := h
  have : i = 0 ∨ i = 1 ∨ i = 2 := by omega
  rcases this with rfl | rfl | rfl
  · simp [mg] at hb
    rw [headD, if_neg (by omega), if_pos hb]
  · have q := h2 0 (by omega); simp [mg] at q hb
    rw [headD, if_neg (by omega), if_neg (by omega), if_pos hb]
  · have q := h2 0 (by omega); have r := h2 1 (by omega); simp [mg] at q r hb
    rw [headD, if_neg (by omega), if_neg (by omega), if_neg (by omega), if_pos hb]
theorem headD_ok {b : List Ty} (h : okTo b 3) : headD b = if b.length < 6 then (b.length, 2)
  else if 16 < bt b 3 then (3, 5)
  else if 4096 < word2 b 4 then (4, 4)
  else (0, 0) := by
  obtain ⟨h1, h2⟩ := h
  have q := h2 0 (by omega); have r := h2 1 (by omega); have s := h2 2 (by omega); simp [mg] at q r s
  rw [headD, if_neg (by omega), if_neg (by omega), if_neg (by omega), if_neg (by omega)]
def headR (b : List Ty) : Nat × Nat := if (headD b).2 = 0 then (bt b 3, word2 b 4) else (0, 0)
theorem refHead116 (b : List Ty) (o : Own) (hl : b.length ≤ 140737488355328) : PCall Tryz.prog 116 [.slice o (rws eT b)] (.tup [.int .i64 (headR b).1, .int .i64 (headR b).2, .int .i64 (headD b).1, .int .i64 (headD b).2]) := by
  refine F116.pcall' rfl fun T hT => ?_
  simp -implicitDefEqProofs only [go_sem, c116, hT]
  refine loopL F116 (fun i : Nat => [(0, .slice o (rws eT b)), (6, .slice .exact [[.int .u8 112], [.int .u8 118], [.int .u8 1]]), (7, .int .i64 i)]) (fun _ => {}) (fun i => i ≤ 3 ∧ okTo b i) (fun i => 3 - i) 0 ⟨by omega, by simp [okTo]⟩ ?_ (St.le.nil _) ?_
  · simp -implicitDefEqProofs only [go_sem, hT, Int.ofNat_zero]
    all_goals rfl
  clear hT T
  rintro i ⟨hi, hok⟩ T hT
  by_cases h : i < 3
  · have h1 : ((i : Int) < 3) = True := by simp; omega
    have hM : ([[.int .u8 112], [.int .u8 118], [.int .u8 1]] : List (List D))[i]?.getD [] = [.int .u8 (mg i)] := by
      have : i = 0 ∨ i = 1 ∨ i = 2 := by omega
      rcases this with rfl | rfl | rfl <;> rfl
    by_cases hs : b.length = i
    · have q1 : ((b.length : Int) ≤ i) = True := by simp; omega
      have hd := headD_short h hok hs
      have hr : headR b = (0, 0) := by rw [headR, hd]; rfl
      rw [hd, hr]
      simp -implicitDefEqProofs only [go_sem, hT, h1, q1]
      rw [hs]
      exact DLe.refl _
    have q1 : ((b.length : Int) ≤ i) = False := by have := hok.1; simp; omega
    have hlt : i < b.length := by have := hok.1; omega
    have hR := bt_at hlt
    have hmg : mg i < 256 := by unfold mg; split <;> omega
    have w4 : IntKind.wrap .i64 ((i : Int) + 1) = ((i + 1 : Nat) : Int) := by rw [wrap_i64 (by omega) (by omega)]; simp
    by_cases hb : bt b i = mg i
    · have q2 : ((bt b i : Int) = mg i) = True := by simp [hb]
      simp -implicitDefEqProofs only [go_sem, hT, h1, q1, hM, hR, q2, rws_one eT_len]
      refine ⟨by omega, by omega, i + 1, ⟨by omega, by omega, fun j hj => ?_⟩, by omega, ?_, St.le.refl _⟩
      · by_cases hji : j < i
        · exact hok.2 j hji
        · rw [show j = i by omega]; exact hb
      · rw [w4]
    · have q2 : ((bt b i : Int) = mg i) = False := by simp; omega
      have hd := headD_bad h hok hlt hb
      have hr : headR b = (0, 0) := by rw [headR, hd]; rfl
      rw [hd, hr]
      simp -implicitDefEqProofs only [go_sem, hT, h1, q1, hM, hR, q2, rws_one eT_len]
      exact ⟨by omega, by omega, DLe.refl _⟩
  · have h1 : ((i : Int) < 3) = False := by simp; omega
    have hi3 : i = 3 := by omega
    subst hi3
    have hd := headD_ok hok
    have hlen := hok.1
    by_cases h6 : b.length < 6
    · have q6 : ((b.length : Int) < 6) = True := by simp; omega
      have hd : headD b = (b.length, 2) := by rw [hd, if_pos h6]
      have hr : headR b = (0, 0) := by rw [headR, hd]; rfl
      rw [hd, hr]
      simp -implicitDefEqProofs only [go_sem, hT, h1, q6]
      exact DLe.refl _
    have q6 : ((b.length : Int) < 6) = False := by simp; omega
    have g3 : (0 : Int) ≤ 3 ∧ (3 : Int) < b.length := by omega
    have g4 : (0 : Int) ≤ 4 ∧ (4 : Int) < b.length := by omega
    have g5 : (0 : Int) ≤ 5 ∧ (5 : Int) < b.length := by omega
    have hR3 := bt_at (b := b) (i := 3) (by omega)
    have hR4 := bt_at (b := b) (i := 4) (by omega)
    have hR5 := bt_at (b := b) (i := 5) (by omega)
    have hb3 := bt_lt b 3
    have hb4 := bt_lt b 4
    have hb5 := bt_lt b 5
    have hrl : ∀ r ∈ rws eT b, r.length = 1 := rows_len eT_len b
    by_cases h16 : 16 < bt b 3
    · have q16 : ((16 : Int) < bt b 3) = True := by simp; omega
      have hd : headD b = (3, 5) := by rw [hd, if_neg h6, if_pos h16]
      have hr : headR b = (0, 0) := by rw [headR, hd]; rfl
      rw [hd, hr]
      simp -implicitDefEqProofs only [go_sem, hT, h1, q6, hR3, q16, rws_one eT_len]
      exact ⟨by omega, DLe.refl _⟩
    have q16 : ((16 : Int) < bt b 3) = False := by simp; omega
    have w4 : IntKind.wrap .i64 (bt b 4 : Int) = bt b 4 := wrap_i64 (by omega) (by omega)
    have w5 : IntKind.wrap .i64 (bt b 5 : Int) = bt b 5 := wrap_i64 (by omega) (by omega)
    have w3 : IntKind.wrap .i64 (bt b 3 : Int) = bt b 3 := wrap_i64 (by omega) (by omega)
    have wm : IntKind.wrap .i64 (256 * (bt b 4 : Int)) = 256 * (bt b 4 : Int) := wrap_i64 (by omega) (by omega)
    have wa : IntKind.wrap .i64 (256 * (bt b 4 : Int) + bt b 5) = (word2 b 4 : Nat) := by rw [wrap_i64 (by omega) (by omega), word2]; simp
    by_cases h40 : 4096 < word2 b 4
    · have q40 : ((4096 : Int) < word2 b 4) = True := by simp; omega
      have hd : headD b = (4, 4) := by rw [hd, if_neg h6, if_neg h16, if_pos h40]
      have hr : headR b = (0, 0) := by rw [headR, hd]; rfl
      rw [hd, hr]
      simp -implicitDefEqProofs only [go_sem, hT, h1, q6, hR3, hR4, hR5, q16, rws_one eT_len, w4, w5, wm, wa, q40]
      exact ⟨by omega, by omega, by omega, DLe.refl _⟩
    · have q40 : ((4096 : Int) < word2 b 4) = False := by simp; omega
      have hd : headD b = (0, 0) := by rw [hd, if_neg h6, if_neg h16, if_neg h40]
      have hr : headR b = (bt b 3, word2 b 4) := by rw [headR, hd]; rfl
      rw [hd, hr]
      simp -implicitDefEqProofs only [go_sem, hT, h1, q6, hR3, hR4, hR5, q16, rws_one eT_len, w3, w4, w5, wm, wa, q40]
      exact ⟨by omega, by omega, by omega, by omega, DLe.refl _⟩
def eRd (b : List Ty) (p : Nat) (last : Int) (left n : Nat) (bad err : Nat) : List D := [.slice .no (rws eT b), .int .i64 p, .int .i64 last, .int .i64 left, .int .i64 n, .int .i64 bad, .int .i64 err, .bool true]
def openR (b : List Ty) (d : D) (s : St) : Prop :=
  if (headD b).2 = 0 then ∃ r, d = .tup [.ptr r 0, .int .i64 0, .int .i64 0] ∧ s = ({} : St).set r (eRd b 6 (-1) (word2 b 4) (word2 b 4) 0 0)
  else d = .tup [.nilptr, .int .i64 (headD b).1, .int .i64 (headD b).2] ∧ s = {}
theorem openR_no {b : List Ty} (h : (headD b).2 ≠ 0) : openR b = fun d s => d = .tup [.nilptr, .int .i64 (headD b).1, .int .i64 (headD b).2] ∧ s = {} := by funext d s; rw [openR, if_neg h]
theorem openR_yes {b : List Ty} (h : (headD b).2 = 0) : openR b = fun d s => ∃ r, d = .tup [.ptr r 0, .int .i64 0, .int .i64 0] ∧ s = ({} : St).set r (eRd b 6 (-1) (word2 b 4) (word2 b 4) 0 0) := by funext d s; rw [openR, if_pos h]
theorem open134 (b : List Ty) (hl : b.length ≤ 140737488355328) : RCall Tryz.prog 134 [.slice .no (rws eT b)] {} (openR b) := by
  refine F134.rcall rfl fun T hT => ?_
  simp -implicitDefEqProofs only [go_sem, c134, hT]
  refine loopL F134 (fun i : Nat => [(0, .slice .no (rws eT b)), (8, .slice .exact [[.int .u8 112], [.int .u8 118], [.int .u8 1]]), (9, .int .i64 3), (10, .int .i64 i)]) (fun _ => {}) (fun i => i ≤ 3 ∧ okTo b i) (fun i => 3 - i) 0 ⟨by omega, by simp [okTo]⟩ ?_ (St.le.nil _) ?_
  · simp -implicitDefEqProofs only [go_sem, hT, Int.ofNat_zero]
    all_goals exact ⟨rfl, rfl⟩
  clear hT T
  rintro i ⟨hi, hok⟩ T hT
  by_cases h : i < 3
  · have h1 : ((i : Int) < 3) = True := by simp; omega
    have hM : ([[.int .u8 112], [.int .u8 118], [.int .u8 1]] : List (List D))[i]?.getD [] = [.int .u8 (mg i)] := by
      have : i = 0 ∨ i = 1 ∨ i = 2 := by omega
      rcases this with rfl | rfl | rfl <;> rfl
    by_cases hs : b.length = i
    · have q1 : ((i : Int) = b.length) = True := by simp; omega
      have hd := headD_short h hok hs
      rw [openR_no (by rw [hd]; simp), hd]
      simp -implicitDefEqProofs only [go_sem, hT, h1, q1, hM]
      rw [← hs]
      exact ⟨by omega, ⟨_, _, DLe.refl _, St.le.refl _, rfl, rfl⟩⟩
    have q1 : ((i : Int) = b.length) = False := by have := hok.1; simp; omega
    have hlt : i < b.length := by have := hok.1; omega
    have hR := bt_at hlt
    have hmg : mg i < 256 := by unfold mg; split <;> omega
    have w4 : IntKind.wrap .i64 ((i : Int) + 1) = ((i + 1 : Nat) : Int) := by rw [wrap_i64 (by omega) (by omega)]; simp
    by_cases hb : bt b i = mg i
    · have q2 : ((bt b i : Int) = mg i) = True := by simp [hb]
      simp -implicitDefEqProofs only [go_sem, hT, h1, q1, hM, hR, q2, rws_one eT_len]
      refine ⟨by omega, by omega, i + 1, ⟨by omega, by omega, fun j hj => ?_⟩, by omega, ?_, St.le.refl _⟩
      · by_cases hji : j < i
        · exact hok.2 j hji
        · rw [show j = i by omega]; exact hb
      · rw [w4]
    · have q2 : ((bt b i : Int) = mg i) = False := by simp; omega
      have hd := headD_bad h hok hlt hb
      rw [openR_no (by rw [hd]; simp), hd]
      simp -implicitDefEqProofs only [go_sem, hT, h1, q1, hM, hR, q2, rws_one eT_len]
      exact ⟨by omega, by omega, ⟨_, _, DLe.refl _, St.le.refl _, rfl, rfl⟩⟩
  · have h1 : ((i : Int) < 3) = False := by simp; omega
    have hi3 : i = 3 := by omega
    subst hi3
    have hd := headD_ok hok
    have hlen := hok.1
    by_cases h6 : b.length < 6
    · have q6 : ((b.length : Int) < 6) = True := by simp; omega
      have hd : headD b = (b.length, 2) := by rw [hd, if_pos h6]
      rw [openR_no (by rw [hd]; simp), hd]
      simp -implicitDefEqProofs only [go_sem, hT, h1, q6]
      exact ⟨_, _, DLe.refl _, St.le.refl _, rfl, rfl⟩
    have q6 : ((b.length : Int) < 6) = False := by simp; omega
    have hR3 := bt_at (b := b) (i := 3) (by omega)
    have hb3 := bt_lt b 3
    have hb4 := bt_lt b 4
    have hb5 := bt_lt b 5
    by_cases h16 : 16 < bt b 3
    · have q16 : ((16 : Int) < bt b 3) = True := by simp; omega
      have hd : headD b = (3, 5) := by rw [hd, if_neg h6, if_pos h16]
      rw [openR_no (by rw [hd]; simp), hd]
      simp -implicitDefEqProofs only [go_sem, hT, h1, q6, hR3, q16, rws_one eT_len]
      exact ⟨by omega, ⟨_, _, DLe.refl _, St.le.refl _, rfl, rfl⟩⟩
    have q16 : ((16 : Int) < bt b 3) = False := by simp; omega
    have hw4 : word2 (b.drop 4) 0 = word2 b 4 := by simp [word2, bt, List.getElem?_drop]
    have hw : PCall Tryz.prog 167 [.slice .no (rws eT (b.drop 4))] (.int .i64 (word2 b 4)) := by rw [← hw4]; exact word167 _ _ (by rw [List.length_drop]; omega)
    simp -implicitDefEqProofs only [go_sem, hT, h1, q6, hR3, q16, rws_one eT_len, rws_take, rws_drop, List.take_length]
    refine ⟨by omega, by omega, callB_pure hw ?_⟩
    by_cases h40 : 4096 < word2 b 4
    · have q40 : ((4096 : Int) < word2 b 4) = True := by simp; omega
      have hd : headD b = (4, 4) := by rw [hd, if_neg h6, if_neg h16, if_pos h40]
      rw [openR_no (by rw [hd]; simp), hd]
      simp -implicitDefEqProofs only [go_sem, hT, h1, q6, hR3, q16, q40, rws_one eT_len, rws_take, rws_drop, List.take_length]
      exact ⟨_, _, DLe.refl _, St.le.refl _, rfl, rfl⟩
    have q40 : ((4096 : Int) < word2 b 4) = False := by simp; omega
    have hd : headD b = (0, 0) := by rw [hd, if_neg h6, if_neg h16, if_neg h40]
    rw [openR_yes (by rw [hd])]
    simp -implicitDefEqProofs only [go_sem, hT, h1, q6, hR3, q16, q40, rws_one eT_len, rws_take, rws_drop, List.take_length]
    refine ⟨by omega, callB_pure hw ?_⟩
    simp -implicitDefEqProofs only [go_sem, hT, h1, q6, hR3, q16, q40, rws_one eT_len, rws_take, rws_drop, List.take_length]
    intro r
    exact ⟨_, _, DLe.refl _, St.le.refl _, r, rfl, rfl⟩
theorem scanT_pass (b : List Ty) : ∀ n q, (scanT b q n).2 = 0 → q + n ≤ b.length ∨ n = 0 := by
  intro n
  induction n with
  | zero => intro q _; right; rfl
  | succ n ih =>
    intro q h
    rw [scanT] at h
    split at h
    · exact absurd h (by simp)
    · split at h
      · have := ih _ h; omega
      · exact absurd h (by simp)
theorem wrapN {a : Int} {n : Nat} (h : a = n) (hn : n ≤ 9223372036854775807) : IntKind.wrap .i64 a = (n : Int) := by rw [h]; exact wrap_i64 (by omega) (by omega)
theorem ey_zero : [D.int .i64 0, D.bool false, D.int .i64 0, D.int .i64 0, D.int .u8 0, D.int .u8 0, D.int .u8 0, D.int .u8 0, D.int .u8 0, D.int .u8 0, D.int .u8 0, D.int .u8 0, D.int .u8 0, D.int .u8 0, D.int .u8 0, D.int .u8 0, D.int .u8 0, D.int .u8 0, D.int .u8 0, D.int .u8 0, D.int .u8 0, D.int .u8 0, D.int .u8 0, D.int .u8 0, D.int .u8 0, D.int .u8 0, D.int .u8 0, D.int .u8 0] = eEy ey0 := rfl
theorem ey_dead (z : Int) : [D.int .i64 z, D.bool true, D.int .i64 0, D.int .i64 0, D.int .u8 0, D.int .u8 0, D.int .u8 0, D.int .u8 0, D.int .u8 0, D.int .u8 0, D.int .u8 0, D.int .u8 0, D.int .u8 0, D.int .u8 0, D.int .u8 0, D.int .u8 0, D.int .u8 0, D.int .u8 0, D.int .u8 0, D.int .u8 0, D.int .u8 0, D.int .u8 0, D.int .u8 0, D.int .u8 0, D.int .u8 0, D.int .u8 0, D.int .u8 0, D.int .u8 0] = eEy ⟨z, true, fr0 0⟩ := rfl
theorem fr_new (y z : Int) : [D.int .i64 y, D.int .i64 z, D.int .u8 0, D.int .u8 0, D.int .u8 0, D.int .u8 0, D.int .u8 0, D.int .u8 0, D.int .u8 0, D.int .u8 0, D.int .u8 0, D.int .u8 0, D.int .u8 0, D.int .u8 0, D.int .u8 0, D.int .u8 0, D.int .u8 0, D.int .u8 0, D.int .u8 0, D.int .u8 0, D.int .u8 0, D.int .u8 0, D.int .u8 0, D.int .u8 0, D.int .u8 0, D.int .u8 0] = eFr ⟨y, z, slOf []⟩ := by rw [slOf_nil]; rfl
def bYfbD0 := aI @eEy_len (aI @eEy_take (aI @eEy_drop (aI @eFr_len (aI @eFr_take (aI @eFr_drop (aI @anD (aI @set_set (aI @resM_cell @ey_zero))))))))
def bYfbD1 := aI @eEy_len (aI @eEy_take (aI @eEy_drop (aI @eFr_len (aI @eFr_take (aI @eFr_drop (aI @anD (aI @set_set @resM_cell)))))))
def bYfbD2 := aI @eEy_len (aI @eEy_take (aI @eEy_drop (aI @eFr_len (aI @eFr_take (aI @eFr_drop (aI @anD (aI @set_set (aI @resM_cell @eT_len))))))))
theorem one117 (b : List Ty) (o : Own) (loc p : Nat) (last : Int) (hl : b.length ≤ 140737488355328) (hp : p ≤ b.length) (hloc : loc ≤ 16) :
    PCall Tryz.prog 117 [.slice o (rws eT b), .int .i64 loc, .int .i64 p, .int .i64 last] (.tup [.agg (eEy (entD b loc p last).1), .int .i64 (entD b loc p last).2.1, .int .i64 (entD b loc p last).2.2]) := by
  have v1 : IntKind.wrap .i64 ((p : Int) + 1) = ((p + 1 : Nat) : Int) := wrapN (by simp) (by omega)
  have v2 : IntKind.wrap .i64 ((p : Int) + 2) = ((p + 2 : Nat) : Int) := wrapN (by simp) (by omega)
  have v3 : IntKind.wrap .i64 ((p : Int) + 3) = ((p + 3 : Nat) : Int) := wrapN (by simp) (by omega)
  have v4 : IntKind.wrap .i64 ((p : Int) + 4) = ((p + 4 : Nat) : Int) := wrapN (by simp) (by omega)
  refine F117.pcall' rfl fun T hT => ?_
  simp -implicitDefEqProofs only [go_sem, c117, hT, bYfbD0]
  intro b8 b11 n1 n2
  by_cases h1 : b.length < p + 2
  · have q1 : ((b.length : Int) ≤ (p + 1 : Nat)) = True := by simp; omega
    rw [entD, if_pos h1]
    simp -implicitDefEqProofs only [go_sem, hT, v1, q1, n1, n2, bYfbD0]
    exact DLe.refl _
  have q1 : ((b.length : Int) ≤ (p + 1 : Nat)) = False := by simp; omega
  have hb0 := bt_lt b p
  have hb1 := bt_lt b (p + 1)
  have u0 : IntKind.wrap .i64 (bt b p : Int) = bt b p := wrap_i64 (by omega) (by omega)
  have u1 : IntKind.wrap .i64 (bt b (p + 1) : Int) = bt b (p + 1) := wrap_i64 (by omega) (by omega)
  have um : IntKind.wrap .i64 (256 * (bt b p : Int)) = 256 * (bt b p : Int) := wrap_i64 (by omega) (by omega)
  have ua : IntKind.wrap .i64 (256 * (bt b p : Int) + bt b (p + 1)) = (word2 b p : Nat) := by rw [wrap_i64 (by omega) (by omega), word2]; simp
  have hR0 := bt_at (b := b) (i := p) (by omega)
  have hR1 := bt_at (b := b) (i := p + 1) (by omega)
  have hw2 : word2 b p < 65536 := by rw [word2]; omega
  simp -implicitDefEqProofs only [go_sem, hT, v1, q1, n1, n2, hR0, hR1, u0, u1, um, ua, rws_one eT_len, bYfbD1]
  refine ⟨by omega, by omega, callB_pure (after108 last (word2 b p)) ?_⟩
  obtain ⟨ae, hae⟩ : ∃ ae, afterE (word2 b p) last = ae := ⟨_, rfl⟩
  obtain ⟨z, hz⟩ : ∃ z, word2 b p = z := ⟨_, rfl⟩
  have hd : entD b loc p last = if ae ≠ 0 then (ey0, p, ae)
      else if b.length = p + 2 then (ey0, p + 2, 2)
      else if 1 < bt b (p + 2) then (ey0, p + 2, 63)
      else if bt b (p + 2) = 0 then (⟨z, true, fr0 0⟩, p + 3, 0)
      else if b.length = p + 3 then (ey0, p + 3, 2)
      else if 24 < loc + bt b (p + 3) then (ey0, p + 3, 65)
      else if (scanT b (p + 4) (loc + bt b (p + 3))).2 ≠ 0 then (ey0, scanT b (p + 4) (loc + bt b (p + 3)))
      else (⟨z, false, ⟨loc, bt b (p + 3), slOf ((b.drop (p + 4)).take (loc + bt b (p + 3)))⟩⟩, p + 4 + (loc + bt b (p + 3)), 0) := by
    rw [entD, if_neg h1, hae, hz]
  rw [hd, hae, hz]
  clear hd hae
  rw [hz] at ua hw2
  clear hz
  by_cases h2 : ae = 0
  case neg =>
    have q2 : ((ae : Int) = 0) = False := by simp; omega
    rw [if_pos h2]
    simp -implicitDefEqProofs only [go_sem, hT, n1, n2, q2, bYfbD0]
  have q2 : ((ae : Int) = 0) = True := by simp; omega
  rw [if_neg (by simp [h2])]
  by_cases h3 : b.length = p + 2
  · have q3 : ((b.length : Int) ≤ (p + 2 : Nat)) = True := by simp; omega
    rw [if_pos h3]
    simp -implicitDefEqProofs only [go_sem, hT, n1, n2, v2, q2, q3, bYfbD0]
    rw [h3]
    exact DLe.refl _
  have q3 : ((b.length : Int) ≤ (p + 2 : Nat)) = False := by simp; omega
  have hR2 := bt_at (b := b) (i := p + 2) (by omega)
  have hb2 := bt_lt b (p + 2)
  rw [if_neg h3]
  by_cases h4 : 1 < bt b (p + 2)
  · have q4 : ((1 : Int) < bt b (p + 2)) = True := by simp; omega
    rw [if_pos h4]
    simp -implicitDefEqProofs only [go_sem, hT, n1, n2, v2, q2, q3, q4, hR2, rws_one eT_len, bYfbD0]
    exact ⟨by omega, DLe.refl _⟩
  have q4 : ((1 : Int) < bt b (p + 2)) = False := by simp; omega
  rw [if_neg h4]
  by_cases h5 : bt b (p + 2) = 0
  · have q5 : ((bt b (p + 2) : Int) = 0) = True := by simp; omega
    rw [if_pos h5]
    simp -implicitDefEqProofs only [go_sem, hT, eEy_len, eEy_take, eEy_drop, eFr_len, eFr_take, eFr_drop, anD, set_set, resM_cell, n1, n2, v2, v3, q2, q3, q4, q5, hR2, ey_dead, rws_one eT_len]
    exact ⟨by omega, by omega, DLe.refl _⟩
  have q5 : ((bt b (p + 2) : Int) = 0) = False := by simp; omega
  rw [if_neg h5]
  by_cases h6 : b.length = p + 3
  · have q6 : ((b.length : Int) ≤ (p + 3 : Nat)) = True := by simp; omega
    rw [if_pos h6]
    simp -implicitDefEqProofs only [go_sem, hT, n1, n2, v2, v3, q2, q3, q4, q5, q6, hR2, rws_one eT_len, bYfbD0]
    rw [h6]
    exact ⟨by omega, by omega, DLe.refl _⟩
  have q6 : ((b.length : Int) ≤ (p + 3 : Nat)) = False := by simp; omega
  have hR3 := bt_at (b := b) (i := p + 3) (by omega)
  have hb3 := bt_lt b (p + 3)
  rw [if_neg h6]
  obtain ⟨dp, hdp⟩ : ∃ dp, bt b (p + 3) = dp := ⟨_, rfl⟩
  rw [hdp] at hR3 hb3 ⊢
  clear hdp
  have u3 : IntKind.wrap .i64 (dp : Int) = dp := wrap_i64 (by omega) (by omega)
  have uL : IntKind.wrap .i64 ((24 : Int) - loc) = ((24 - loc : Nat) : Int) := wrapN (by omega) (by omega)
  by_cases h7 : 24 < loc + dp
  · have q7 : (((24 - loc : Nat) : Int) < dp) = True := by simp; omega
    rw [if_pos h7]
    simp -implicitDefEqProofs only [go_sem, hT, n1, n2, v2, v3, q2, q3, q4, q5, q6, hR2, hR3, u3, uL, q7, rws_one eT_len, bYfbD0]
    exact ⟨by omega, by omega, by omega, DLe.refl _⟩
  have q7 : (((24 - loc : Nat) : Int) < dp) = False := by simp; omega
  rw [if_neg h7]
  simp -implicitDefEqProofs only [go_sem, hT, n1, n2, v2, v3, q2, q3, q4, q5, q6, hR2, hR3, u3, uL, q7, rws_one eT_len, bYfbD1]
  refine ⟨by omega, by omega, by omega, fun b15 m1 m2 m3 m4 => ?_⟩
  obtain ⟨n, hn⟩ : ∃ n, loc + dp = n := ⟨_, rfl⟩
  have hn24 : n ≤ 24 := by omega
  rw [hn]
  have uN : IntKind.wrap .i64 ((loc : Int) + dp) = (n : Int) := wrapN (by omega) (by omega)
  simp -implicitDefEqProofs only [go_sem, hT, eEy_len, eEy_take, eEy_drop, eFr_len, eFr_take, eFr_drop, anD, set_set, resM_cell, n1, n2, m1, m2, m3, m4, fr_new]
  refine loopL F117 (fun i : Nat => [(0, .slice o (rws eT b)), (1, .int .i64 loc), (2, .int .i64 p), (8, .ptr b8 0), (11, .ptr b11 0), (12, .int .i64 z), (14, .int .i64 dp), (15, .ptr b15 0), (16, .int .i64 i)]) (fun i => ((({} : St).set b8 (eEy ey0)).set b11 (eEy ey0)).set b15 (eFr ⟨loc, dp, slOf ((b.drop (p + 4)).take i)⟩)) (fun i => i ≤ n ∧ scanT b (p + 4) n = scanT b (p + 4 + i) (n - i)) (fun i => n - i) 0 ⟨by omega, rfl⟩ ?_ (St.le.refl _) ?_
  · simp -implicitDefEqProofs only [go_sem, hT, Int.ofNat_zero]
  clear hT T
  rintro i ⟨hi, hsc⟩ T hT
  by_cases h : i < n
  · have p1 : ((i : Int) < n) = True := by simp; omega
    have w4 : IntKind.wrap .i64 ((i : Int) + 1) = ((i + 1 : Nat) : Int) := wrapN (by simp) (by omega)
    have wp : IntKind.wrap .i64 (((p + 4 : Nat) : Int) + i) = ((p + 4 + i : Nat) : Int) := wrapN (by simp) (by omega)
    have hsn : n - i = (n - (i + 1)) + 1 := by omega
    rw [hsn, scanT] at hsc
    by_cases h8 : b.length ≤ p + 4 + i
    · have q8 : ((b.length : Int) ≤ (p + 4 + i : Nat)) = True := by simp; omega
      rw [if_pos h8] at hsc
      rw [hsc, if_pos (by simp)]
      simp -implicitDefEqProofs only [go_sem, hT, n1, n2, m1, m2, m3, m4, v4, uN, p1, wp, q8, bYfbD1]
      exact DLe.refl _
    have q8 : ((b.length : Int) ≤ (p + 4 + i : Nat)) = False := by simp; omega
    rw [if_neg h8] at hsc
    have hR4 := rws_at (enc := eT) (xs := b) (i := p + 4 + i) (by omega)
    have hg : (b[p + 4 + i]?).getD 0 = b[p + 4 + i] := by rw [List.getElem?_eq_getElem (by omega)]; rfl
    rw [hg] at hsc
    simp -implicitDefEqProofs only [go_sem, hT, n1, n2, m1, m2, m3, m4, v4, uN, p1, wp, q8, hR4, eT, bYfbD2]
    refine ⟨by omega, callB_pure (isCode149 _) ?_⟩
    have hset := slOf_set (ts := b.drop (p + 4)) (i := i) (by rw [List.length_drop]; omega) (by omega)
    have hdg : (b.drop (p + 4))[i]'(by rw [List.length_drop]; omega) = b[p + 4 + i] := by simp
    rw [hdg] at hset
    generalize b[p + 4 + i] = x at *
    by_cases h9 : knownT x = true
    · rw [if_pos h9] at hsc
      simp -implicitDefEqProofs only [go_sem, hT, n1, n2, m1, m2, m3, m4, v4, uN, p1, wp, q8, hR4, eT, h9, bYfbD2]
      rw [Nat.mul_one, fr_set (by omega)]
      dsimp only
      rw [hset]
      refine ⟨by omega, by omega, by omega, i + 1, ⟨by omega, ?_⟩, by omega, by rw [w4], St.le.refl _⟩
      rw [hsc]; rfl
    · have h9 : knownT x = false := by simpa using h9
      rw [if_neg (by simp [h9])] at hsc
      rw [hsc, if_pos (by simp)]
      simp -implicitDefEqProofs only [go_sem, hT, n1, n2, m1, m2, m3, m4, v4, uN, p1, wp, q8, hR4, eT, h9, bYfbD2]
      exact DLe.refl _
  · have p1 : ((i : Int) < n) = False := by simp; omega
    have hin : i = n := by omega
    subst hin
    rw [Nat.sub_self, scanT] at hsc
    rw [hsc, if_neg (by simp)]
    have e1 : IntKind.wrap .i64 (((p + 4 : Nat) : Int) + loc) = ((p + 4 + loc : Nat) : Int) := wrapN (by simp) (by omega)
    have e2 : IntKind.wrap .i64 (((p + 4 + loc : Nat) : Int) + dp) = ((p + 4 + i : Nat) : Int) := wrapN (by omega) (by omega)
    simp -implicitDefEqProofs only [go_sem, hT, n1, n2, m1, m2, m3, m4, v4, uN, p1, e1, e2, bYfbD1]
    exact DLe.refl _
theorem grS_comm {s n s' n' : Nat} {o o' : Option Nat} {σ : St} (h : ∀ b, o = some b → o' ≠ some b) : grS s n o (grS s' n' o' σ) = grS s' n' o' (grS s n o σ) := by
  cases o with
  | none => rfl
  | some b =>
    cases o' with
    | none => rfl
    | some b' =>
      have hne : b' ≠ b := fun e => h b rfl (by rw [e])
      simp only [grS, St.setBuf]
      congr 1
      funext x
      by_cases h1 : x = b
      · subst h1; simp [Ne.symm hne]
      · by_cases h2 : x = b'
        · subst h2; simp [h1]
        · simp [h1, h2]
theorem grN_ne {s n : Nat} {o o' : Option Nat} {σ : St} (h : grN o (grS s n o' σ)) : ∀ b, o = some b → o' ≠ some b := fun b hb he => h b hb (by rw [grS_has]; exact .inl he)
theorem entD_place {b : List Ty} {loc p : Nat} {last : Int} (h : (entD b loc p last).2.2 = 0) : p < (entD b loc p last).2.1 ∧ (entD b loc p last).2.1 ≤ b.length := by
  unfold entD at h ⊢
  split; · rename_i h1; rw [if_pos h1] at h; exact absurd h (by simp)
  rename_i h1; rw [if_neg h1] at h
  split; · rename_i h2; rw [if_pos h2] at h; exact absurd h (by simpa using h2)
  rename_i h2; rw [if_neg h2] at h
  split; · rename_i h3; rw [if_pos h3] at h; exact absurd h (by simp)
  rename_i h3; rw [if_neg h3] at h
  split; · rename_i h4; rw [if_pos h4] at h; exact absurd h (by simp)
  rename_i h4; rw [if_neg h4] at h
  split; · rename_i h5; simp only; omega
  rename_i h5; rw [if_neg h5] at h
  split; · rename_i h6; rw [if_pos h6] at h; exact absurd h (by simp)
  rename_i h6; rw [if_neg h6] at h
  split; · rename_i h7; rw [if_pos h7] at h; exact absurd h (by simp)
  rename_i h7; rw [if_neg h7] at h
  split; · rename_i h8; rw [if_pos h8] at h; exact absurd h (by simpa using h8)
  rename_i h8
  have := scanT_pass b (loc + bt b (p + 3)) (p + 4) (by simpa using h8)
  simp only
  omega
theorem headD_zero {b : List Ty} (h : (headD b).2 = 0) : 6 ≤ b.length ∧ bt b 3 ≤ 16 ∧ word2 b 4 ≤ 4096 := by
  unfold headD at h
  split at h; · exact absurd h (by simp)
  split at h; · exact absurd h (by simp)
  split at h; · exact absurd h (by simp)
  split at h; · exact absurd h (by simp)
  split at h; · exact absurd h (by simp)
  split at h; · exact absurd h (by simp)
  split at h; · exact absurd h (by simp)
  omega
theorem eEy_frz (e : Ey) : (eEy e).map frz = eEy e := by simp [eEy, eFr, frz]
def bYfbE0 := aI @eEy_len (aI @eEy_take (aI @eEy_drop (aI @anD (aI @set_set @resM_cell))))
theorem told72 (b : List Ty) (o : Own) (hl : b.length ≤ 140737488355328) :
    PCall Tryz.prog 72 [.slice o (rws eT b)] (.tup [.slice .no (rws eEy (esOf (toldD b).1)), .slice .no (rws eI (endsOf (toldD b).1)), .int .i64 (toldD b).2.1, .int .i64 (toldD b).2.2]) := by
  refine F72.pcall' rfl fun T hT => ?_
  simp -implicitDefEqProofs only [go_sem, c72, hT, bYfbE0]
  refine callB_pure (refHead116 b o hl) ?_
  by_cases h0 : (headD b).2 = 0
  case neg =>
    have q0 : (((headD b).2 : Int) = 0) = False := by simp; omega
    rw [toldD, if_pos h0]
    simp -implicitDefEqProofs only [go_sem, hT, q0, bYfbE0]
    exact DLe.tup (.cons (DLe.slice _ _) (.cons (DLe.slice _ _) (.cons (.refl _) (.cons (.refl _) .nil))))
  have q0 : (((headD b).2 : Int) = 0) = True := by simp; omega
  have hr : headR b = (bt b 3, word2 b 4) := by rw [headR, if_pos h0]
  have hd : toldD b = if (decP b (bt b 3) (word2 b 4) 6 (-1)).2.2 ≠ 0 then decP b (bt b 3) (word2 b 4) 6 (-1)
      else if (decP b (bt b 3) (word2 b 4) 6 (-1)).2.1 < b.length then ((decP b (bt b 3) (word2 b 4) 6 (-1)).1, (decP b (bt b 3) (word2 b 4) 6 (-1)).2.1, 3)
      else ((decP b (bt b 3) (word2 b 4) 6 (-1)).1, 0, 0) := by rw [toldD, if_neg (by simp [h0])]
  obtain ⟨hb6, hloc, hcnt⟩ := headD_zero h0
  rw [hd, hr]
  clear hd hr
  simp -implicitDefEqProofs only [go_sem, hT, q0, bYfbE0]
  generalize bt b 3 = loc at *
  generalize word2 b 4 = cnt at *
  obtain ⟨R, hR⟩ : ∃ R, decP b loc cnt 6 (-1) = R := ⟨_, rfl⟩
  rw [hR]
  refine loopL F72 (fun x : List (Ey × Nat) × Nat × Int × Option Nat × Option Nat => [(0, .slice o (rws eT b)), (6, .int .i64 loc), (7, .int .i64 cnt), (8, .int .i64 x.2.1), (10, grD 28 x.2.2.2.1 (rws eEy (esOf x.1))), (11, grD 1 x.2.2.2.2 (rws eI (endsOf x.1))), (12, .int .i64 x.2.2.1), (13, .int .i64 x.1.length)])
    (fun x => grS 28 x.1.length x.2.2.2.1 (grS 1 x.1.length x.2.2.2.2 {}))
    (fun x => x.1.length ≤ cnt ∧ x.2.1 ≤ b.length ∧ R = (x.1 ++ (decP b loc (cnt - x.1.length) x.2.1 x.2.2.1).1, (decP b loc (cnt - x.1.length) x.2.1 x.2.2.1).2) ∧ (x.2.2.2.1 = none → x.1.length = 0) ∧ (x.2.2.2.2 = none → x.1.length = 0) ∧ grN x.2.2.2.1 (grS 1 x.1.length x.2.2.2.2 {}))
    (fun x => cnt - x.1.length) ([], 6, -1, none, none) ⟨by simp, hb6, by simp [← hR], fun _ => rfl, fun _ => rfl, grN_none⟩ ?_ (St.le.refl _) ?_
  · simp -implicitDefEqProofs only [go_sem, hT, Int.ofNat_zero]
    exact ⟨rfl, rfl, rfl⟩
  clear hT T
  rintro ⟨L, p, last, o1, o2⟩ ⟨hL, hp, hRx, hn1, hn2, hg⟩ T hT
  simp only at hL hp hRx hn1 hn2 hg hT ⊢
  by_cases h : L.length < cnt
  · have p1 : ((L.length : Int) < cnt) = True := by simp; omega
    simp -implicitDefEqProofs only [go_sem, hT, p1, bYfbE0]
    refine callB_pure (one117 b o loc p last hl hp hloc) ?_
    have hsn : cnt - L.length = (cnt - (L.length + 1)) + 1 := by omega
    rw [hsn, decP] at hRx
    have hpl := entD_place (b := b) (loc := loc) (p := p) (last := last)
    generalize entD b loc p last = e at *
    obtain ⟨e, q, err⟩ := e
    simp only at hRx hpl ⊢
    by_cases h8 : err = 0
    case neg =>
      have q8 : ((err : Int) = 0) = False := by simp; omega
      rw [if_pos h8] at hRx
      rw [hRx, if_pos h8, List.append_nil]
      simp -implicitDefEqProofs only [go_sem, hT, bYfbE0]
      intro b14 hb14
      simp -implicitDefEqProofs only [go_sem, hT, eEy_len, eEy_take, eEy_drop, anD, set_set, resM_cell, q8, ey_zero]
      exact DLe.tup (.cons grD_le (.cons grD_le (.cons (.refl _) (.cons (.refl _) .nil))))
    rw [if_neg (by simp [h8])] at hRx
    have q8 : ((err : Int) = 0) = True := by simp; omega
    obtain ⟨hpq, hqb⟩ := hpl h8
    simp -implicitDefEqProofs only [go_sem, hT, bYfbE0]
    intro b14 hb14
    simp -implicitDefEqProofs only [go_sem, hT, eEy_len, eEy_take, eEy_drop, anD, set_set, resM_cell, q8, grS_set, ey_0]
    obtain ⟨σ0, hσ0⟩ : ∃ σ0, (({} : St).set b14 (eEy e)) = σ0 := ⟨_, rfl⟩
    have h14 : ∀ x, σ0.has x → x = b14 := fun x hx => by rw [← hσ0, has_set, has_nil] at hx; simp at hx; omega
    have h14b : σ0.box b14 = some (eEy e) := by rw [← hσ0, St.set_box]; simp
    rw [hσ0]
    have ho1 : o1 ≠ some b14 := fun he => hb14 (by rw [grS_has]; exact .inl he)
    have ho2 : o2 ≠ some b14 := fun he => hb14 (by rw [grS_has]; right; rw [grS_has]; exact .inl he)
    have hgA : grN o1 (grS 1 L.length o2 σ0) := fun x hx hin => by
      rw [grS_has] at hin
      rcases hin with hin | hin
      · exact hg x hx (by rw [grS_has]; exact .inl hin)
      · exact ho1 (h14 x hin ▸ hx)
    refine app_gr' Tryz.sli50 Tryz.sz86 Tryz.by86 Tryz.zero86 rfl (n := L.length) (m := 1) (base := grS 1 L.length o2 σ0) (by simp [rws, esOf]) rfl (St.le.refl _) hgA hn1 (by simp [eEy_len]) (by omega) fun o1' σ1 hbox1 hle1 hg1 hno1 => ?_
    simp -implicitDefEqProofs only [go_sem, hT, q8, bYfbE0]
    have hc : ∀ x, o2 = some x → o1' ≠ some x := fun x hx he => grN_ne hg1 x he hx
    refine app_gr' Tryz.sli29 Tryz.sz3 Tryz.by3 Tryz.zero3 rfl (n := L.length) (m := 1) (base := grS 28 (L.length + 1) o1' σ0) (by simp [rws, endsOf]) rfl (by rw [grS_comm hc]; exact hle1) (fun x hx hin => ?_) hn2 (by simp) (by omega) fun o2' σ2 hbox2 hle2 hg2 hno2 => ?_
    · rw [grS_has] at hin
      rcases hin with hin | hin
      · exact hc x hx hin
      · exact ho2 (h14 x hin ▸ hx)
    have hbx : σ2.box b14 = some (eEy e) := by rw [hbox2, hbox1, grS_boxa, grS_boxa, h14b]
    simp -implicitDefEqProofs only [go_sem, hT, eEy_len, eEy_take, eEy_drop, anD, set_set, resM_cell, q8, hbx, ey_0]
    have hc2 : ∀ x, o1' = some x → o2' ≠ some x := fun x hx he => grN_ne hg2 x he hx
    have w4 : IntKind.wrap .i64 ((L.length : Int) + 1) = ((L.length + 1 : Nat) : Int) := wrapN (by simp) (by omega)
    refine ⟨(L ++ [(e, q)], q, e.pos, o1', o2'), ⟨by simp; omega, hqb, ?_, fun h => by simpa using hno1 h, fun h => by simpa using hno2 h, ?_⟩, by simp; omega, ?_, ?_⟩
    · simp [hRx]
    · exact fun x hx hin => by
        rw [grS_has] at hin
        rcases hin with hin | hin
        · exact hc2 x hx hin
        · exact St.not_has_nil x hin
    · rw [w4]
      simp [esOf, endsOf, rws, eI, eEy_frz, eEy_take, frz]
    · rw [grS_comm hc2]
      refine (le_grS (le_grS (St.le.nil σ0))).trans ?_
      simpa using hle2
  · have p1 : ((L.length : Int) < cnt) = False := by simp; omega
    have hz : cnt - L.length = 0 := by omega
    rw [hz, decP] at hRx
    rw [hRx, if_neg (by simp), List.append_nil]
    by_cases h9 : p < b.length
    · have q9 : ((p : Int) < b.length) = True := by simp; omega
      rw [if_pos h9]
      simp -implicitDefEqProofs only [go_sem, hT, p1, q9, bYfbE0]
      exact DLe.tup (.cons grD_le (.cons grD_le (.cons (.refl _) (.cons (.refl _) .nil))))
    · have q9 : ((p : Int) < b.length) = False := by simp; omega
      rw [if_neg h9]
      simp -implicitDefEqProofs only [go_sem, hT, p1, q9, bYfbE0]
      exact DLe.tup (.cons grD_le (.cons grD_le (.cons (.refl _) (.cons (.refl _) .nil))))
theorem eCt_nil : DLes [D.int .i64 0, D.slice .nil []] (eCt ct0) := .cons (.refl _) (.cons (DLe.slice _ _) .nil)
theorem refDecode31 (b : List Ty) (o : Own) (hl : b.length ≤ 140737488355328) :
    PCall Tryz.prog 31 [.slice o (rws eT b)] (.tup [.agg (eCt (decC b).1), .int .i64 (decC b).2.1, .int .i64 (decC b).2.2]) := by
  refine F31.pcall' rfl fun T hT => ?_
  simp -implicitDefEqProofs only [go_sem, c31, hT, anD, set_set, resM_cell]
  intro b2
  refine callB_pure (told72 b o hl) ?_
  by_cases h0 : (toldD b).2.2 = 0
  case neg =>
    have q0 : (((toldD b).2.2 : Int) = 0) = False := by simp; omega
    rw [decC, if_pos h0]
    simp -implicitDefEqProofs only [go_sem, hT, anD, set_set, resM_cell, q0]
    exact DLe.tup (.cons (DLe.agg eCt_nil) (.cons (.refl _) (.cons (.refl _) .nil)))
  have q0 : (((toldD b).2.2 : Int) = 0) = True := by simp; omega
  have hh : (headD b).2 = 0 := by
    rw [toldD] at h0
    split at h0
    · rename_i h; exact absurd h0 h
    · rename_i h; simpa using h
  obtain ⟨hb6, hloc, hcnt⟩ := headD_zero hh
  have hR3 := bt_at (b := b) (i := 3) (by omega)
  have u3 : IntKind.wrap .i64 (bt b 3 : Int) = bt b 3 := wrap_i64 (by omega) (by omega)
  rw [decC, if_neg (by simp [h0])]
  simp -implicitDefEqProofs only [go_sem, hT, anD, set_set, resM_cell, q0, hR3, u3, rws_one eT_len]
  exact ⟨by omega, DLe.refl _⟩
end Go.AL
