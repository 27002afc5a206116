import Derived.Test.YtobmoajkfbigkaaGreatKi
import Derived.Test.YtobmoajkfbigkaaGreatKd
import Derived.Test.YtobmoajkfbigkaaGreatKh
set_option linter.unusedSimpArgs false
set_option linter.unusedVariables false
set_option maxRecDepth 100000
set_option maxHeartbeats 4000000
set_option linter.defProp false
namespace Go.AL
open Go.Proofs
theorem le_out {σ σ' : St} {b : Nat} {cs : List D} (h : St.le σ σ') (hb : ¬ σ.has b) : St.le σ (σ'.set b cs) := ⟨fun x c hx => by
    have hne : x ≠ b := fun e => hb (by subst e; exact .inl (by simp [hx]))
    rw [St.set_box, if_neg hne]; exact h.box x c hx, h.buf⟩
theorem zb8 {r o : Nat} : nilcD (.ptr r o) = some (.ptr r o) := rfl
theorem eRd_len {b : List Ty} {p : Nat} {last : Int} {left n bad err : Nat} : (eRd b p last left n bad err).length = 8 := rfl
theorem rd_0 {b : List Ty} {p : Nat} {last : Int} {left n bad err : Nat} : (eRd b p last left n bad err)[0]? = some (.slice .no (rws eT b)) := rfl
theorem rd_1 {b : List Ty} {p : Nat} {last : Int} {left n bad err : Nat} : (eRd b p last left n bad err)[1]? = some (.int .i64 p) := rfl
theorem rd_3 {b : List Ty} {p : Nat} {last : Int} {left n bad err : Nat} : (eRd b p last left n bad err)[3]? = some (.int .i64 left) := rfl
theorem rd_5 {b : List Ty} {p : Nat} {last : Int} {left n bad err : Nat} : (eRd b p last left n bad err)[5]? = some (.int .i64 bad) := rfl
theorem rd_6 {b : List Ty} {p : Nat} {last : Int} {left n bad err : Nat} : (eRd b p last left n bad err)[6]? = some (.int .i64 err) := rfl
theorem rd_7 {b : List Ty} {p : Nat} {last : Int} {left n bad err : Nat} : (eRd b p last left n bad err)[7]? = some (.bool true) := rfl
theorem ey_word (z : Int) : [D.int .i64 z, D.bool false, D.int .i64 0, D.int .i64 0, D.int .u8 0, D.int .u8 0, D.int .u8 0, D.int .u8 0, D.int .u8 0, D.int .u8 0, D.int .u8 0, D.int .u8 0, D.int .u8 0, D.int .u8 0, D.int .u8 0, D.int .u8 0, D.int .u8 0, D.int .u8 0, D.int .u8 0, D.int .u8 0, D.int .u8 0, D.int .u8 0, D.int .u8 0, D.int .u8 0, D.int .u8 0, D.int .u8 0, D.int .u8 0, D.int .u8 0] = eEy ⟨z, false, fr0 0⟩ := rfl
theorem ey_set1 {z : Int} {d d' : Bool} {f : Fr} : (eEy ⟨z, d, f⟩).take 1 ++ [D.bool d'] ++ (eEy ⟨z, d, f⟩).drop 2 = eEy ⟨z, d', f⟩ := rfl
theorem ey_set2 {z l l' h : Int} {d : Bool} {s : Vector Ty 24} : (eEy ⟨z, d, ⟨l, h, s⟩⟩).take 2 ++ [D.int .i64 l'] ++ (eEy ⟨z, d, ⟨l, h, s⟩⟩).drop 3 = eEy ⟨z, d, ⟨l', h, s⟩⟩ := rfl
theorem ey_set3 {z l h h' : Int} {d : Bool} {s : Vector Ty 24} : (eEy ⟨z, d, ⟨l, h, s⟩⟩).take 3 ++ [D.int .i64 h'] ++ (eEy ⟨z, d, ⟨l, h, s⟩⟩).drop 4 = eEy ⟨z, d, ⟨l, h', s⟩⟩ := rfl
theorem ey_set4 {z l h : Int} {d : Bool} {s : Vector Ty 24} {i : Nat} (hi : i < 24) {t : Ty} : (eEy ⟨z, d, ⟨l, h, s⟩⟩).take (4 + i) ++ [D.int .u8 (t.val : Int)] ++ (eEy ⟨z, d, ⟨l, h, s⟩⟩).drop (4 + i + 1) = eEy ⟨z, d, ⟨l, h, s.set i t⟩⟩ := by
  have h1 := fr_set (f := ⟨l, h, s⟩) hi (t := t)
  simp only at h1
  rw [show eEy ⟨z, d, ⟨l, h, s.set i t⟩⟩ = D.int .i64 z :: D.bool d :: eFr ⟨l, h, s.set i t⟩ from rfl, ← h1]
  simp only [eEy, show 4 + i = (2 + i) + 2 by omega, show 2 + i + 2 + 1 = (2 + i + 1) + 2 by omega, List.take_succ_cons, List.drop_succ_cons, List.cons_append]
theorem ey_2 (e : Ey) : (eEy e)[2]? = some (.int .i64 e.fr.loc) := rfl
theorem ey_3 (e : Ey) : (eEy e)[3]? = some (.int .i64 e.fr.h) := rfl
theorem fr0_eq : fr0 0 = ⟨0, 0, slOf []⟩ := by rw [slOf_nil]; rfl
def bYfbF0 := aI @zb1 (aI @za8 (aI @zb0 (aI @za6 (aI @za5 (aI @za7 (aI @anD (aI @za2 (aI @za3 (aI @eRd_len (aI @rd_0 (aI @rd_1 (aI @gdD (aI @zb8 (aI @ey_0 (aI @ey_1 (aI @ey_2 (aI @ey_3 @ey_zero)))))))))))))))))
def bYfbF1 := aI @zb1 (aI @za8 (aI @zb0 (aI @za6 (aI @za5 (aI @za7 (aI @anD (aI @za2 (aI @za3 (aI @eRd_len (aI @rd_0 (aI @rd_1 (aI @gdD (aI @zb8 (aI @ey_0 (aI @ey_1 (aI @ey_2 @ey_3))))))))))))))))
theorem entry205 (b : List Ty) (r p : Nat) (last : Int) (left n bad err : Nat) (hl : b.length ≤ 140737488355328) (h6 : 4 ≤ b.length) (hp : p ≤ b.length) :
    RCall Tryz.prog 205 [.ptr r 0] (({} : St).set r (eRd b p last left n bad err)) fun d s' => d = .tup [.agg (eEy (entD b (bt b 3) p last).1), .int .i64 (entD b (bt b 3) p last).2.1, .int .i64 (entD b (bt b 3) p last).2.2] ∧ s' = ({} : St).set r (eRd b p last left n bad err) := by
  have v2 : IntKind.wrap .i64 ((p : Int) + 2) = ((p + 2 : Nat) : Int) := wrapN (by simp) (by omega)
  have v3 : IntKind.wrap .i64 (((p + 2 : Nat) : Int) + 1) = ((p + 3 : Nat) : Int) := wrapN (by omega) (by omega)
  have v4 : IntKind.wrap .i64 (((p + 3 : Nat) : Int) + 1) = ((p + 4 : Nat) : Int) := wrapN (by omega) (by omega)
  refine F205.rcall rfl fun T hT => ?_
  obtain ⟨C, hC⟩ : ∃ C, eRd b p last left n bad err = C := ⟨_, rfl⟩
  have hC0 : C[0]? = some (.slice .no (rws eT b)) := by rw [← hC]; rfl
  have hC1 : C[1]? = some (.int .i64 p) := by rw [← hC]; rfl
  have hC2 : C[2]? = some (.int .i64 last) := by rw [← hC]; rfl
  have hCl : C.length = 8 := by rw [← hC]; rfl
  rw [hC]
  simp -implicitDefEqProofs only [go_sem, c205, hT, hC0, hC1, hC2, hCl, bYfbF0]
  intro b2 n1 n2
  refine ⟨fun x hx => by simp [hx], ?_⟩
  have wS : IntKind.wrap .i64 ((b.length : Int) - p) = (b.length : Int) - p := zb7 (by omega) (by omega)
  simp -implicitDefEqProofs only [go_sem, hT, hC0, hC1, hC2, hCl, n1, n2, wS, bYfbF0]
  intro b5 n3 n4 n5 n6
  refine ⟨n5, ?_⟩
  have z2 : ¬ (({} : St).set r C).has b2 := by rw [has_set, has_nil]; simp; omega
  have z5 : ¬ (({} : St).set r C).has b5 := by rw [has_set, has_nil]; simp; omega
  obtain ⟨loc, hloc⟩ : ∃ loc, bt b 3 = loc := ⟨_, rfl⟩
  have hb3 := bt_lt b 3
  have hRl := bt_at (b := b) (i := 3) (by omega)
  rw [hloc] at hRl hb3
  rw [hloc]
  clear hloc
  by_cases h1 : b.length < p + 2
  · have q1 : ((b.length : Int) - p < 2) = True := by simp; omega
    rw [entD, if_pos h1]
    simp -implicitDefEqProofs only [go_sem, hT, hC0, hC1, hC2, hCl, wS, q1, n1, n2, n3, n4, n5, n6, bYfbF0]
    exact ⟨_, _, DLe.refl _, le_out (le_out (le_out (St.le.refl _) z2) z5) z2, rfl, rfl⟩
  have q1 : ((b.length : Int) - p < 2) = False := by simp; omega
  obtain ⟨ae, hae⟩ : ∃ ae, afterE (word2 b p) last = ae := ⟨_, rfl⟩
  obtain ⟨z, hz⟩ : ∃ z, word2 b p = z := ⟨_, rfl⟩
  have hd : entD b loc p last = if ae ≠ 0 then (ey0, p, ae)
      else if b.length = p + 2 then (ey0, p + 2, 2)
      else if 1 < bt b (p + 2) then (ey0, p + 2, 63)
      else if bt b (p + 2) = 0 then (⟨z, true, fr0 0⟩, p + 3, 0)
      else if b.length = p + 3 then (ey0, p + 3, 2)
      else if 24 < loc + bt b (p + 3) then (ey0, p + 3, 65)
      else if (scanT b (p + 4) (loc + bt b (p + 3))).2 ≠ 0 then (ey0, scanT b (p + 4) (loc + bt b (p + 3)))
      else (⟨z, false, ⟨loc, bt b (p + 3), slOf ((b.drop (p + 4)).take (loc + bt b (p + 3)))⟩⟩, p + 4 + (loc + bt b (p + 3)), 0) := by
    rw [entD, if_neg h1, hae, hz]
  have hw4 : word2 (b.drop p) 0 = z := by rw [← hz]; simp [word2, bt, List.getElem?_drop]
  have hw : zf9 Tryz.prog 167 [.slice .no (rws eT (b.drop p))] (.int .i64 z) := by rw [← hw4]; exact word167 _ _ (by rw [List.length_drop]; omega)
  rw [hd]
  have hri := rises165 last z
  rw [hz] at hae
  rw [hae] at hri
  clear hd hae hz hw4
  simp -implicitDefEqProofs only [go_sem, hT, zb1, za8, zb0, za6, za5, za7, anD, za2, za3, eRd_len, rd_0, rd_1, gdD, zb8, ey_0, ey_1, ey_2, ey_3, hC0, hC1, hC2, hCl, wS, q1, n1, n2, n3, n4, n5, n6, rws_take, rws_drop, List.take_length]
  refine ⟨⟨by omega, rows_len eT_len b⟩, za4 hw ?_⟩
  simp -implicitDefEqProofs only [go_sem, hT, hC0, hC1, hC2, hCl, n1, n2, n3, n4, n5, n6, bYfbF1]
  intro b8 n7 n8 n9 n10 n11 n12
  have z8 : ¬ (({} : St).set r C).has b8 := by rw [has_set, has_nil]; simp; omega
  simp -implicitDefEqProofs only [go_sem, hT, zb1, za8, zb0, za6, za5, za7, anD, za2, za3, eRd_len, rd_0, rd_1, gdD, zb8, ey_0, ey_1, ey_2, ey_3, hC0, hC1, hC2, hCl, n1, n2, n3, n4, n5, n6, n7, n8, n9, n10, n11, n12, ey_word]
  refine za4 hri ?_
  by_cases h2 : ae = 0
  case neg =>
    have q2 : ((ae : Int) = 0) = False := by simp; omega
    rw [if_pos h2]
    simp -implicitDefEqProofs only [go_sem, hT, hC0, hC1, hC2, hCl, n1, n2, n3, n4, n5, n6, n7, n8, n9, n10, n11, n12, q2, bYfbF0]
    exact ⟨_, _, DLe.refl _, le_out (le_out (le_out (le_out (St.le.refl _) z2) z5) z8) z2, rfl, rfl⟩
  have q2 : ((ae : Int) = 0) = True := by simp; omega
  rw [if_neg (by simp [h2])]
  by_cases h3 : b.length = p + 2
  · have q3 : (((p + 2 : Nat) : Int) = b.length) = True := by simp; omega
    rw [if_pos h3]
    simp -implicitDefEqProofs only [go_sem, hT, hC0, hC1, hC2, hCl, n1, n2, n3, n4, n5, n6, n7, n8, n9, n10, n11, n12, v2, q2, q3, bYfbF0]
    exact ⟨_, _, DLe.refl _, le_out (le_out (le_out (le_out (St.le.refl _) z2) z5) z8) z2, rfl, rfl⟩
  have q3 : (((p + 2 : Nat) : Int) = b.length) = False := by simp; omega
  have hR2 := bt_at (b := b) (i := p + 2) (by omega)
  have hb2 := bt_lt b (p + 2)
  have g2 : (0 : Int) ≤ (p + 2 : Nat) ∧ ((p + 2 : Nat) : Int) < b.length := by omega
  rw [if_neg h3]
  by_cases h4 : 1 < bt b (p + 2)
  · have q4 : ((1 : Int) < bt b (p + 2)) = True := by simp; omega
    rw [if_pos h4]
    simp -implicitDefEqProofs only [go_sem, hT, hC0, hC1, hC2, hCl, n1, n2, n3, n4, n5, n6, n7, n8, n9, n10, n11, n12, v2, q2, q3, q4, hR2, rws_one eT_len, bYfbF0]
    exact ⟨g2, _, _, DLe.refl _, le_out (le_out (le_out (le_out (St.le.refl _) z2) z5) z8) z2, rfl, rfl⟩
  have q4 : ((1 : Int) < bt b (p + 2)) = False := by simp; omega
  rw [if_neg h4]
  by_cases h5 : bt b (p + 2) = 0
  · have q5 : ((bt b (p + 2) : Int) = 0) = True := by simp; omega
    rw [if_pos h5]
    simp -implicitDefEqProofs only [go_sem, hT, zb1, za8, zb0, za6, za5, za7, anD, za2, za3, eRd_len, rd_0, rd_1, gdD, zb8, ey_0, ey_1, ey_2, ey_3, hC0, hC1, hC2, hCl, n1, n2, n3, n4, n5, n6, n7, n8, n9, n10, n11, n12, v2, v3, q2, q3, q4, q5, hR2, ey_set1, rws_one eT_len]
    exact ⟨g2, g2, _, _, DLe.refl _, le_out (le_out (le_out (le_out (St.le.refl _) z2) z5) z8) z2, rfl, rfl⟩
  have q5 : ((bt b (p + 2) : Int) = 0) = False := by simp; omega
  rw [if_neg h5]
  by_cases h6 : b.length = p + 3
  · have q6 : (((p + 3 : Nat) : Int) = b.length) = True := by simp; omega
    rw [if_pos h6]
    simp -implicitDefEqProofs only [go_sem, hT, hC0, hC1, hC2, hCl, n1, n2, n3, n4, n5, n6, n7, n8, n9, n10, n11, n12, v2, v3, q2, q3, q4, q5, q6, hR2, rws_one eT_len, bYfbF0]
    exact ⟨g2, g2, _, _, DLe.refl _, le_out (le_out (le_out (le_out (St.le.refl _) z2) z5) z8) z2, rfl, rfl⟩
  have q6 : (((p + 3 : Nat) : Int) = b.length) = False := by simp; omega
  have hR3 := bt_at (b := b) (i := p + 3) (by omega)
  have hb3' := bt_lt b (p + 3)
  have g3 : (0 : Int) ≤ (p + 3 : Nat) ∧ ((p + 3 : Nat) : Int) < b.length := by omega
  rw [if_neg h6]
  obtain ⟨dp, hdp⟩ : ∃ dp, bt b (p + 3) = dp := ⟨_, rfl⟩
  rw [hdp] at hR3 hb3' ⊢
  clear hdp
  have u3 : IntKind.wrap .i64 (dp : Int) = dp := zb7 (by omega) (by omega)
  have uL : IntKind.wrap .i64 (loc : Int) = loc := zb7 (by omega) (by omega)
  have g3' : (3 : Int) < b.length := by omega
  obtain ⟨n, hn⟩ : ∃ n, loc + dp = n := ⟨_, rfl⟩
  rw [hn]
  have uN : IntKind.wrap .i64 ((loc : Int) + dp) = (n : Int) := wrapN (by omega) (by omega)
  simp -implicitDefEqProofs only [go_sem, hT, zb1, za8, zb0, za6, za5, za7, anD, za2, za3, eRd_len, rd_0, rd_1, gdD, zb8, ey_0, ey_1, ey_2, ey_3, hC0, hC1, hC2, hCl, n1, n2, n3, n4, n5, n6, n7, n8, n9, n10, n11, n12, v2, v3, q2, q3, q4, q5, q6, hR2, hR3, hRl, u3, uL, rws_one eT_len, fr0_eq, ey_set2, ey_set3]
  refine ⟨g2, g2, g3', g3, ?_⟩
  have hle : ∀ {x y w u : List D}, St.le (({} : St).set r C) ((((((({} : St).set r C).set b2 x).set b5 y).set b8 w)).set b2 u) := le_out (le_out (le_out (le_out (St.le.refl _) z2) z5) z8) z2
  by_cases h7 : 24 < n
  · have q7 : ((24 : Int) < n) = True := by simp; omega
    rw [if_pos h7]
    simp -implicitDefEqProofs only [go_sem, hT, hC0, hC1, hC2, hCl, n1, n2, n3, n4, n5, n6, n7, n8, n9, n10, n11, n12, uN, q7, bYfbF0]
    exact ⟨_, _, DLe.refl _, hle, rfl, rfl⟩
  have q7 : ((24 : Int) < n) = False := by simp; omega
  rw [if_neg h7]
  have hn24 : n ≤ 24 := by omega
  simp -implicitDefEqProofs only [go_sem, hT, hC0, hC1, hC2, hCl, n1, n2, n3, n4, n5, n6, n7, n8, n9, n10, n11, n12, uN, q7, v4, bYfbF1]
  refine loopL F205 (fun i : Nat => [(0, .ptr r 0), (2, .ptr b2 0), (3, .int .i64 0), (4, .int .i64 0), (5, .ptr b5 0), (6, .slice .no (rws eT b)), (7, .int .i64 (p + 4 + i : Nat)), (8, .ptr b8 0), (10, .int .i64 n), (104, .int .i64 n), (105, .int .i64 i)]) (fun i => (((({} : St).set r C).set b2 (eEy ey0)).set b5 (eEy ey0)).set b8 (eEy ⟨z, false, ⟨loc, dp, slOf ((b.drop (p + 4)).take i)⟩⟩)) (fun i => i ≤ n ∧ p + 4 + i ≤ b.length ∧ scanT b (p + 4) n = scanT b (p + 4 + i) (n - i)) (fun i => n - i) 0 ⟨by omega, by omega, rfl⟩ ?_ (St.le.refl _) ?_
  · simp -implicitDefEqProofs only [go_sem, hT, Int.ofNat_zero, Nat.add_zero]
  clear hT T
  rintro i ⟨hi, hpi, hsc⟩ T hT
  by_cases h : i < n
  · have p1 : ((i : Int) < n) = True := by simp; omega
    have w4 : IntKind.wrap .i64 ((i : Int) + 1) = ((i + 1 : Nat) : Int) := wrapN (by simp) (by omega)
    have w5 : IntKind.wrap .i64 (((p + 4 + i : Nat) : Int) + 1) = ((p + 4 + (i + 1) : Nat) : Int) := wrapN (by omega) (by omega)
    have hsn : n - i = (n - (i + 1)) + 1 := by omega
    rw [hsn, scanT] at hsc
    by_cases h8 : b.length ≤ p + 4 + i
    · have q8 : (((p + 4 + i : Nat) : Int) = b.length) = True := by simp; omega
      rw [if_pos h8, show b.length = p + 4 + i by omega] at hsc
      rw [hsc, if_pos (by simp)]
      simp -implicitDefEqProofs only [go_sem, hT, hC0, hC1, hC2, hCl, n1, n2, n3, n4, n5, n6, n7, n8, n9, n10, n11, n12, p1, q8, bYfbF0]
      exact ⟨_, _, DLe.refl _, hle, rfl, rfl⟩
    have q8 : (((p + 4 + i : Nat) : Int) = b.length) = False := by simp; omega
    rw [if_neg h8] at hsc
    have hR4 := rws_at (enc := eT) (xs := b) (i := p + 4 + i) (by omega)
    have hg : (b[p + 4 + i]?).getD 0 = b[p + 4 + i] := by rw [List.getElem?_eq_getElem (by omega)]; rfl
    rw [hg] at hsc
    have g4 : (0 : Int) ≤ (p + 4 + i : Nat) ∧ ((p + 4 + i : Nat) : Int) < b.length := by omega
    simp -implicitDefEqProofs only [go_sem, hT, zb1, za8, zb0, za6, za5, za7, anD, za2, za3, eRd_len, rd_0, rd_1, gdD, zb8, ey_0, ey_1, ey_2, ey_3, hC0, hC1, hC2, hCl, n1, n2, n3, n4, n5, n6, n7, n8, n9, n10, n11, n12, p1, q8, hR4, eT, eT_len]
    refine ⟨g4, za4 (known204 _) ?_⟩
    have hset := slOf_set (ts := b.drop (p + 4)) (i := i) (by rw [List.length_drop]; omega) (by omega)
    have hdg : (b.drop (p + 4))[i]'(by rw [List.length_drop]; omega) = b[p + 4 + i] := by simp
    rw [hdg] at hset
    generalize b[p + 4 + i] = x at *
    by_cases h9 : knownT x = true
    · rw [if_pos h9] at hsc
      simp -implicitDefEqProofs only [go_sem, hT, zb1, za8, zb0, za6, za5, za7, anD, za2, za3, eRd_len, rd_0, rd_1, gdD, zb8, ey_0, ey_1, ey_2, ey_3, hC0, hC1, hC2, hCl, n1, n2, n3, n4, n5, n6, n7, n8, n9, n10, n11, n12, p1, q8, hR4, eT, eT_len, h9]
      rw [Nat.mul_one, ey_set4 (by omega)]
      rw [hset]
      refine ⟨g4, by omega, by omega, i + 1, ⟨by omega, by omega, ?_⟩, by omega, ⟨by rw [w5], by rw [w4]⟩, St.le.refl _⟩
      rw [hsc]; rfl
    · have h9 : knownT x = false := by simpa using h9
      rw [if_neg (by simp [h9])] at hsc
      rw [hsc, if_pos (by simp)]
      simp -implicitDefEqProofs only [go_sem, hT, zb1, za8, zb0, za6, za5, za7, anD, za2, za3, eRd_len, rd_0, rd_1, gdD, zb8, ey_0, ey_1, ey_2, ey_3, hC0, hC1, hC2, hCl, n1, n2, n3, n4, n5, n6, n7, n8, n9, n10, n11, n12, p1, q8, hR4, eT, eT_len, h9, ey_zero]
      exact ⟨_, _, DLe.refl _, hle, rfl, rfl⟩
  · have p1 : ((i : Int) < n) = False := by simp; omega
    have hin : i = n := by omega
    subst hin
    rw [Nat.sub_self, scanT] at hsc
    rw [hsc, if_neg (by simp)]
    simp -implicitDefEqProofs only [go_sem, hT, hC0, hC1, hC2, hCl, n1, n2, n3, n4, n5, n6, n7, n8, n9, n10, n11, n12, p1, bYfbF1]
    exact ⟨_, _, DLe.refl _, hle, rfl, rfl⟩
open Go.Proofs
section
variable {b : List Ty} {p : Nat} {last : Int} {left n bad err : Nat}
theorem rd_s1 {q : Nat} : (eRd b p last left n bad err).take 1 ++ [D.int .i64 q] ++ (eRd b p last left n bad err).drop 2 = eRd b q last left n bad err := rfl
theorem rd_s2 {z : Int} : (eRd b p last left n bad err).take 2 ++ [D.int .i64 z] ++ (eRd b p last left n bad err).drop 3 = eRd b p z left n bad err := rfl
theorem rd_s3 {q : Nat} : (eRd b p last left n bad err).take 3 ++ [D.int .i64 q] ++ (eRd b p last left n bad err).drop 4 = eRd b p last q n bad err := rfl
theorem rd_s5 {q : Nat} : (eRd b p last left n bad err).take 5 ++ [D.int .i64 q] ++ (eRd b p last left n bad err).drop 6 = eRd b p last left n q err := rfl
theorem rd_s6 {q : Nat} : (eRd b p last left n bad err).take 6 ++ [D.int .i64 q] ++ (eRd b p last left n bad err).drop 7 = eRd b p last left n bad q := rfl
theorem rd_s6' : (eRd b p last left n bad err).take 6 ++ [D.int .i64 3] ++ (eRd b p last left n bad err).drop 7 = eRd b p last left n bad 3 := rfl
end
def nextR (b : List Ty) (r p : Nat) (last : Int) (left n : Nat) (d : D) (s : St) : Prop :=
  if left = 0 then
    if p < b.length then d = .tup [.agg (eEy ey0), .bool false, .int .i64 3] ∧ s = ({} : St).set r (eRd b p last 0 n p 3)
    else d = .tup [.agg (eEy ey0), .bool false, .int .i64 0] ∧ s = ({} : St).set r (eRd b p last 0 n 0 0)
  else if (entD b (bt b 3) p last).2.2 ≠ 0 then
    d = .tup [.agg (eEy ey0), .bool false, .int .i64 (entD b (bt b 3) p last).2.2] ∧ s = ({} : St).set r (eRd b p last left n (entD b (bt b 3) p last).2.1 (entD b (bt b 3) p last).2.2)
  else d = .tup [.agg (eEy (entD b (bt b 3) p last).1), .bool true, .int .i64 0] ∧ s = ({} : St).set r (eRd b (entD b (bt b 3) p last).2.1 (entD b (bt b 3) p last).1.pos (left - 1) n 0 0)
theorem le_one {r : Nat} {C : List D} {σ : St} (h : σ.box r = some C) : St.le (({} : St).set r C) σ := ⟨fun x c hx => by
    by_cases he : x = r
    · subst he; simp [St.set] at hx; rw [← hx]; exact h
    · simp [St.set, he] at hx, fun x c hx => by simp [St.set] at hx⟩
def bYfbG0 := aI @zb1 (aI @za8 (aI @zb0 (aI @anD (aI @za2 (aI @za3 (aI @eRd_len (aI @rd_0 (aI @rd_1 (aI @rd_3 (aI @rd_5 (aI @rd_6 (aI @rd_7 (aI @gdD (aI @zb8 (aI @Int.ofNat_zero @ey_zero)))))))))))))))
theorem next169 (b : List Ty) (r p : Nat) (last : Int) (left n : Nat) (hl : b.length ≤ 140737488355328) (h6 : 4 ≤ b.length) (hp : p ≤ b.length) (hleft : left ≤ 4096) :
    RCall Tryz.prog 169 [.ptr r 0] (({} : St).set r (eRd b p last left n 0 0)) (nextR b r p last left n) := by
  refine F169.rcall rfl fun T hT => ?_
  simp -implicitDefEqProofs only [go_sem, c169, hT, bYfbG0]
  intro b2 n1 n2 b5 n3 n4 n5 n6
  have z2 : ∀ C, ¬ (({} : St).set r C).has b2 := fun C => by rw [has_set, has_nil]; simp; omega
  have z5 : ∀ C, ¬ (({} : St).set r C).has b5 := fun C => by rw [has_set, has_nil]; simp; omega
  by_cases h1 : left = 0
  · have q1 : ((left : Int) = 0) = True := by simp; omega
    by_cases h2 : p < b.length
    · have q2 : ((p : Int) < b.length) = True := by simp; omega
      rw [show nextR b r p last left n = fun d s => d = .tup [.agg (eEy ey0), .bool false, .int .i64 3] ∧ s = ({} : St).set r (eRd b p last 0 n p 3) by funext d s; rw [nextR, if_pos h1, if_pos h2]]
      subst h1
      simp -implicitDefEqProofs only [go_sem, hT, zb1, za8, zb0, anD, za2, za3, eRd_len, rd_0, rd_1, rd_3, rd_5, rd_6, rd_7, gdD, zb8, Int.ofNat_zero, n1, n2, n3, n4, n5, n6, q1, q2, rd_s5, rd_s6', ey_zero]
      refine ⟨fun x hx => by simp [hx], _, _, DLe.refl _, le_one ?_, rfl, rfl⟩
      simp [St.set, n1, n2, n3, n4, n5, n6]
    · have q2 : ((p : Int) < b.length) = False := by simp; omega
      rw [show nextR b r p last left n = fun d s => d = .tup [.agg (eEy ey0), .bool false, .int .i64 0] ∧ s = ({} : St).set r (eRd b p last 0 n 0 0) by funext d s; rw [nextR, if_pos h1, if_neg h2]]
      subst h1
      simp -implicitDefEqProofs only [go_sem, hT, zb1, za8, zb0, anD, za2, za3, eRd_len, rd_0, rd_1, rd_3, rd_5, rd_6, rd_7, gdD, zb8, Int.ofNat_zero, n1, n2, n3, n4, n5, n6, q1, q2, rd_s5, rd_s6', ey_zero]
      refine ⟨_, _, DLe.refl _, le_one ?_, rfl, rfl⟩
      simp [St.set, n1, n2, n3, n4, n5, n6]
  have q1 : ((left : Int) = 0) = False := by simp; omega
  simp -implicitDefEqProofs only [go_sem, hT, n1, n2, n3, n4, n5, n6, q1, bYfbG0]
  refine callB_box (b := r) (by simp [St.set, n1, n2, n3, n4, n5, n6]) rfl (entry205 b r p last left n 0 0 hl h6 hp) ?_
  have hpl := entD_place (b := b) (loc := bt b 3) (p := p) (last := last)
  obtain ⟨e, he⟩ : ∃ e, entD b (bt b 3) p last = e := ⟨_, rfl⟩
  obtain ⟨e, q, err⟩ := e
  rw [he] at hpl ⊢
  simp only at hpl ⊢
  by_cases h3 : err = 0
  case neg =>
    have q3 : ((err : Int) = 0) = False := by simp; omega
    rw [show nextR b r p last left n = fun d s => d = .tup [.agg (eEy ey0), .bool false, .int .i64 err] ∧ s = ({} : St).set r (eRd b p last left n q err) by funext d s; rw [nextR, if_neg h1, he, if_pos h3]]
    simp -implicitDefEqProofs only [go_sem, hT, n1, n2, n3, n4, n5, n6, q1, q3, bYfbG0]
    intro b6 n7 n8 n9 n10 n11 n12
    simp -implicitDefEqProofs only [go_sem, hT, zb1, za8, zb0, anD, za2, za3, eRd_len, rd_0, rd_1, rd_3, rd_5, rd_6, rd_7, gdD, zb8, Int.ofNat_zero, n1, n2, n3, n4, n5, n6, n7, n8, n9, n10, n11, n12, q1, q3, ey_zero, rd_s5, rd_s6]
    refine ⟨_, _, DLe.refl _, le_one ?_, rfl, rfl⟩
    simp [St.set, n1, n2, n3, n4, n5, n6, n7, n8, n9, n10, n11, n12]
  have q3 : ((err : Int) = 0) = True := by simp; omega
  obtain ⟨hpq, hqb⟩ := hpl h3
  have wl : IntKind.wrap .i64 ((left : Int) - 1) = ((left - 1 : Nat) : Int) := wrapN (by omega) (by omega)
  rw [show nextR b r p last left n = fun d s => d = .tup [.agg (eEy e), .bool true, .int .i64 0] ∧ s = ({} : St).set r (eRd b q e.pos (left - 1) n 0 0) by funext d s; rw [nextR, if_neg h1, he, if_neg (by simp [h3])]]
  simp -implicitDefEqProofs only [go_sem, hT, n1, n2, n3, n4, n5, n6, q1, q3, wl, bYfbG0]
  intro b6 n7 n8 n9 n10 n11 n12
  simp -implicitDefEqProofs only [go_sem, hT, zb1, za8, zb0, anD, za2, za3, eRd_len, rd_0, rd_1, rd_3, rd_5, rd_6, rd_7, gdD, zb8, Int.ofNat_zero, n1, n2, n3, n4, n5, n6, n7, n8, n9, n10, n11, n12, q1, q3, wl, ey_zero, ey_0, rd_s1, rd_s2, rd_s3]
  refine ⟨fun x hx => by simp [hx], _, _, DLe.refl _, le_one ?_, rfl, rfl⟩
  simp [St.set, n1, n2, n3, n4, n5, n6, n7, n8, n9, n10, n11, n12]
open Go.Proofs
theorem locals135 (b : List Ty) (r p : Nat) (last : Int) (left n bad err : Nat) (h6 : 4 ≤ b.length) :
    RCall Tryz.prog 135 [.ptr r 0] (({} : St).set r (eRd b p last left n bad err)) fun d s' => d = .int .i64 (bt b 3) ∧ s' = ({} : St).set r (eRd b p last left n bad err) := by
  have hR3 := bt_at (b := b) (i := 3) (by omega)
  have hb3 := bt_lt b 3
  have u3 : IntKind.wrap .i64 (bt b 3 : Int) = bt b 3 := zb7 (by omega) (by omega)
  refine F135.rcall rfl fun T hT => ?_
  simp -implicitDefEqProofs only [go_sem, c135, hT, eRd_len, rd_0, rd_7, zb8, rws_one eT_len, gdD, hR3, u3]
  exact ⟨by omega, _, _, DLe.refl _, St.le.refl _, rfl, rfl⟩
theorem all136 (r : Nat) : RCall Tryz.prog 136 [.ptr r 0] {} fun d s' => ∃ bc, d = .func (.func 168) [] [.ptr bc 0] ∧ s' = ({} : St).set bc [.ptr r 0] := by
  refine F136.rcall rfl fun T hT => ?_
  simp -implicitDefEqProofs only [go_sem, c136, hT]
  intro bc
  exact ⟨_, _, DLe.refl _, St.le.refl _, bc, rfl, rfl⟩
end Go.AL
namespace Go.AL
inductive Rz (α : Type) where
  | ok (x : α)
  | no (at' : Int) (why : Nat)
structure PS where
  p : Nat
  fr : Fr
  live : Bool
  cmp : Nat
  fet : List Nat
def findE (l : List Ey) (a : Int) : Option Ey := l.find? fun x => decide (x.pos = a)
def nextP (l : List Ey) (n p : Nat) : Nat := match l.find? fun x => decide ((p : Int) + 1 ≤ x.pos) with
  | some y => if y.pos < n then y.pos.toNat else n
  | none => n
def strayE (l : List Ey) (p q : Nat) : Option Ey := l.find? fun x => decide ((p : Int) < x.pos ∧ x.pos < q)
def comeD (cs : List Cl) (l : List Ey) (n : Nat) (s : PS) : Rz (PS × Bool) :=
  match findE l s.p with
  | none => if s.live = true then .ok (s, true) else .no s.p 90
  | some x =>
    if s.live = true ∧ x.dead = true then .no s.p 91
    else if s.live = true ∧ subFr cs s.fr x.fr = false then .no s.p 92
    else if x.dead = true then .ok ({ s with p := nextP l n s.p }, false)
    else .ok ({ s with fr := x.fr, live := true, cmp := s.cmp + (if s.live = true then 1 else 0) }, true)
def endD (n p q : Nat) (op : Nat) (fr : Fr) (cmp : Nat) (fet : List Nat) : Rz PS :=
  if endsB op = true then .ok ⟨q, fr, false, cmp, fet⟩ else if n ≤ q then .no p 51 else .ok ⟨q, fr, true, cmp, fet⟩
def jumpD (cs : List Cl) (l : List Ey) (n p : Nat) (a : Int) (fr : Fr) : Option Nat :=
  if n ≤ a then some 50 else match findE l a with
  | none => some 90
  | some x => if x.dead = true then some 91 else if subFr cs fr x.fr = false then some 92 else none
def fetD (e : En) (b : List Ty) (l : List Ey) (s : PS) : Rz PS :=
  if (decF b s.p).2 ≠ 0 then .no s.p (decF b s.p).2
  else match strayE l s.p (s.p + sizeOp (decF b s.p).1.op.val) with
  | some x => .no x.pos 93
  | none =>
    if (applyR e s.fr (decF b s.p).1).2 ≠ 0 then .no s.p (applyR e s.fr (decF b s.p).1).2
    else if jumpsB (decF b s.p).1.op.val = true then
      match jumpD e.cs l b.length s.p (decF b s.p).1.a (applyR e s.fr (decF b s.p).1).1 with
      | some w => .no s.p w
      | none => endD b.length s.p (s.p + sizeOp (decF b s.p).1.op.val) (decF b s.p).1.op.val (applyR e s.fr (decF b s.p).1).1 (s.cmp + 1) (s.fet ++ [s.p])
    else endD b.length s.p (s.p + sizeOp (decF b s.p).1.op.val) (decF b s.p).1.op.val (applyR e s.fr (decF b s.p).1).1 s.cmp (s.fet ++ [s.p])
def runD (e : En) (b : List Ty) (l : List Ey) : Nat → PS → Rz PS
  | 0, s => .ok s
  | k + 1, s => if b.length ≤ s.p then .ok s else match comeD e.cs l b.length s with
    | .no a w => .no a w
    | .ok (s', false) => runD e b l k s'
    | .ok (s', true) => match fetD e b l s' with
      | .no a w => .no a w
      | .ok s'' => runD e b l k s''
def psOf (e : En) : List Ty := ((e.sgs[e.fn.toNat]?).map (·.ps)).getD []
def startS (e : En) (n : Int) : PS := ⟨0, (startF e.cs.length (psOf e) n).1, true, 0, []⟩
def badE (e : En) (l : List Ey) : Option Ey := l.find? fun x => !x.dead && decide (checkF e.cs.length x.fr ≠ 0)
def lateE (l : List Ey) (n : Nat) : Option Ey := l.find? fun x => decide ((n : Int) ≤ x.pos)
def beginD (e : En) (n : Int) (m : Nat) (c : List Ty) : Option (Int × Nat) :=
  if canB e = false ∨ n < (psOf e).length ∨ 16 < n then some (0, 1)
  else if 4096 < m then some (0, 4)
  else if m = 0 then some (0, 51)
  else if (decC c).2.2 ≠ 0 then some ((decC c).2.1, (decC c).2.2)
  else match badE e (decC c).1.es with
  | some x => some (x.pos, 65)
  | none => if ((decC c).1.loc : Int) ≠ n then some (0, 32) else none
def checkD (e : En) (n : Int) (b c : List Ty) : (Nat × List Nat) × Int × Nat :=
  match beginD e n b.length c with
  | some (a, w) => ((0, []), a, w)
  | none => match runD e b (decC c).1.es (b.length + 1) (startS e n) with
    | .no a w => ((0, []), a, w)
    | .ok s => match lateE (decC c).1.es b.length with
      | some x => ((0, []), x.pos, 93)
      | none => ((s.cmp, s.fet), 0, 0)
def Rise (l : List Ey) : Prop := l.Pairwise fun x y => x.pos < y.pos
def cnt (l : List Ey) (a : Int) : Nat := l.countP fun x => decide (x.pos < a)
theorem cnt_cons (x : Ey) (r : List Ey) (a : Int) : cnt (x :: r) a = cnt r a + if x.pos < a then 1 else 0 := by simp [cnt, List.countP_cons]
theorem rise_cons {x : Ey} {r : List Ey} (h : Rise (x :: r)) : (∀ y ∈ r, x.pos < y.pos) ∧ Rise r := List.pairwise_cons.1 h
theorem cnt_zero {l : List Ey} {a : Int} (h : ∀ y ∈ l, a ≤ y.pos) : cnt l a = 0 := by
  simp only [cnt, List.countP_eq_zero, decide_eq_true_eq]
  exact fun y hy => by have := h y hy; omega
theorem cnt_le (l : List Ey) (a : Int) : cnt l a ≤ l.length := List.countP_le_length
theorem cnt_iff : ∀ {l : List Ey} (h : Rise l) {a : Int} {i : Nat} (hi : i < l.length), l[i].pos < a ↔ i < cnt l a
  | [], _, _, i, hi => by simp at hi
  | x :: r, h, a, i, hi => by
    obtain ⟨h1, h2⟩ := rise_cons h
    rw [cnt_cons]
    by_cases hx : x.pos < a
    · rw [if_pos hx]
      cases i with
      | zero => simpa using hx
      | succ i =>
        have := cnt_iff h2 (a := a) (i := i) (by simpa using hi)
        simp only [List.getElem_cons_succ]
        omega
    · rw [if_neg hx, cnt_zero fun y hy => by have := h1 y hy; omega]
      cases i with
      | zero => simpa using hx
      | succ i =>
        have := h1 (r[i]'(by simpa using hi)) (List.getElem_mem _)
        simp only [List.getElem_cons_succ]
        omega
theorem find_ge : ∀ {l : List Ey} (h : Rise l) (a : Int), l.find? (fun x => decide (a ≤ x.pos)) = l[cnt l a]?
  | [], _, _ => rfl
  | x :: r, h, a => by
    obtain ⟨h1, h2⟩ := rise_cons h
    rw [cnt_cons]
    by_cases hx : x.pos < a
    · rw [if_pos hx, List.find?_cons_of_neg (by simp; omega), find_ge h2]
      simp
    · rw [if_neg hx, List.find?_cons_of_pos (by simp; omega), cnt_zero fun y hy => by have := h1 y hy; omega]
      simp
theorem find_none {l : List Ey} {f : Ey → Bool} (h : ∀ y ∈ l, f y = false) : l.find? f = none := by
  rw [List.find?_eq_none]; intro y hy; simp [h y hy]
theorem findE_cnt : ∀ {l : List Ey} (h : Rise l) (a : Int), findE l a = (l[cnt l a]?).bind fun x => if x.pos = a then some x else none
  | [], _, _ => rfl
  | x :: r, h, a => by
    obtain ⟨h1, h2⟩ := rise_cons h
    have ih := findE_cnt h2 a
    unfold findE at ih ⊢
    rw [cnt_cons]
    by_cases hx : x.pos < a
    · rw [if_pos hx, List.find?_cons_of_neg (by simp; omega), ih]
      simp
    · rw [if_neg hx, cnt_zero fun y hy => by have := h1 y hy; omega]
      by_cases he : x.pos = a
      · rw [List.find?_cons_of_pos (by simp [he])]; simp [he]
      · rw [List.find?_cons_of_neg (by simp [he]), find_none fun y hy => by have := h1 y hy; simp; omega]
        simp [he]
theorem strayE_cnt : ∀ {l : List Ey} (h : Rise l) (p q : Nat), strayE l p q = (l[cnt l ((p : Int) + 1)]?).bind fun x => if x.pos < q then some x else none
  | [], _, _, _ => rfl
  | x :: r, h, p, q => by
    obtain ⟨h1, h2⟩ := rise_cons h
    have ih := strayE_cnt h2 p q
    unfold strayE at ih ⊢
    rw [cnt_cons]
    by_cases hx : x.pos < (p : Int) + 1
    · rw [if_pos hx, List.find?_cons_of_neg (by simp; omega), ih]
      simp
    · rw [if_neg hx, cnt_zero fun y hy => by have := h1 y hy; omega]
      by_cases he : x.pos < q
      · rw [List.find?_cons_of_pos (by simp; omega)]; simp [he]
      · rw [List.find?_cons_of_neg (by simp; omega), find_none fun y hy => by have := h1 y hy; simp; omega]
        simp [he]
theorem cnt_succ {l : List Ey} (h : Rise l) (a : Int) : cnt l (a + 1) = cnt l a + if (findE l a).isSome = true then 1 else 0 := by
  induction l with
  | nil => rfl
  | cons x r ih =>
    obtain ⟨h1, h2⟩ := rise_cons h
    rw [cnt_cons, cnt_cons, ih h2]
    unfold findE
    by_cases hx : x.pos = a
    · have h0 : List.find? (fun x => decide (x.pos = a)) r = none := find_none fun y hy => by have := h1 y hy; simp; omega
      rw [List.find?_cons_of_pos (by simp [hx]), if_pos (show x.pos < a + 1 by omega), if_neg (show ¬ x.pos < a by omega)]
      simp [findE, h0]
    · rw [List.find?_cons_of_neg (by simp [hx])]
      by_cases hy : x.pos < a
      · rw [if_pos (show x.pos < a + 1 by omega), if_pos hy]; omega
      · rw [if_neg (show ¬ x.pos < a + 1 by omega), if_neg hy]; omega
theorem nextP_cnt {l : List Ey} (h : Rise l) (n p : Nat) : nextP l n p = match l[cnt l ((p : Int) + 1)]? with | some y => if y.pos < n then y.pos.toNat else n | none => n := by
  unfold nextP; rw [find_ge h]
theorem entD_pos {b : List Ty} {loc p : Nat} {last : Int} (h : (entD b loc p last).2.2 = 0) : last < (entD b loc p last).1.pos ∧ 0 ≤ (entD b loc p last).1.pos ∧ (entD b loc p last).1.pos < 4096 := by
  have ha : afterE (word2 b p) last = 0 := by
    unfold entD at h
    split at h; · exact absurd h (by simp)
    split at h
    · rename_i h2; exact absurd h h2
    · rename_i h2; exact Classical.not_not.1 h2
  have hp : (entD b loc p last).1.pos = word2 b p := by
    unfold entD at h ⊢
    split; · rename_i h1; rw [if_pos h1] at h; exact absurd h (by simp)
    rename_i h1; rw [if_neg h1] at h
    split; · rename_i h2; rw [if_pos h2] at h; exact absurd h h2
    rename_i h2; rw [if_neg h2] at h
    split; · rename_i h3; rw [if_pos h3] at h; exact absurd h (by simp)
    rename_i h3; rw [if_neg h3] at h
    split; · rename_i h4; rw [if_pos h4] at h; exact absurd h (by simp)
    rename_i h4; rw [if_neg h4] at h
    split; · rfl
    rename_i h5; rw [if_neg h5] at h
    split; · rename_i h6; rw [if_pos h6] at h; exact absurd h (by simp)
    rename_i h6; rw [if_neg h6] at h
    split; · rename_i h7; rw [if_pos h7] at h; exact absurd h (by simp)
    rename_i h7; rw [if_neg h7] at h
    split; · rename_i h8; rw [if_pos h8] at h; exact absurd h h8
    rfl
  rw [hp]
  unfold afterE at ha
  split at ha; · cases ha
  split at ha; · cases ha
  split at ha; · cases ha
  omega
theorem decP_rise (b : List Ty) (loc : Nat) : ∀ (n p : Nat) (last : Int), Rise (esOf (decP b loc n p last).1) ∧ (∀ x ∈ esOf (decP b loc n p last).1, last < x.pos ∧ 0 ≤ x.pos ∧ x.pos < 4096) ∧ (esOf (decP b loc n p last).1).length ≤ n
  | 0, p, last => by simp [decP, esOf, Rise]
  | n + 1, p, last => by
    rw [decP]
    split
    · simp [esOf, Rise]
    · rename_i h
      have h0 : (entD b loc p last).2.2 = 0 := Classical.not_not.1 h
      obtain ⟨h1, h2, h3⟩ := entD_pos h0
      obtain ⟨i1, i2, i3⟩ := decP_rise b loc n (entD b loc p last).2.1 (entD b loc p last).1.pos
      refine ⟨List.pairwise_cons.2 ⟨fun y hy => (i2 y hy).1, i1⟩, fun x hx => ?_, by simpa [esOf] using i3⟩
      simp only [esOf, List.map_cons, List.mem_cons] at hx
      rcases hx with rfl | hx
      · exact ⟨h1, h2, h3⟩
      · have := i2 x hx; omega
theorem decC_rise (b : List Ty) : Rise (decC b).1.es ∧ (∀ x ∈ (decC b).1.es, 0 ≤ x.pos ∧ x.pos < 4096) ∧ (decC b).1.es.length ≤ 4096 ∧ (decC b).1.loc ≤ 255 := by
  unfold decC
  split
  · simp [ct0, Rise]
  · rename_i h
    have h0 : (toldD b).2.2 = 0 := Classical.not_not.1 h
    have hb := bt_lt b 3
    unfold toldD at h0 ⊢
    split
    · simp only [esOf, List.map_nil, List.not_mem_nil, false_implies, implies_true, List.length_nil, true_and]; exact ⟨List.Pairwise.nil, by omega, by omega⟩
    rename_i h1
    obtain ⟨_, _, hw⟩ := headD_zero (Classical.not_not.1 h1)
    obtain ⟨i1, i2, i3⟩ := decP_rise b (bt b 3) (word2 b 4) 6 (-1)
    have i4 : bt b 3 ≤ 255 := by omega
    have i5 : (esOf (decP b (bt b 3) (word2 b 4) 6 (-1)).1).length ≤ 4096 := by omega
    have i2' : ∀ x ∈ esOf (decP b (bt b 3) (word2 b 4) 6 (-1)).1, 0 ≤ x.pos ∧ x.pos < 4096 := fun x hx => (i2 x hx).2
    split
    · exact ⟨i1, i2', i5, i4⟩
    split
    · exact ⟨i1, i2', i5, i4⟩
    · exact ⟨i1, i2', i5, i4⟩
end Go.AL
namespace Go.AL
theorem runD_inv {e : En} {b : List Ty} {l : List Ey} {J J' : PS → Prop} (h1 : ∀ s s', s.p < b.length → J s → comeD e.cs l b.length s = .ok (s', false) → J s')
    (h2 : ∀ s s', s.p < b.length → J s → comeD e.cs l b.length s = .ok (s', true) → J' s') (h3 : ∀ s s', J' s → fetD e b l s = .ok s' → J s') : ∀ (k : Nat) (s s' : PS), J s → runD e b l k s = .ok s' → J s'
  | 0, s, s', hJ, h => by simp only [runD, Rz.ok.injEq] at h; subst h; exact hJ
  | k + 1, s, s', hJ, h => by
    rw [runD] at h
    split at h
    · simp only [Rz.ok.injEq] at h; subst h; exact hJ
    rename_i hp
    split at h
    · cases h
    · rename_i s1 hc; exact runD_inv h1 h2 h3 k s1 s' (h1 s s1 (by omega) hJ hc) h
    · rename_i s1 hc
      split at h
      · cases h
      · rename_i s2 hf; exact runD_inv h1 h2 h3 k s2 s' (h3 s1 s2 (h2 s s1 (by omega) hJ hc) hf) h
theorem come_off {cs : List Cl} {l : List Ey} {n : Nat} {s s' : PS} (h : comeD cs l n s = .ok (s', false)) : s.live = false ∧ s' = { s with p := nextP l n s.p } ∧ ∃ x, findE l s.p = some x ∧ x.dead = true := by
  unfold comeD at h
  split at h
  · split at h <;> simp at h
  · rename_i x hx
    split at h; · cases h
    split at h; · cases h
    rename_i h1 h2
    split at h
    · rename_i hd
      simp only [Rz.ok.injEq, Prod.mk.injEq, and_true] at h
      exact ⟨by simpa [hd] using h1, h.symm, x, hx, hd⟩
    · simp at h
theorem come_on {cs : List Cl} {l : List Ey} {n : Nat} {s s' : PS} (h : comeD cs l n s = .ok (s', true)) : s'.p = s.p ∧ s'.live = true ∧ s'.fet = s.fet ∧ s'.cmp ≤ s.cmp + (if s.live = true then 1 else 0) ∧ ((findE l s.p = none ∧ s' = s) ∨ ∃ x, findE l s.p = some x ∧ x.dead = false ∧ s'.fr = x.fr) := by
  unfold comeD at h
  split at h
  · rename_i hx
    split at h
    · rename_i hl
      simp only [Rz.ok.injEq, Prod.mk.injEq, and_true] at h
      subst h
      exact ⟨rfl, hl, rfl, by omega, .inl ⟨hx, rfl⟩⟩
    · cases h
  · rename_i x hx
    split at h; · cases h
    split at h; · cases h
    split at h
    · simp at h
    · rename_i hd
      simp only [Rz.ok.injEq, Prod.mk.injEq, and_true] at h
      subst h
      exact ⟨rfl, rfl, rfl, Nat.le_refl _, .inr ⟨x, hx, by simpa using hd, rfl⟩⟩
theorem end_ok {n p q op : Nat} {fr : Fr} {cmp : Nat} {fet : List Nat} {s : PS} (h : endD n p q op fr cmp fet = .ok s) : s = ⟨q, fr, !endsB op, cmp, fet⟩ ∧ (endsB op = false → q < n) := by
  unfold endD at h
  split at h
  · rename_i he; simp only [Rz.ok.injEq] at h; subst h; simp [he]
  · rename_i he
    split at h
    · cases h
    · rename_i hq; simp only [Rz.ok.injEq] at h; subst h; simp only [Bool.not_eq_true] at he; simp [he]; omega
theorem fet_ok {e : En} {b : List Ty} {l : List Ey} {s s' : PS} (h : fetD e b l s = .ok s') :
    (decF b s.p).2 = 0 ∧ strayE l s.p (s.p + sizeOp (decF b s.p).1.op.val) = none ∧ (applyR e s.fr (decF b s.p).1).2 = 0 ∧
    (jumpsB (decF b s.p).1.op.val = true → jumpD e.cs l b.length s.p (decF b s.p).1.a (applyR e s.fr (decF b s.p).1).1 = none) ∧
    (endsB (decF b s.p).1.op.val = false → s.p + sizeOp (decF b s.p).1.op.val < b.length) ∧
    s' = ⟨s.p + sizeOp (decF b s.p).1.op.val, (applyR e s.fr (decF b s.p).1).1, !endsB (decF b s.p).1.op.val, s.cmp + (if jumpsB (decF b s.p).1.op.val = true then 1 else 0), s.fet ++ [s.p]⟩ := by
  unfold fetD at h
  split at h; · cases h
  rename_i h1
  split at h; · cases h
  rename_i h2
  split at h; · cases h
  rename_i h3
  split at h
  · rename_i hj
    split at h; · cases h
    rename_i h4
    obtain ⟨h5, h6⟩ := end_ok h
    exact ⟨Classical.not_not.1 h1, h2, Classical.not_not.1 h3, fun _ => h4, h6, by rw [h5, if_pos hj]⟩
  · rename_i hj
    obtain ⟨h5, h6⟩ := end_ok h
    exact ⟨Classical.not_not.1 h1, h2, Classical.not_not.1 h3, fun hh => absurd hh hj, h6, by rw [h5, if_neg hj]; rfl⟩
theorem decF_ok {b : List Ty} {p : Nat} (h : (decF b p).2 = 0) : p < b.length ∧ (decF b p).1 = decIn b p ((b[p]?).getD 0) ∧ 1 ≤ sizeOp (decF b p).1.op.val ∧ p + sizeOp (decF b p).1.op.val ≤ b.length := by
  unfold decF at h ⊢
  split; · rename_i h1; rw [if_pos h1] at h; simp at h
  rename_i h1; rw [if_neg h1] at h
  split; · rename_i h2; rw [if_pos h2] at h; simp at h
  rename_i h2; rw [if_neg h2] at h
  split; · rename_i h3; rw [if_pos h3] at h; simp at h
  rename_i h3; rw [if_neg h3] at h
  split; · rename_i h4; rw [if_pos h4] at h; simp at h
  rename_i h4; rw [if_neg h4] at h
  split; · rename_i h5; rw [if_pos h5] at h; simp at h
  refine ⟨by omega, rfl, ?_, ?_⟩
  · show 1 ≤ sizeOp ((b[p]?).getD 0).val; omega
  · show p + sizeOp ((b[p]?).getD 0).val ≤ b.length; omega
theorem nextP_gt {l : List Ey} {n p : Nat} (h : p < n) : p < nextP l n p ∧ nextP l n p ≤ n := by
  unfold nextP
  split
  · rename_i y hy
    have := List.find?_some hy
    simp only [decide_eq_true_eq] at this
    split <;> omega
  · omega
theorem nextP_spec (l : List Ey) (n p : Nat) : nextP l n p = n ∨ ∃ y ∈ l, (p : Int) + 1 ≤ y.pos ∧ y.pos < n ∧ nextP l n p = y.pos.toNat := by
  unfold nextP
  split
  · rename_i y hy
    have := List.find?_some hy
    simp only [decide_eq_true_eq] at this
    split
    · rename_i h; exact .inr ⟨y, List.mem_of_find?_eq_some hy, this, h, rfl⟩
    · exact .inl rfl
  · exact .inl rfl
theorem runD_end {e : En} {b : List Ty} {l : List Ey} : ∀ (k : Nat) (s s' : PS), b.length < s.p + k → runD e b l k s = .ok s' → b.length ≤ s'.p
  | 0, s, s', hk, h => by simp only [runD, Rz.ok.injEq] at h; subst h; omega
  | k + 1, s, s', hk, h => by
    rw [runD] at h
    split at h
    · simp only [Rz.ok.injEq] at h; subst h; assumption
    rename_i hp
    split at h
    · cases h
    · rename_i s1 hc
      have := (nextP_gt (l := l) (n := b.length) (p := s.p) (by omega)).1
      have hp1 : s1.p = nextP l b.length s.p := by rw [(come_off hc).2.1]
      exact runD_end k s1 s' (by omega) h
    · rename_i s1 hc
      split at h
      · cases h
      · rename_i s2 hf
        obtain ⟨f1, _, _, _, _, f6⟩ := fet_ok hf
        have := (decF_ok f1).2.2.1
        have hp1 := (come_on hc).1
        have hp2 : s2.p = s1.p + sizeOp (decF b s1.p).1.op.val := by rw [f6]
        exact runD_end k s2 s' (by omega) h
def stepR (b : List Ty) (acc : Nat × Nat) (a : Nat) : Nat × Nat :=
  (a + sizeOp (decF b a).1.op.val, acc.2 + (if endsB (decF b a).1.op.val = true then 0 else 1) + (if jumpsB (decF b a).1.op.val = true then 1 else 0))
def accR (b : List Ty) (l : List Nat) : Nat × Nat := l.foldl (stepR b) (0, 0)
def OkR (b : List Ty) (l : List Nat) : Prop := ∀ (i : Nat) (h : i < l.length), (accR b (l.take i)).1 ≤ l[i] ∧ (decF b l[i]).2 = 0
theorem accR_snoc (b : List Ty) (l : List Nat) (a : Nat) : accR b (l ++ [a]) = stepR b (accR b l) a := by simp [accR]
theorem okR_snoc {b : List Ty} {l : List Nat} {a : Nat} (h : OkR b l) (h1 : (accR b l).1 ≤ a) (h2 : (decF b a).2 = 0) : OkR b (l ++ [a]) := fun i hi => by
  by_cases hl : i < l.length
  · rw [List.getElem_append_left hl, List.take_append_of_le_length (by omega)]; exact h i hl
  · simp only [List.length_append, List.length_singleton] at hi
    obtain rfl : i = l.length := by omega
    simp only [List.getElem_concat_length, List.take_left']
    exact ⟨h1, h2⟩
structure RisesI (b : List Ty) (s : PS) : Prop where
  ok : OkR b s.fet
  le : (accR b s.fet).1 ≤ s.p
  cmp : s.cmp + (if s.live = true then 1 else 0) ≤ (accR b s.fet).2 + 1
  z : s.fet = [] → s.p = 0 ∧ s.live = true
  hd : ∀ h : s.fet ≠ [], s.fet.head h = 0
theorem rises_run {e : En} {b : List Ty} {l : List Ey} {k : Nat} {s : PS} {f : Fr} (h : runD e b l k ⟨0, f, true, 0, []⟩ = .ok s) : RisesI b s := by
  refine runD_inv (J := RisesI b) (J' := fun s => OkR b s.fet ∧ (accR b s.fet).1 ≤ s.p ∧ s.cmp ≤ (accR b s.fet).2 + 1 ∧ (s.fet = [] → s.p = 0) ∧ ∀ h : s.fet ≠ [], s.fet.head h = 0) ?_ ?_ ?_ k _ s ?_ h
  · intro s s' hp hJ hc
    obtain ⟨hl, rfl, _⟩ := come_off hc
    have := nextP_gt (l := l) hp
    have hle := hJ.le
    exact ⟨hJ.ok, by simp only; omega, hJ.cmp, (fun hz => by have h2 := (hJ.z hz).2; rw [hl] at h2; exact absurd h2 (by simp)), hJ.hd⟩
  · intro s s' hp hJ hc
    obtain ⟨h1, h2, h3, h4, _⟩ := come_on hc
    rw [h1, h3]
    exact ⟨hJ.ok, hJ.le, by have := hJ.cmp; omega, fun hz => (hJ.z hz).1, hJ.hd⟩
  · rintro s s' ⟨j1, j2, j3, j4, j5⟩ hf
    obtain ⟨f1, _, _, _, _, rfl⟩ := fet_ok hf
    have ha : accR b (s.fet ++ [s.p]) = stepR b (accR b s.fet) s.p := accR_snoc _ _ _
    refine ⟨okR_snoc j1 j2 f1, by simp only [ha]; exact Nat.le_refl _, ?_, fun hz => by simp at hz, fun hne => ?_⟩
    · simp only [ha, stepR]
      cases endsB (decF b s.p).1.op.val <;> simp <;> omega
    · simp only
      by_cases hz : s.fet = []
      · simp [hz, j4 hz]
      · rw [List.head_append_of_ne_nil hz]; exact j5 hz
  · exact ⟨fun i hi => by simp at hi, Nat.le_refl _, by simp [accR], fun _ => ⟨rfl, rfl⟩, fun h => absurd rfl h⟩
def deadAt (l : List Ey) (a : Int) : Bool := l.foldl (fun d x => if x.pos ≤ a then x.dead else d) false
theorem dead_same {a a' : Int} : ∀ {l : List Ey} (h : ∀ x ∈ l, (x.pos ≤ a ↔ x.pos ≤ a')) (d : Bool), l.foldl (fun d x => if x.pos ≤ a then x.dead else d) d = l.foldl (fun d x => if x.pos ≤ a' then x.dead else d) d
  | [], _, _ => rfl
  | x :: r, h, d => by
    simp only [List.foldl_cons]
    rw [show (if x.pos ≤ a then x.dead else d) = (if x.pos ≤ a' then x.dead else d) by simp only [h x (by simp)]]
    exact dead_same (fun y hy => h y (by simp [hy])) _
theorem dead_late {a : Int} : ∀ {l : List Ey} (h : ∀ x ∈ l, ¬ x.pos ≤ a) (d : Bool), l.foldl (fun d x => if x.pos ≤ a then x.dead else d) d = d
  | [], _, _ => rfl
  | x :: r, h, d => by
    simp only [List.foldl_cons, if_neg (h x (by simp))]
    exact dead_late (fun y hy => h y (by simp [hy])) _
theorem dead_find : ∀ {l : List Ey} (h : Rise l) {a : Int} {x : Ey}, findE l a = some x → ∀ d, l.foldl (fun d x => if x.pos ≤ a then x.dead else d) d = x.dead
  | [], _, _, _, h, _ => by cases h
  | y :: r, h, a, x, hf, d => by
    obtain ⟨h1, h2⟩ := rise_cons h
    simp only [List.foldl_cons]
    unfold findE at hf
    by_cases hy : y.pos = a
    · rw [List.find?_cons_of_pos (by simp [hy])] at hf
      cases hf
      rw [if_pos (by omega), dead_late fun z hz => by have := h1 z hz; omega]
    · rw [List.find?_cons_of_neg (by simp [hy])] at hf
      exact dead_find h2 hf _
theorem stray_none {l : List Ey} {p q : Nat} (h : strayE l p q = none) : ∀ x ∈ l, ¬ ((p : Int) < x.pos ∧ x.pos < q) := fun x hx => by
  have := List.find?_eq_none.1 h x hx
  simpa using this
theorem take_congr {b b' : List Ty} {q k : Nat} (h : ∀ i, q ≤ i → i < q + k → b'[i]? = b[i]?) : (b'.drop q).take k = (b.drop q).take k := by
  apply List.ext_getElem?
  intro i
  by_cases hi : i < k
  · simp only [List.getElem?_take, if_pos hi, List.getElem?_drop]; exact h _ (by omega) (by omega)
  · simp [List.getElem?_take, hi]
theorem decF_congr {b b' : List Ty} {p : Nat} (h : (decF b p).2 = 0) (hl : b'.length = b.length) (hc : ∀ i, p ≤ i → i < p + sizeOp (decF b p).1.op.val → b'[i]? = b[i]?) : decF b' p = decF b p := by
  obtain ⟨d1, d2, d3, d4⟩ := decF_ok h
  have hop : (decF b p).1.op = (b[p]?).getD 0 := by rw [d2]; rfl
  rw [hop] at hc d3 d4
  have hb : b'[p]? = b[p]? := hc p (Nat.le_refl _) (by omega)
  have hin : decIn b' p ((b[p]?).getD 0) = decIn b p ((b[p]?).getD 0) := by
    have hsz : sizeOp ((b[p]?).getD 0).val = 1 + (wid ((b[p]?).getD 0).val).1 + (wid ((b[p]?).getD 0).val).2 := by
      unfold sizeOp at d3 ⊢; split
      · rename_i h34; rw [if_pos h34] at d3; omega
      · rfl
    unfold decIn
    rw [take_congr fun i h1 h2 => hc i (by omega) (by omega), take_congr fun i h1 h2 => hc i (by omega) (by omega)]
  unfold decF
  rw [hl, hb, hin]
theorem runD_dead {e : En} {b b' : List Ty} {l : List Ey} (hr : Rise l) (hl : b'.length = b.length) (hd : ∀ a : Nat, deadAt l a = false → b'[a]? = b[a]?) :
    ∀ (k : Nat) (s s' : PS), (findE l s.p = none → s.p < b.length → deadAt l s.p = false) → runD e b l k s = .ok s' → runD e b' l k s = .ok s'
  | 0, s, s', _, h => by simpa [runD] using h
  | k + 1, s, s', hJ, h => by
    rw [runD] at h ⊢
    rw [hl]
    split at h
    · rename_i hp; rw [if_pos hp]; exact h
    rename_i hp
    rw [if_neg hp]
    split at h
    · cases h
    · rename_i s1 hc
      obtain ⟨_, rfl, _⟩ := come_off hc
      refine runD_dead hr hl hd k _ s' ?_ h
      intro hf hlt
      exfalso
      simp only at hf hlt
      rcases nextP_spec l b.length s.p with hn | ⟨y, hy, y1, y2, y3⟩
      · omega
      · have := List.find?_eq_none.1 hf y hy
        simp at this; omega
    · rename_i s1 hc
      obtain ⟨c1, c2, c3, c4, c5⟩ := come_on hc
      split at h
      · cases h
      · rename_i s2 hf
        obtain ⟨f1, f2, f3, f4, f5, f6⟩ := fet_ok hf
        have hdp : deadAt l s1.p = false := by
          rcases c5 with ⟨c5, c6⟩ | ⟨x, c5, c6, _⟩
          · rw [c1]; exact hJ c5 (by omega)
          · rw [c1, ← c6]; exact dead_find hr c5 _
        have hst := stray_none f2
        have hsame : ∀ a : Nat, s1.p ≤ a → a < s1.p + sizeOp (decF b s1.p).1.op.val → deadAt l a = false := fun a h1 h2 => by
          rw [← hdp]
          exact dead_same (fun x hx => by have := hst x hx; omega) _
        have hdec : decF b' s1.p = decF b s1.p := decF_congr f1 hl fun i h1 h2 => hd i (hsame i h1 h2)
        have hf' : fetD e b' l s1 = fetD e b l s1 := by unfold fetD; rw [hdec, hl]
        rw [hf', hf]
        refine runD_dead hr hl hd k s2 s' ?_ h
        intro hn hlt
        rw [f6] at hn hlt ⊢
        simp only at hn hlt ⊢
        rw [← hdp]
        refine dead_same (fun x hx => ?_) _
        have h1 := hst x hx
        have h2 := List.find?_eq_none.1 hn x hx
        simp only [decide_eq_true_eq] at h2
        have := (decF_ok f1).2.2.1
        omega
theorem jump_no {cs : List Cl} {l : List Ey} {n p : Nat} {a : Int} {f : Fr} {w : Nat} (h : jumpD cs l n p a f = some w) : w ≠ 0 := by
  unfold jumpD at h
  split at h; · cases h; decide
  split at h; · cases h; decide
  split at h; · cases h; decide
  split at h; · cases h; decide
  cases h
theorem fet_no {e : En} {b : List Ty} {l : List Ey} {s : PS} {a : Int} {w : Nat} (h : fetD e b l s = .no a w) : w ≠ 0 := by
  unfold fetD endD at h
  split at h; · rename_i h1; cases h; exact h1
  split at h; · cases h; decide
  split at h; · rename_i h1; cases h; exact h1
  split at h
  · split at h; · rename_i hj; cases h; exact jump_no hj
    split at h; · cases h
    split at h; · cases h; decide
    cases h
  · split at h; · cases h
    split at h; · cases h; decide
    cases h
theorem come_no {cs : List Cl} {l : List Ey} {n : Nat} {s : PS} {a : Int} {w : Nat} (h : comeD cs l n s = .no a w) : w ≠ 0 := by
  unfold comeD at h
  split at h
  · split at h; · cases h
    cases h; decide
  · split at h; · cases h; decide
    split at h; · cases h; decide
    split at h <;> cases h
theorem runD_no {e : En} {b : List Ty} {l : List Ey} {a : Int} {w : Nat} : ∀ (k : Nat) (s : PS), runD e b l k s = .no a w → w ≠ 0
  | 0, s, h => by cases h
  | k + 1, s, h => by
    rw [runD] at h
    split at h; · cases h
    split at h
    · rename_i hc; cases h; exact come_no hc
    · exact runD_no k _ h
    · split at h
      · rename_i hf; cases h; exact fet_no hf
      · exact runD_no k _ h
theorem checkD_dead {e : En} {n : Int} {b b' c : List Ty} (hl : b'.length = b.length) (hd : ∀ a : Nat, deadAt (decC c).1.es a = false → b'[a]? = b[a]?) (h : (checkD e n b c).2.2 = 0) : checkD e n b' c = checkD e n b c := by
  have hb : ∀ x, beginD e n b'.length c = some x ↔ beginD e n b.length c = some x := fun x => by rw [hl]
  unfold checkD at h ⊢
  rw [hl]
  split at h
  · rename_i a w hbg
    rfl
  · rename_i hbg
    split at h
    · rename_i a w hrun
      exact absurd h (runD_no _ _ hrun)
    · rename_i s hrun
      have := runD_dead (b' := b') (decC_rise c).1 hl hd (b.length + 1) (startS e n) s ?_ hrun
      · simp only [this, hrun]
      · intro hn _
        exact dead_late (fun x hx => by
          have h1 := List.find?_eq_none.1 hn x hx
          have h2 := (decC_rise c).2.1 x hx
          have h0 : ((startS e n).p : Int) = 0 := rfl
          rw [h0] at h1 ⊢
          simp only [decide_eq_true_eq] at h1
          omega) _
open Go.Proofs
def c94 : AC :=
.seq (rg [oO 2 (.alloc 52), oO 3 (.assign (kI 0)), oO 4 (.assign (kI 0))])
 (.seq (rg [oO 11 (.move (tT 0)), oO 12 (cF (.func 134) #[tT 11] #[26]), oO 10 (.move (tT 12)), oO 13 (.extract (tT 10) 0), oO 14 (.extract (tT 10) 1), oO 15 (.extract (tT 10) 2), oO 5 (.assign (tT 13)), oO 6 (.assign (tT 14)), oO 7 (.assign (tT 15))])
 (.seq (.seq (rg [oO 16 (.move (tT 7)), oO 17 (.binOp .neq 32 (tT 16) (kI 0) 32)])
 (.cond (tT 17) (.seq (rg [oO 18 (.build 52 #[]), oO 19 (.move (tT 6)), oO 20 (.move (tT 7)), oN (.store 52 (tT 2) (tT 18)), oO 3 (.assign (tT 19)), oO 4 (.assign (tT 20))])
 (.ret))
 (.skip)))
 (.seq (rg [oO 21 (.move (tT 5)), oO 22 (cF (.func 135) #[tT 21] #[192]), oO 23 (.build 52 #[(0, .tmp 22)]), oO 8 (.alloc 52), oN (.store 52 (tT 8) (tT 23))])
 (.seq (.seq (rg [oO 24 (.move (tT 5)), oO 25 (cF (.func 136) #[tT 24] #[192])])
 (.block 0 (.bad)))
 (.seq (.seq (rg [oO 33 (.move (tT 5)), oO 34 (.nilCheck (tT 33)), oO 35 (.fieldAddr 199 (tT 34) 6), oO 36 (.load 32 (tT 35)), oO 37 (.binOp .neq 32 (tT 36) (kI 0) 32)])
 (.cond (tT 37) (.seq (.reg true [5] [⟨⟨some 38, .build 52 #[], none⟩, false, true⟩, ⟨⟨some 39, .move (tT 5), none⟩, true, true⟩, ⟨⟨some 40, .nilCheck (tT 39), none⟩, true, true⟩, ⟨⟨some 41, .fieldAddr 199 (tT 40) 5, none⟩, true, true⟩, ⟨⟨some 42, .load 3 (tT 41), none⟩, true, true⟩, ⟨⟨some 43, .move (tT 5), none⟩, true, true⟩, ⟨⟨some 44, .nilCheck (tT 43), none⟩, true, true⟩, ⟨⟨some 45, .fieldAddr 199 (tT 44) 6, none⟩, true, true⟩, ⟨⟨some 46, .load 32 (tT 45), none⟩, true, true⟩, oN (.store 52 (tT 2) (tT 38)), oO 3 (.assign (tT 42)), oO 4 (.assign (tT 46))])
 (.ret))
 (.skip)))
 (.seq (rg [oO 47 (.load 52 (tT 8)), oN (.store 52 (tT 2) (tT 47)), oO 3 (.assign (kI 0)), oO 4 (.assign (kI 0))])
 .ret))))))
def c106 : AC :=
.seq (rg [oO 4 (.assign (kI 0))])
 (.seq (.seq (rg [oO 7 (.move (tT 0)), oO 8 (cB .len #[tT 7] #[50]), oO 9 (.move (kI 0))])
 (.block 0 (.loop (.seq (rg [oO 10 (.binOp .lss 3 (tT 9) (tT 8) 3)])
 (.seq (.cond (tT 10) (.skip)
 (.exit 0))
 (.seq (.block 1 (.seq (rg [oO 11 (.move (tT 9)), oO 12 (.indexAddr 50 (tT 7) (tT 9)), oO 13 (.load 86 (tT 12)), oO 6 (.alloc 86), oO 5 (.assign (tT 11)), oN (.store 86 (tT 6) (tT 13))])
 (.seq (rg [oO 14 (.fieldAddr 86 (tT 6) 0), oO 15 (.load 3 (tT 14)), oO 16 (.move (tT 1)), oO 17 (.binOp .eql 3 (tT 15) (tT 16) 3)])
 (.cond (tT 17) (.seq (rg [oO 18 (.move (tT 5)), oO 4 (.assign (tT 18))])
 (.ret))
 (.skip)))))
 (rg [oO 19 (.binOp .add 3 (tT 9) (kI 1) 3), oO 9 (.move (tT 19))])))))))
 (.seq (rg [oO 4 (.assign (kI (-1)))])
 .ret))
theorem F106 : Fun1 Tryz.prog 106 20 c106 [.tmp 4] := mkT Tryz.func106 rfl (by decide +kernel) Tryz.ntmps106 rfl (by kernel_rfl) rfl
def c61 : AC :=
.seq (rg [oO 2 (.assign (.const (.bool false))), oO 3 (.assign (kI 0))])
 (.seq (.reg true [] [⟨⟨some 6, .move (tT 0), none⟩, false, true⟩, ⟨⟨some 7, .nilCheck (tT 6), none⟩, false, true⟩, ⟨⟨some 8, .fieldAddr 113 (tT 7) 2, none⟩, false, true⟩, ⟨⟨some 9, .load 50 (tT 8), none⟩, false, true⟩, oO 10 (.move (tT 0)), oO 11 (.nilCheck (tT 10)), oO 12 (.fieldAddr 113 (tT 11) 3), oO 13 (.load 3 (tT 12)), oO 14 (cF (.func 106) #[tT 9, tT 13] #[50, 3]), oO 4 (.assign (tT 14))])
 (.seq (.seq (rg [oO 15 (.move (tT 4)), oO 16 (.binOp .lss 3 (tT 15) (kI 0) 3)])
 (.cond (tT 16) (.seq (.seq (rg [oO 17 (.move (tT 0)), oO 18 (.nilCheck (tT 17)), oO 19 (.fieldAddr 113 (tT 18) 5), oO 20 (.load 4 (tT 19)), oO 21 (.unOp .not 4 (tT 20))])
 (.cond (tT 21) (.seq (rg [oO 2 (.assign (.const (.bool false))), oO 3 (.assign (kI 90))])
 (.ret))
 (.skip)))
 (.seq (rg [oO 2 (.assign (.const (.bool true))), oO 3 (.assign (kI 0))])
 (.ret)))
 (.skip)))
 (.seq (rg [oO 22 (.move (tT 0)), oO 23 (.nilCheck (tT 22)), oO 24 (.fieldAddr 113 (tT 23) 2), oO 25 (.load 50 (tT 24)), oO 26 (.move (tT 4)), oO 27 (.indexAddr 50 (tT 25) (tT 26)), oO 28 (.load 86 (tT 27)), oO 5 (.alloc 86), oN (.store 86 (tT 5) (tT 28))])
 (.seq (.seq (rg [oO 29 (.move (tT 0)), oO 30 (.nilCheck (tT 29)), oO 31 (.fieldAddr 113 (tT 30) 5), oO 32 (.load 4 (tT 31))])
 (.cond (tT 32) (.seq (.seq (rg [oO 33 (.fieldAddr 86 (tT 5) 1), oO 34 (.load 4 (tT 33))])
 (.cond (tT 34) (.seq (rg [oO 2 (.assign (.const (.bool false))), oO 3 (.assign (kI 91))])
 (.ret))
 (.skip)))
 (.seq (rg [oO 35 (.move (tT 0)), oO 36 (.nilCheck (tT 35)), oO 37 (.fieldAddr 113 (tT 36) 6), oO 38 (.fieldAddr 31 (tT 37) 1), oO 39 (.load 3 (tT 38)), oO 40 (.binOp .add 3 (tT 39) (kI 1) 3), oO 41 (.nilCheck (tT 35)), oO 42 (.fieldAddr 113 (tT 41) 6), oO 43 (.fieldAddr 31 (tT 42) 1), oN (.store 3 (tT 43) (tT 40))])
 (.seq (.reg true [] [⟨⟨some 44, .move (tT 0), none⟩, false, true⟩, ⟨⟨some 45, .nilCheck (tT 44), none⟩, false, true⟩, ⟨⟨some 46, .fieldAddr 113 (tT 45) 0, none⟩, false, true⟩, ⟨⟨some 47, .fieldAddr 25 (tT 46) 0, none⟩, false, true⟩, ⟨⟨some 48, .load 22 (tT 47), none⟩, false, true⟩, ⟨⟨some 49, .move (tT 0), none⟩, false, true⟩, ⟨⟨some 50, .nilCheck (tT 49), none⟩, false, true⟩, ⟨⟨some 51, .fieldAddr 113 (tT 50) 4, none⟩, false, true⟩, ⟨⟨some 52, .load 84 (tT 51), none⟩, false, true⟩, oO 53 (.fieldAddr 86 (tT 5) 2), oO 54 (.load 84 (tT 53)), oO 55 (cF (.func 50) #[tT 48, tT 52, tT 54] #[22, 84, 84]), oO 56 (.unOp .not 4 (tT 55))])
 (.cond (tT 56) (.seq (rg [oO 2 (.assign (.const (.bool false))), oO 3 (.assign (kI 92))])
 (.ret))
 (.skip)))))
 (.skip)))
 (.seq (.seq (rg [oO 57 (.fieldAddr 86 (tT 5) 1), oO 58 (.load 4 (tT 57))])
 (.cond (tT 58) (.seq (rg [oO 59 (.move (tT 0)), oO 60 (.move (tT 0)), oO 61 (.nilCheck (tT 60)), oO 62 (.fieldAddr 113 (tT 61) 1), oO 63 (.load 26 (tT 62)), oO 64 (cB .len #[tT 63] #[26]), oO 65 (.nilCheck (tT 59)), oO 66 (.fieldAddr 113 (tT 65) 3), oN (.store 3 (tT 66) (tT 64))])
 (.seq (.seq (.reg true [] [⟨⟨some 67, .move (tT 4), none⟩, false, true⟩, ⟨⟨some 68, .binOp .add 3 (tT 67) (kI 1) 3, none⟩, false, true⟩, oO 69 (.move (tT 0)), oO 70 (.nilCheck (tT 69)), oO 71 (.fieldAddr 113 (tT 70) 2), oO 72 (.load 50 (tT 71)), oO 73 (cB .len #[tT 72] #[50]), oO 74 (.binOp .lss 3 (tT 68) (tT 73) 3), oO 75 (.move (tT 74)), ⟨⟨some 76, .move (tT 0), some (75, true)⟩, false, true⟩, ⟨⟨some 77, .nilCheck (tT 76), some (75, true)⟩, false, true⟩, ⟨⟨some 78, .fieldAddr 113 (tT 77) 2, some (75, true)⟩, false, true⟩, ⟨⟨some 79, .load 50 (tT 78), some (75, true)⟩, false, true⟩, ⟨⟨some 80, .move (tT 4), some (75, true)⟩, false, true⟩, ⟨⟨some 81, .binOp .add 3 (tT 80) (kI 1) 3, some (75, true)⟩, false, true⟩, ⟨⟨some 82, .indexAddr 50 (tT 79) (tT 81), some (75, true)⟩, false, true⟩, ⟨⟨some 83, .fieldAddr 86 (tT 82) 0, some (75, true)⟩, false, true⟩, ⟨⟨some 84, .load 3 (tT 83), some (75, true)⟩, false, true⟩, oG 85 (.move (tT 0)) 75 true, oG 86 (.nilCheck (tT 85)) 75 true, oG 87 (.fieldAddr 113 (tT 86) 1) 75 true, oG 88 (.load 26 (tT 87)) 75 true, oG 89 (cB .len #[tT 88] #[26]) 75 true, oG 90 (.binOp .lss 3 (tT 84) (tT 89) 3) 75 true, oO 91 (.pick (tT 75) (tT 90) (.const (.bool false)))])
 (.cond (tT 91) (rg [oO 92 (.move (tT 0)), oO 93 (.move (tT 0)), oO 94 (.nilCheck (tT 93)), oO 95 (.fieldAddr 113 (tT 94) 2), oO 96 (.load 50 (tT 95)), oO 97 (.move (tT 4)), oO 98 (.binOp .add 3 (tT 97) (kI 1) 3), oO 99 (.indexAddr 50 (tT 96) (tT 98)), oO 100 (.fieldAddr 86 (tT 99) 0), oO 101 (.load 3 (tT 100)), oO 102 (.nilCheck (tT 92)), oO 103 (.fieldAddr 113 (tT 102) 3), oN (.store 3 (tT 103) (tT 101))])
 (.skip)))
 (.seq (rg [oO 2 (.assign (.const (.bool false))), oO 3 (.assign (kI 0))])
 (.ret))))
 (.skip)))
 (.seq (rg [oO 104 (.move (tT 0)), oO 105 (.move (tT 0)), oO 106 (.fieldAddr 86 (tT 5) 2), oO 107 (.load 84 (tT 106)), oO 108 (.nilCheck (tT 104)), oO 109 (.fieldAddr 113 (tT 108) 4), oN (.store 84 (tT 109) (tT 107)), oO 110 (.nilCheck (tT 105)), oO 111 (.fieldAddr 113 (tT 110) 5), oN (.store 4 (tT 111) (.const (.bool true)))])
 (.seq (rg [oO 2 (.assign (.const (.bool true))), oO 3 (.assign (kI 0))])
 .ret)))))))
theorem F61 : Fun1 Tryz.prog 61 112 c61 [.tmp 2, .tmp 3] := mkT Tryz.func61 rfl (by decide +kernel) Tryz.ntmps61 rfl (by kernel_rfl) rfl
def c62 : AC :=
.seq (rg [oO 2 (.assign (kI 0)), oO 3 (.assign (kI 0))])
 (.seq (.reg true [] [⟨⟨some 12, .move (tT 0), none⟩, false, true⟩, ⟨⟨some 13, .nilCheck (tT 12), none⟩, false, true⟩, ⟨⟨some 14, .fieldAddr 113 (tT 13) 1, none⟩, false, true⟩, ⟨⟨some 15, .load 26 (tT 14), none⟩, false, true⟩, ⟨⟨some 16, .move (tT 0), none⟩, false, true⟩, ⟨⟨some 17, .nilCheck (tT 16), none⟩, false, true⟩, ⟨⟨some 18, .fieldAddr 113 (tT 17) 3, none⟩, false, true⟩, ⟨⟨some 19, .load 3 (tT 18), none⟩, false, true⟩, ⟨⟨some 20, cF (.func 19) #[tT 15, tT 19] #[26, 3], none⟩, false, true⟩, ⟨⟨some 11, .move (tT 20), none⟩, false, true⟩, ⟨⟨some 21, .extract (tT 11) 0, none⟩, false, true⟩, ⟨⟨some 22, .extract (tT 11) 1, none⟩, true, true⟩, ⟨⟨some 4, .alloc 38, none⟩, true, false⟩, oN (.store 38 (tT 4) (tT 21)), oO 5 (.assign (tT 22))])
 (.seq (.seq (rg [oO 23 (.move (tT 5)), oO 24 (.binOp .neq 32 (tT 23) (kI 0) 32)])
 (.cond (tT 24) (.seq (rg [oO 25 (.move (tT 0)), oO 26 (.nilCheck (tT 25)), oO 27 (.fieldAddr 113 (tT 26) 3), oO 28 (.load 3 (tT 27)), oO 29 (.move (tT 5)), oO 2 (.assign (tT 28)), oO 3 (.assign (tT 29))])
 (.ret))
 (.skip)))
 (.seq (.reg true [] [⟨⟨some 30, .move (tT 0), none⟩, true, true⟩, ⟨⟨some 31, .move (tT 0), none⟩, false, true⟩, ⟨⟨some 32, .nilCheck (tT 31), none⟩, false, true⟩, ⟨⟨some 33, .fieldAddr 113 (tT 32) 6, none⟩, false, true⟩, ⟨⟨some 34, .fieldAddr 31 (tT 33) 0, none⟩, false, true⟩, ⟨⟨some 35, .load 29 (tT 34), none⟩, false, true⟩, oO 36 (.move (tT 0)), oO 37 (.nilCheck (tT 36)), oO 38 (.fieldAddr 113 (tT 37) 3), oO 39 (.load 3 (tT 38)), oO 40 (.buildSlice 29 1 #[(0, .tmp 39)]), oO 41 (cB .append #[tT 35, tT 40] #[29, 29]), oO 42 (.nilCheck (tT 30)), oO 43 (.fieldAddr 113 (tT 42) 6), oO 44 (.fieldAddr 31 (tT 43) 0), oN (.store 29 (tT 44) (tT 41))])
 (.seq (.reg true [0] [⟨⟨some 45, .move (tT 0), none⟩, true, true⟩, ⟨⟨some 46, .nilCheck (tT 45), none⟩, true, true⟩, ⟨⟨some 47, .fieldAddr 113 (tT 46) 3, none⟩, true, true⟩, ⟨⟨some 48, .load 3 (tT 47), none⟩, true, true⟩, oO 49 (.fieldAddr 38 (tT 4) 1), oO 50 (.load 5 (tT 49)), oO 51 (cF (.func 20) #[tT 50] #[5]), oO 52 (.binOp .add 3 (tT 48) (tT 51) 3), oO 6 (.assign (tT 52))])
 (.seq (.seq (rg [oO 53 (.move (tT 0)), oO 54 (.nilCheck (tT 53)), oO 55 (.fieldAddr 113 (tT 54) 2), oO 56 (.load 50 (tT 55)), oO 57 (cB .len #[tT 56] #[50]), oO 58 (.move (kI 0))])
 (.block 0 (.loop (.seq (rg [oO 59 (.binOp .lss 3 (tT 58) (tT 57) 3)])
 (.seq (.cond (tT 59) (.skip)
 (.exit 0))
 (.seq (.block 1 (.seq (rg [oO 60 (.indexAddr 50 (tT 56) (tT 58)), oO 61 (.load 86 (tT 60)), oO 8 (.alloc 86), oN (.store 86 (tT 8) (tT 61))])
 (.seq (.reg true [] [⟨⟨some 62, .fieldAddr 86 (tT 8) 0, none⟩, false, true⟩, ⟨⟨some 63, .load 3 (tT 62), none⟩, false, true⟩, oO 64 (.move (tT 0)), oO 65 (.nilCheck (tT 64)), oO 66 (.fieldAddr 113 (tT 65) 3), oO 67 (.load 3 (tT 66)), oO 68 (.binOp .gtr 3 (tT 63) (tT 67) 3), oO 69 (.move (tT 68)), ⟨⟨some 70, .fieldAddr 86 (tT 8) 0, some (69, true)⟩, false, true⟩, ⟨⟨some 71, .load 3 (tT 70), some (69, true)⟩, false, true⟩, oG 72 (.move (tT 6)) 69 true, oG 73 (.binOp .lss 3 (tT 71) (tT 72) 3) 69 true, oO 74 (.pick (tT 69) (tT 73) (.const (.bool false)))])
 (.cond (tT 74) (.seq (rg [oO 75 (.fieldAddr 86 (tT 8) 0), oO 76 (.load 3 (tT 75)), oO 2 (.assign (tT 76)), oO 3 (.assign (kI 93))])
 (.ret))
 (.skip)))))
 (rg [oO 77 (.binOp .add 3 (tT 58) (kI 1) 3), oO 58 (.move (tT 77))])))))))
 (.seq (.reg true [] [⟨⟨some 79, .move (tT 0), none⟩, false, true⟩, ⟨⟨some 80, .nilCheck (tT 79), none⟩, false, true⟩, ⟨⟨some 81, .fieldAddr 113 (tT 80) 0, none⟩, false, true⟩, ⟨⟨some 82, .load 25 (tT 81), none⟩, false, true⟩, ⟨⟨some 83, .move (tT 0), none⟩, false, true⟩, ⟨⟨some 84, .nilCheck (tT 83), none⟩, false, true⟩, ⟨⟨some 85, .fieldAddr 113 (tT 84) 4, none⟩, false, true⟩, ⟨⟨some 86, .load 84 (tT 85), none⟩, false, true⟩, ⟨⟨some 87, .load 38 (tT 4), none⟩, false, true⟩, ⟨⟨some 88, cF (.func 107) #[tT 82, tT 86, tT 87] #[25, 84, 38], none⟩, false, true⟩, ⟨⟨some 78, .move (tT 88), none⟩, false, true⟩, ⟨⟨some 89, .extract (tT 78) 0, none⟩, false, true⟩, ⟨⟨some 90, .extract (tT 78) 1, none⟩, true, true⟩, ⟨⟨some 9, .alloc 84, none⟩, true, false⟩, oN (.store 84 (tT 9) (tT 89)), oO 5 (.assign (tT 90))])
 (.seq (.seq (rg [oO 91 (.move (tT 5)), oO 92 (.binOp .neq 32 (tT 91) (kI 0) 32)])
 (.cond (tT 92) (.seq (rg [oO 93 (.move (tT 0)), oO 94 (.nilCheck (tT 93)), oO 95 (.fieldAddr 113 (tT 94) 3), oO 96 (.load 3 (tT 95)), oO 97 (.move (tT 5)), oO 2 (.assign (tT 96)), oO 3 (.assign (tT 97))])
 (.ret))
 (.skip)))
 (.seq (rg [oO 98 (.move (tT 0)), oO 99 (.load 84 (tT 9)), oO 100 (.nilCheck (tT 98)), oO 101 (.fieldAddr 113 (tT 100) 4), oN (.store 84 (tT 101) (tT 99))])
 (.seq (.seq (rg [oO 102 (.fieldAddr 38 (tT 4) 1), oO 103 (.load 5 (tT 102)), oO 104 (cF (.func 22) #[tT 103] #[5])])
 (.cond (tT 104) (.seq (.seq (.reg true [] [⟨⟨some 105, .fieldAddr 38 (tT 4) 2, none⟩, false, true⟩, ⟨⟨some 106, .load 3 (tT 105), none⟩, false, true⟩, oO 107 (.move (tT 0)), oO 108 (.nilCheck (tT 107)), oO 109 (.fieldAddr 113 (tT 108) 1), oO 110 (.load 26 (tT 109)), oO 111 (cB .len #[tT 110] #[26]), oO 112 (.binOp .geq 3 (tT 106) (tT 111) 3)])
 (.cond (tT 112) (.seq (rg [oO 113 (.move (tT 0)), oO 114 (.nilCheck (tT 113)), oO 115 (.fieldAddr 113 (tT 114) 3), oO 116 (.load 3 (tT 115)), oO 2 (.assign (tT 116)), oO 3 (.assign (kI 50))])
 (.ret))
 (.skip)))
 (.seq (.reg true [] [⟨⟨some 117, .move (tT 0), none⟩, false, true⟩, ⟨⟨some 118, .nilCheck (tT 117), none⟩, false, true⟩, ⟨⟨some 119, .fieldAddr 113 (tT 118) 2, none⟩, false, true⟩, ⟨⟨some 120, .load 50 (tT 119), none⟩, false, true⟩, oO 121 (.fieldAddr 38 (tT 4) 2), oO 122 (.load 3 (tT 121)), oO 123 (cF (.func 106) #[tT 120, tT 122] #[50, 3]), oO 10 (.assign (tT 123))])
 (.seq (.seq (rg [oO 124 (.move (tT 10)), oO 125 (.binOp .lss 3 (tT 124) (kI 0) 3)])
 (.cond (tT 125) (.seq (rg [oO 126 (.move (tT 0)), oO 127 (.nilCheck (tT 126)), oO 128 (.fieldAddr 113 (tT 127) 3), oO 129 (.load 3 (tT 128)), oO 2 (.assign (tT 129)), oO 3 (.assign (kI 90))])
 (.ret))
 (.skip)))
 (.seq (.seq (rg [oO 130 (.move (tT 0)), oO 131 (.nilCheck (tT 130)), oO 132 (.fieldAddr 113 (tT 131) 2), oO 133 (.load 50 (tT 132)), oO 134 (.move (tT 10)), oO 135 (.indexAddr 50 (tT 133) (tT 134)), oO 136 (.fieldAddr 86 (tT 135) 1), oO 137 (.load 4 (tT 136))])
 (.cond (tT 137) (.seq (rg [oO 138 (.move (tT 0)), oO 139 (.nilCheck (tT 138)), oO 140 (.fieldAddr 113 (tT 139) 3), oO 141 (.load 3 (tT 140)), oO 2 (.assign (tT 141)), oO 3 (.assign (kI 91))])
 (.ret))
 (.skip)))
 (.seq (rg [oO 142 (.move (tT 0)), oO 143 (.nilCheck (tT 142)), oO 144 (.fieldAddr 113 (tT 143) 6), oO 145 (.fieldAddr 31 (tT 144) 1), oO 146 (.load 3 (tT 145)), oO 147 (.binOp .add 3 (tT 146) (kI 1) 3), oO 148 (.nilCheck (tT 142)), oO 149 (.fieldAddr 113 (tT 148) 6), oO 150 (.fieldAddr 31 (tT 149) 1), oN (.store 3 (tT 150) (tT 147))])
 (.seq (.reg true [] [⟨⟨some 151, .move (tT 0), none⟩, false, true⟩, ⟨⟨some 152, .nilCheck (tT 151), none⟩, false, true⟩, ⟨⟨some 153, .fieldAddr 113 (tT 152) 0, none⟩, false, true⟩, ⟨⟨some 154, .fieldAddr 25 (tT 153) 0, none⟩, false, true⟩, ⟨⟨some 155, .load 22 (tT 154), none⟩, false, true⟩, ⟨⟨some 156, .load 84 (tT 9), none⟩, false, true⟩, ⟨⟨some 157, .move (tT 0), none⟩, false, true⟩, ⟨⟨some 158, .nilCheck (tT 157), none⟩, false, true⟩, ⟨⟨some 159, .fieldAddr 113 (tT 158) 2, none⟩, false, true⟩, ⟨⟨some 160, .load 50 (tT 159), none⟩, false, true⟩, oO 161 (.move (tT 10)), oO 162 (.indexAddr 50 (tT 160) (tT 161)), oO 163 (.fieldAddr 86 (tT 162) 2), oO 164 (.load 84 (tT 163)), oO 165 (cF (.func 50) #[tT 155, tT 156, tT 164] #[22, 84, 84]), oO 166 (.unOp .not 4 (tT 165))])
 (.cond (tT 166) (.seq (rg [oO 167 (.move (tT 0)), oO 168 (.nilCheck (tT 167)), oO 169 (.fieldAddr 113 (tT 168) 3), oO 170 (.load 3 (tT 169)), oO 2 (.assign (tT 170)), oO 3 (.assign (kI 92))])
 (.ret))
 (.skip))))))))
 (.skip)))
 (.seq (.seq (rg [oO 171 (.fieldAddr 38 (tT 4) 1), oO 172 (.load 5 (tT 171)), oO 173 (cF (.func 21) #[tT 172] #[5])])
 (.cond (tT 173) (rg [oO 174 (.move (tT 0)), oO 175 (.nilCheck (tT 174)), oO 176 (.fieldAddr 113 (tT 175) 5), oN (.store 4 (tT 176) (.const (.bool false)))])
 (.seq (rg [oO 177 (.move (tT 6)), oO 178 (.move (tT 0)), oO 179 (.nilCheck (tT 178)), oO 180 (.fieldAddr 113 (tT 179) 1), oO 181 (.load 26 (tT 180)), oO 182 (cB .len #[tT 181] #[26]), oO 183 (.binOp .geq 3 (tT 177) (tT 182) 3)])
 (.cond (tT 183) (.seq (rg [oO 184 (.move (tT 0)), oO 185 (.nilCheck (tT 184)), oO 186 (.fieldAddr 113 (tT 185) 3), oO 187 (.load 3 (tT 186)), oO 2 (.assign (tT 187)), oO 3 (.assign (kI 51))])
 (.ret))
 (.skip)))))
 (.seq (rg [oO 188 (.move (tT 0)), oO 189 (.move (tT 6)), oO 190 (.nilCheck (tT 188)), oO 191 (.fieldAddr 113 (tT 190) 3), oN (.store 3 (tT 191) (tT 189))])
 (.seq (rg [oO 2 (.assign (kI 0)), oO 3 (.assign (kI 0))])
 .ret))))))))))))
theorem F62 : Fun1 Tryz.prog 62 192 c62 [.tmp 2, .tmp 3] := mkT Tryz.func62 rfl (by decide +kernel) Tryz.ntmps62 rfl (by kernel_rfl) rfl
def c18 : AC :=
.seq (rg [oO 4 (.box 25 (tT 0)), oO 8 (.alloc 31), oO 9 (.assign (kI 0)), oO 10 (.assign (kI 0))])
 (.seq (rg [oO 25 (.build 31 #[]), oO 11 (.alloc 31), oN (.store 31 (tT 11) (tT 25))])
 (.seq (.seq (rg [oO 26 (.load 25 (tT 4)), oO 27 (cF (.func 58) #[tT 26] #[25]), oO 28 (.unOp .not 4 (tT 27)), oO 29 (.move (tT 28)), oG 30 (.move (tT 1)) 29 false, oG 31 (.fieldAddr 25 (tT 4) 1) 29 false, oG 32 (.load 23 (tT 31)) 29 false, oG 33 (.fieldAddr 25 (tT 4) 2) 29 false, oG 34 (.load 3 (tT 33)) 29 false, oG 35 (.indexAddr 23 (tT 32) (tT 34)) 29 false, oG 36 (.fieldAddr 95 (tT 35) 0) 29 false, oG 37 (.load 93 (tT 36)) 29 false, oG 38 (cB .len #[tT 37] #[93]) 29 false, oG 39 (.binOp .lss 3 (tT 30) (tT 38) 3) 29 false, oO 40 (.pick (tT 29) (.const (.bool true)) (tT 39)), oO 41 (.move (tT 40)), oG 42 (.move (tT 1)) 41 false, oG 43 (.binOp .gtr 3 (tT 42) (kI 16) 3) 41 false, oO 44 (.pick (tT 41) (.const (.bool true)) (tT 43))])
 (.cond (tT 44) (.seq (rg [oO 45 (.load 31 (tT 11)), oN (.store 31 (tT 8) (tT 45)), oO 9 (.assign (kI 0)), oO 10 (.assign (kI 1))])
 (.ret))
 (.skip)))
 (.seq (.seq (rg [oO 46 (.move (tT 2)), oO 47 (cB .len #[tT 46] #[26]), oO 48 (.binOp .gtr 3 (tT 47) (kI 4096) 3)])
 (.cond (tT 48) (.seq (rg [oO 49 (.load 31 (tT 11)), oN (.store 31 (tT 8) (tT 49)), oO 9 (.assign (kI 0)), oO 10 (.assign (kI 4))])
 (.ret))
 (.skip)))
 (.seq (.seq (rg [oO 50 (.move (tT 2)), oO 51 (cB .len #[tT 50] #[26]), oO 52 (.binOp .eql 3 (tT 51) (kI 0) 3)])
 (.cond (tT 52) (.seq (rg [oO 53 (.load 31 (tT 11)), oN (.store 31 (tT 8) (tT 53)), oO 9 (.assign (kI 0)), oO 10 (.assign (kI 51))])
 (.ret))
 (.skip)))
 (.seq (rg [oO 55 (.move (tT 3)), oO 56 (cF (.func 31) #[tT 55] #[26]), oO 54 (.move (tT 56)), oO 57 (.extract (tT 54) 0), oO 58 (.extract (tT 54) 1), oO 59 (.extract (tT 54) 2), oO 12 (.alloc 52), oN (.store 52 (tT 12) (tT 57)), oO 13 (.assign (tT 58)), oO 14 (.assign (tT 59))])
 (.seq (.seq (rg [oO 60 (.move (tT 14)), oO 61 (.binOp .neq 32 (tT 60) (kI 0) 32)])
 (.cond (tT 61) (.seq (rg [oO 62 (.load 31 (tT 11)), oO 63 (.move (tT 13)), oO 64 (.move (tT 14)), oN (.store 31 (tT 8) (tT 62)), oO 9 (.assign (tT 63)), oO 10 (.assign (tT 64))])
 (.ret))
 (.skip)))
 (.seq (.seq (rg [oO 65 (.fieldAddr 52 (tT 12) 1), oO 66 (.load 50 (tT 65)), oO 67 (cB .len #[tT 66] #[50]), oO 68 (.move (kI 0))])
 (.block 0 (.loop (.seq (rg [oO 69 (.binOp .lss 3 (tT 68) (tT 67) 3)])
 (.seq (.cond (tT 69) (.skip)
 (.exit 0))
 (.seq (.block 1 (.seq (rg [oO 70 (.indexAddr 50 (tT 66) (tT 68)), oO 71 (.load 86 (tT 70)), oO 16 (.alloc 86), oN (.store 86 (tT 16) (tT 71))])
 (.seq (rg [oO 72 (.fieldAddr 86 (tT 16) 1), oO 73 (.load 4 (tT 72)), oO 74 (.unOp .not 4 (tT 73)), oO 75 (.move (tT 74)), oG 76 (.fieldAddr 25 (tT 4) 0) 75 true, oG 77 (.load 22 (tT 76)) 75 true, oG 78 (.fieldAddr 86 (tT 16) 2) 75 true, oG 79 (.load 84 (tT 78)) 75 true, oG 80 (cF (.func 59) #[tT 77, tT 79] #[22, 84]) 75 true, oG 81 (.binOp .neq 32 (tT 80) (kI 0) 32) 75 true, oO 82 (.pick (tT 75) (tT 81) (.const (.bool false)))])
 (.cond (tT 82) (.seq (.reg true [16] [⟨⟨some 83, .load 31 (tT 11), none⟩, false, true⟩, ⟨⟨some 84, .fieldAddr 86 (tT 16) 0, none⟩, true, true⟩, ⟨⟨some 85, .load 3 (tT 84), none⟩, true, true⟩, oN (.store 31 (tT 8) (tT 83)), oO 9 (.assign (tT 85)), oO 10 (.assign (kI 65))])
 (.ret))
 (.skip)))))
 (rg [oO 86 (.binOp .add 3 (tT 68) (kI 1) 3), oO 68 (.move (tT 86))])))))))
 (.seq (.seq (rg [oO 87 (.fieldAddr 52 (tT 12) 0), oO 88 (.load 3 (tT 87)), oO 89 (.move (tT 1)), oO 90 (.binOp .neq 3 (tT 88) (tT 89) 3)])
 (.cond (tT 90) (.seq (rg [oO 91 (.load 31 (tT 11)), oN (.store 31 (tT 8) (tT 91)), oO 9 (.assign (kI 0)), oO 10 (.assign (kI 32))])
 (.ret))
 (.skip)))
 (.seq (.reg true [] [⟨⟨some 93, .fieldAddr 25 (tT 4) 0, none⟩, false, true⟩, ⟨⟨some 94, .load 22 (tT 93), none⟩, false, true⟩, ⟨⟨some 95, .fieldAddr 25 (tT 4) 1, none⟩, false, true⟩, ⟨⟨some 96, .load 23 (tT 95), none⟩, false, true⟩, ⟨⟨some 97, .fieldAddr 25 (tT 4) 2, none⟩, false, true⟩, ⟨⟨some 98, .load 3 (tT 97), none⟩, false, true⟩, ⟨⟨some 99, .indexAddr 23 (tT 96) (tT 98), none⟩, false, true⟩, ⟨⟨some 100, .fieldAddr 95 (tT 99) 0, none⟩, false, true⟩, ⟨⟨some 101, .load 93 (tT 100), none⟩, false, true⟩, ⟨⟨some 102, .move (tT 1), none⟩, false, true⟩, ⟨⟨some 103, cF (.func 60) #[tT 94, tT 101, tT 102] #[22, 93, 3], none⟩, false, true⟩, ⟨⟨some 92, .move (tT 103), none⟩, false, true⟩, ⟨⟨some 104, .extract (tT 92) 0, none⟩, false, true⟩, ⟨⟨some 105, .extract (tT 92) 1, none⟩, true, true⟩, ⟨⟨some 17, .alloc 84, none⟩, true, false⟩, oN (.store 84 (tT 17) (tT 104)), oO 14 (.assign (tT 105))])
 (.seq (.seq (rg [oO 106 (.move (tT 14)), oO 107 (.binOp .neq 32 (tT 106) (kI 0) 32)])
 (.cond (tT 107) (.seq (rg [oO 108 (.load 31 (tT 11)), oN (.store 31 (tT 8) (tT 108)), oO 9 (.assign (kI 0)), oO 10 (.assign (kI 1))])
 (.ret))
 (.skip)))
 (.seq (rg [oO 109 (.load 25 (tT 4)), oO 110 (.move (tT 2)), oO 111 (.fieldAddr 52 (tT 12) 1), oO 112 (.load 50 (tT 111)), oO 113 (.load 84 (tT 17)), oO 114 (.build 113 #[(0, .tmp 109), (1, .tmp 110), (2, .tmp 112), (4, .tmp 113), (5, .const (.bool true))]), oO 115 (.box 113 (tT 114)), oO 18 (.assign (tT 115))])
 (.seq (.block 2 (.loop (.seq (.seq (rg [oO 116 (.move (tT 18)), oO 117 (.nilCheck (tT 116)), oO 118 (.fieldAddr 113 (tT 117) 3), oO 119 (.load 3 (tT 118)), oO 120 (.move (tT 2)), oO 121 (cB .len #[tT 120] #[26]), oO 122 (.binOp .lss 3 (tT 119) (tT 121) 3)])
 (.cond (tT 122) (.skip)
 (.exit 2)))
 (.block 3 (.seq (rg [oO 124 (.move (tT 18)), oO 125 (cF (.func 61) #[tT 124] #[111]), oO 123 (.move (tT 125)), oO 126 (.extract (tT 123) 0), oO 127 (.extract (tT 123) 1), oO 19 (.assign (tT 126)), oO 20 (.assign (tT 127))])
 (.seq (.seq (rg [oO 128 (.move (tT 20)), oO 129 (.binOp .neq 32 (tT 128) (kI 0) 32)])
 (.cond (tT 129) (.seq (.reg true [18] [⟨⟨some 130, .load 31 (tT 11), none⟩, false, true⟩, ⟨⟨some 131, .move (tT 18), none⟩, true, true⟩, ⟨⟨some 132, .nilCheck (tT 131), none⟩, true, true⟩, ⟨⟨some 133, .fieldAddr 113 (tT 132) 3, none⟩, true, true⟩, ⟨⟨some 134, .load 3 (tT 133), none⟩, true, true⟩, ⟨⟨some 135, .move (tT 20), none⟩, true, true⟩, oN (.store 31 (tT 8) (tT 130)), oO 9 (.assign (tT 134)), oO 10 (.assign (tT 135))])
 (.ret))
 (.skip)))
 (.seq (.seq (rg [oO 136 (.move (tT 19)), oO 137 (.unOp .not 4 (tT 136))])
 (.cond (tT 137) (.exit 3)
 (.skip)))
 (.seq (rg [oO 139 (.move (tT 18)), oO 140 (cF (.func 62) #[tT 139] #[111]), oO 138 (.move (tT 140)), oO 141 (.extract (tT 138) 0), oO 142 (.extract (tT 138) 1), oO 21 (.assign (tT 141)), oO 22 (.assign (tT 142))])
 (.seq (rg [oO 143 (.move (tT 22)), oO 144 (.binOp .neq 32 (tT 143) (kI 0) 32)])
 (.cond (tT 144) (.seq (rg [oO 145 (.load 31 (tT 11)), oO 146 (.move (tT 21)), oO 147 (.move (tT 22)), oN (.store 31 (tT 8) (tT 145)), oO 9 (.assign (tT 146)), oO 10 (.assign (tT 147))])
 (.ret))
 (.skip)))))))))))
 (.seq (.seq (rg [oO 148 (.fieldAddr 52 (tT 12) 1), oO 149 (.load 50 (tT 148)), oO 150 (cB .len #[tT 149] #[50]), oO 151 (.move (kI 0))])
 (.block 4 (.loop (.seq (rg [oO 152 (.binOp .lss 3 (tT 151) (tT 150) 3)])
 (.seq (.cond (tT 152) (.skip)
 (.exit 4))
 (.seq (.block 5 (.seq (rg [oO 153 (.indexAddr 50 (tT 149) (tT 151)), oO 154 (.load 86 (tT 153)), oO 24 (.alloc 86), oN (.store 86 (tT 24) (tT 154))])
 (.seq (rg [oO 155 (.fieldAddr 86 (tT 24) 0), oO 156 (.load 3 (tT 155)), oO 157 (.move (tT 2)), oO 158 (cB .len #[tT 157] #[26]), oO 159 (.binOp .geq 3 (tT 156) (tT 158) 3)])
 (.cond (tT 159) (.seq (.reg true [24] [⟨⟨some 160, .load 31 (tT 11), none⟩, false, true⟩, ⟨⟨some 161, .fieldAddr 86 (tT 24) 0, none⟩, true, true⟩, ⟨⟨some 162, .load 3 (tT 161), none⟩, true, true⟩, oN (.store 31 (tT 8) (tT 160)), oO 9 (.assign (tT 162)), oO 10 (.assign (kI 93))])
 (.ret))
 (.skip)))))
 (rg [oO 163 (.binOp .add 3 (tT 151) (kI 1) 3), oO 151 (.move (tT 163))])))))))
 (.seq (rg [oO 164 (.move (tT 18)), oO 165 (.nilCheck (tT 164)), oO 166 (.fieldAddr 113 (tT 165) 6), oO 167 (.load 31 (tT 166)), oN (.store 31 (tT 8) (tT 167)), oO 9 (.assign (kI 0)), oO 10 (.assign (kI 0))])
 .ret))))))))))))))
theorem F18 : Fun1 Tryz.prog 18 168 c18 [.cell 8 31, .tmp 9, .tmp 10] := mkT Tryz.func18 rfl (by decide +kernel) Tryz.ntmps18 rfl (by kernel_rfl) rfl
def c32 : AC :=
.seq (rg [oO 2 (.box 52 (tT 0)), oO 4 (.assign (.const (.slice none 0 0)))])
 (.seq (rg [oO 5 (.assign (.const (.slice none 0 0)))])
 (.seq (.seq (rg [oO 10 (.fieldAddr 52 (tT 2) 1), oO 11 (.load 50 (tT 10)), oO 12 (cB .len #[tT 11] #[50]), oO 13 (.move (kI 0))])
 (.block 0 (.loop (.seq (rg [oO 14 (.binOp .lss 3 (tT 13) (tT 12) 3)])
 (.seq (.cond (tT 14) (.skip)
 (.exit 0))
 (.seq (.block 1 (.seq (rg [oO 15 (.move (tT 13)), oO 16 (.indexAddr 50 (tT 11) (tT 13)), oO 17 (.load 86 (tT 16)), oO 7 (.alloc 86), oO 6 (.assign (tT 15)), oN (.store 86 (tT 7) (tT 17))])
 (.seq (.seq (rg [oO 18 (.fieldAddr 86 (tT 7) 1), oO 19 (.load 4 (tT 18)), oO 20 (.unOp .not 4 (tT 19))])
 (.cond (tT 20) (.exit 1)
 (.skip)))
 (.seq (rg [oO 21 (.move (tT 1)), oO 8 (.assign (tT 21))])
 (.seq (.seq (rg [oO 22 (.move (tT 6)), oO 23 (.binOp .add 3 (tT 22) (kI 1) 3), oO 24 (.fieldAddr 52 (tT 2) 1), oO 25 (.load 50 (tT 24)), oO 26 (cB .len #[tT 25] #[50]), oO 27 (.binOp .lss 3 (tT 23) (tT 26) 3)])
 (.cond (tT 27) (rg [oO 28 (.move (tT 1)), oO 29 (.fieldAddr 52 (tT 2) 1), oO 30 (.load 50 (tT 29)), oO 31 (.move (tT 6)), oO 32 (.binOp .add 3 (tT 31) (kI 1) 3), oO 33 (.indexAddr 50 (tT 30) (tT 32)), oO 34 (.fieldAddr 86 (tT 33) 0), oO 35 (.load 3 (tT 34)), oO 36 (cB .min #[tT 28, tT 35] #[3, 3]), oO 8 (.assign (tT 36))])
 (.skip)))
 (.seq (rg [oO 37 (.fieldAddr 86 (tT 7) 0), oO 38 (.load 3 (tT 37)), oO 9 (.assign (tT 38))])
 (.block 2 (.loop (.seq (.seq (rg [oO 39 (.move (tT 9)), oO 40 (.move (tT 8)), oO 41 (.binOp .lss 3 (tT 39) (tT 40) 3)])
 (.cond (tT 41) (.skip)
 (.exit 2)))
 (.seq (.block 3 (rg [oO 44 (.move (tT 5)), oO 45 (.move (tT 9)), oO 46 (.buildSlice 29 1 #[(0, .tmp 45)]), oO 47 (cB .append #[tT 44, tT 46] #[29, 29]), oO 5 (.assign (tT 47))]))
 (rg [oO 42 (.move (tT 9)), oO 43 (.binOp .add 3 (tT 42) (kI 1) 3), oO 9 (.assign (tT 43))])))))))))))
 (rg [oO 48 (.binOp .add 3 (tT 13) (kI 1) 3), oO 13 (.move (tT 48))])))))))
 (.seq (rg [oO 49 (.move (tT 5)), oO 4 (.assign (tT 49))])
 .ret)))
theorem F32 : Fun1 Tryz.prog 32 50 c32 [.tmp 4] := mkT Tryz.func32 rfl (by decide +kernel) Tryz.ntmps32 rfl (by kernel_rfl) rfl
def c93 : AC :=
rg [oO 4 (.move (tT 0)), oO 5 (.move (tT 1)), oO 6 (.build 161 #[(0, .tmp 4), (1, .tmp 5)]), oO 7 (.makeInterface 161 (tT 6)), oN (.panic (tT 7))]
theorem F93 : Fun1 Tryz.prog 93 8 c93 [] := mkT Tryz.func93 rfl (by decide +kernel) Tryz.ntmps93 rfl (by kernel_rfl) rfl
def c95 : AC :=
.seq (rg [oO 4 (.move (tT 1)), oO 5 (.binOp .neq 32 (tT 4) (kI 0) 32)])
 (.cond (tT 5) (rg [oO 6 (.move (tT 0)), oO 7 (.move (tT 1)), oO 8 (cF (.func 93) #[tT 6, tT 7] #[3, 32])])
 (.skip))
theorem F95 : Fun1 Tryz.prog 95 9 c95 [] := mkT Tryz.func95 rfl (by decide +kernel) Tryz.ntmps95 rfl (by kernel_rfl) rfl
def c53 : AC :=
.seq (rg [oO 4 (.box 25 (tT 0)), oO 8 (.assign (.const (.pointer none)))])
 (.seq (.seq (rg [oO 15 (.load 25 (tT 4)), oO 16 (.move (tT 1)), oO 17 (cF (.func 77) #[tT 15, tT 16] #[25, 3]), oO 18 (.binOp .neq 32 (tT 17) (kI 0) 32)])
 (.cond (tT 18) (rg [oO 19 (cF (.func 93) #[kI 0, kI 1] #[3, 32])])
 (.skip)))
 (.seq (.block 0 (.seq (rg [oO 21 (.move (tT 2)), oO 22 (.binOp .gtr 3 (tT 21) (kI 4096) 3), oO 20 (.assign (tT 22))])
 (.cond (tT 20) (rg [oO 23 (cF (.func 93) #[kI 0, kI 4] #[3, 32])])
 (.seq (rg [oO 25 (.move (tT 2)), oO 26 (.binOp .eql 3 (tT 25) (kI 0) 3), oO 24 (.assign (tT 26))])
 (.cond (tT 24) (rg [oO 27 (cF (.func 93) #[kI 0, kI 51] #[3, 32])])
 (.skip))))))
 (.seq (rg [oO 29 (.move (tT 3)), oO 30 (cF (.func 94) #[tT 29] #[26]), oO 28 (.move (tT 30)), oO 31 (.extract (tT 28) 0), oO 32 (.extract (tT 28) 1), oO 33 (.extract (tT 28) 2), oO 9 (.alloc 52), oN (.store 52 (tT 9) (tT 31)), oO 10 (.assign (tT 32)), oO 11 (.assign (tT 33))])
 (.seq (rg [oO 34 (.move (tT 10)), oO 35 (.move (tT 11)), oO 36 (cF (.func 95) #[tT 34, tT 35] #[3, 32])])
 (.seq (.seq (rg [oO 37 (.fieldAddr 52 (tT 9) 1), oO 38 (.load 50 (tT 37)), oO 39 (cB .len #[tT 38] #[50]), oO 40 (.move (kI 0))])
 (.block 1 (.loop (.seq (rg [oO 41 (.binOp .lss 3 (tT 40) (tT 39) 3)])
 (.seq (.cond (tT 41) (.skip)
 (.exit 1))
 (.seq (.block 2 (.seq (rg [oO 42 (.indexAddr 50 (tT 38) (tT 40)), oO 43 (.load 86 (tT 42)), oO 13 (.alloc 86), oN (.store 86 (tT 13) (tT 43))])
 (.seq (rg [oO 44 (.fieldAddr 86 (tT 13) 1), oO 45 (.load 4 (tT 44)), oO 46 (.unOp .not 4 (tT 45)), oO 47 (.move (tT 46)), oG 48 (.fieldAddr 25 (tT 4) 0) 47 true, oG 49 (.load 22 (tT 48)) 47 true, oG 50 (.fieldAddr 86 (tT 13) 2) 47 true, oG 51 (.load 84 (tT 50)) 47 true, oG 52 (cF (.func 96) #[tT 49, tT 51] #[22, 84]) 47 true, oG 53 (.binOp .neq 32 (tT 52) (kI 0) 32) 47 true, oO 54 (.pick (tT 47) (tT 53) (.const (.bool false)))])
 (.cond (tT 54) (rg [oO 55 (.fieldAddr 86 (tT 13) 0), oO 56 (.load 3 (tT 55)), oO 57 (cF (.func 93) #[tT 56, kI 65] #[3, 32])])
 (.skip)))))
 (rg [oO 58 (.binOp .add 3 (tT 40) (kI 1) 3), oO 40 (.move (tT 58))])))))))
 (.seq (.seq (rg [oO 59 (.fieldAddr 52 (tT 9) 0), oO 60 (.load 3 (tT 59)), oO 61 (.move (tT 1)), oO 62 (.binOp .neq 3 (tT 60) (tT 61) 3)])
 (.cond (tT 62) (rg [oO 63 (cF (.func 93) #[kI 0, kI 32] #[3, 32])])
 (.skip)))
 (.seq (.reg true [] [⟨⟨some 65, .fieldAddr 25 (tT 4) 0, none⟩, false, true⟩, ⟨⟨some 66, .load 22 (tT 65), none⟩, false, true⟩, ⟨⟨some 67, .fieldAddr 25 (tT 4) 1, none⟩, false, true⟩, ⟨⟨some 68, .load 23 (tT 67), none⟩, false, true⟩, ⟨⟨some 69, .fieldAddr 25 (tT 4) 2, none⟩, false, true⟩, ⟨⟨some 70, .load 3 (tT 69), none⟩, false, true⟩, ⟨⟨some 71, .indexAddr 23 (tT 68) (tT 70), none⟩, false, true⟩, ⟨⟨some 72, .fieldAddr 95 (tT 71) 0, none⟩, false, true⟩, ⟨⟨some 73, .load 93 (tT 72), none⟩, false, true⟩, ⟨⟨some 74, .move (tT 1), none⟩, false, true⟩, ⟨⟨some 75, cF (.func 97) #[tT 66, tT 73, tT 74] #[22, 93, 3], none⟩, false, true⟩, ⟨⟨some 64, .move (tT 75), none⟩, false, true⟩, ⟨⟨some 76, .extract (tT 64) 0, none⟩, false, true⟩, ⟨⟨some 77, .extract (tT 64) 1, none⟩, true, true⟩, ⟨⟨some 14, .alloc 84, none⟩, true, false⟩, oN (.store 84 (tT 14) (tT 76)), oO 11 (.assign (tT 77))])
 (.seq (rg [oO 78 (.move (tT 11)), oO 79 (cF (.func 95) #[kI 0, tT 78] #[3, 32])])
 (.seq (rg [oO 80 (.load 25 (tT 4)), oO 81 (.move (tT 2)), oO 82 (.fieldAddr 52 (tT 9) 1), oO 83 (.load 50 (tT 82)), oO 84 (.load 84 (tT 14)), oO 85 (.build 104 #[(0, .tmp 80), (1, .tmp 81), (2, .tmp 83), (6, .tmp 84), (7, .const (.bool true))]), oO 86 (.box 104 (tT 85)), oO 8 (.assign (tT 86))])
 .ret)))))))))
theorem F53 : Fun1 Tryz.prog 53 87 c53 [.tmp 8] := mkT Tryz.func53 rfl (by decide +kernel) Tryz.ntmps53 rfl (by kernel_rfl) rfl
def c55 : AC :=
.seq (.seq (rg [oO 2 (.assign (kI 0))])
 (.block 0 (.loop (.seq (.seq (rg [oO 4 (.move (tT 2)), oO 5 (.move (tT 0)), oO 6 (.nilCheck (tT 5)), oO 7 (.fieldAddr 104 (tT 6) 1), oO 8 (.load 3 (tT 7)), oO 9 (.binOp .lss 3 (tT 4) (tT 8) 3)])
 (.cond (tT 9) (.skip)
 (.exit 0)))
 (.block 1 (.seq (rg [oO 10 (.move (tT 0)), oO 11 (.move (tT 2)), oO 12 (cF (.func 98) #[tT 10, tT 11] #[101, 3]), oO 3 (.assign (tT 12))])
 (.seq (.seq (rg [oO 13 (.move (tT 0)), oO 14 (.nilCheck (tT 13)), oO 15 (.fieldAddr 104 (tT 14) 7), oO 16 (.load 4 (tT 15))])
 (.cond (tT 16) (rg [oO 17 (.move (tT 0)), oO 18 (.move (tT 2)), oO 19 (cF (.func 99) #[tT 17, tT 18] #[101, 3]), oO 3 (.assign (tT 19))])
 (.skip)))
 (rg [oO 20 (.move (tT 3)), oO 2 (.assign (tT 20))]))))))))
 (.seq (.reg true [] [⟨⟨some 21, .move (tT 0), none⟩, false, true⟩, ⟨⟨some 22, .nilCheck (tT 21), none⟩, false, true⟩, ⟨⟨some 23, .fieldAddr 104 (tT 22) 3, none⟩, false, true⟩, ⟨⟨some 24, .load 3 (tT 23), none⟩, false, true⟩, oO 25 (.move (tT 0)), oO 26 (.nilCheck (tT 25)), oO 27 (.fieldAddr 104 (tT 26) 2), oO 28 (.load 50 (tT 27)), oO 29 (cB .len #[tT 28] #[50]), oO 30 (.binOp .lss 3 (tT 24) (tT 29) 3)])
 (.cond (tT 30) (.reg true [] [⟨⟨some 31, .move (tT 0), none⟩, false, true⟩, ⟨⟨some 32, .nilCheck (tT 31), none⟩, false, true⟩, ⟨⟨some 33, .fieldAddr 104 (tT 32) 2, none⟩, false, true⟩, ⟨⟨some 34, .load 50 (tT 33), none⟩, false, true⟩, oO 35 (.move (tT 0)), oO 36 (.nilCheck (tT 35)), oO 37 (.fieldAddr 104 (tT 36) 3), oO 38 (.load 3 (tT 37)), oO 39 (.indexAddr 50 (tT 34) (tT 38)), oO 40 (.fieldAddr 86 (tT 39) 0), oO 41 (.load 3 (tT 40)), oO 42 (cF (.func 93) #[tT 41, kI 93] #[3, 32])])
 (.skip)))
theorem F55 : Fun1 Tryz.prog 55 43 c55 [] := mkT Tryz.func55 rfl (by decide +kernel) Tryz.ntmps55 rfl (by kernel_rfl) rfl
def c98 : AC :=
.seq (rg [oO 4 (.assign (kI 0))])
 (.seq (rg [oO 8 (.move (tT 0)), oO 9 (.move (tT 1)), oO 10 (cF (.func 141) #[tT 8, tT 9] #[101, 3]), oO 7 (.move (tT 10)), oO 11 (.extract (tT 7) 0), oO 12 (.extract (tT 7) 1), oO 5 (.alloc 86), oN (.store 86 (tT 5) (tT 11)), oO 6 (.assign (tT 12))])
 (.seq (.seq (rg [oO 13 (.move (tT 6))])
 (.cond (tT 13) (rg [oO 14 (.move (tT 0)), oO 15 (.nilCheck (tT 14)), oO 16 (.fieldAddr 104 (tT 15) 3), oO 17 (.load 3 (tT 16)), oO 18 (.binOp .add 3 (tT 17) (kI 1) 3), oO 19 (.nilCheck (tT 14)), oO 20 (.fieldAddr 104 (tT 19) 3), oN (.store 3 (tT 20) (tT 18))])
 (.skip)))
 (.seq (.block 0 (.seq (rg [oO 30 (.move (tT 0)), oO 31 (.nilCheck (tT 30)), oO 32 (.fieldAddr 104 (tT 31) 7), oO 33 (.load 4 (tT 32)), oO 34 (.move (tT 33)), oG 35 (.move (tT 6)) 34 true, oO 36 (.pick (tT 34) (tT 35) (.const (.bool false))), oO 37 (.move (tT 36)), oG 38 (.fieldAddr 86 (tT 5) 1) 37 true, oG 39 (.load 4 (tT 38)) 37 true, oO 40 (.pick (tT 37) (tT 39) (.const (.bool false))), oO 29 (.assign (tT 40))])
 (.cond (tT 29) (rg [oO 41 (.move (tT 1)), oO 42 (cF (.func 93) #[tT 41, kI 91] #[3, 32])])
 (.seq (rg [oO 44 (.move (tT 0)), oO 45 (.nilCheck (tT 44)), oO 46 (.fieldAddr 104 (tT 45) 7), oO 47 (.load 4 (tT 46)), oO 48 (.move (tT 47)), oG 49 (.move (tT 6)) 48 true, oO 50 (.pick (tT 48) (tT 49) (.const (.bool false))), oO 43 (.assign (tT 50))])
 (.cond (tT 43) (.seq (.reg true [] [⟨⟨some 51, .move (tT 0), none⟩, false, true⟩, ⟨⟨some 52, .move (tT 1), none⟩, false, true⟩, ⟨⟨some 53, .move (tT 0), none⟩, false, true⟩, ⟨⟨some 54, .nilCheck (tT 53), none⟩, false, true⟩, ⟨⟨some 55, .fieldAddr 104 (tT 54) 6, none⟩, false, true⟩, ⟨⟨some 56, .load 84 (tT 55), none⟩, false, true⟩, oO 57 (.fieldAddr 86 (tT 5) 2), oO 58 (.load 84 (tT 57)), oO 59 (cF (.func 142) #[tT 51, tT 52, tT 56, tT 58] #[101, 3, 84, 84])])
 (rg [oO 60 (.move (tT 0)), oO 61 (.fieldAddr 86 (tT 5) 2), oO 62 (.load 84 (tT 61)), oO 63 (.nilCheck (tT 60)), oO 64 (.fieldAddr 104 (tT 63) 6), oN (.store 84 (tT 64) (tT 62))]))
 (.seq (rg [oO 66 (.move (tT 0)), oO 67 (.nilCheck (tT 66)), oO 68 (.fieldAddr 104 (tT 67) 7), oO 69 (.load 4 (tT 68)), oO 65 (.assign (tT 69))])
 (.cond (tT 65) (.skip)
 (.seq (rg [oO 71 (.move (tT 6)), oO 72 (.unOp .not 4 (tT 71)), oO 70 (.assign (tT 72))])
 (.cond (tT 70) (rg [oO 73 (.move (tT 1)), oO 74 (cF (.func 93) #[tT 73, kI 90] #[3, 32])])
 (.seq (rg [oO 76 (.fieldAddr 86 (tT 5) 1), oO 77 (.load 4 (tT 76)), oO 75 (.assign (tT 77))])
 (.cond (tT 75) (.seq (.seq (.reg true [] [⟨⟨some 78, .move (tT 0), none⟩, false, true⟩, ⟨⟨some 79, .nilCheck (tT 78), none⟩, false, true⟩, ⟨⟨some 80, .fieldAddr 104 (tT 79) 3, none⟩, false, true⟩, ⟨⟨some 81, .load 3 (tT 80), none⟩, false, true⟩, oO 82 (.move (tT 0)), oO 83 (.nilCheck (tT 82)), oO 84 (.fieldAddr 104 (tT 83) 2), oO 85 (.load 50 (tT 84)), oO 86 (cB .len #[tT 85] #[50]), oO 87 (.binOp .eql 3 (tT 81) (tT 86) 3)])
 (.cond (tT 87) (.seq (rg [oO 88 (.move (tT 0)), oO 89 (.nilCheck (tT 88)), oO 90 (.fieldAddr 104 (tT 89) 1), oO 91 (.load 3 (tT 90)), oO 4 (.assign (tT 91))])
 (.ret))
 (.skip)))
 (.seq (.reg true [] [⟨⟨some 92, .move (tT 0), none⟩, false, true⟩, ⟨⟨some 93, .nilCheck (tT 92), none⟩, false, true⟩, ⟨⟨some 94, .fieldAddr 104 (tT 93) 1, none⟩, false, true⟩, ⟨⟨some 95, .load 3 (tT 94), none⟩, false, true⟩, ⟨⟨some 96, .move (tT 0), none⟩, false, true⟩, ⟨⟨some 97, .nilCheck (tT 96), none⟩, false, true⟩, ⟨⟨some 98, .fieldAddr 104 (tT 97) 2, none⟩, false, true⟩, ⟨⟨some 99, .load 50 (tT 98), none⟩, false, true⟩, oO 100 (.move (tT 0)), oO 101 (.nilCheck (tT 100)), oO 102 (.fieldAddr 104 (tT 101) 3), oO 103 (.load 3 (tT 102)), oO 104 (.indexAddr 50 (tT 99) (tT 103)), oO 105 (.fieldAddr 86 (tT 104) 0), oO 106 (.load 3 (tT 105)), oO 107 (cB .min #[tT 95, tT 106] #[3, 3]), oO 4 (.assign (tT 107))])
 (.ret)))
 (rg [oO 21 (.move (tT 0)), oO 22 (.move (tT 0)), oO 23 (.fieldAddr 86 (tT 5) 2), oO 24 (.load 84 (tT 23)), oO 25 (.nilCheck (tT 21)), oO 26 (.fieldAddr 104 (tT 25) 6), oN (.store 84 (tT 26) (tT 24)), oO 27 (.nilCheck (tT 22)), oO 28 (.fieldAddr 104 (tT 27) 7), oN (.store 4 (tT 28) (.const (.bool true)))]))))))))))))
 (.seq (rg [oO 108 (.move (tT 1)), oO 4 (.assign (tT 108))])
 .ret))))
theorem F98 : Fun1 Tryz.prog 98 109 c98 [.tmp 4] := mkT Tryz.func98 rfl (by decide +kernel) Tryz.ntmps98 rfl (by kernel_rfl) rfl
def c99 : AC :=
.seq (rg [oO 4 (.assign (kI 0))])
 (.seq (rg [oO 9 (.move (tT 0)), oO 10 (.move (tT 1)), oO 11 (cF (.func 143) #[tT 9, tT 10] #[101, 3]), oO 5 (.alloc 38), oN (.store 38 (tT 5) (tT 11))])
 (.seq (rg [oO 12 (.move (tT 0)), oO 13 (.move (tT 0)), oO 14 (.nilCheck (tT 13)), oO 15 (.fieldAddr 104 (tT 14) 5), oO 16 (.fieldAddr 31 (tT 15) 0), oO 17 (.load 29 (tT 16)), oO 18 (.move (tT 1)), oO 19 (.buildSlice 29 1 #[(0, .tmp 18)]), oO 20 (cB .append #[tT 17, tT 19] #[29, 29]), oO 21 (.nilCheck (tT 12)), oO 22 (.fieldAddr 104 (tT 21) 5), oO 23 (.fieldAddr 31 (tT 22) 0), oN (.store 29 (tT 23) (tT 20))])
 (.seq (rg [oO 24 (.move (tT 1)), oO 25 (.fieldAddr 38 (tT 5) 1), oO 26 (.load 5 (tT 25)), oO 27 (cF (.func 84) #[tT 26] #[5]), oO 28 (.binOp .add 3 (tT 24) (tT 27) 3), oO 6 (.assign (tT 28))])
 (.seq (.seq (.reg true [] [⟨⟨some 29, .move (tT 0), none⟩, false, true⟩, ⟨⟨some 30, .nilCheck (tT 29), none⟩, false, true⟩, ⟨⟨some 31, .fieldAddr 104 (tT 30) 3, none⟩, false, true⟩, ⟨⟨some 32, .load 3 (tT 31), none⟩, false, true⟩, oO 33 (.move (tT 0)), oO 34 (.nilCheck (tT 33)), oO 35 (.fieldAddr 104 (tT 34) 2), oO 36 (.load 50 (tT 35)), oO 37 (cB .len #[tT 36] #[50]), oO 38 (.binOp .lss 3 (tT 32) (tT 37) 3), oO 39 (.move (tT 38)), ⟨⟨some 40, .move (tT 0), some (39, true)⟩, false, true⟩, ⟨⟨some 41, .nilCheck (tT 40), some (39, true)⟩, false, true⟩, ⟨⟨some 42, .fieldAddr 104 (tT 41) 2, some (39, true)⟩, false, true⟩, ⟨⟨some 43, .load 50 (tT 42), some (39, true)⟩, false, true⟩, ⟨⟨some 44, .move (tT 0), some (39, true)⟩, false, true⟩, ⟨⟨some 45, .nilCheck (tT 44), some (39, true)⟩, false, true⟩, ⟨⟨some 46, .fieldAddr 104 (tT 45) 3, some (39, true)⟩, false, true⟩, ⟨⟨some 47, .load 3 (tT 46), some (39, true)⟩, false, true⟩, ⟨⟨some 48, .indexAddr 50 (tT 43) (tT 47), some (39, true)⟩, false, true⟩, ⟨⟨some 49, .fieldAddr 86 (tT 48) 0, some (39, true)⟩, false, true⟩, ⟨⟨some 50, .load 3 (tT 49), some (39, true)⟩, false, true⟩, oG 51 (.move (tT 6)) 39 true, oG 52 (.binOp .lss 3 (tT 50) (tT 51) 3) 39 true, oO 53 (.pick (tT 39) (tT 52) (.const (.bool false)))])
 (.cond (tT 53) (.reg true [] [⟨⟨some 54, .move (tT 0), none⟩, false, true⟩, ⟨⟨some 55, .nilCheck (tT 54), none⟩, false, true⟩, ⟨⟨some 56, .fieldAddr 104 (tT 55) 2, none⟩, false, true⟩, ⟨⟨some 57, .load 50 (tT 56), none⟩, false, true⟩, oO 58 (.move (tT 0)), oO 59 (.nilCheck (tT 58)), oO 60 (.fieldAddr 104 (tT 59) 3), oO 61 (.load 3 (tT 60)), oO 62 (.indexAddr 50 (tT 57) (tT 61)), oO 63 (.fieldAddr 86 (tT 62) 0), oO 64 (.load 3 (tT 63)), oO 65 (cF (.func 93) #[tT 64, kI 93] #[3, 32])])
 (.skip)))
 (.seq (.reg true [] [⟨⟨some 67, .move (tT 0), none⟩, false, true⟩, ⟨⟨some 68, .nilCheck (tT 67), none⟩, false, true⟩, ⟨⟨some 69, .fieldAddr 104 (tT 68) 0, none⟩, false, true⟩, ⟨⟨some 70, .load 25 (tT 69), none⟩, false, true⟩, ⟨⟨some 71, .move (tT 0), none⟩, false, true⟩, ⟨⟨some 72, .nilCheck (tT 71), none⟩, false, true⟩, ⟨⟨some 73, .fieldAddr 104 (tT 72) 6, none⟩, false, true⟩, ⟨⟨some 74, .load 84 (tT 73), none⟩, false, true⟩, ⟨⟨some 75, .load 38 (tT 5), none⟩, false, true⟩, ⟨⟨some 76, cF (.func 144) #[tT 70, tT 74, tT 75] #[25, 84, 38], none⟩, false, true⟩, ⟨⟨some 66, .move (tT 76), none⟩, false, true⟩, ⟨⟨some 77, .extract (tT 66) 0, none⟩, false, true⟩, ⟨⟨some 78, .extract (tT 66) 1, none⟩, true, true⟩, ⟨⟨some 7, .alloc 84, none⟩, true, false⟩, oN (.store 84 (tT 7) (tT 77)), oO 8 (.assign (tT 78))])
 (.seq (rg [oO 79 (.move (tT 1)), oO 80 (.move (tT 8)), oO 81 (cF (.func 95) #[tT 79, tT 80] #[3, 32])])
 (.seq (rg [oO 82 (.move (tT 0)), oO 83 (.load 84 (tT 7)), oO 84 (.nilCheck (tT 82)), oO 85 (.fieldAddr 104 (tT 84) 6), oN (.store 84 (tT 85) (tT 83))])
 (.seq (.seq (rg [oO 86 (.fieldAddr 38 (tT 5) 1), oO 87 (.load 5 (tT 86)), oO 88 (cF (.func 83) #[tT 87] #[5])])
 (.cond (tT 88) (rg [oO 89 (.move (tT 0)), oO 90 (.load 38 (tT 5)), oO 91 (cF (.func 145) #[tT 89, tT 90] #[101, 38])])
 (.skip)))
 (.seq (rg [oO 92 (.move (tT 0)), oO 93 (.fieldAddr 38 (tT 5) 1), oO 94 (.load 5 (tT 93)), oO 95 (cF (.func 85) #[tT 94] #[5]), oO 96 (.unOp .not 4 (tT 95)), oO 97 (.nilCheck (tT 92)), oO 98 (.fieldAddr 104 (tT 97) 7), oN (.store 4 (tT 98) (tT 96))])
 (.seq (.seq (rg [oO 99 (.move (tT 0)), oO 100 (.nilCheck (tT 99)), oO 101 (.fieldAddr 104 (tT 100) 7), oO 102 (.load 4 (tT 101)), oO 103 (.move (tT 102)), oG 104 (.move (tT 6)) 103 true, oG 105 (.move (tT 0)) 103 true, oG 106 (.nilCheck (tT 105)) 103 true, oG 107 (.fieldAddr 104 (tT 106) 1) 103 true, oG 108 (.load 3 (tT 107)) 103 true, oG 109 (.binOp .geq 3 (tT 104) (tT 108) 3) 103 true, oO 110 (.pick (tT 103) (tT 109) (.const (.bool false)))])
 (.cond (tT 110) (rg [oO 111 (.move (tT 1)), oO 112 (cF (.func 93) #[tT 111, kI 51] #[3, 32])])
 (.skip)))
 (.seq (rg [oO 113 (.move (tT 6)), oO 4 (.assign (tT 113))])
 .ret)))))))))))
theorem F99 : Fun1 Tryz.prog 99 114 c99 [.tmp 4] := mkT Tryz.func99 rfl (by decide +kernel) Tryz.ntmps99 rfl (by kernel_rfl) rfl
def c141 : AC :=
.seq (rg [oO 4 (.alloc 86), oO 5 (.assign (.const (.bool false)))])
 (.seq (.reg true [] [⟨⟨some 9, .move (tT 0), none⟩, false, true⟩, ⟨⟨some 10, .nilCheck (tT 9), none⟩, false, true⟩, ⟨⟨some 11, .fieldAddr 104 (tT 10) 2, none⟩, false, true⟩, ⟨⟨some 12, .load 50 (tT 11), none⟩, false, true⟩, ⟨⟨some 13, cB .len #[tT 12] #[50], none⟩, false, true⟩, oO 6 (.assign (kI 0)), oO 7 (.assign (tT 13))])
 (.seq (.block 0 (.loop (.seq (.seq (rg [oO 14 (.move (tT 6)), oO 15 (.move (tT 7)), oO 16 (.binOp .lss 3 (tT 14) (tT 15) 3)])
 (.cond (tT 16) (.skip)
 (.exit 0)))
 (.block 1 (.seq (rg [oO 17 (.move (tT 6)), oO 18 (.move (tT 7)), oO 19 (.binOp .add 3 (tT 17) (tT 18) 3), oO 20 (.binOp .quo 3 (tT 19) (kI 2) 3), oO 8 (.assign (tT 20))])
 (.seq (rg [oO 21 (.move (tT 0)), oO 22 (.nilCheck (tT 21)), oO 23 (.fieldAddr 104 (tT 22) 2), oO 24 (.load 50 (tT 23)), oO 25 (.move (tT 8)), oO 26 (.indexAddr 50 (tT 24) (tT 25)), oO 27 (.fieldAddr 86 (tT 26) 0), oO 28 (.load 3 (tT 27)), oO 29 (.move (tT 1)), oO 30 (.binOp .lss 3 (tT 28) (tT 29) 3)])
 (.cond (tT 30) (rg [oO 31 (.move (tT 8)), oO 32 (.binOp .add 3 (tT 31) (kI 1) 3), oO 6 (.assign (tT 32))])
 (rg [oO 33 (.move (tT 8)), oO 7 (.assign (tT 33))]))))))))
 (.seq (.seq (rg [oO 34 (.move (tT 6)), oO 35 (.move (tT 0)), oO 36 (.nilCheck (tT 35)), oO 37 (.fieldAddr 104 (tT 36) 2), oO 38 (.load 50 (tT 37)), oO 39 (cB .len #[tT 38] #[50]), oO 40 (.binOp .eql 3 (tT 34) (tT 39) 3), oO 41 (.move (tT 40)), oG 42 (.move (tT 0)) 41 false, oG 43 (.nilCheck (tT 42)) 41 false, oG 44 (.fieldAddr 104 (tT 43) 2) 41 false, oG 45 (.load 50 (tT 44)) 41 false, oG 46 (.move (tT 6)) 41 false, oG 47 (.indexAddr 50 (tT 45) (tT 46)) 41 false, oG 48 (.fieldAddr 86 (tT 47) 0) 41 false, oG 49 (.load 3 (tT 48)) 41 false, oG 50 (.move (tT 1)) 41 false, oG 51 (.binOp .neq 3 (tT 49) (tT 50) 3) 41 false, oO 52 (.pick (tT 41) (.const (.bool true)) (tT 51))])
 (.cond (tT 52) (.seq (rg [oO 53 (.build 86 #[]), oN (.store 86 (tT 4) (tT 53)), oO 5 (.assign (.const (.bool false)))])
 (.ret))
 (.skip)))
 (.seq (rg [oO 54 (.move (tT 0)), oO 55 (.nilCheck (tT 54)), oO 56 (.fieldAddr 104 (tT 55) 2), oO 57 (.load 50 (tT 56)), oO 58 (.move (tT 6)), oO 59 (.indexAddr 50 (tT 57) (tT 58)), oO 60 (.load 86 (tT 59)), oN (.store 86 (tT 4) (tT 60)), oO 5 (.assign (.const (.bool true)))])
 .ret))))
theorem F141 : Fun1 Tryz.prog 141 61 c141 [.cell 4 86, .tmp 5] := mkT Tryz.func141 rfl (by decide +kernel) Tryz.ntmps141 rfl (by kernel_rfl) rfl
def c142 : AC :=
.seq (rg [oO 6 (.box 84 (tT 2)), oO 7 (.box 84 (tT 3))])
 (.seq (rg [oO 8 (.move (tT 0)), oO 9 (.nilCheck (tT 8)), oO 10 (.fieldAddr 104 (tT 9) 5), oO 11 (.fieldAddr 31 (tT 10) 1), oO 12 (.load 3 (tT 11)), oO 13 (.binOp .add 3 (tT 12) (kI 1) 3), oO 14 (.nilCheck (tT 8)), oO 15 (.fieldAddr 104 (tT 14) 5), oO 16 (.fieldAddr 31 (tT 15) 1), oN (.store 3 (tT 16) (tT 13))])
 (.seq (.reg true [] [⟨⟨some 17, .move (tT 0), none⟩, false, true⟩, ⟨⟨some 18, .nilCheck (tT 17), none⟩, false, true⟩, ⟨⟨some 19, .fieldAddr 104 (tT 18) 0, none⟩, false, true⟩, ⟨⟨some 20, .fieldAddr 25 (tT 19) 0, none⟩, false, true⟩, ⟨⟨some 21, .load 22 (tT 20), none⟩, false, true⟩, ⟨⟨some 22, .load 84 (tT 6), none⟩, false, true⟩, oO 23 (.load 84 (tT 7)), oO 24 (cF (.func 171) #[tT 21, tT 22, tT 23] #[22, 84, 84]), oO 25 (.unOp .not 4 (tT 24))])
 (.cond (tT 25) (rg [oO 26 (.move (tT 1)), oO 27 (cF (.func 93) #[tT 26, kI 92] #[3, 32])])
 (.skip))))
theorem F142 : Fun1 Tryz.prog 142 28 c142 [] := mkT Tryz.func142 rfl (by decide +kernel) Tryz.ntmps142 rfl (by kernel_rfl) rfl
def c143 : AC :=
.seq (rg [oO 4 (.alloc 38)])
 (.seq (rg [oO 11 (.move (tT 0)), oO 12 (.nilCheck (tT 11)), oO 13 (.fieldAddr 104 (tT 12) 4), oO 14 (.load 68 (tT 13)), oO 15 (.move (tT 1)), oO 16 (cF (tT 14) #[tT 15] #[3]), oO 5 (.assign (tT 16))])
 (.seq (rg [oO 17 (.move (tT 5)), oO 18 (cF (.func 84) #[tT 17] #[5]), oO 6 (.assign (tT 18))])
 (.seq (.seq (rg [oO 19 (.move (tT 6)), oO 20 (.binOp .eql 3 (tT 19) (kI 0) 3)])
 (.cond (tT 20) (rg [oO 21 (.move (tT 1)), oO 22 (cF (.func 93) #[tT 21, kI 40] #[3, 32])])
 (.skip)))
 (.seq (rg [oO 23 (.move (tT 5)), oO 24 (.buildSlice 26 1 #[(0, .tmp 23)]), oO 7 (.assign (tT 24))])
 (.seq (.seq (rg [oO 8 (.assign (kI 1))])
 (.block 0 (.loop (.seq (.seq (rg [oO 25 (.move (tT 8)), oO 26 (.move (tT 6)), oO 27 (.binOp .lss 3 (tT 25) (tT 26) 3)])
 (.cond (tT 27) (.skip)
 (.exit 0)))
 (.seq (.block 1 (.seq (.seq (rg [oO 30 (.move (tT 1)), oO 31 (.move (tT 8)), oO 32 (.binOp .add 3 (tT 30) (tT 31) 3), oO 33 (.move (tT 0)), oO 34 (.nilCheck (tT 33)), oO 35 (.fieldAddr 104 (tT 34) 1), oO 36 (.load 3 (tT 35)), oO 37 (.binOp .geq 3 (tT 32) (tT 36) 3)])
 (.cond (tT 37) (rg [oO 38 (.move (tT 1)), oO 39 (cF (.func 93) #[tT 38, kI 2] #[3, 32])])
 (.skip)))
 (rg [oO 40 (.move (tT 7)), oO 41 (.move (tT 0)), oO 42 (.nilCheck (tT 41)), oO 43 (.fieldAddr 104 (tT 42) 4), oO 44 (.load 68 (tT 43)), oO 45 (.move (tT 1)), oO 46 (.move (tT 8)), oO 47 (.binOp .add 3 (tT 45) (tT 46) 3), oO 48 (cF (tT 44) #[tT 47] #[3]), oO 49 (.buildSlice 26 1 #[(0, .tmp 48)]), oO 50 (cB .append #[tT 40, tT 49] #[26, 26]), oO 7 (.assign (tT 50))])))
 (rg [oO 28 (.move (tT 8)), oO 29 (.binOp .add 3 (tT 28) (kI 1) 3), oO 8 (.assign (tT 29))]))))))
 (.seq (rg [oO 52 (.move (tT 7)), oO 53 (cF (.func 82) #[tT 52, kI 0] #[26, 3]), oO 51 (.move (tT 53)), oO 54 (.extract (tT 51) 0), oO 55 (.extract (tT 51) 1), oO 9 (.alloc 38), oN (.store 38 (tT 9) (tT 54)), oO 10 (.assign (tT 55))])
 (.seq (rg [oO 56 (.move (tT 1)), oO 57 (.move (tT 10)), oO 58 (cF (.func 95) #[tT 56, tT 57] #[3, 32])])
 (.seq (rg [oO 59 (.move (tT 1)), oO 60 (.fieldAddr 38 (tT 9) 0), oN (.store 3 (tT 60) (tT 59))])
 (.seq (rg [oO 61 (.load 38 (tT 9)), oN (.store 38 (tT 4) (tT 61))])
 .ret)))))))))
theorem F143 : Fun1 Tryz.prog 143 62 c143 [.cell 4 38] := mkT Tryz.func143 rfl (by decide +kernel) Tryz.ntmps143 rfl (by kernel_rfl) rfl
def c145 : AC :=
.seq (rg [oO 3 (.box 38 (tT 1))])
 (.seq (rg [oO 7 (.move (tT 0)), oO 8 (.fieldAddr 38 (tT 3) 2), oO 9 (.load 3 (tT 8)), oO 10 (cF (.func 141) #[tT 7, tT 9] #[101, 3]), oO 6 (.move (tT 10)), oO 11 (.extract (tT 6) 0), oO 12 (.extract (tT 6) 1), oO 4 (.alloc 86), oN (.store 86 (tT 4) (tT 11)), oO 5 (.assign (tT 12))])
 (.seq (.block 0 (.seq (.reg true [] [⟨⟨some 14, .fieldAddr 38 (tT 3) 2, none⟩, false, true⟩, ⟨⟨some 15, .load 3 (tT 14), none⟩, false, true⟩, oO 16 (.move (tT 0)), oO 17 (.nilCheck (tT 16)), oO 18 (.fieldAddr 104 (tT 17) 1), oO 19 (.load 3 (tT 18)), oO 20 (.binOp .geq 3 (tT 15) (tT 19) 3), oO 13 (.assign (tT 20))])
 (.cond (tT 13) (rg [oO 21 (.fieldAddr 38 (tT 3) 0), oO 22 (.load 3 (tT 21)), oO 23 (cF (.func 93) #[tT 22, kI 50] #[3, 32])])
 (.seq (rg [oO 25 (.move (tT 5)), oO 26 (.unOp .not 4 (tT 25)), oO 24 (.assign (tT 26))])
 (.cond (tT 24) (rg [oO 27 (.fieldAddr 38 (tT 3) 0), oO 28 (.load 3 (tT 27)), oO 29 (cF (.func 93) #[tT 28, kI 90] #[3, 32])])
 (.seq (rg [oO 31 (.fieldAddr 86 (tT 4) 1), oO 32 (.load 4 (tT 31)), oO 30 (.assign (tT 32))])
 (.cond (tT 30) (rg [oO 33 (.fieldAddr 38 (tT 3) 0), oO 34 (.load 3 (tT 33)), oO 35 (cF (.func 93) #[tT 34, kI 91] #[3, 32])])
 (.skip))))))))
 (.reg true [] [⟨⟨some 36, .move (tT 0), none⟩, false, true⟩, ⟨⟨some 37, .fieldAddr 38 (tT 3) 0, none⟩, false, true⟩, ⟨⟨some 38, .load 3 (tT 37), none⟩, false, true⟩, ⟨⟨some 39, .move (tT 0), none⟩, false, true⟩, ⟨⟨some 40, .nilCheck (tT 39), none⟩, false, true⟩, ⟨⟨some 41, .fieldAddr 104 (tT 40) 6, none⟩, false, true⟩, ⟨⟨some 42, .load 84 (tT 41), none⟩, false, true⟩, oO 43 (.fieldAddr 86 (tT 4) 2), oO 44 (.load 84 (tT 43)), oO 45 (cF (.func 142) #[tT 36, tT 38, tT 42, tT 44] #[101, 3, 84, 84])])))
theorem F145 : Fun1 Tryz.prog 145 46 c145 [] := mkT Tryz.func145 rfl (by decide +kernel) Tryz.ntmps145 rfl (by kernel_rfl) rfl
open Go.Proofs
def idxE (l : List Ey) (a : Int) : Int := match l.findIdx? fun x => decide (x.pos = a) with | some i => i | none => -1
theorem eEy_at {l : List Ey} {i : Nat} (h : i < l.length) : (rws eEy l)[i]?.getD [] = eEy l[i] := rws_at h
def bYgcA0 := aI @zb1 (aI @za8 (aI @zb0 (aI @anD (aI @za2 @ey_0))))
theorem at106 (l : List Ey) (o : Own) (a : Int) (hl : l.length ≤ 140737488355328) : zf9 Tryz.prog 106 [.slice o (rws eEy l), .int .i64 a] (.int .i64 (idxE l a)) := by
  refine F106.pcall' rfl fun T hT => ?_
  simp -implicitDefEqProofs only [go_sem, c106, hT, bYgcA0]
  refine loopL F106 (fun i : Nat => [(1, .int .i64 a), (7, .slice o (rws eEy l)), (8, .int .i64 l.length), (9, .int .i64 i)]) (fun _ => {}) (fun i => i ≤ l.length ∧ (l.take i).findIdx? (fun x => decide (x.pos = a)) = none) (fun i => l.length - i) 0 ⟨by omega, by simp⟩ ?_ (St.le.nil _) ?_
  · simp -implicitDefEqProofs only [go_sem, hT, Int.ofNat_zero]
  clear hT T
  rintro i ⟨hi, hn⟩ T hT
  by_cases h : i < l.length
  · have p1 : ((i : Int) < l.length) = True := by simp; omega
    have p0 : (0 ≤ (i : Int)) = True := by simp
    have hat := eEy_at h
    have hsplit : l = l.take i ++ l[i] :: l.drop (i + 1) := by rw [List.getElem_cons_drop, List.take_append_drop]
    have w1 : IntKind.wrap .i64 ((i : Int) + 1) = ((i + 1 : Nat) : Int) := wrapN (by omega) (by omega)
    simp -implicitDefEqProofs only [go_sem, hT, p1, p0, hat, w1, bYgcA0]
    intro b6
    by_cases h2 : l[i].pos = a
    · simp -implicitDefEqProofs only [go_sem, hT, p1, h2, bYgcA0]
      have hx : idxE l a = i := by
        unfold idxE
        rw [show l.findIdx? (fun x => decide (x.pos = a)) = some i by
          rw [hsplit, List.findIdx?_append, hn, List.findIdx?_cons]
          simp only [h2, decide_true, if_true, Option.map_some, Option.none_or, List.length_take]
          congr 1; omega]
      rw [hx]
      exact DLe.refl _
    · simp -implicitDefEqProofs only [go_sem, hT, p1, h2, bYgcA0]
      refine ⟨i + 1, ⟨by omega, ?_⟩, by omega, rfl, St.le.nil _⟩
      rw [List.take_succ_eq_append_getElem h, List.findIdx?_append, hn]
      simp [List.findIdx?_cons, h2]
  · have p1 : ((i : Int) < l.length) = False := by simp; omega
    have hx : idxE l a = -1 := by
      unfold idxE
      rw [show l.take i = l from List.take_of_length_le (by omega)] at hn
      rw [hn]
    simp -implicitDefEqProofs only [go_sem, hT, p1, hx, bYgcA0]
theorem idx_find : ∀ {l : List Ey} {a : Int}, (findE l a = none ∧ idxE l a = -1) ∨ ∃ i, ∃ h : i < l.length, findE l a = some l[i] ∧ idxE l a = i ∧ l[i].pos = a := by
  intro l a
  unfold findE idxE
  cases hx : l.findIdx? (fun x => decide (x.pos = a)) with
  | none =>
    left
    refine ⟨?_, rfl⟩
    rw [List.findIdx?_eq_none_iff] at hx
    exact find_none fun y hy => hx y hy
  | some i =>
    right
    obtain ⟨h, h1, h2⟩ := List.findIdx?_eq_some_iff_getElem.1 hx
    refine ⟨i, h, ?_, rfl, by simpa using h1⟩
    rw [List.find?_eq_some_iff_getElem]
    exact ⟨h1, i, h, rfl, fun j hj => by simpa using h2 j hj⟩
def eN (n : Nat) : List D := [.int .i64 n]
def eQ (e : En) (b : List Ty) (l : List Ey) (s : PS) (o : Option Nat) : List D :=
  eEn e ++ ([.slice .no (rws eT b), .slice .no (rws eEy l), .int .i64 s.p] ++ (eFr s.fr ++ [.bool s.live, grD 1 o (rws eN s.fet), .int .i64 s.cmp]))
section
variable {e : En} {b : List Ty} {l : List Ey} {s : PS} {o : Option Nat}
theorem q_len : (eQ e b l s o).length = 35 := by simp [eQ, eEn, za6]
theorem q_0 : (eQ e b l s o)[0]? = some (.slice .no (rws eC e.cs)) := rfl
theorem q_3 : (eQ e b l s o)[3]? = some (.slice .no (rws eT b)) := rfl
theorem q_4 : (eQ e b l s o)[4]? = some (.slice .no (rws eEy l)) := rfl
theorem q_5 : (eQ e b l s o)[5]? = some (.int .i64 s.p) := rfl
theorem q_32 : (eQ e b l s o)[32]? = some (.bool s.live) := by simp [eQ, eEn, List.getElem?_append, za6]
theorem q_33 : (eQ e b l s o)[33]? = some (grD 1 o (rws eN s.fet)) := by simp [eQ, eEn, List.getElem?_append, za6]
theorem q_34 : (eQ e b l s o)[34]? = some (.int .i64 s.cmp) := by simp [eQ, eEn, List.getElem?_append, za6]
theorem q_en : (eQ e b l s o).take 3 = eEn e := rfl
theorem q_d6 : (eQ e b l s o).drop 6 = eFr s.fr ++ [.bool s.live, grD 1 o (rws eN s.fet), .int .i64 s.cmp] := rfl
theorem q_fr : ((eQ e b l s o).drop 6).take 26 = eFr s.fr := by rw [q_d6, List.take_left' (za6 _)]
theorem q_s5 {q : Nat} : (eQ e b l s o).take 5 ++ [D.int .i64 q] ++ (eQ e b l s o).drop 6 = eQ e b l { s with p := q } o := rfl
theorem q_d32 : (eQ e b l s o).drop 32 = [.bool s.live, grD 1 o (rws eN s.fet), .int .i64 s.cmp] := by
  rw [show 32 = 6 + 26 from rfl, ← List.drop_drop, q_d6, List.drop_left' (za6 _)]
theorem q_d33 : (eQ e b l s o).drop 33 = [grD 1 o (rws eN s.fet), .int .i64 s.cmp] := by rw [show 33 = 32 + 1 from rfl, ← List.drop_drop, q_d32]; rfl
theorem q_d34 : (eQ e b l s o).drop 34 = [.int .i64 s.cmp] := by rw [show 34 = 32 + 2 from rfl, ← List.drop_drop, q_d32]; rfl
theorem q_d35 : (eQ e b l s o).drop 35 = [] := by rw [show 35 = 32 + 3 from rfl, ← List.drop_drop, q_d32]; rfl
theorem q_t6 : (eQ e b l s o).take 6 = eEn e ++ [.slice .no (rws eT b), .slice .no (rws eEy l), .int .i64 s.p] := rfl
theorem q_t32 : (eQ e b l s o).take 32 = (eEn e ++ [.slice .no (rws eT b), .slice .no (rws eEy l), .int .i64 s.p]) ++ eFr s.fr := by
  rw [show 32 = 6 + 26 from rfl, List.take_add, q_t6, q_fr]
theorem q_t33 : (eQ e b l s o).take 33 = (eEn e ++ [.slice .no (rws eT b), .slice .no (rws eEy l), .int .i64 s.p]) ++ eFr s.fr ++ [.bool s.live] := by
  rw [show 33 = 32 + 1 from rfl, List.take_add, q_t32, q_d32]; rfl
theorem q_t34 : (eQ e b l s o).take 34 = (eEn e ++ [.slice .no (rws eT b), .slice .no (rws eEy l), .int .i64 s.p]) ++ eFr s.fr ++ [.bool s.live, grD 1 o (rws eN s.fet)] := by
  rw [show 34 = 32 + 2 from rfl, List.take_add, q_t32, q_d32]; rfl
theorem q_sfr {f : Fr} : (eQ e b l s o).take 6 ++ eFr f ++ (eQ e b l s o).drop 32 = eQ e b l { s with fr := f } o := by
  rw [q_t6, q_d32]; simp [eQ]
theorem q_slive {x : Bool} : (eQ e b l s o).take 32 ++ [D.bool x] ++ (eQ e b l s o).drop 33 = eQ e b l { s with live := x } o := by
  rw [q_t32, q_d33]; simp [eQ]
theorem q_sfet {o' : Option Nat} {r : List Nat} : (eQ e b l s o).take 33 ++ [grD 1 o' (rws eN r)] ++ (eQ e b l s o).drop 34 = eQ e b l { s with fet := r } o' := by
  rw [q_t33, q_d34]; simp [eQ]
theorem q_scmp {x : Nat} : (eQ e b l s o).take 34 ++ [D.int .i64 x] ++ (eQ e b l s o).drop 35 = eQ e b l { s with cmp := x } o := by
  rw [q_t34, q_d35]; simp [eQ]
end
def stQ (e : En) (b : List Ty) (l : List Ey) (s : PS) (o : Option Nat) (q : Nat) : St := grS 1 s.fet.length o (({} : St).set q (eQ e b l s o))
open Go.Proofs
structure Ents (l : List Ey) : Prop where
  rise : Rise l
  rng : ∀ x ∈ l, 0 ≤ x.pos ∧ x.pos < 4096
  len : l.length ≤ 4096
theorem next_idx {l : List Ey} (hl : Ents l) {p i n : Nat} (hi : i < l.length) (hp : l[i].pos = p) : nextP l n p = if h : i + 1 < l.length then (if l[i + 1].pos < n then l[i + 1].pos.toNat else n) else n := by
  have hc : cnt l ((p : Int) + 1) = i + 1 := by
    have h1 := (cnt_iff hl.rise (a := (p : Int) + 1) hi).1 (by omega)
    by_cases h2 : i + 1 < l.length
    · have h3 := cnt_iff hl.rise (a := (p : Int) + 1) h2
      have h4 := List.pairwise_iff_getElem.1 hl.rise i (i + 1) hi h2 (by omega)
      omega
    · have := cnt_le l ((p : Int) + 1); omega
  rw [nextP_cnt hl.rise, hc]
  by_cases h2 : i + 1 < l.length
  · rw [dif_pos h2, List.getElem?_eq_getElem h2]
  · rw [dif_neg h2, List.getElem?_eq_none (by omega)]
theorem getEy {l : List Ey} {i : Nat} (h : i < l.length) : (rws eEy l)[i]?.getD [] = eEy l[i] := rws_at h
theorem zf8 (e : Ey) : (eEy e).drop 2 = eFr e.fr := rfl
theorem stQ_le {e : En} {b : List Ty} {l : List Ey} {s s2 : PS} {o : Option Nat} {q : Nat} {S : St} (h : s2.fet = s.fet) (hS : St.le (stQ e b l s o q) S) : St.le (stQ e b l s2 o q) (S.set q (eQ e b l s2 o)) := by
  have h1 : stQ e b l s2 o q = (stQ e b l s o q).set q (eQ e b l s2 o) := by rw [stQ, stQ, grS_set, za2, h]
  rw [h1]; exact le_set hS
def entR (e : En) (b : List Ty) (l : List Ey) (s : PS) (o : Option Nat) (q : Nat) (d : D) (s' : St) : Prop :=
  match comeD e.cs l b.length s with
  | .no a w => d = .tup [.bool false, .int .i64 w] ∧ ∃ s2 : PS, s2.p = s.p ∧ s2.fet = s.fet ∧ s' = stQ e b l s2 o q
  | .ok (s2, on) => d = .tup [.bool on, .int .i64 0] ∧ s' = stQ e b l s2 o q
def bYgcB0 := aI @q_len (aI @q_0 (aI @q_3 (aI @q_4 (aI @q_5 (aI @q_32 (aI @q_34 (aI @q_en (aI @q_fr (aI @q_s5 (aI @q_sfr (aI @q_slive (aI @q_scmp (aI @zb8 (aI @gdD (aI @ldD (aI @zb1 (aI @za8 (aI @zb0 (aI @za6 (aI @za5 (aI @za7 (aI @anD (aI @za2 (aI @ey_0 (aI @ey_1 @zf8)))))))))))))))))))))))))
theorem entry61 (e : En) (b : List Ty) (l : List Ey) (s : PS) (o : Option Nat) (q : Nat) (hf : Falls e.cs e.cs.length) (hw : e.cs.length * 48 ≤ 140737488355328) (hl : Ents l) (hb : b.length ≤ 4096) (hp : s.p < b.length) (hc : s.cmp ≤ 100000) (hoq : o ≠ some q) :
    RCall Tryz.prog 61 [.ptr q 0] (stQ e b l s o q) (entR e b l s o q) := by
  obtain ⟨S0, hS0⟩ : ∃ S0, stQ e b l s o q = S0 := ⟨_, rfl⟩
  have hq : S0.box q = some (eQ e b l s o) := by rw [← hS0, stQ, grS_boxa, St.set_box, if_pos rfl]
  refine F61.rcall rfl fun T hT => ?_
  rw [hS0]
  simp -implicitDefEqProofs only [go_sem, c61, hT, hq, bYgcB0]
  refine za4 (at106 l .no s.p (by have := hl.len; omega)) ?_
  rcases idx_find (l := l) (a := s.p) with ⟨h1, h2⟩ | ⟨i, hi, h1, h2, hpos⟩
  · rw [h2]
    have g1 : ((-1 : Int) < 0) = True := by simp
    cases hlv : s.live with
    | false =>
      rw [show entR e b l s o q = fun d s' => d = .tup [.bool false, .int .i64 90] ∧ ∃ s2 : PS, s2.p = s.p ∧ s2.fet = s.fet ∧ s' = stQ e b l s2 o q by
        funext d s'; unfold entR comeD; rw [h1]; simp [hlv]]
      simp -implicitDefEqProofs only [go_sem, hT, hq, hlv, g1, bYgcB0]
      exact ⟨_, _, DLe.refl _, St.le.refl _, rfl, s, rfl, rfl, hS0.symm⟩
    | true =>
      rw [show entR e b l s o q = fun d s' => d = .tup [.bool true, .int .i64 0] ∧ s' = stQ e b l s o q by
        funext d s'; unfold entR comeD; rw [h1]; simp [hlv]]
      simp -implicitDefEqProofs only [go_sem, hT, hq, hlv, g1, bYgcB0]
      exact ⟨_, _, DLe.refl _, St.le.refl _, rfl, hS0.symm⟩
  rw [h2]
  have g1 : ((i : Int) < 0) = False := by simp
  have g2 : ((i : Int) < l.length) = True := by simp; omega
  have g3 : (0 ≤ (i : Int)) = True := by simp
  have hat := getEy hi
  obtain ⟨x, hx⟩ : ∃ x, l[i] = x := ⟨_, rfl⟩
  rw [hx] at hat h1 hpos
  have hk : comeD e.cs l b.length s = if s.live = true ∧ x.dead = true then .no s.p 91
    else if s.live = true ∧ subFr e.cs s.fr x.fr = false then .no s.p 92
    else if x.dead = true then .ok ({ s with p := nextP l b.length s.p }, false)
    else .ok ({ s with fr := x.fr, live := true, cmp := s.cmp + (if s.live = true then 1 else 0) }, true) := by unfold comeD; rw [h1]
  have wi : IntKind.wrap .i64 ((i : Int) + 1) = ((i + 1 : Nat) : Int) := wrapN (by omega) (by have := hl.len; omega)
  have wc : IntKind.wrap .i64 ((s.cmp : Int) + 1) = ((s.cmp + 1 : Nat) : Int) := wrapN (by omega) (by omega)
  simp -implicitDefEqProofs only [go_sem, hT, hq, g1, g2, g3, hat, bYgcB0]
  intro b5 hb5
  have n5 : b5 ≠ q := fun h => hb5 (by rw [h]; exact .inl (by simp [hq]))
  cases hlv : s.live with
  | true =>
    cases hd : x.dead with
    | true =>
      rw [show entR e b l s o q = fun d s' => d = .tup [.bool false, .int .i64 91] ∧ ∃ s2 : PS, s2.p = s.p ∧ s2.fet = s.fet ∧ s' = stQ e b l s2 o q by
        funext d s'; unfold entR; rw [hk]; simp [hlv, hd]]
      simp -implicitDefEqProofs only [go_sem, hT, hq, hb5, n5, Ne.symm n5, hlv, hd, g1, g2, g3, hat, bYgcB0]
      exact ⟨_, _, DLe.refl _, le_add hb5, rfl, s, rfl, rfl, hS0.symm⟩
    | false =>
      simp -implicitDefEqProofs only [go_sem, hT, hq, hb5, n5, Ne.symm n5, hlv, hd, g1, g2, g3, hat, wc, bYgcB0]
      refine za4 (refSub38 e.cs .no s.fr x.fr hf hw) ?_
      cases hsub : subFr e.cs s.fr x.fr with
      | false =>
        rw [show entR e b l s o q = fun d s' => d = .tup [.bool false, .int .i64 92] ∧ ∃ s2 : PS, s2.p = s.p ∧ s2.fet = s.fet ∧ s' = stQ e b l s2 o q by
          funext d s'; unfold entR; rw [hk]; simp [hlv, hd, hsub]]
        simp -implicitDefEqProofs only [go_sem, hT, hq, hb5, n5, Ne.symm n5, hlv, hd, g1, g2, g3, hat, wc, bYgcB0]
        exact ⟨_, stQ e b l { s with live := true, cmp := s.cmp + 1 } o q, DLe.refl _, stQ_le (s := s) (s2 := { s with live := true, cmp := s.cmp + 1 }) (S := S0.set b5 (eEy x)) rfl (by rw [hS0]; exact le_add hb5), rfl, { s with live := true, cmp := s.cmp + 1 }, rfl, rfl, rfl⟩
      | true =>
        rw [show entR e b l s o q = fun d s' => d = .tup [.bool true, .int .i64 0] ∧ s' = stQ e b l { s with fr := x.fr, live := true, cmp := s.cmp + 1 } o q by
          funext d s'; unfold entR; rw [hk]; simp [hlv, hd, hsub]]
        simp -implicitDefEqProofs only [go_sem, hT, hq, hb5, n5, Ne.symm n5, hlv, hd, g1, g2, g3, hat, wc, bYgcB0]
        exact ⟨_, _, DLe.refl _, stQ_le (s := s) rfl (by rw [hS0]; exact le_add hb5), rfl, rfl⟩
  | false =>
    cases hd : x.dead with
    | true =>
      rw [show entR e b l s o q = fun d s' => d = .tup [.bool false, .int .i64 0] ∧ s' = stQ e b l { s with p := nextP l b.length s.p } o q by
        funext d s'; unfold entR; rw [hk]; simp [hlv, hd]]
      simp -implicitDefEqProofs only [go_sem, hT, hq, hb5, n5, Ne.symm n5, hlv, hd, g1, g2, g3, hat, bYgcB0]
      by_cases h4 : i + 1 < l.length
      · have g4 : (((i + 1 : Nat) : Int) < l.length) = True := by simp; omega
        have g5 : (0 ≤ ((i + 1 : Nat) : Int)) = True := by simp; omega
        obtain ⟨m, hm⟩ : ∃ m : Nat, l[i + 1].pos = m := ⟨_, (Int.toNat_of_nonneg (hl.rng _ (List.getElem_mem h4)).1).symm⟩
        have hnx : nextP l b.length s.p = if (m : Int) < b.length then m else b.length := by
          rw [next_idx hl hi (by rw [hx]; exact hpos), dif_pos h4, hm]; simp
        have hat2 := getEy h4
        by_cases h5 : (m : Int) < b.length
        · simp -implicitDefEqProofs only [go_sem, hT, hq, hb5, n5, Ne.symm n5, hlv, hd, g1, g2, g3, g4, g5, hat, hat2, hm, wi, h5, bYgcB0]
          rw [hnx, if_pos h5]
          exact ⟨_, _, DLe.refl _, stQ_le (s := s) rfl (by rw [hS0]; exact le_add hb5), rfl, rfl⟩
        · simp -implicitDefEqProofs only [go_sem, hT, hq, hb5, n5, Ne.symm n5, hlv, hd, g1, g2, g3, g4, g5, hat, hat2, hm, wi, h5, bYgcB0]
          rw [hnx, if_neg h5]
          exact ⟨_, _, DLe.refl _, stQ_le (s := s) rfl (by rw [hS0]; exact le_add hb5), rfl, rfl⟩
      · have g4 : (((i + 1 : Nat) : Int) < l.length) = False := by simp; omega
        simp -implicitDefEqProofs only [go_sem, hT, hq, hb5, n5, Ne.symm n5, hlv, hd, g1, g2, g3, g4, hat, wi, bYgcB0]
        rw [next_idx hl hi (by rw [hx]; exact hpos), dif_neg h4]
        exact ⟨_, _, DLe.refl _, stQ_le (s := s) rfl (by rw [hS0]; exact le_add hb5), rfl, rfl⟩
    | false =>
      rw [show entR e b l s o q = fun d s' => d = .tup [.bool true, .int .i64 0] ∧ s' = stQ e b l { s with fr := x.fr, live := true, cmp := s.cmp } o q by
        funext d s'; unfold entR; rw [hk]; simp [hlv, hd]]
      simp -implicitDefEqProofs only [go_sem, hT, hq, hb5, n5, Ne.symm n5, hlv, hd, g1, g2, g3, hat, bYgcB0]
      exact ⟨_, _, DLe.refl _, stQ_le (s := s) rfl (by rw [hS0]; exact le_add hb5), rfl, rfl⟩
open Go.Proofs
def fetR (e : En) (b : List Ty) (l : List Ey) (s : PS) (q : Nat) (d : D) (s' : St) : Prop :=
  match fetD e b l s with
  | .no a w => d = .tup [.int .i64 a, .int .i64 w]
  | .ok s2 => d = .tup [.int .i64 0, .int .i64 0] ∧ ∃ o, o ≠ some q ∧ (o = none → s2.fet = []) ∧ s' = stQ e b l s2 o q
theorem in_1 (i : Ins) : (eIn i)[1]? = some (.int .u8 i.op.val) := rfl
theorem in_2 (i : Ins) : (eIn i)[2]? = some (.int .i64 i.a) := rfl
theorem fetR_no {e : En} {b : List Ty} {l : List Ey} {s : PS} {q : Nat} {a : Int} {w : Nat} (h : fetD e b l s = .no a w) : fetR e b l s q = fun d s' => d = .tup [.int .i64 a, .int .i64 w] := by funext d s'; unfold fetR; rw [h]
theorem fetR_ok {e : En} {b : List Ty} {l : List Ey} {s s2 : PS} {q : Nat} (h : fetD e b l s = .ok s2) : fetR e b l s q = fun d s' => d = .tup [.int .i64 0, .int .i64 0] ∧ ∃ o, o ≠ some q ∧ (o = none → s2.fet = []) ∧ s' = stQ e b l s2 o q := by funext d s'; unfold fetR; rw [h]
theorem stray_some {l : List Ey} {p q i : Nat} (h : i < l.length) (hn : ∀ x ∈ l.take i, ¬ ((p : Int) < x.pos ∧ x.pos < (q : Int))) (h1 : (p : Int) < l[i].pos) (h2 : l[i].pos < q) : strayE l p q = some l[i] := by
  unfold strayE
  obtain ⟨f, hf⟩ : ∃ f : Ey → Bool, (fun x : Ey => decide ((p : Int) < x.pos ∧ x.pos < (q : Int))) = f := ⟨_, rfl⟩
  have hz : (l.take i).find? f = none := find_none fun y hy => by rw [← hf]; simpa using hn y hy
  rw [hf]
  have hsplit : l = l.take i ++ l[i] :: l.drop (i + 1) := by rw [List.getElem_cons_drop, List.take_append_drop]
  have hx : (l.take i ++ l[i] :: l.drop (i + 1)).find? f = some l[i] := by
    rw [List.find?_append, hz, List.find?_cons_of_pos (by rw [← hf]; simp [h1, h2])]; rfl
  exact (congrArg (fun z => List.find? f z) hsplit).trans hx
theorem take_more {l : List Ey} {i : Nat} (h : i < l.length) {f : Ey → Prop} (hn : ∀ x ∈ l.take i, f x) (hi : f l[i]) : ∀ x ∈ l.take (i + 1), f x := fun x hx => by
  rw [List.take_succ_eq_append_getElem h] at hx
  rcases List.mem_append.1 hx with hx | hx
  · exact hn x hx
  · obtain rfl := List.mem_singleton.1 hx; exact hi
def bYgcC0 := aI @q_len (aI @q_0 (aI @q_3 (aI @q_4 (aI @q_5 (aI @q_32 (aI @q_33 (aI @q_34 (aI @q_en (aI @q_fr (aI @q_s5 (aI @q_sfr (aI @q_slive (aI @q_scmp (aI @q_sfet (aI @zb8 (aI @gdD (aI @ldD (aI @zb1 (aI @za8 (aI @zb0 (aI @za6 (aI @za5 (aI @za7 (aI @zb2 (aI @za9 (aI @zb6 (aI @zb3 (aI @zc3 (aI @anD (aI @za2 (aI @ey_0 (aI @ey_1 (aI @zf8 (aI @in_1 (aI @in_2 @ze3)))))))))))))))))))))))))))))))))))
def bYgcC1 := aI @q_len (aI @q_0 (aI @q_3 (aI @q_4 (aI @q_5 (aI @q_32 (aI @q_33 (aI @q_34 (aI @q_en (aI @q_fr (aI @q_s5 (aI @q_sfr (aI @q_slive (aI @q_scmp (aI @q_sfet (aI @zb8 (aI @gdD (aI @ldD (aI @zb1 (aI @za8 (aI @zb0 (aI @za6 (aI @za5 (aI @za7 (aI @zb2 (aI @za9 (aI @zb6 (aI @zb3 (aI @zc3 (aI @anD (aI @za2 (aI @ey_0 (aI @ey_1 (aI @zf8 (aI @in_1 (aI @in_2 (aI @ze3 @Int.ofNat_zero))))))))))))))))))))))))))))))))))))
theorem fetch62 (e : En) (b : List Ty) (l : List Ey) (s : PS) (o : Option Nat) (q : Nat) (hf : Falls e.cs e.cs.length) (hw : WideE e) (hw2 : e.cs.length * 48 ≤ 140737488355328) (hl : Ents l) (hb : b.length ≤ 4096) (hp : s.p < b.length) (hc : s.cmp ≤ 100000) (hoq : o ≠ some q) (ho : o = none → s.fet = []) (hfe : s.fet.length ≤ 4096) (hlv : s.live = true) :
    RCall Tryz.prog 62 [.ptr q 0] (stQ e b l s o q) (fetR e b l s q) := by
  obtain ⟨S0, hS0⟩ : ∃ S0, stQ e b l s o q = S0 := ⟨_, rfl⟩
  have hq : S0.box q = some (eQ e b l s o) := by rw [← hS0, stQ, grS_boxa, St.set_box, if_pos rfl]
  refine F62.rcall rfl fun T hT => ?_
  rw [hS0]
  simp -implicitDefEqProofs only [go_sem, c62, hT, hq, forall_eq, bYgcC0]
  refine za4 (refDecode19 b .no s.p (by omega) (by omega)) ?_
  simp -implicitDefEqProofs only [go_sem, hT, hq, forall_eq, bYgcC0]
  intro b4 hb4
  have n4 : b4 ≠ q := fun h => hb4 (by rw [h]; exact .inl (by simp [hq]))
  by_cases h0 : (decF b s.p).2 = 0
  case neg =>
    have q0 : (((decF b s.p).2 : Int) = 0) = False := by simp; omega
    rw [show fetR e b l s q = fun d s' => d = .tup [.int .i64 s.p, .int .i64 (decF b s.p).2] by funext d s'; unfold fetR fetD; rw [if_pos h0]]
    simp -implicitDefEqProofs only [go_sem, hT, hq, forall_eq, n4, Ne.symm n4, q0, bYgcC0]
    exact ⟨_, S0, DLe.refl _, le_add hb4, rfl⟩
  have hfd : fetD e b l s = match strayE l s.p (s.p + sizeOp (decF b s.p).1.op.val) with
  | some x => .no x.pos 93
  | none =>
    if (applyR e s.fr (decF b s.p).1).2 ≠ 0 then .no s.p (applyR e s.fr (decF b s.p).1).2
    else if jumpsB (decF b s.p).1.op.val = true then
      match jumpD e.cs l b.length s.p (decF b s.p).1.a (applyR e s.fr (decF b s.p).1).1 with
      | some w => .no s.p w
      | none => endD b.length s.p (s.p + sizeOp (decF b s.p).1.op.val) (decF b s.p).1.op.val (applyR e s.fr (decF b s.p).1).1 (s.cmp + 1) (s.fet ++ [s.p])
    else endD b.length s.p (s.p + sizeOp (decF b s.p).1.op.val) (decF b s.p).1.op.val (applyR e s.fr (decF b s.p).1).1 s.cmp (s.fet ++ [s.p]) := by unfold fetD; rw [if_neg (by simp [h0])] <;> rfl
  rw [h0]
  obtain ⟨_, _, hsz, hend⟩ := decF_ok h0
  clear h0
  generalize (decF b s.p).1 = I at *
  simp -implicitDefEqProofs only [go_sem, hT, hq, forall_eq, n4, Ne.symm n4, bYgcC1]
  have hbase : grN o (({} : St).set q (eQ e b l s o)) := fun x hx hin => by
    rw [set_has] at hin
    rcases hin with rfl | hin
    · exact hoq hx
    · exact St.not_has_nil _ hin
  have hle0 : St.le (grS 1 s.fet.length o (({} : St).set q (eQ e b l s o))) (S0.set b4 (eIn I)) := by
    rw [show grS 1 s.fet.length o (({} : St).set q (eQ e b l s o)) = S0 from hS0]; exact le_add hb4
  refine app_gr' Tryz.sli29 Tryz.sz3 Tryz.by3 Tryz.zero3 rfl (n := s.fet.length) (m := 1) (by simp [rws]) rfl hle0 hbase (fun h => by rw [ho h]; rfl) (by simp) (by omega) fun o' σ' hbox hle' hg hno => ?_
  have hq' : σ'.box q = some (eQ e b l s o) := by rw [hbox, St.set_box, if_neg (Ne.symm n4), hq]
  have h4' : σ'.box b4 = some (eIn I) := by rw [hbox, St.set_box, if_pos rfl]
  have hrow : rws eN s.fet ++ [[frz (D.int .i64 s.p)]] = rws eN (s.fet ++ [s.p]) := by simp [rws, eN, frz]
  simp -implicitDefEqProofs only [go_sem, hT, hq', h4', forall_eq, n4, Ne.symm n4, hrow, bYgcC0]
  refine za4 (refSize74 I.op) ?_
  have wb : IntKind.wrap .i64 ((s.p : Int) + (sizeOp I.op.val : Int)) = ((s.p + sizeOp I.op.val : Nat) : Int) := wrapN (by omega) (by omega)
  obtain ⟨q1, hq1⟩ : ∃ q1, s.p + sizeOp I.op.val = q1 := ⟨_, rfl⟩
  rw [hq1] at wb hfd hend
  simp -implicitDefEqProofs only [go_sem, hT, hq', h4', forall_eq, n4, Ne.symm n4, wb, bYgcC0]
  obtain ⟨S1, hS1⟩ : ∃ S1, σ'.set q (eQ e b l { s with fet := s.fet ++ [s.p] } o') = S1 := ⟨_, rfl⟩
  have hq1' : S1.box q = some (eQ e b l { s with fet := s.fet ++ [s.p] } o') := by rw [← hS1, St.set_box, if_pos rfl]
  have h41 : S1.box b4 = some (eIn I) := by rw [← hS1, St.set_box, if_neg n4, h4']
  rw [hS1]
  refine loopL F62 (fun i : Nat => [(0, .ptr q 0), (4, .ptr b4 0), (6, .int .i64 q1), (56, .slice .no (rws eEy l)), (57, .int .i64 l.length), (58, .int .i64 i)]) (fun _ => S1) (fun i => i ≤ l.length ∧ ∀ x ∈ l.take i, ¬ ((s.p : Int) < x.pos ∧ x.pos < q1)) (fun i => l.length - i) 0 ⟨by omega, by simp⟩ ?_ (St.le.refl _) ?_
  · simp -implicitDefEqProofs only [go_sem, hT, Int.ofNat_zero]
  clear hT T
  rintro i ⟨hi, hn⟩ T hT
  by_cases h : i < l.length
  · have p1 : ((i : Int) < l.length) = True := by simp; omega
    have p0 : (0 ≤ (i : Int)) = True := by simp
    have hat := getEy h
    have w1 : IntKind.wrap .i64 ((i : Int) + 1) = ((i + 1 : Nat) : Int) := wrapN (by omega) (by have := hl.len; omega)
    simp -implicitDefEqProofs only [go_sem, hT, hq1', h41, forall_eq, p1, p0, hat, w1, bYgcC0]
    intro b8 hb8
    have n8 : b8 ≠ q := fun h => hb8 (by rw [h]; exact .inl (by simp [hq1']))
    have n9 : b8 ≠ b4 := fun h => hb8 (by rw [h]; exact .inl (by simp [h41]))
    by_cases h1 : (s.p : Int) < l[i].pos
    · by_cases h2 : l[i].pos < q1
      · rw [stray_some h hn h1 h2] at hfd
        rw [fetR_no hfd]
        simp -implicitDefEqProofs only [go_sem, hT, hq1', h41, forall_eq, n4, Ne.symm n4, n8, Ne.symm n8, n9, Ne.symm n9, p1, p0, hat, w1, h1, h2, bYgcC0]
        exact ⟨_, S1, DLe.refl _, le_add hb8, rfl⟩
      · simp -implicitDefEqProofs only [go_sem, hT, hq1', h41, forall_eq, n4, Ne.symm n4, n8, Ne.symm n8, n9, Ne.symm n9, p1, p0, hat, w1, h1, h2, bYgcC0]
        exact ⟨i + 1, ⟨by omega, take_more h hn (by omega)⟩, by omega, rfl, le_add hb8⟩
    · simp -implicitDefEqProofs only [go_sem, hT, hq1', h41, forall_eq, n4, Ne.symm n4, n8, Ne.symm n8, n9, Ne.symm n9, p1, p0, hat, w1, h1, bYgcC0]
      exact ⟨i + 1, ⟨by omega, take_more h hn (by omega)⟩, by omega, rfl, le_add hb8⟩
  have p1 : ((i : Int) < l.length) = False := by simp; omega
  rw [show l.take i = l from List.take_of_length_le (by omega)] at hn
  have hst : strayE l s.p q1 = none := find_none fun y hy => by simpa using hn y hy
  rw [hst] at hfd
  simp -implicitDefEqProofs only [go_sem, hT, hq1', h41, forall_eq, n4, Ne.symm n4, p1, bYgcC0]
  refine za4 (refApply37 e s.fr I hw) ?_
  simp -implicitDefEqProofs only [go_sem, hT, hq1', h41, forall_eq, n4, Ne.symm n4, bYgcC0]
  generalize applyR e s.fr I = R at hfd ⊢
  obtain ⟨f', err⟩ := R
  intro b9 hb9
  have n8 : b9 ≠ q := fun h => hb9 (by rw [h]; exact .inl (by simp [hq1']))
  have n9 : b9 ≠ b4 := fun h => hb9 (by rw [h]; exact .inl (by simp [h41]))
  by_cases h3 : err = 0
  case neg =>
    have q3 : ((err : Int) = 0) = False := by simp; omega
    simp only [h3, ne_eq, not_false_eq_true, if_true] at hfd
    rw [fetR_no hfd]
    simp -implicitDefEqProofs only [go_sem, hT, hq1', h41, forall_eq, n4, Ne.symm n4, n8, Ne.symm n8, n9, Ne.symm n9, q3, bYgcC0]
    exact ⟨_, S1, DLe.refl _, le_add hb9, rfl⟩
  subst h3
  simp only [ne_eq, not_true_eq_false, if_false] at hfd
  simp -implicitDefEqProofs only [go_sem, hT, hq1', h41, forall_eq, n4, Ne.symm n4, n8, Ne.symm n8, n9, Ne.symm n9, bYgcC1]
  obtain ⟨S2, hS2⟩ : ∃ S2, (S1.set b9 (eFr f')).set q (eQ e b l { s with fr := f', fet := s.fet ++ [s.p] } o') = S2 := ⟨_, rfl⟩
  have hq2 : S2.box q = some (eQ e b l { s with fr := f', fet := s.fet ++ [s.p] } o') := by rw [← hS2, St.set_box, if_pos rfl]
  have h42 : S2.box b4 = some (eIn I) := by rw [← hS2, St.set_box, if_neg n4, St.set_box, if_neg (Ne.symm n9), h41]
  have h92 : S2.box b9 = some (eFr f') := by rw [← hS2, St.set_box, if_neg n8, St.set_box, if_pos rfl]
  rw [hS2]
  have hoq' : o' ≠ some q := fun h => hg q h (by rw [set_has]; exact .inl rfl)
  have hon : ∀ z : Nat, o' = none → s.fet ++ [z] = [] := fun z h => by have := hno h; omega
  have hfin : ∀ s2 : PS, s2.fet = s.fet ++ [s.p] → St.le (stQ e b l s2 o' q) (S2.set q (eQ e b l s2 o')) := fun s2 h2 => by
    have h9 : ¬ σ'.has b9 := fun h => hb9 (by rw [← hS1, set_has]; exact .inr h)
    have e1 : S2.set q (eQ e b l s2 o') = (σ'.set b9 (eFr f')).set q (eQ e b l s2 o') := by
      rw [← hS2, za2, ← hS1, set_comm (Ne.symm n8), za2]
    have e2 : stQ e b l s2 o' q = (grS 1 (s.fet.length + 1) o' (({} : St).set q (eQ e b l s o))).set q (eQ e b l s2 o') := by
      rw [stQ, grS_set, za2, h2, List.length_append]; rfl
    rw [e1, e2]
    exact le_set (hle'.trans (le_add h9))
  refine za4 (refJumps22 I.op) ?_
  cases hj : jumpsB I.op.val with
  | false =>
    simp only [hj, Bool.false_eq_true, if_false] at hfd
    simp -implicitDefEqProofs only [go_sem, hT, hq2, h42, h92, forall_eq, n4, Ne.symm n4, n8, Ne.symm n8, n9, Ne.symm n9, hj, bYgcC0]
    refine za4 (refEnds41 I.op) ?_
    cases he : endsB I.op.val with
    | true =>
      simp only [endD, he, if_true] at hfd
      rw [fetR_ok hfd]
      simp -implicitDefEqProofs only [go_sem, hT, hq2, h42, h92, forall_eq, n4, Ne.symm n4, n8, Ne.symm n8, n9, Ne.symm n9, he, bYgcC0]
      exact ⟨_, _, DLe.refl _, hfin _ rfl, rfl, o', hoq', hon _, rfl⟩
    | false =>
      by_cases h6 : b.length ≤ q1
      · have g6 : ((b.length : Int) ≤ q1) = True := by simp; omega
        simp only [endD, he, Bool.false_eq_true, if_false, h6, if_true] at hfd
        rw [fetR_no hfd]
        simp -implicitDefEqProofs only [go_sem, hT, hq2, h42, h92, forall_eq, n4, Ne.symm n4, n8, Ne.symm n8, n9, Ne.symm n9, he, g6, bYgcC0]
        exact ⟨_, S2, DLe.refl _, St.le.refl _, rfl⟩
      · have g6 : ((b.length : Int) ≤ q1) = False := by simp; omega
        simp only [endD, he, Bool.false_eq_true, if_false, h6] at hfd
        rw [fetR_ok hfd]
        simp -implicitDefEqProofs only [go_sem, hT, hq2, h42, h92, forall_eq, n4, Ne.symm n4, n8, Ne.symm n8, n9, Ne.symm n9, he, g6, bYgcC0]
        exact ⟨_, _, DLe.refl _, hfin _ rfl, rfl, o', hoq', hon _, by rw [hlv]⟩
  | true =>
    simp only [hj, if_true, jumpD] at hfd
    simp -implicitDefEqProofs only [go_sem, hT, hq2, h42, h92, forall_eq, n4, Ne.symm n4, n8, Ne.symm n8, n9, Ne.symm n9, hj, bYgcC0]
    by_cases h5 : (b.length : Int) ≤ I.a
    · simp only [h5, if_true] at hfd
      rw [fetR_no hfd]
      simp -implicitDefEqProofs only [go_sem, hT, hq2, h42, h92, forall_eq, n4, Ne.symm n4, n8, Ne.symm n8, n9, Ne.symm n9, h5, bYgcC0]
      exact ⟨_, S2, DLe.refl _, St.le.refl _, rfl⟩
    simp only [h5, if_false] at hfd
    simp -implicitDefEqProofs only [go_sem, hT, hq2, h42, h92, forall_eq, n4, Ne.symm n4, n8, Ne.symm n8, n9, Ne.symm n9, h5, bYgcC0]
    refine za4 (at106 l .no I.a (by have := hl.len; omega)) ?_
    rcases idx_find (l := l) (a := I.a) with ⟨k1, k2⟩ | ⟨i, hi, k1, k2, hpos⟩
    · rw [k1] at hfd
      rw [k2, fetR_no hfd]
      simp -implicitDefEqProofs only [go_sem, hT, hq2, h42, h92, forall_eq, n4, Ne.symm n4, n8, Ne.symm n8, n9, Ne.symm n9, h5, show ((-1 : Int) < 0) = True by simp, bYgcC0]
      exact ⟨_, S2, DLe.refl _, St.le.refl _, rfl⟩
    rw [k2]
    have g1 : ((i : Int) < 0) = False := by simp
    have g2 : ((i : Int) < l.length) = True := by simp; omega
    have g3 : (0 ≤ (i : Int)) = True := by simp
    have hat := getEy hi
    obtain ⟨x, hx⟩ : ∃ x, l[i] = x := ⟨_, rfl⟩
    rw [hx] at hat k1 hpos
    rw [k1] at hfd
    cases hd : x.dead with
    | true =>
      simp only [hd, if_true] at hfd
      rw [fetR_no hfd]
      simp -implicitDefEqProofs only [go_sem, hT, hq2, h42, h92, forall_eq, n4, Ne.symm n4, n8, Ne.symm n8, n9, Ne.symm n9, g1, g2, g3, hat, hd, bYgcC0]
      exact ⟨_, S2, DLe.refl _, St.le.refl _, rfl⟩
    | false =>
      have wc : IntKind.wrap .i64 ((s.cmp : Int) + 1) = ((s.cmp + 1 : Nat) : Int) := wrapN (by omega) (by omega)
      simp -implicitDefEqProofs only [go_sem, hT, hq2, h42, h92, forall_eq, n4, Ne.symm n4, n8, Ne.symm n8, n9, Ne.symm n9, g1, g2, g3, hat, hd, wc, bYgcC0]
      refine za4 (refSub38 e.cs .no f' x.fr hf hw2) ?_
      cases hsub : subFr e.cs f' x.fr with
      | false =>
        simp only [hd, hsub, Bool.false_eq_true, if_false, if_true] at hfd
        rw [fetR_no hfd]
        simp -implicitDefEqProofs only [go_sem, hT, hq2, h42, h92, forall_eq, n4, Ne.symm n4, n8, Ne.symm n8, n9, Ne.symm n9, g1, g2, g3, hat, hd, wc, bYgcC0]
        exact ⟨_, _, DLe.refl _, St.le.refl _, rfl⟩
      | true =>
        simp only [hd, hsub, Bool.false_eq_true, if_false] at hfd
        simp -implicitDefEqProofs only [go_sem, hT, hq2, h42, h92, forall_eq, n4, Ne.symm n4, n8, Ne.symm n8, n9, Ne.symm n9, g1, g2, g3, hat, hd, wc, bYgcC0]
        refine za4 (refEnds41 I.op) ?_
        cases he : endsB I.op.val with
        | true =>
          simp only [endD, he, if_true] at hfd
          rw [fetR_ok hfd]
          simp -implicitDefEqProofs only [go_sem, hT, hq2, h42, h92, forall_eq, n4, Ne.symm n4, n8, Ne.symm n8, n9, Ne.symm n9, he, bYgcC0]
          exact ⟨_, _, DLe.refl _, hfin _ rfl, rfl, o', hoq', hon _, rfl⟩
        | false =>
          by_cases h6 : b.length ≤ q1
          · have g6 : ((b.length : Int) ≤ q1) = True := by simp; omega
            simp only [endD, he, Bool.false_eq_true, if_false, h6, if_true] at hfd
            rw [fetR_no hfd]
            simp -implicitDefEqProofs only [go_sem, hT, hq2, h42, h92, forall_eq, n4, Ne.symm n4, n8, Ne.symm n8, n9, Ne.symm n9, he, g6, bYgcC0]
            exact ⟨_, _, DLe.refl _, St.le.refl _, rfl⟩
          · have g6 : ((b.length : Int) ≤ q1) = False := by simp; omega
            simp only [endD, he, Bool.false_eq_true, if_false, h6] at hfd
            rw [fetR_ok hfd]
            simp -implicitDefEqProofs only [go_sem, hT, hq2, h42, h92, forall_eq, n4, Ne.symm n4, n8, Ne.symm n8, n9, Ne.symm n9, he, g6, bYgcC0]
            exact ⟨_, _, DLe.refl _, hfin _ rfl, rfl, o', hoq', hon _, by rw [hlv]⟩
end Go.AL
