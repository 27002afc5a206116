import Derived.Test.YtobmoajkfbigkaaGreatHu
import Derived.Test.YtobmoajkfbigkaaGreatHv
import Derived.Test.YtobmoajkfbigkaaGreatHd
set_option linter.unusedSimpArgs false
set_option linter.unusedVariables false
set_option maxRecDepth 100000
set_option maxHeartbeats 4000000
set_option linter.defProp false
namespace Go.AL
open Go.Proofs
def refD (a : Int) (w : Nat) : D := .iface 161 (.agg [.int .i64 a, .int .i64 w])
theorem refuse93 (a : Int) (w : Nat) : XCall Tryz.prog 93 [.int .i64 a, .int .i64 w] {} (fun _ _ => False) fun d s' => d = refD a w ∧ s' = {} := by
  refine F93.xcall rfl fun T hT => ?_
  simp -implicitDefEqProofs only [go_sem, c93, hT]
  exact ⟨_, _, DLe.refl _, St.le.refl _, rfl, rfl⟩
theorem must95_ok (a : Int) : PCall Tryz.prog 95 [.int .i64 a, .int .i64 0] (.tup []) := by
  refine F95.pcall' rfl fun T hT => ?_
  simp -implicitDefEqProofs only [go_sem, c95, hT]
theorem must95_no (a : Int) (w : Nat) (hw : w ≠ 0) : XCall Tryz.prog 95 [.int .i64 a, .int .i64 w] {} (fun _ _ => False) fun d s' => d = refD a w ∧ s' = {} := by
  have q : ((w : Int) = 0) = False := eq_false (by omega)
  refine F95.xcall rfl fun T hT => ?_
  simp -implicitDefEqProofs only [go_sem, c95, hT, q]
  refine callB_pan (refuse93 a w) ?_
  simp -implicitDefEqProofs only [go_sem]
  exact ⟨_, _, DLe.refl _, St.le.refl _, rfl, rfl⟩
def eP (e : En) (n : Nat) (l : List Ey) (nx : Nat) (fd : D) (s : PS) (o : Option Nat) : List D :=
  eEn e ++ ([.int .i64 n, .slice .no (rws eEy l), .int .i64 nx, fd, grD 1 o (rws eN s.fet), .int .i64 s.cmp] ++ (eFr s.fr ++ [.bool s.live]))
section
variable {e : En} {n : Nat} {l : List Ey} {nx : Nat} {fd : D} {s : PS} {o : Option Nat}
theorem e_len : (eP e n l nx fd s o).length = 36 := by simp [eP, eEn, eFr_len]
theorem e_0 : (eP e n l nx fd s o)[0]? = some (.slice .no (rws eC e.cs)) := rfl
theorem e_3 : (eP e n l nx fd s o)[3]? = some (.int .i64 n) := rfl
theorem e_4 : (eP e n l nx fd s o)[4]? = some (.slice .no (rws eEy l)) := rfl
theorem e_5 : (eP e n l nx fd s o)[5]? = some (.int .i64 nx) := rfl
theorem e_7 : (eP e n l nx fd s o)[7]? = some (grD 1 o (rws eN s.fet)) := rfl
theorem e_8 : (eP e n l nx fd s o)[8]? = some (.int .i64 s.cmp) := rfl
theorem e_35 : (eP e n l nx fd s o)[35]? = some (.bool s.live) := by simp [eP, eEn, List.getElem?_append, eFr_len]
theorem e_en : (eP e n l nx fd s o).take 3 = eEn e := rfl
theorem e_d9 : (eP e n l nx fd s o).drop 9 = eFr s.fr ++ [.bool s.live] := rfl
theorem e_fr : ((eP e n l nx fd s o).drop 9).take 26 = eFr s.fr := by rw [e_d9, List.take_left' (eFr_len _)]
theorem e_d35 : (eP e n l nx fd s o).drop 35 = [.bool s.live] := by rw [show 35 = 9 + 26 from rfl, ← List.drop_drop, e_d9, List.drop_left' (eFr_len _)]
theorem e_d36 : (eP e n l nx fd s o).drop 36 = [] := by rw [show 36 = 35 + 1 from rfl, ← List.drop_drop, e_d35]; rfl
theorem e_t9 : (eP e n l nx fd s o).take 9 = eEn e ++ [.int .i64 n, .slice .no (rws eEy l), .int .i64 nx, fd, grD 1 o (rws eN s.fet), .int .i64 s.cmp] := rfl
theorem e_t35 : (eP e n l nx fd s o).take 35 = (eEn e ++ [.int .i64 n, .slice .no (rws eEy l), .int .i64 nx, fd, grD 1 o (rws eN s.fet), .int .i64 s.cmp]) ++ eFr s.fr := by
  rw [show 35 = 9 + 26 from rfl, List.take_add, e_t9, e_fr]
theorem e_snx {k : Nat} : (eP e n l nx fd s o).take 5 ++ [D.int .i64 k] ++ (eP e n l nx fd s o).drop 6 = eP e n l k fd s o := rfl
theorem e_sfd {d : D} : (eP e n l nx fd s o).take 6 ++ [d] ++ (eP e n l nx fd s o).drop 7 = eP e n l nx d s o := rfl
theorem e_sfet {o' : Option Nat} {r : List Nat} : (eP e n l nx fd s o).take 7 ++ [grD 1 o' (rws eN r)] ++ (eP e n l nx fd s o).drop 8 = eP e n l nx fd { s with fet := r } o' := rfl
theorem e_scmp {x : Nat} : (eP e n l nx fd s o).take 8 ++ [D.int .i64 x] ++ (eP e n l nx fd s o).drop 9 = eP e n l nx fd { s with cmp := x } o := rfl
theorem e_sfr {f : Fr} : (eP e n l nx fd s o).take 9 ++ eFr f ++ (eP e n l nx fd s o).drop 35 = eP e n l nx fd { s with fr := f } o := by
  rw [e_t9, e_d35]; simp [eP]
theorem e_slive {x : Bool} : (eP e n l nx fd s o).take 35 ++ [D.bool x] ++ (eP e n l nx fd s o).drop 36 = eP e n l nx fd { s with live := x } o := by
  rw [e_t35, e_d36]; simp [eP]
end
def foundD (l : List Ey) (a : Int) : D := .tup [.agg (eEy ((findE l a).getD ey0)), .bool (findE l a).isSome]
def bYgdA0 := aI @e_len (aI @e_0 (aI @e_3 (aI @e_4 (aI @e_5 (aI @e_7 (aI @e_8 (aI @e_35 (aI @e_en (aI @e_fr (aI @nilc_p (aI @gdD (aI @ldD (aI @eEy_len (aI @eEy_take (aI @eEy_drop (aI @anD (aI @set_set (aI @ey_0 (aI @ey_1 (aI @ey_d2 (aI @ey_zero @resM_cell)))))))))))))))))))))
theorem entry141 (e : En) (n : Nat) (l : List Ey) (nx : Nat) (fd : D) (s : PS) (o : Option Nat) (q : Nat) (a : Int) (hl : Ents l) :
    RCall Tryz.prog 141 [.ptr q 0, .int .i64 a] (({} : St).set q (eP e n l nx fd s o)) fun d s' => d = foundD l a ∧ s' = ({} : St).set q (eP e n l nx fd s o) := by
  obtain ⟨S0, hS0⟩ : ∃ S0, ({} : St).set q (eP e n l nx fd s o) = S0 := ⟨_, rfl⟩
  have hq : S0.box q = some (eP e n l nx fd s o) := by rw [← hS0, St.set_box, if_pos rfl]
  have hlen := hl.len
  refine F141.rcall rfl fun T hT => ?_
  rw [hS0]
  simp -implicitDefEqProofs only [go_sem, c141, hT, hq, forall_eq, bYgdA0]
  intro b4 hb4
  have n4 : b4 ≠ q := fun h => hb4 (by rw [h]; exact .inl (by simp [hq]))
  simp -implicitDefEqProofs only [go_sem, hT, hq, forall_eq, n4, Ne.symm n4, bYgdA0]
  obtain ⟨S1, hS1⟩ : ∃ S1, S0.set b4 (eEy ey0) = S1 := ⟨_, rfl⟩
  have hq1 : S1.box q = some (eP e n l nx fd s o) := by rw [← hS1, St.set_box, if_neg (Ne.symm n4), hq]
  have h41 : S1.box b4 = some (eEy ey0) := by rw [← hS1, St.set_box, if_pos rfl]
  have hle : St.le S0 S1 := hS1 ▸ le_add hb4
  rw [hS1]
  have hle2 : ∀ X, St.le S0 (S1.set b4 X) := fun X => by rw [← hS1, set_set]; exact le_add hb4
  have hcl := cnt_le l a
  refine loopL F141 (fun x : Nat × Nat => [(0, .ptr q 0), (1, .int .i64 a), (4, .ptr b4 0), (5, .bool false), (6, .int .i64 x.1), (7, .int .i64 x.2)]) (fun _ => S1) (fun x => x.1 ≤ cnt l a ∧ cnt l a ≤ x.2 ∧ x.2 ≤ l.length) (fun x => x.2 - x.1) (0, l.length) ⟨by omega, by simpa using hcl, by simp⟩ ?_ (St.le.refl _) ?_
  · simp -implicitDefEqProofs only [go_sem, hT, Int.ofNat_zero]
  clear hT T
  rintro ⟨x, y⟩ ⟨h1, h2, h3⟩ T hT
  simp only at h1 h2 h3 hT ⊢
  by_cases hxy : x < y
  · have p1 : ((x : Int) < y) = True := eq_true (by omega)
    have w1 : IntKind.wrap .i64 ((x : Int) + y) = ((x + y : Nat) : Int) := wrapN (by omega) (by omega)
    have w2 : IntKind.wrap .i64 (((x + y : Nat) : Int).tdiv 2) = (((x + y) / 2 : Nat) : Int) := wrapN (by rw [Int.tdiv_eq_ediv_of_nonneg (by omega)]; omega) (by omega)
    obtain ⟨k, hk⟩ : ∃ k, (x + y) / 2 = k := ⟨_, rfl⟩
    rw [hk] at w2
    have hkl : k < l.length := by omega
    have p2 : ((k : Int) < l.length) = True := eq_true (by omega)
    have p0 : (0 ≤ (k : Int)) = True := eq_true (by omega)
    have w3 : IntKind.wrap .i64 ((k : Int) + 1) = ((k + 1 : Nat) : Int) := wrapN (by omega) (by omega)
    have hat := getEy hkl
    have hci := cnt_iff hl.rise (a := a) hkl
    by_cases h4 : l[k].pos < a
    · simp -implicitDefEqProofs only [go_sem, hT, hq1, forall_eq, n4, Ne.symm n4, p1, w1, w2, w3, p2, p0, hat, h4, bYgdA0]
      have := hci.1 h4
      exact ⟨(k + 1, y), ⟨by simp only; omega, h2, h3⟩, by simp only; omega, ⟨rfl, rfl⟩, St.le.refl _⟩
    · simp -implicitDefEqProofs only [go_sem, hT, hq1, forall_eq, n4, Ne.symm n4, p1, w1, w2, w3, p2, p0, hat, h4, bYgdA0]
      have := mt hci.2 h4
      exact ⟨(x, k), ⟨h1, by simp only; omega, by simp only; omega⟩, by simp only; omega, ⟨rfl, rfl⟩, St.le.refl _⟩
  obtain rfl : x = y := by omega
  obtain rfl : x = cnt l a := by omega
  have p1 : ((cnt l a : Int) < cnt l a) = False := eq_false (by omega)
  have hfe := findE_cnt hl.rise a
  by_cases h5 : cnt l a = l.length
  · have p2 : ((cnt l a : Int) = l.length) = True := eq_true (by omega)
    rw [h5, List.getElem?_eq_none (Nat.le_refl _)] at hfe
    rw [show foundD l a = .tup [.agg (eEy ey0), .bool false] by unfold foundD; rw [hfe]; rfl]
    simp -implicitDefEqProofs only [go_sem, hT, hq1, h41, forall_eq, n4, Ne.symm n4, p1, p2, bYgdA0]
    exact ⟨_, S0, DLe.refl _, hle2 _, rfl, rfl⟩
  have hlt : cnt l a < l.length := by omega
  have p2 : ((cnt l a : Int) = l.length) = False := eq_false (by omega)
  have p3 : ((cnt l a : Int) < l.length) = True := eq_true (by omega)
  have p0 : (0 ≤ (cnt l a : Int)) = True := eq_true (by omega)
  have hat := getEy hlt
  rw [List.getElem?_eq_getElem hlt] at hfe
  by_cases h6 : l[cnt l a].pos = a
  · rw [show foundD l a = .tup [.agg (eEy l[cnt l a]), .bool true] by unfold foundD; rw [hfe]; simp [h6]]
    simp -implicitDefEqProofs only [go_sem, hT, hq1, h41, forall_eq, n4, Ne.symm n4, p1, p2, p3, p0, hat, h6, bYgdA0]
    exact ⟨_, S0, DLe.refl _, hle2 _, rfl, rfl⟩
  · rw [show foundD l a = .tup [.agg (eEy ey0), .bool false] by unfold foundD; rw [hfe]; simp [h6]]
    simp -implicitDefEqProofs only [go_sem, hT, hq1, h41, forall_eq, n4, Ne.symm n4, p1, p2, p3, p0, hat, h6, bYgdA0]
    exact ⟨_, S0, DLe.refl _, hle2 _, rfl, rfl⟩
theorem sub_hold (e : En) (f g : Fr) (hw : WideE e) : PCall Tryz.prog 171 [.slice .no (rws eC e.cs), .agg (eFr f), .agg (eFr g)] (.bool (subFr e.cs f g)) := sub171 e.cs .no f g (by have := hw.1.1; omega)
def bYgdA1 := aI @e_len (aI @e_0 (aI @e_3 (aI @e_4 (aI @e_5 (aI @e_7 (aI @e_8 (aI @e_35 (aI @e_en (aI @e_fr (aI @e_scmp (aI @nilc_p (aI @gdD (aI @ldD (aI @eFr_len (aI @eFr_take (aI @eFr_drop (aI @anD (aI @set_set @resM_cell))))))))))))))))))
theorem hold142 (e : En) (n : Nat) (l : List Ey) (nx : Nat) (fd : D) (s : PS) (o : Option Nat) (q : Nat) (at' : Int) (f g : Fr) (hw : WideE e) (hc : s.cmp ≤ 100000) :
    XCall Tryz.prog 142 [.ptr q 0, .int .i64 at', .agg (eFr f), .agg (eFr g)] (({} : St).set q (eP e n l nx fd s o)) (fun d s' => subFr e.cs f g = true ∧ d = .tup [] ∧ s' = ({} : St).set q (eP e n l nx fd { s with cmp := s.cmp + 1 } o))
      (fun d _ => subFr e.cs f g = false ∧ d = refD at' 92) := by
  obtain ⟨S0, hS0⟩ : ∃ S0, ({} : St).set q (eP e n l nx fd s o) = S0 := ⟨_, rfl⟩
  have hq : S0.box q = some (eP e n l nx fd s o) := by rw [← hS0, St.set_box, if_pos rfl]
  have wc : IntKind.wrap .i64 ((s.cmp : Int) + 1) = ((s.cmp + 1 : Nat) : Int) := wrapN (by omega) (by omega)
  refine F142.xcall rfl fun T hT => ?_
  rw [hS0]
  simp -implicitDefEqProofs only [go_sem, c142, hT, hq, forall_eq, bYgdA1]
  intro b6 h6 b7 n1 n2 h7
  have n4 : b6 ≠ q := fun h => h6 (by rw [h]; exact .inl (by simp [hq]))
  have n5 : b7 ≠ q := fun h => h7 (by rw [h]; exact .inl (by simp [hq]))
  simp -implicitDefEqProofs only [go_sem, hT, hq, forall_eq, n4, Ne.symm n4, n5, Ne.symm n5, n1, n2, wc, bYgdA1]
  refine callB_pure (sub_hold e f g hw) ?_
  cases hs : subFr e.cs f g with
  | true =>
    simp -implicitDefEqProofs only [go_sem, hT, hq, forall_eq, n4, Ne.symm n4, n5, Ne.symm n5, n1, n2, wc, bYgdA1]
    refine ⟨_, S0.set q (eP e n l nx fd { s with cmp := s.cmp + 1 } o), DLe.refl _, le_set ((le_add h6).trans (le_add ?_)), rfl, by rw [← hS0, set_set]⟩
    rw [set_has]; rintro (h | h)
    · exact n1 h
    · exact h7 h
  | false =>
    simp -implicitDefEqProofs only [go_sem, hT, hq, forall_eq, n4, Ne.symm n4, n5, Ne.symm n5, n1, n2, wc, bYgdA1]
    refine callB_pan (refuse93 at' 92) ?_
    simp -implicitDefEqProofs only [go_sem]
    exact ⟨_, _, DLe.refl _, St.le.refl _, rfl⟩
theorem found_some {l : List Ey} {a : Int} {x : Ey} (h : findE l a = some x) : foundD l a = .tup [.agg (eEy x), .bool true] := by unfold foundD; rw [h]; rfl
theorem found_none {l : List Ey} {a : Int} (h : findE l a = none) : foundD l a = .tup [.agg (eEy ey0), .bool false] := by unfold foundD; rw [h]; rfl
theorem in_0 (i : Ins) : (eIn i)[0]? = some (.int .i64 i.pos) := rfl
def bYgdA2 := aI @e_len (aI @e_0 (aI @e_3 (aI @e_4 (aI @e_5 (aI @e_7 (aI @e_8 (aI @e_35 (aI @e_en (aI @e_fr (aI @e_scmp (aI @nilc_p (aI @gdD (aI @ldD (aI @eIn_len (aI @eIn_take (aI @in_0 (aI @in_2 (aI @eEy_len (aI @eEy_take (aI @eEy_drop (aI @eFr_len (aI @eFr_take (aI @eFr_drop (aI @anD (aI @set_set (aI @resM_cell (aI @ey_0 (aI @ey_1 (aI @ey_d2 @ey_zero)))))))))))))))))))))))))))))
theorem jump145 (e : En) (n : Nat) (l : List Ey) (nx : Nat) (fd : D) (s : PS) (o : Option Nat) (q : Nat) (i : Ins) (hw : WideE e) (hl : Ents l) (hc : s.cmp ≤ 100000) :
    XCall Tryz.prog 145 [.ptr q 0, .agg (eIn i)] (({} : St).set q (eP e n l nx fd s o)) (fun d s' => jumpD e.cs l n 0 i.a s.fr = none ∧ d = .tup [] ∧ s' = ({} : St).set q (eP e n l nx fd { s with cmp := s.cmp + 1 } o))
      (fun d _ => ∃ w, jumpD e.cs l n 0 i.a s.fr = some w ∧ d = refD i.pos w) := by
  obtain ⟨S0, hS0⟩ : ∃ S0, ({} : St).set q (eP e n l nx fd s o) = S0 := ⟨_, rfl⟩
  have hq : S0.box q = some (eP e n l nx fd s o) := by rw [← hS0, St.set_box, if_pos rfl]
  refine F145.xcall rfl fun T hT => ?_
  rw [hS0]
  simp -implicitDefEqProofs only [go_sem, c145, hT, hq, forall_eq, bYgdA2]
  intro b3 h3
  have n3 : b3 ≠ q := fun h => h3 (by rw [h]; exact .inl (by simp [hq]))
  have hbf : S0.buf q = none := by rw [← hS0]; rfl
  refine callB_boxS (b := q) (by rw [St.set_box, if_neg (Ne.symm n3)]; exact hq) hbf (entry141 e n l nx fd s o q i.a hl) ?_
  by_cases h1 : (n : Int) ≤ i.a
  · have hj : jumpD e.cs l n 0 i.a s.fr = some 50 := by unfold jumpD; rw [if_pos h1]
    cases hf : findE l i.a with
    | none =>
      rw [found_none hf]
      simp -implicitDefEqProofs only [go_sem, hT, hq, forall_eq, n3, Ne.symm n3, bYgdA2]
      intro b4 h6 h7 h8
      have h4 : b4 ≠ q := fun h => h8 (by rw [h]; exact .inl (by simp [hq]))
      have h5 := Ne.symm h4
      simp -implicitDefEqProofs only [go_sem, hT, hq, forall_eq, n3, Ne.symm n3, h4, h5, h6, h7, h1, bYgdA2]
      refine callB_pan (refuse93 i.pos 50) ?_
      simp -implicitDefEqProofs only [go_sem]
      exact ⟨_, {}, DLe.refl _, St.le.nil _, _, hj, rfl⟩
    | some x =>
      rw [found_some hf]
      simp -implicitDefEqProofs only [go_sem, hT, hq, forall_eq, n3, Ne.symm n3, bYgdA2]
      intro b4 h6 h7 h8
      have h4 : b4 ≠ q := fun h => h8 (by rw [h]; exact .inl (by simp [hq]))
      have h5 := Ne.symm h4
      simp -implicitDefEqProofs only [go_sem, hT, hq, forall_eq, n3, Ne.symm n3, h4, h5, h6, h7, h1, bYgdA2]
      refine callB_pan (refuse93 i.pos 50) ?_
      simp -implicitDefEqProofs only [go_sem]
      exact ⟨_, {}, DLe.refl _, St.le.nil _, _, hj, rfl⟩
  cases hf : findE l i.a with
  | none =>
    have hj : jumpD e.cs l n 0 i.a s.fr = some 90 := by unfold jumpD; rw [if_neg h1, hf]
    rw [found_none hf]
    simp -implicitDefEqProofs only [go_sem, hT, hq, forall_eq, n3, Ne.symm n3, bYgdA2]
    intro b4 h6 h7 h8
    have h4 : b4 ≠ q := fun h => h8 (by rw [h]; exact .inl (by simp [hq]))
    have h5 := Ne.symm h4
    simp -implicitDefEqProofs only [go_sem, hT, hq, forall_eq, n3, Ne.symm n3, h4, h5, h6, h7, h1, bYgdA2]
    refine callB_pan (refuse93 i.pos 90) ?_
    simp -implicitDefEqProofs only [go_sem]
    exact ⟨_, {}, DLe.refl _, St.le.nil _, _, hj, rfl⟩
  | some x =>
    rw [found_some hf]
    simp -implicitDefEqProofs only [go_sem, hT, hq, forall_eq, n3, Ne.symm n3, bYgdA2]
    intro b4 h6 h7 h8
    have h4 : b4 ≠ q := fun h => h8 (by rw [h]; exact .inl (by simp [hq]))
    have h5 := Ne.symm h4
    cases hd : x.dead with
    | true =>
      have hj : jumpD e.cs l n 0 i.a s.fr = some 91 := by unfold jumpD; rw [if_neg h1, hf]; simp [hd]
      simp -implicitDefEqProofs only [go_sem, hT, hq, forall_eq, n3, Ne.symm n3, h4, h5, h6, h7, h1, hd, bYgdA2]
      refine callB_pan (refuse93 i.pos 91) ?_
      simp -implicitDefEqProofs only [go_sem]
      exact ⟨_, {}, DLe.refl _, St.le.nil _, _, hj, rfl⟩
    | false =>
      have hj : jumpD e.cs l n 0 i.a s.fr = if subFr e.cs s.fr x.fr = false then some 92 else none := by unfold jumpD; rw [if_neg h1, hf]; simp [hd]
      simp -implicitDefEqProofs only [go_sem, hT, hq, forall_eq, n3, Ne.symm n3, h4, h5, h6, h7, h1, hd, bYgdA2]
      refine callB_boxX (b := q) (cs := eP e n l nx fd s o) ?_ hbf (hold142 e n l nx fd s o q i.pos s.fr x.fr hw hc) (fun d s' hR => ?_) fun d s' hR => ?_
      · rw [St.set_box, if_neg h5, St.set_box, if_neg (Ne.symm n3), hq]
      · obtain ⟨hs, rfl, rfl⟩ := hR
        refine ⟨_, rfl, ?_⟩
        simp -implicitDefEqProofs only [go_sem]
        refine ⟨_, S0.set q (eP e n l nx fd { s with cmp := s.cmp + 1 } o), DLe.refl _, le_set ((le_add h3).trans (le_add ?_)), by rw [hj, hs]; rfl, rfl, by rw [← hS0, set_set]⟩
        rw [set_has]; rintro (h | h)
        · exact h6 h
        · exact h8 h
      · obtain ⟨hs, rfl⟩ := hR
        simp -implicitDefEqProofs only [go_sem]
        exact ⟨_, {}, DLe.refl _, St.le.nil _, 92, by rw [hj, hs]; rfl, rfl⟩
def bYgdB0 := aI @e_len (aI @e_0 (aI @e_3 (aI @e_4 (aI @e_5 (aI @e_7 (aI @e_8 (aI @e_35 (aI @e_en (aI @e_fr (aI @e_snx (aI @e_scmp (aI @e_sfr (aI @e_slive (aI @nilc_p (aI @gdD (aI @ldD (aI @eEy_len (aI @eEy_take (aI @eEy_drop (aI @eFr_len (aI @eFr_take (aI @eFr_drop (aI @anD (aI @set_set (aI @resM_cell (aI @ey_0 (aI @ey_1 (aI @ey_d2 @ey_zero))))))))))))))))))))))))))))
theorem come98 (e : En) (n : Nat) (l : List Ey) (fd : D) (s : PS) (o : Option Nat) (q : Nat) (hw : WideE e) (hl : Ents l) (hn : n ≤ 4096) (hp : s.p < n) (hc : s.cmp ≤ 100000) :
    XCall Tryz.prog 98 [.ptr q 0, .int .i64 s.p] (({} : St).set q (eP e n l (cnt l s.p) fd s o))
      (fun d s' => ∃ s2 on, comeD e.cs l n s = .ok (s2, on) ∧ d = .int .i64 s2.p ∧ s' = ({} : St).set q (eP e n l (cnt l ((s.p : Int) + 1)) fd s2 o))
      (fun d _ => ∃ w, comeD e.cs l n s = .no s.p w ∧ d = refD s.p w) := by
  obtain ⟨S0, hS0⟩ : ∃ S0, ({} : St).set q (eP e n l (cnt l s.p) fd s o) = S0 := ⟨_, rfl⟩
  have hq : S0.box q = some (eP e n l (cnt l s.p) fd s o) := by rw [← hS0, St.set_box, if_pos rfl]
  have hbf : S0.buf q = none := by rw [← hS0]; rfl
  have hcs := cnt_succ hl.rise (s.p : Int)
  have hcl := cnt_le l (s.p : Int)
  have hll := hl.len
  refine F98.xcall rfl fun T hT => ?_
  rw [hS0]
  simp -implicitDefEqProofs only [go_sem, c98, hT, hq, forall_eq, bYgdB0]
  refine callB_boxS (b := q) hq hbf (entry141 e n l (cnt l s.p) fd s o q s.p hl) ?_
  cases hf : findE l s.p with
  | none =>
    rw [hf] at hcs
    simp only [Option.isSome_none, Bool.false_eq_true, if_false, Nat.add_zero] at hcs
    rw [found_none hf]
    simp -implicitDefEqProofs only [go_sem, hT, hq, forall_eq, bYgdB0]
    intro b5 h8
    have h4 : b5 ≠ q := fun h => h8 (by rw [h]; exact .inl (by simp [hq]))
    have h5 := Ne.symm h4
    cases hlv : s.live with
    | true =>
      have hk : comeD e.cs l n s = .ok (s, true) := by unfold comeD; rw [hf]; simp [hlv]
      simp -implicitDefEqProofs only [go_sem, hT, hq, forall_eq, h4, h5, hlv, bYgdB0]
      exact ⟨_, S0, DLe.refl _, le_add h8, s, true, hk, rfl, by rw [hcs]; exact hS0.symm⟩
    | false =>
      have hk : comeD e.cs l n s = .no s.p 90 := by unfold comeD; rw [hf]; simp [hlv]
      simp -implicitDefEqProofs only [go_sem, hT, hq, forall_eq, h4, h5, hlv, bYgdB0]
      refine callB_pan (refuse93 s.p 90) ?_
      simp -implicitDefEqProofs only [go_sem]
      exact ⟨_, {}, DLe.refl _, St.le.nil _, _, hk, rfl⟩
  | some x =>
    rw [hf] at hcs
    simp only [Option.isSome_some, if_true] at hcs
    rw [found_some hf]
    have hk : comeD e.cs l n s = if s.live = true ∧ x.dead = true then .no s.p 91
      else if s.live = true ∧ subFr e.cs s.fr x.fr = false then .no s.p 92
      else if x.dead = true then .ok ({ s with p := nextP l n s.p }, false)
      else .ok ({ s with fr := x.fr, live := true, cmp := s.cmp + (if s.live = true then 1 else 0) }, true) := by unfold comeD; rw [hf]
    have hlt : cnt l s.p < l.length := by
      have := findE_cnt hl.rise (s.p : Int)
      rw [hf] at this
      by_cases h : cnt l s.p < l.length
      · exact h
      · rw [List.getElem?_eq_none (by omega)] at this; cases this
    have wn : IntKind.wrap .i64 ((cnt l s.p : Int) + 1) = ((cnt l s.p + 1 : Nat) : Int) := wrapN (by omega) (by omega)
    simp -implicitDefEqProofs only [go_sem, hT, hq, forall_eq, bYgdB0]
    intro b5 h8
    have h4 : b5 ≠ q := fun h => h8 (by rw [h]; exact .inl (by simp [hq]))
    have h5 := Ne.symm h4
    cases hlv : s.live with
    | true =>
      cases hd : x.dead with
      | true =>
        simp -implicitDefEqProofs only [go_sem, hT, hq, forall_eq, h4, h5, hlv, hd, wn, bYgdB0]
        refine callB_pan (refuse93 s.p 91) ?_
        simp -implicitDefEqProofs only [go_sem]
        exact ⟨_, {}, DLe.refl _, St.le.nil _, 91, by rw [hk]; simp [hlv, hd], rfl⟩
      | false =>
        simp -implicitDefEqProofs only [go_sem, hT, hq, forall_eq, h4, h5, hlv, hd, wn, bYgdB0]
        refine callB_boxX (b := q) (cs := eP e n l (cnt l s.p + 1) fd s o) (by rw [St.set_box, if_pos rfl]) (by exact hbf) (hold142 e n l (cnt l s.p + 1) fd s o q s.p s.fr x.fr hw hc) (fun d s' hR => ?_) fun d s' hR => ?_
        · obtain ⟨hs, rfl, rfl⟩ := hR
          refine ⟨_, rfl, ?_⟩
          simp -implicitDefEqProofs only [go_sem, hT, hq, forall_eq, h4, h5, hlv, hd, wn, bYgdB0]
          exact ⟨_, S0.set q (eP e n l (cnt l s.p + 1) fd { s with fr := x.fr, live := true, cmp := s.cmp + 1 } o), DLe.refl _, le_set (le_add h8), { s with fr := x.fr, live := true, cmp := s.cmp + 1 }, true, by rw [hk]; simp [hlv, hd, hs], rfl, by rw [hcs, ← hS0, set_set]⟩
        · obtain ⟨hs, rfl⟩ := hR
          simp -implicitDefEqProofs only [go_sem]
          exact ⟨_, {}, DLe.refl _, St.le.nil _, 92, by rw [hk]; simp [hlv, hd, hs], rfl⟩
    | false =>
      cases hd : x.dead with
      | true =>
        simp -implicitDefEqProofs only [go_sem, hT, hq, forall_eq, h4, h5, hlv, hd, wn, bYgdB0]
        have hk2 : comeD e.cs l n s = .ok ({ s with p := nextP l n s.p }, false) := by rw [hk]; simp [hlv, hd]
        have hle : St.le (S0.set q (eP e n l (cnt l s.p + 1) fd s o)) ((S0.set b5 (eEy x)).set q (eP e n l (cnt l s.p + 1) fd s o)) := le_set (le_add h8)
        have hfi : ({} : St).set q (eP e n l (cnt l ((s.p : Int) + 1)) fd { s with p := nextP l n s.p } o) = S0.set q (eP e n l (cnt l s.p + 1) fd s o) := by rw [hcs, ← hS0, set_set]; rfl
        have hnx := nextP_cnt hl.rise n s.p
        rw [hcs] at hnx
        by_cases h9 : cnt l s.p + 1 = l.length
        · have g9 : (((cnt l s.p + 1 : Nat) : Int) = l.length) = True := eq_true (by omega)
          rw [List.getElem?_eq_none (by omega)] at hnx
          simp -implicitDefEqProofs only [go_sem, hT, hq, forall_eq, h4, h5, hlv, hd, wn, g9, bYgdB0]
          exact ⟨_, _, DLe.refl _, hle, _, false, hk2, by simp only [hnx], hfi.symm⟩
        · have h9' : cnt l s.p + 1 < l.length := by omega
          have g9 : (((cnt l s.p + 1 : Nat) : Int) = l.length) = False := eq_false (by omega)
          have g8 : (((cnt l s.p + 1 : Nat) : Int) < l.length) = True := eq_true (by omega)
          have g7 : (0 ≤ ((cnt l s.p + 1 : Nat) : Int)) = True := eq_true (by omega)
          have hat := getEy h9'
          obtain ⟨m, hm⟩ : ∃ m : Nat, l[cnt l s.p + 1].pos = m := ⟨_, (Int.toNat_of_nonneg (hl.rng _ (List.getElem_mem h9')).1).symm⟩
          rw [List.getElem?_eq_getElem h9'] at hnx
          simp only [hm, Int.toNat_natCast] at hnx
          have hmin : min (n : Int) (m : Int) = ((nextP l n s.p : Nat) : Int) := by rw [hnx]; split <;> omega
          simp -implicitDefEqProofs only [go_sem, hT, hq, forall_eq, h4, h5, hlv, hd, wn, g9, g8, g7, hat, hm, hmin, bYgdB0]
          exact ⟨_, _, DLe.refl _, hle, _, false, hk2, rfl, hfi.symm⟩
      | false =>
        simp -implicitDefEqProofs only [go_sem, hT, hq, forall_eq, h4, h5, hlv, hd, wn, bYgdB0]
        have hk2 : comeD e.cs l n s = .ok ({ s with fr := x.fr, live := true, cmp := s.cmp + 0 }, true) := by rw [hk]; simp [hlv, hd]
        exact ⟨_, S0.set q (eP e n l (cnt l s.p + 1) fd { s with fr := x.fr, live := true } o), DLe.refl _, le_set (le_add h8), _, true, hk2, rfl, by rw [hcs, ← hS0, set_set]; rfl⟩
structure FetchOk (g : FuncId) (ca : List D) (b : List Ty) (FS : List Nat → St → Prop) : Prop where
  run : ∀ asked a sf, FS asked sf → a < b.length → XCall Tryz.prog g ([.int .i64 a] ++ ca) sf (fun d s' => d = .int .u8 (bt b a) ∧ FS (asked ++ [a]) s') fun _ _ => False
theorem decF_cut {b : List Ty} {p : Nat} (hp : p < b.length) (hz : sizeOp ((b[p]?).getD 0).val ≠ 0) (hl : p + sizeOp ((b[p]?).getD 0).val ≤ b.length) :
    decF ((b.drop p).take (sizeOp ((b[p]?).getD 0).val)) 0 = (if (decF b p).2 = 0 then { (decF b p).1 with pos := 0 } else ins0, (decF b p).2) := by
  obtain ⟨t, ht⟩ : ∃ t, (b[p]?).getD 0 = t := ⟨_, rfl⟩
  rw [ht] at hz hl ⊢
  have hsz : sizeOp t.val = 1 + (wid t.val).1 + (wid t.val).2 := by
    unfold sizeOp at hz ⊢; split
    · rename_i h34; rw [if_pos h34] at hz; omega
    · rfl
  obtain ⟨B, hB⟩ : ∃ B, (b.drop p).take (sizeOp t.val) = B := ⟨_, rfl⟩
  have hBl : B.length = sizeOp t.val := by rw [← hB, List.length_take, List.length_drop]; omega
  have hB0 : (B[0]?).getD 0 = t := by
    rw [← hB, List.getElem?_take, if_pos (by omega), List.getElem?_drop, Nat.add_zero, ht]
  have hin : decIn B 0 t = { decIn b p t with pos := 0 } := by
    unfold decIn
    rw [← hB]
    have e1 : ((((b.drop p).take (sizeOp t.val)).drop (0 + 1)).take (wid t.val).1) = (b.drop (p + 1)).take (wid t.val).1 := by
      rw [List.drop_take, List.take_take, List.drop_drop]; congr 1; omega
    have e2 : ((((b.drop p).take (sizeOp t.val)).drop (0 + 1 + (wid t.val).1)).take (wid t.val).2) = (b.drop (p + 1 + (wid t.val).1)).take (wid t.val).2 := by
      rw [List.drop_take, List.take_take, List.drop_drop]; congr 1
      · omega
      · congr 1; omega
    rw [e1, e2]; rfl
  rw [hB]
  have h1 : decF B 0 = if t.val = 2 ∧ 1 < (decIn b p t).a then (ins0, 5) else ({ decIn b p t with pos := 0 }, 0) := by
    unfold decF
    rw [if_neg (by omega), if_neg (by omega), hB0, if_neg hz, if_neg (by omega), hin]
  have h2 : decF b p = if t.val = 2 ∧ 1 < (decIn b p t).a then (ins0, 5) else (decIn b p t, 0) := by
    unfold decF
    rw [if_neg (by omega), if_neg (by omega), ht, if_neg hz, if_neg (by omega)]
  rw [h1, h2]
  split <;> simp
theorem le_putL : ∀ {l : List LI} {s σ : St}, St.le s σ → offL s l → St.le s (putL σ l)
  | [], _, _, h, _ => h
  | i :: l, s, σ, h, hl => le_putL (l := l) (by
      cases i with
      | bx b c => exact ⟨fun x y hx => by
          have : x ≠ b := fun he => hl.1 (by rw [← he]; exact .inl (by simp [hx]))
          simp only [LI.put, St.set, if_neg this]; exact h.box x y hx, fun x y hx => h.buf x y hx⟩
      | gr z n o =>
        cases o with
        | none => exact h
        | some b => exact ⟨fun x y hx => h.box x y hx, fun x y hx => by
            have : x ≠ b := fun he => hl.1 b rfl (by rw [← he]; exact .inr (by simp [hx]))
            simp only [LI.put, grS, St.setBuf, if_neg this]; exact h.buf x y hx⟩) hl.2
theorem le_off {s σ : St} {b : Nat} {c : List D} (h : St.le s σ) (hb : ¬ s.has b) : St.le s (σ.set b c) := le_putL (l := [.bx b c]) h ⟨hb, trivial⟩
theorem app_ex {P : Program} {N : Nat} {T : Env} {σ : St} {K : Env → St → Prop} {d : Option Nat} {t e : TypeId} {s by' : Nat} {z : List D} (h1 : sliP P t = some e) (h2 : szP P e = some s) (h3 : bytesP P e = some by') (h4 : zeroP P e = some z) (hz : (z.length == s && decide (0 < s) && decide (0 < by')) = true)
    {es ys : List (List D)} {ow : Own} (he : ∀ r ∈ es, r.length = s) (hy : ∀ r ∈ ys, r.length = s) (hy0 : ys ≠ []) (hl : (es.length + ys.length) * by' ≤ 140737488355328)
    (hk : ∀ b', ¬ σ.has b' → putK N d (.slice (.buf b' s) (es ++ ys)) K T (σ.setBuf b' s (es.length + ys.length))) :
    appendA P N d t t (.slice .exact es) (.slice ow ys) K T σ := by
  simp only [Bool.and_eq_true, beq_iff_eq, decide_eq_true_eq] at hz
  simp only [app_exact, h1, h2, h3, h4, Option.map_some, true_and]
  exact ⟨hz.1.1, hz.1.2, hz.2, hy, hl, he, fun h => absurd h hy0, fun _ b' hb' => hk b' hb'⟩
def bsD (o : Option Nat) (es : List (List D)) : D := match o with | none => .slice .exact es | some b => .slice (.buf b 1) es
theorem bsD_le {o : Option Nat} {es : List (List D)} : DLe (bsD o es) (.slice .no es) := by cases o <;> exact DLe.slice _ _
theorem app_bs {P : Program} {N : Nat} {T : Env} {σ : St} {K : Env → St → Prop} {d : Option Nat} {t e : TypeId} {by' : Nat} {z : List D} (h1 : sliP P t = some e) (h2 : szP P e = some 1) (h3 : bytesP P e = some by') (h4 : zeroP P e = some z) (hz : (z.length == 1 && decide (0 < by')) = true)
    {o : Option Nat} {es ys : List (List D)} {ow : Own} {n m : Nat} (hn : es.length = n) (hm : ys.length = m) (ho : grN o σ) (he : ∀ r ∈ es, r.length = 1) (hy : ∀ r ∈ ys, r.length = 1) (hy0 : ys ≠ []) (hl : (n + m) * by' ≤ 140737488355328)
    (hk : ∀ b', ¬ σ.has b' → putK N d (bsD (some b') (es ++ ys)) K T (grS 1 (n + m) (some b') σ)) :
    appendA P N d t t (bsD o es) (.slice ow ys) K T (grS 1 n o σ) := by
  subst hn; subst hm
  cases o with
  | none => exact app_ex h1 h2 h3 h4 (by simpa using hz) he hy hy0 hl hk
  | some b =>
    simp only [Bool.and_eq_true, beq_iff_eq, decide_eq_true_eq] at hz
    have hb := ho b rfl
    have hd : (σ.setBuf b 1 es.length).dropBuf b = σ := by
      ext x
      · rfl
      · simp only [St.dropBuf, St.setBuf]
        by_cases h : x = b
        · subst h
          have : σ.buf x = none := by
            cases hx : σ.buf x with
            | none => rfl
            | some y => exact absurd (.inr (by simp [hx])) hb
          simp [this]
        · simp [h]
    show appendA P N d t t (.slice (.buf b 1) es) (.slice ow ys) K T (σ.setBuf b 1 es.length)
    simp only [app_buf, h1, h2, h3, h4, Option.map_some, true_and]
    refine ⟨hz.1, by omega, hz.2, hy, hl, by simp [St.setBuf], fun b' hb' => ?_⟩
    rw [hd] at hb' ⊢
    exact hk b' hb'
section
variable {e : En} {b : List Ty} {l : List Ey} {s : PS} {o : Option Nat} {q nx p : Nat} {g : FuncId} {ca : List D} {FS : List Nat → St → Prop} {asked : List Nat} {sf : St}
def L0 (e : En) (b : List Ty) (l : List Ey) (nx : Nat) (fd : D) (s : PS) (o : Option Nat) (q : Nat) : List LI := [.bx q (eP e b.length l nx fd s o), .gr 1 s.fet.length o]
def bYgdC0 := aI @e_len (aI @e_0 (aI @e_3 (aI @e_4 (aI @e_5 (aI @e_7 (aI @e_8 (aI @e_35 (aI @e_en (aI @e_fr (aI @nilc_p (aI @gdD (aI @ldD (aI @eIn_len (aI @eIn_take (aI @eIn_drop4 (aI @in_0 (aI @in_1 (aI @in_2 (aI @eIn_zero (aI @anD (aI @set_set @resM_cell)))))))))))))))))))))
theorem instr143 (hF : FetchOk g ca b FS) (hb : b.length ≤ 4096) (hp : p < b.length) (hs : FS asked sf) (hoff : offL sf (L0 e b l nx (.func (.func g) [] ca) s o q)) (hoq : o ≠ some q) :
    XCall Tryz.prog 143 [.ptr q 0, .int .i64 p] (putL sf (L0 e b l nx (.func (.func g) [] ca) s o q))
      (fun d s' => (decF b p).2 = 0 ∧ d = .agg (eIn (decF b p).1) ∧ ∃ sf', FS (asked ++ List.range' p (sizeOp (decF b p).1.op.val)) sf' ∧ offL sf' (L0 e b l nx (.func (.func g) [] ca) s o q) ∧ s' = putL sf' (L0 e b l nx (.func (.func g) [] ca) s o q))
      (fun d s' => (decF b p).2 ≠ 0 ∧ d = refD p (decF b p).2 ∧ ∃ j, p + j ≤ b.length ∧ FS (asked ++ List.range' p j) s') := by
  obtain ⟨C, hC⟩ : ∃ C, eP e b.length l nx (.func (.func g) [] ca) s o = C := ⟨_, rfl⟩
  have hL0 : L0 e b l nx (.func (.func g) [] ca) s o q = [.bx q C, .gr 1 s.fet.length o] := by rw [L0, hC]
  rw [hL0] at hoff ⊢
  have c3 : C[3]? = some (.int .i64 b.length) := by rw [← hC]; rfl
  have c6 : C[6]? = some (.func (.func g) [] ca) := by rw [← hC]; rfl
  have hqb : ∀ (sf : St) (L : List LI), (∀ i ∈ L, match i with | .bx x _ => x ≠ q | _ => True) → (putL sf (.bx q C :: L)).box q = some C := by
    intro sf L
    have : ∀ (L : List LI) (σ : St), σ.box q = some C → (∀ i ∈ L, match i with | .bx x _ => x ≠ q | _ => True) → (putL σ L).box q = some C := by
      intro L
      induction L with
      | nil => intro σ h _; exact h
      | cons i L ih =>
        intro σ h hi
        refine ih _ ?_ fun j hj => hi j (by simp [hj])
        have := hi i (by simp)
        cases i with
        | bx x c => simp only at this; simp only [LI.put, St.set_box, if_neg (Ne.symm this), h]
        | gr z n o => simp only [LI.put, grS_boxa, h]
    intro hi
    exact this L _ (by simp [LI.put, St.set_box]) hi
  obtain ⟨S0, hS0⟩ : ∃ S0, putL sf [.bx q C, .gr 1 s.fet.length o] = S0 := ⟨_, rfl⟩
  have hq : S0.box q = some C := by rw [← hS0]; exact hqb sf _ (by simp)
  refine F143.xcall rfl fun T hT => ?_
  rw [hS0]
  simp -implicitDefEqProofs only [go_sem, c143, hT, hq, c3, c6, forall_eq, bYgdC0]
  intro b4 hb4
  have n4 : b4 ≠ q := fun h => hb4 (by rw [h]; exact .inl (by simp [hq]))
  simp -implicitDefEqProofs only [go_sem, hT, hq, c3, c6, forall_eq, n4, Ne.symm n4, bYgdC0]
  have hsb4 : ¬ sf.has b4 := fun h => hb4 (by
    have := (le_putL (l := [.bx q C, .gr 1 s.fet.length o]) (St.le.refl sf) hoff).has h
    rw [hS0] at this; exact this)
  obtain ⟨L1, hL1⟩ : ∃ L1 : List LI, [.bx q C, .gr 1 s.fet.length o, .bx b4 (eIn ins0)] = L1 := ⟨_, rfl⟩
  have hS1 : S0.set b4 (eIn ins0) = putL sf L1 := by rw [← hS0, ← hL1]; rfl
  have hoff1 : offL sf L1 := by rw [← hL1]; exact ⟨hoff.1, hoff.2.1, hsb4, trivial⟩
  have hq1 : ∀ sf, (putL sf L1).box q = some C := fun sf => by rw [← hL1]; exact hqb sf _ (by simp [n4])
  have h41 : ∀ sf, (putL sf L1).box b4 = some (eIn ins0) := fun sf => by rw [← hL1]; simp [putL, LI.put, St.set_box]
  have hback : ∀ sf', offL sf' L1 → offL sf' [.bx q C, .gr 1 s.fet.length o] ∧ St.le (putL sf' [.bx q C, .gr 1 s.fet.length o]) (putL sf' L1) := fun sf' h => by
    rw [← hL1] at h ⊢
    refine ⟨⟨h.1, h.2.1, trivial⟩, ?_⟩
    show St.le _ ((putL sf' [.bx q C, .gr 1 s.fet.length o]).set b4 _)
    refine le_add fun hh => ?_
    have : (grS 1 s.fet.length o (sf'.set q C)).has b4 := hh
    rw [grS_has, set_has] at this
    rcases this with hx | hx | hx
    · exact hb4 (by rw [← hS0]; show (grS 1 s.fet.length o (sf.set q C)).has b4; rw [grS_has]; exact .inl hx)
    · exact n4 hx
    · exact h.2.2.1 hx
  rw [hS1]
  refine callB_under L1 hoff1 (hF.run asked p sf hs hp) (fun d s1 hR hof1 => ?_) fun d s' h => h.elim
  obtain ⟨rfl, hs1⟩ := hR
  have hl1 := le_putL (St.le.refl s1) hof1
  simp -implicitDefEqProofs only [go_sem, hT, hq1 s1, h41 s1, c3, c6, forall_eq, n4, Ne.symm n4, bYgdC0]
  obtain ⟨t, ht⟩ : ∃ t, (b[p]?).getD 0 = t := ⟨_, rfl⟩
  have hbt : bt b p = t.val := by rw [← ht]; rfl
  rw [hbt]
  refine callB_pure (size125 t) ?_
  by_cases hz : sizeOp t.val = 0
  · have qz : ((sizeOp t.val : Int) = 0) = True := eq_true (by omega)
    have hd : (decF b p).2 = 40 := by unfold decF; rw [if_neg (by omega), if_neg (by omega), ht, if_pos hz]
    simp -implicitDefEqProofs only [go_sem, hT, hq1 s1, h41 s1, c3, c6, forall_eq, n4, Ne.symm n4, qz, bYgdC0]
    refine callB_pan (refuse93 p 40) ?_
    simp -implicitDefEqProofs only [go_sem]
    exact ⟨_, s1, DLe.refl _, hl1, by rw [hd]; decide, by rw [hd], 1, by omega, hs1⟩
  have qz : ((sizeOp t.val : Int) = 0) = False := eq_false (by omega)
  simp -implicitDefEqProofs only [go_sem, hT, hq1 s1, h41 s1, c3, c6, forall_eq, n4, Ne.symm n4, qz, bYgdC0]
  have hhas : ∀ (sf' : St) (x : Nat), (putL sf' L1).has x ↔ x = b4 ∨ o = some x ∨ x = q ∨ sf'.has x := fun sf' x => by
    rw [← hL1]
    show ((grS 1 s.fet.length o (sf'.set q C)).set b4 (eIn ins0)).has x ↔ _
    rw [set_has, grS_has, set_has]
  have h1t : (b.drop p).take 1 = [t] := by
    rw [List.take_one, List.head?_drop, List.getElem?_eq_getElem hp]
    rw [List.getElem?_eq_getElem hp] at ht
    simpa using ht
  have hsle := sizeOp_le t.val
  refine loopL F143 (fun x : Nat × Option Nat × St => [(0, .ptr q 0), (1, .int .i64 p), (4, .ptr b4 0), (5, .int .u8 t.val), (6, .int .i64 (sizeOp t.val)), (7, bsD x.2.1 (rws eT ((b.drop p).take x.1))), (8, .int .i64 x.1)]) (fun x => grS 1 x.1 x.2.1 (putL x.2.2 L1))
    (fun x => 1 ≤ x.1 ∧ x.1 ≤ sizeOp t.val ∧ p + x.1 ≤ b.length ∧ FS (asked ++ List.range' p x.1) x.2.2 ∧ offL x.2.2 L1 ∧ grN x.2.1 (putL x.2.2 L1)) (fun x => sizeOp t.val - x.1) (1, none, s1) ⟨by simp, by simp only; omega, by simp only; omega, hs1, hof1, grN_none⟩ ?_ (St.le.refl _) ?_
  · simp -implicitDefEqProofs only [go_sem, hT, Int.ofNat_zero]
    rw [h1t]; exact ⟨rfl, rfl⟩
  clear hT T hs1 hof1 hl1
  rintro ⟨i, ob, sx⟩ ⟨k1, k2, k3, hsx, hofx, hob⟩ T hT
  simp only at k1 k2 k3 hsx hofx hob hT ⊢
  have hqx : (grS 1 i ob (putL sx L1)).box q = some C := by rw [grS_boxa, hq1]
  have h4x : (grS 1 i ob (putL sx L1)).box b4 = some (eIn ins0) := by rw [grS_boxa, h41]
  obtain ⟨L2, hL2⟩ : ∃ L2 : List LI, [.bx q C, .gr 1 s.fet.length o, .bx b4 (eIn ins0), .gr 1 i ob] = L2 := ⟨_, rfl⟩
  have hS2 : ∀ sf', grS 1 i ob (putL sf' L1) = putL sf' L2 := fun sf' => by rw [← hL2, ← hL1]; rfl
  have hlx : St.le sx (grS 1 i ob (putL sx L1)) := (le_putL (St.le.refl sx) hofx).trans (base_le hob)
  by_cases hi : i < sizeOp t.val
  case neg =>
    have p1 : ((i : Int) < sizeOp t.val) = False := eq_false (by omega)
    simp -implicitDefEqProofs only [go_sem, hT, hqx, h4x, c3, c6, forall_eq, n4, Ne.symm n4, p1, bYgdC0]
    obtain rfl : i = sizeOp t.val := by omega
    have hBl : ((b.drop p).take (sizeOp t.val)).length ≤ 4096 := by rw [List.length_take, List.length_drop]; omega
    refine callB_pure ((decode82 ((b.drop p).take (sizeOp t.val)) .no 0 (by omega) (by omega)).args (.cons bsD_le (.refl _))) ?_
    have hcut := decF_cut hp (by rw [ht]; exact hz) (by rw [ht]; exact k3)
    rw [ht] at hcut
    rw [hcut]
    by_cases hd : (decF b p).2 = 0
    case neg =>
      rw [if_neg hd]
      simp -implicitDefEqProofs only [go_sem, hT, hqx, h4x, c3, c6, forall_eq, n4, Ne.symm n4, p1, bYgdC0]
      intro b9 hb9
      refine callB_nilX (must95_no p (decF b p).2 hd) (fun d s' h => h.elim) fun d s' h => ⟨h.2, ?_⟩
      rw [h.1]
      simp -implicitDefEqProofs only [go_sem]
      exact ⟨_, sx, DLe.refl _, hlx.trans (le_add hb9), hd, rfl, _, k3, hsx⟩
    rw [if_pos hd, hd]
    obtain ⟨d1, d2, d3, d4⟩ := decF_ok hd
    have hop : (decF b p).1.op = t := by rw [d2, ← ht]; rfl
    have hpos : (decF b p).1.pos = p := by rw [d2]; rfl
    generalize (decF b p).1 = I at hop hpos ⊢
    simp -implicitDefEqProofs only [go_sem, hT, hqx, h4x, c3, c6, forall_eq, n4, Ne.symm n4, p1, bYgdC0]
    intro b9 hb9
    refine callB_pure (must95_ok p) ?_
    have n9 : b9 ≠ b4 := fun h => hb9 (by rw [h]; exact .inl (by simp [h4x]))
    have hI : [D.int .i64 p] ++ (eIn { I with pos := 0 }).drop 1 = eIn I := by rw [← hpos]; rfl
    simp -implicitDefEqProofs only [go_sem, hT, hqx, h4x, c3, c6, forall_eq, n4, Ne.symm n4, n9, Ne.symm n9, p1, hI, bYgdC0]
    have hA : St.le (putL sx [.bx q C, .gr 1 s.fet.length o]) (grS 1 (sizeOp t.val) ob (putL sx L1)) := (hback sx hofx).2.trans (base_le hob)
    have hA4 : ¬ (putL sx [.bx q C, .gr 1 s.fet.length o]).has b4 := fun hh => by
      have : (grS 1 s.fet.length o (sx.set q C)).has b4 := hh
      rw [grS_has, set_has] at this
      rw [← hL1] at hofx
      rcases this with hx | hx | hx
      · exact hb4 (by rw [← hS0]; show (grS 1 s.fet.length o (sf.set q C)).has b4; rw [grS_has]; exact .inl hx)
      · exact n4 hx
      · exact hofx.2.2.1 hx
    exact ⟨_, putL sx [.bx q C, .gr 1 s.fet.length o], DLe.refl _, le_off (hA.trans (le_add hb9)) hA4, rfl, sx, by rw [hop]; exact hsx, (hback sx hofx).1, rfl⟩
  have p1 : ((i : Int) < sizeOp t.val) = True := eq_true (by omega)
  have w1 : IntKind.wrap .i64 ((p : Int) + i) = ((p + i : Nat) : Int) := wrapN (by omega) (by omega)
  have w2 : IntKind.wrap .i64 ((i : Int) + 1) = ((i + 1 : Nat) : Int) := wrapN (by omega) (by omega)
  by_cases hpi : b.length ≤ p + i
  · have p2 : ((b.length : Int) ≤ ((p + i : Nat) : Int)) = True := eq_true (by omega)
    have hd : (decF b p).2 = 2 := by
      unfold decF; rw [if_neg (by omega), if_neg (by omega), ht, if_neg hz, if_pos (by omega)]
    simp -implicitDefEqProofs only [go_sem, hT, hqx, h4x, c3, c6, forall_eq, n4, Ne.symm n4, p1, w1, p2, bYgdC0]
    refine callB_pan (refuse93 p 2) ?_
    simp -implicitDefEqProofs only [go_sem]
    exact ⟨_, sx, DLe.refl _, hlx, by rw [hd]; decide, by rw [hd], i, by omega, hsx⟩
  have p2 : ((b.length : Int) ≤ ((p + i : Nat) : Int)) = False := eq_false (by omega)
  simp -implicitDefEqProofs only [go_sem, hT, hqx, h4x, c3, c6, forall_eq, n4, Ne.symm n4, p1, w1, p2, bYgdC0]
  rw [hS2]
  have hof2 : offL sx L2 := by
    rw [← hL1] at hofx
    rw [← hL2]
    exact ⟨hofx.1, hofx.2.1, hofx.2.2.1, fun x hx hh => hob x hx ((hhas sx x).2 (.inr (.inr (.inr hh)))), trivial⟩
  refine callB_under L2 hof2 (hF.run _ (p + i) sx hsx (by omega)) (fun d sy hR hofy => ?_) fun d s' h => h.elim
  obtain ⟨rfl, hsy⟩ := hR
  rw [← hS2]
  have hofy1 : offL sy L1 := by rw [← hL2] at hofy; rw [← hL1]; exact ⟨hofy.1, hofy.2.1, hofy.2.2.1, trivial⟩
  have hqy : (grS 1 i ob (putL sy L1)).box q = some C := by rw [grS_boxa, hq1]
  have h4y : (grS 1 i ob (putL sy L1)).box b4 = some (eIn ins0) := by rw [grS_boxa, h41]
  have hoby : grN ob (putL sy L1) := fun x hx hh => by
    rcases (hhas sy x).1 hh with h | h | h | h
    · exact hob x hx ((hhas sx x).2 (.inl h))
    · exact hob x hx ((hhas sx x).2 (.inr (.inl h)))
    · exact hob x hx ((hhas sx x).2 (.inr (.inr (.inl h))))
    · rw [← hL2] at hofy; exact hofy.2.2.2.1 x hx h
  simp -implicitDefEqProofs only [go_sem, hT, hqy, h4y, c3, c6, forall_eq, n4, Ne.symm n4, p1, w1, p2, bYgdC0]
  have hrow : rws eT ((b.drop p).take i) ++ [[D.int .u8 (bt b (p + i))]] = rws eT ((b.drop p).take (i + 1)) := by
    have hlt : i < (b.drop p).length := by rw [List.length_drop]; omega
    rw [List.take_succ_eq_append_getElem hlt, rws, rws, List.map_append]
    simp [eT, bt, List.getElem_drop, List.getElem?_eq_getElem (show p + i < b.length by omega)]
  refine app_bs Tryz.sli26 Tryz.sz5 Tryz.by5 Tryz.zero5 rfl (n := i) (m := 1) (by simp [rws, List.length_take, List.length_drop]; omega) rfl hoby (rows_len (enc := eT) (n := 1) (fun _ => rfl) _) (by simp) (by simp) (by omega) fun b' hb' => ?_
  simp -implicitDefEqProofs only [go_sem, hT, hqy, h4y, c3, c6, forall_eq, n4, Ne.symm n4, p1, w1, w2, p2, bYgdC0]
  refine ⟨(i + 1, some b', sy), ⟨by simp only; omega, by simp only; omega, by simp only; omega, ?_, hofy1, fun x hx => by cases hx; exact hb'⟩, by simp only; omega, ⟨?_, rfl⟩, St.le.refl _⟩
  · simp only; rw [List.range'_1_concat, ← List.append_assoc]; exact hsy
  · simp only; rw [← hrow]; rfl
end
end Go.AL
