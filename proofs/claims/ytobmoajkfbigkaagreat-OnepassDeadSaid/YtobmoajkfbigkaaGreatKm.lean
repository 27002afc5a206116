import Derived.Test.YtobmoajkfbigkaaGreatKl
set_option linter.unusedSimpArgs false
set_option linter.unusedVariables false
set_option maxRecDepth 100000
set_option maxHeartbeats 4000000
set_option linter.defProp false
namespace Go.AL
open Go.Proofs
def cellsB (l : List Ty) (junk : Nat) : List D := l.map (fun t : Ty => D.int .u8 (t.val : Int)) ++ List.replicate junk .any
theorem cellsB_is (l : List Ty) (junk : Nat) : (rws eT l).flatten ++ List.replicate junk .any = cellsB l junk := by
  unfold cellsB
  congr 1
  induction l with
  | nil => rfl
  | cons t l ih => simp [rws, eT] at ih ⊢; exact ih
theorem cellsB_len (l : List Ty) (junk : Nat) : (cellsB l junk).length = l.length + junk := by simp [cellsB]
theorem cellsB_set {l : List Ty} {junk k : Nat} {o : Ty} (h : k < l.length) : (cellsB l junk).take k ++ [D.int .u8 (o.val : Int)] ++ (cellsB l junk).drop (k + 1) = cellsB (l.set k o) junk := by
  unfold cellsB
  rw [List.set_eq_take_append_cons_drop, if_pos h, List.take_append_of_le_length (by simp; omega), List.drop_append_of_le_length (by simp; omega)]
  simp [List.map_take, List.map_drop]
def Q6 (e : En) (c : Cd) (x : XA) (T : Env) (σ : St) : Prop :=
  (x = .ret ∧ T 6 = .bool true) ∨ (x = .normal ∧ (checkD e c.n c.b c.c).2.2 = 0 ∧ ∃ b3 b4 b7 b b' junk cap, T 3 = .ptr b3 0 ∧ T 4 = .ptr b4 0 ∧ T 7 = .ptr b7 0 ∧ T 16 = .bsl b 0 c.b.length cap ∧ c.b.length ≤ cap ∧
    b'.length = c.b.length ∧ (∀ a : Nat, deadAt (decC c.c).1.es a = false → b'[a]? = c.b[a]?) ∧ σ.box b3 = some (eEn e) ∧ σ.box b4 = some (eCd c) ∧ σ.box b7 = some (eGh (checkD e c.n c.b c.c).1) ∧ σ.box b = some (cellsB b' junk) ∧ b ≠ b3 ∧ b ≠ b4 ∧ b ≠ b7)
theorem accD_bound {es : List Ey} {n : Nat} (hp : ∀ x ∈ es, 0 ≤ x.pos) : ∀ i, (accD es n i).length ≤ i * n
  | 0 => by simp [accD]
  | i + 1 => by
    have := accD_bound (n := n) hp i
    rw [accD_succ, List.length_append, Nat.add_mul]
    have hpc : (pieceD es n i).length ≤ n := by
      unfold pieceD
      split
      · rename_i x hx
        have h0 := hp x (List.mem_of_getElem? hx)
        split
        · rw [rangeI_len]
          have hend : endOf es n i ≤ n := by
            unfold endOf; split
            · exact Int.min_le_left _ _
            · exact Int.le_refl _
          omega
        · simp
      · simp
    omega
theorem stretch_bound (c : List Ty) {n : Nat} (hn : n ≤ 140737488351232 / 32768) : (stretchD (decC c).1.es n).length * 8 ≤ 140737488351232 := by
  obtain ⟨r1, r2, r3, r4⟩ := decC_rise c
  have h1 := accD_bound (n := n) (fun x hx => (r2 x hx).1) (decC c).1.es.length
  have h2 : (decC c).1.es.length * n ≤ 4096 * n := Nat.mul_le_mul_right _ r3
  unfold stretchD
  omega
theorem checkD_size {e : En} {n : Int} {b c : List Ty} (h : (checkD e n b c).2.2 = 0) : b.length ≤ 4096 := by
  cases hb : beginD e n b.length c with
  | some p =>
    exfalso
    obtain ⟨a, w⟩ := p
    have he : (checkD e n b c).2.2 = w := by unfold checkD; rw [hb]
    rw [he] at h
    subst h
    unfold beginD at hb
    split at hb; · cases hb
    split at hb; · cases hb
    split at hb; · cases hb
    split at hb; · rename_i h4; simp only [Option.some.injEq, Prod.mk.injEq] at hb; exact h4 hb.2
    split at hb
    · cases hb
    · split at hb <;> cases hb
  | none =>
    unfold beginD at hb
    split at hb; · cases hb
    split at hb; · cases hb
    omega
def bYgoD0 := aI @zb2 (aI @za9 (aI @eCd_len (aI @anD (aI @gh_len @gh_take))))
theorem ahead6 (e : En) (c : Cd) (other : List Ty) (hw : WideE e) (hd : WideD c) (ho : other.length ≤ 140737488351232) (T : Env) (hT : ∀ t, T t = envOf [.agg (eEn e), .agg (eCd c), .slice .no (rws eT other)] t) :
    vcA Tryz.prog 110 (.seq (acL c6) (.seq (acL (acR c6)) (.seq (acL (acR (acR c6))) (.seq (acL (acR (acR (acR c6)))) (.seq (acL (acR (acR (acR (acR c6))))) (acL (acR (acR (acR (acR (acR c6)))))))))) ) (Q6 e c) T {} := by
  obtain ⟨hb, hc⟩ := hd
  simp -implicitDefEqProofs only [go_sem, c6, hT, acL, acR, bYgoD0]
  intro b3 b4 n1 n2
  simp -implicitDefEqProofs only [go_sem, hT, acL, acR, n1, n2, eCd, bYgoD0]
  have hcheck := fun b' => check15 e c.n b' c.c .no .no hw
  have href := refCheck18 e c.n c.b c.c .no .no hw (by omega) (by omega)
  have hsame := hcheck c.b (by omega) (by omega)
  unfold Q6
  obtain ⟨r, hr⟩ : ∃ r, checkD e c.n c.b c.c = r := ⟨_, rfl⟩
  rw [hr] at href hsame ⊢
  obtain ⟨g, a, w⟩ := r
  simp only at href hsame ⊢
  refine za4 href ?_
  simp -implicitDefEqProofs only [go_sem, hT, acL, acR, n1, n2, eCd, bYgoD0]
  intro b7 m1 m1' m2 m2'
  by_cases hz : w = 0
  rotate_left
  · have z1 : ((w : Int) = 0) = False := eq_false (by omega)
    have z2 : ((w : Int) = w) = True := eq_true rfl
    simp -implicitDefEqProofs only [go_sem, hT, acL, acR, n1, n2, m1, m1', m2, m2', eCd, z1, bYgoD0]
    refine ⟨by rintro b rfl; simp [n1, n2, m1, m1', m2, m2'], ?_⟩
    refine za4 (env30 e hw) ?_
    simp -implicitDefEqProofs only [go_sem, hT, acL, acR, n1, n2, m1, m1', m2, m2', eCd, z1, bYgoD0]
    refine za4 (clone17p c.b .no (by simp [nilOk]) (by omega)) ?_
    simp -implicitDefEqProofs only [go_sem, hT, acL, acR, n1, n2, m1, m1', m2, m2', eCd, z1, bYgoD0]
    refine za4 (clone17p c.c .no (by simp [nilOk]) (by omega)) ?_
    simp -implicitDefEqProofs only [go_sem, hT, acL, acR, n1, n2, m1, m1', m2, m2', eCd, z1, bYgoD0]
    refine za4 hsame ?_
    simp -implicitDefEqProofs only [go_sem, hT, acL, acR, n1, n2, m1, m1', m2, m2', eCd, z1, bYgoD0]
    intros
    assumption
  subst hz
  simp -implicitDefEqProofs only [go_sem, hT, zb2, za9, eCd_len, anD, gh_len, gh_take, acL, acR, n1, n2, m1, m1', m2, m2', eCd, Int.ofNat_zero]
  refine za4 (refDecode31 c.c .no (by omega)) ?_
  simp -implicitDefEqProofs only [go_sem, hT, zb2, za9, eCd_len, anD, gh_len, gh_take, acL, acR, n1, n2, m1, m1', m2, m2', eCd, Int.ofNat_zero]
  intro b13 q1 q1' q2 q2' q3 q3' q4 q4'
  simp -implicitDefEqProofs only [go_sem, hT, zb2, za9, eCd_len, anD, gh_len, gh_take, acL, acR, n1, n2, m1, m1', m2, m2', eCd, q1, q1', q2, q2', q3, q3', q4, q4', za2, ct_len, ct_take]
  have hne : c.b ≠ [] := fun h0 => by
    have h1 := @checkD_rises e c.n c.b c.c (by rw [hr])
    have h2 := checkD_short e c.n c.b c.c
    obtain ⟨⟨h3, _⟩, _⟩ := h1
    rw [h0] at h2 h3
    simp at h2
    rw [h2] at h3
    simp at h3
  obtain ⟨L, hL⟩ : ∃ L : List LI, [.bx b3 (eEn e), .bx b4 [.int .i64 c.n, .slice .no (rws eT c.b), .slice .no (rws eT c.c)], .bx b7 (eGh g), .bx b13 (eCt (decC c.c).1)] = L := ⟨_, rfl⟩
  have hSL : (((({} : St).set b3 (eEn e)).set b4 [.int .i64 c.n, .slice .no (rws eT c.b), .slice .no (rws eT c.c)]).set b7 (eGh g)).set b13 (eCt (decC c.c).1) = putL {} L := by rw [← hL]; rfl
  rw [hSL]
  have hoff0 : offL {} L := by rw [← hL]; exact ⟨St.not_has_nil _, St.not_has_nil _, St.not_has_nil _, St.not_has_nil _, trivial⟩
  refine callB_under (s := {}) L hoff0 ((clone17b c.b .no (by simp [nilOk]) hne (by omega)).xcall (Rp := fun _ _ => False)) (fun d s' hR hoff => ?_) fun d s' h => h.elim
  obtain ⟨q, cap, junk, rfl, hcap, rfl⟩ := hR
  rw [cellsB_is] at hoff ⊢
  have hq : b3 ≠ q ∧ b4 ≠ q ∧ b7 ≠ q ∧ b13 ≠ q := by
    have hx : ∀ x, ¬ (({} : St).set q (cellsB c.b junk)).has x → x ≠ q := fun x h he => h (by rw [he, set_has]; exact .inl rfl)
    rw [← hL] at hoff
    obtain ⟨o1, o2, o3, o4, -⟩ := hoff
    exact ⟨hx _ o1, hx _ o2, hx _ o3, hx _ o4⟩
  obtain ⟨z3, z4, z7, z13⟩ := hq
  have hbx : ∀ l, (putL (({} : St).set q (cellsB l junk)) L).box q = some (cellsB l junk) ∧ (putL (({} : St).set q (cellsB l junk)) L).box b3 = some (eEn e) ∧ (putL (({} : St).set q (cellsB l junk)) L).box b4 = some (eCd c) ∧
      (putL (({} : St).set q (cellsB l junk)) L).box b7 = some (eGh g) ∧ (putL (({} : St).set q (cellsB l junk)) L).box b13 = some (eCt (decC c.c).1) := fun l => by
    rw [← hL]
    refine ⟨?_, ?_, ?_, ?_, ?_⟩ <;> simp [putL, LI.put, St.set, n1, n2, m1, m1', m2, m2', q1, q1', q2, q2', q3, q3', q4, q4', z3, z4, z7, z13, Ne.symm z3, Ne.symm z4, Ne.symm z7, Ne.symm z13, eCd]
  have hset : ∀ l l', (putL (({} : St).set q (cellsB l junk)) L).set q (cellsB l' junk) = putL (({} : St).set q (cellsB l' junk)) L := fun l l' => by
    rw [← hL]
    show (((((({} : St).set q _).set b3 _).set b4 _).set b7 _).set b13 _).set q _ = ((((({} : St).set q _).set b3 _).set b4 _).set b7 _).set b13 _
    rw [set_comm z13, set_comm z7, set_comm z4, set_comm z3, za2]
  clear hSL hoff hoff0
  generalize hput : (fun l => putL (({} : St).set q (cellsB l junk)) L) = St0 at *
  have hput' : ∀ l, putL (({} : St).set q (cellsB l junk)) L = St0 l := fun l => congrFun hput l
  simp only [hput'] at hbx hset ⊢
  obtain ⟨kq, k3, k4, k7, k13⟩ : (∀ l, (St0 l).box q = some (cellsB l junk)) ∧ (∀ l, (St0 l).box b3 = some (eEn e)) ∧ (∀ l, (St0 l).box b4 = some (eCd c)) ∧ (∀ l, (St0 l).box b7 = some (eGh g)) ∧ (∀ l, (St0 l).box b13 = some (eCt (decC c.c).1)) :=
    ⟨fun l => (hbx l).1, fun l => (hbx l).2.1, fun l => (hbx l).2.2.1, fun l => (hbx l).2.2.2.1, fun l => (hbx l).2.2.2.2⟩
  simp -implicitDefEqProofs only [go_sem, hT, zb2, za9, eCd_len, anD, gh_len, gh_take, acL, acR, n1, n2, m1, m1', m2, m2', q1, q1', q2, q2', q3, q3', q4, q4', kq, k3, k4, k7, k13, z3, z4, z7, z13, Ne.symm z3, Ne.symm z4, Ne.symm z7, Ne.symm z13, ct_len, ct_take]
  have hsz : c.b.length ≤ 4096 := checkD_size (e := e) (n := c.n) (c := c.c) (by rw [hr])
  obtain ⟨r1, r2, r3, r4⟩ := decC_rise c.c
  refine za4 (stretches32 (decC c.c).1 c.b.length (by omega) (by omega) (fun x hx => by have := r2 x hx; omega) (stretch_bound c.c (by omega))) ?_
  simp -implicitDefEqProofs only [go_sem, hT, acL, acR, n1, n2, m1, m1', m2, m2', q1, q1', q2, q2', q3, q3', q4, q4', kq, k3, k4, k7, k13, z3, z4, z7, z13, Ne.symm z3, Ne.symm z4, Ne.symm z7, Ne.symm z13, bYgoD0]
  have hdead := fun y (h : y ∈ stretchD (decC c.c).1.es c.b.length) => stretch_dead r1 (fun x hx => (r2 x hx).1) h
  have hAl : (stretchD (decC c.c).1.es c.b.length).length * 8 ≤ 140737488351232 := stretch_bound c.c (by omega)
  generalize stretchD (decC c.c).1.es c.b.length = A at *
  refine loopL F6 (fun x : Nat × List Ty => [(2, .slice .no (rws eT other)), (3, .ptr b3 0), (4, .ptr b4 0), (7, .ptr b7 0), (16, .bsl q 0 c.b.length cap), (67, .slice .no (rws eI A)), (68, .int .i64 A.length), (69, .int .i64 x.1)]) (fun x => St0 x.2)
    (fun x => x.1 ≤ A.length ∧ x.2.length = c.b.length ∧ ∀ a : Nat, deadAt (decC c.c).1.es a = false → x.2[a]? = c.b[a]?) (fun x => A.length - x.1) (0, c.b)
    ⟨Nat.zero_le _, rfl, fun _ _ => rfl⟩ ?_ (St.le.refl _) ?_
  · simp -implicitDefEqProofs only [go_sem, hT, Int.ofNat_zero]
  clear hT T
  rintro ⟨i, b'⟩ ⟨hi, hbl, hbd⟩ T hT
  simp only at hi hbl hbd hT ⊢
  by_cases h : i < A.length
  · have h3 : ((i : Int) < A.length) = True := eq_true (by omega)
    have h0 : (0 ≤ (i : Int)) = True := eq_true (by omega)
    have hR : (rws eI A)[i]?.getD [] = [.int .i64 A[i]] := by rw [rws_at h]; rfl
    obtain ⟨d1, d2, d3⟩ := hdead A[i] (by simp)
    have hwi : IntKind.i64.wrap ((i : Int) + 1) = ((i + 1 : Nat) : Int) := by rw [zb7 (by omega) (by omega)]; simp
    generalize A[i] = y at *
    obtain ⟨k, rfl⟩ : ∃ k : Nat, y = k := ⟨y.toNat, by omega⟩
    by_cases h4 : i < other.length
    · have p4 : ((i : Int) < other.length) = True := eq_true (by omega)
      have hR2 : (rws eT other)[i]?.getD [] = [.int .u8 (other[i].val : Int)] := by rw [rws_at h4]; rfl
      generalize other[i] = ov at *
      simp -implicitDefEqProofs only [go_sem, hT, h3, h0, hR, eT_len, p4, hR2, Int.toNat_natCast, hwi]
      rw [kq]
      simp only
      refine ⟨⟨by omega, by omega⟩, by rw [cellsB_len]; simp; omega, (i + 1, b'.set k ov), ⟨by omega, by simp [hbl], fun a' ha => ?_⟩, by omega, rfl, ?_⟩
      · have hne' : k ≠ a' := fun he => by rw [← he, d1] at ha; cases ha
        simp only
        rw [List.getElem?_set_ne hne']
        exact hbd a' ha
      · simp only [Nat.mul_one, List.length_singleton]
        rw [cellsB_set (by omega), hset]
        exact St.le.refl _
    · have p4 : ((i : Int) < other.length) = False := eq_false (by omega)
      simp -implicitDefEqProofs only [go_sem, hT, h3, h0, hR, p4, Int.toNat_natCast, hwi]
      exact ⟨(i + 1, b'), ⟨by omega, hbl, hbd⟩, by omega, rfl, St.le.refl _⟩
  have h3 : ((i : Int) < A.length) = False := eq_false (by omega)
  simp -implicitDefEqProofs only [go_sem, hT, h3]
  exact ⟨b3, b4, b7, q, b', junk, cap, rfl, rfl, rfl, rfl, hcap, hbl, hbd, k3 _, k4 _, k7 _, kq _, Ne.symm z3, Ne.symm z4, Ne.symm z7⟩
open Go.Proofs
noncomputable def k6 : Code := Tryz.f6.body.getD .skip
noncomputable def p60 : Code := sL k6
noncomputable def p61 : Code := sL (sR k6)
noncomputable def p62 : Code := sL (sR (sR k6))
noncomputable def p63 : Code := sL (sR (sR (sR k6)))
noncomputable def p64 : Code := sL (sR (sR (sR (sR k6))))
noncomputable def p65 : Code := sL (sR (sR (sR (sR (sR k6)))))
noncomputable def p66 : Code := sR (sR (sR (sR (sR (sR k6)))))
theorem body6 : Tryz.f6.body = some (.seq p60 (.seq p61 (.seq p62 (.seq p63 (.seq p64 (.seq p65 p66)))))) := by kernel_rfl
theorem p60_is : strip p60 = acL c6 := by kernel_rfl
theorem p61_is : strip p61 = acL (acR c6) := by kernel_rfl
theorem p62_is : strip p62 = acL (acR (acR c6)) := by kernel_rfl
theorem p63_is : strip p63 = acL (acR (acR (acR c6))) := by kernel_rfl
theorem p64_is : strip p64 = acL (acR (acR (acR (acR c6)))) := by kernel_rfl
theorem p65_is : strip p65 = acL (acR (acR (acR (acR (acR c6))))) := by kernel_rfl
theorem p66_is : strip p66 = acR (acR (acR (acR (acR (acR c6))))) := by kernel_rfl
theorem checkD_at {e : En} {n : Int} {b c : List Ty} (h : (checkD e n b c).2.2 = 0) : (checkD e n b c).2.1 = 0 := by
  cases hb : beginD e n b.length c with
  | some p =>
    exfalso
    obtain ⟨a, w⟩ := p
    have he : (checkD e n b c).2.2 = w := by unfold checkD; rw [hb]
    rw [he] at h
    subst h
    unfold beginD at hb
    split at hb; · cases hb
    split at hb; · cases hb
    split at hb; · cases hb
    split at hb; · rename_i h4; simp only [Option.some.injEq, Prod.mk.injEq] at hb; exact h4 hb.2
    split at hb
    · cases hb
    · split at hb <;> cases hb
  | none =>
    cases hr : runD e b (decC c).1.es (b.length + 1) (startS e n) with
    | no a w =>
      have he : (checkD e n b c).2.2 = w := by unfold checkD; rw [hb]; simp only; rw [hr]
      rw [he] at h
      exact absurd h (runD_no _ _ hr)
    | ok s =>
      cases hl : lateE (decC c).1.es b.length with
      | some x =>
        have he : (checkD e n b c).2.2 = 93 := by unfold checkD; rw [hb]; simp only; rw [hr]; simp only; rw [hl]
        rw [he] at h; cases h
      | none =>
        have he : checkD e n b c = ((s.cmp, s.fet), 0, 0) := by unfold checkD; rw [hb]; simp only; rw [hr]; simp only; rw [hl]
        rw [he]
def bYgoE0 := aI @zb2 (aI @za9 (aI @eCd_len (aI @anD (aI @gh_len @gh_take))))
theorem rest6 (e : En) (c : Cd) (hw : WideE e) (hd : WideD c) {b3 b4 b7 : Nat} {b' : List Ty} {T : Env} {σ : St} (h0 : (checkD e c.n c.b c.c).2.2 = 0) (hl : b'.length = c.b.length) (hdd : ∀ a : Nat, deadAt (decC c.c).1.es a = false → b'[a]? = c.b[a]?)
    (t3 : T 3 = .ptr b3 0) (t4 : T 4 = .ptr b4 0) (t7 : T 7 = .ptr b7 0) (t16 : T 16 = .slice .no (rws eT b')) (k3 : σ.box b3 = some (eEn e)) (k4 : σ.box b4 = some (eCd c)) (k7 : σ.box b7 = some (eGh (checkD e c.n c.b c.c).1)) :
    vcA Tryz.prog 110 (acR (acR (acR (acR (acR (acR c6)))))) (fun x T σ => x = .ret ∧ T 6 = .bool true) T σ := by
  obtain ⟨hb, hc⟩ := hd
  have hcheck := check15 e c.n b' c.c .no .no hw (by omega) (by omega)
  rw [checkD_dead hl hdd h0] at hcheck
  have hat : (checkD e c.n c.b c.c).2.1 = 0 := checkD_at h0
  have hsh := checkD_short e c.n c.b c.c
  generalize checkD e c.n c.b c.c = r at *
  obtain ⟨g, a, w⟩ := r
  simp only at h0 hat hsh hcheck k7
  subst h0
  subst hat
  simp -implicitDefEqProofs only [go_sem, c6, t3, t4, t7, t16, k3, k4, k7, acR, eCd, bYgoE0]
  refine ⟨by rintro b rfl; simp [k4], ?_⟩
  refine za4 (env30 e hw) ?_
  simp -implicitDefEqProofs only [go_sem, t3, t4, t7, t16, k3, k4, k7, acR, eCd, bYgoE0]
  refine za4 (clone17p c.c .no (by simp [nilOk]) (by omega)) ?_
  simp -implicitDefEqProofs only [go_sem, t3, t4, t7, t16, k3, k4, k7, acR, eCd, bYgoE0]
  refine za4 hcheck ?_
  simp -implicitDefEqProofs only [go_sem, t3, t4, t7, t16, k3, k4, k7, zb2, za9, eCd_len, anD, gh_len, gh_take, acR, eCd, Int.ofNat_zero]
  intro b19 hb19
  have f4 : ¬ b4 = b19 := fun he => by subst he; exact hb19 (.inl (by rw [k4]; simp))
  have f7 : ¬ b7 = b19 := fun he => by subst he; exact hb19 (.inl (by rw [k7]; simp))
  refine ⟨Ne.symm f4, ?_⟩
  simp -implicitDefEqProofs only [go_sem, t3, t4, t7, t16, k3, k4, k7, zb2, za9, eCd_len, anD, gh_len, gh_take, acR, eCd, Int.ofNat_zero, f4, f7, za2]
  refine za4 (same28 g g (by omega)) ?_
  simp -implicitDefEqProofs only [go_sem, t3, t4, t7, t16, k3, k4, k7, zb2, za9, eCd_len, anD, gh_len, gh_take, acR, eCd, Int.ofNat_zero, f4, f7, za2, decide_true]
theorem law6 (e : En) (c : Cd) (other : List Ty) (hw : WideE e) (hd : WideD c) (ho : other.length ≤ 140737488351232) : zf9 Tryz.prog 6 [.agg (eEn e), .agg (eCd c), .slice .no (rws eT other)] (.bool true) := by
  refine acall_of_body (N := 110) Tryz.func6 body6 (by decide +kernel) Tryz.ntmps6 (by simp) ?_
  intro M a w hi
  have dom := hi.inv.dom
  have fin : ∀ {M1 : MMap} {T1 : Env} {s1 : St} {a1 : Act} {w1 : World}, AInv 110 M1 T1 s1 a1 w1 → KeepF M {} w M1 s1 w1 → T1 6 = .bool true → Post 110 M {} w (bodyA Tryz.prog Tryz.f6.results.toList fun x s' => x = .ret (.bool true) ∧ s' = {}) .ret a1 w1 := fun hi1 hk1 h6 =>
    ⟨_, _, _, .ret, rfl, hi1, hk1, _, _, _, (by show resA Tryz.prog _ _ [.tmp 6] = _; simp [resA, resOne, resC, h6]), DLe.refl _, St.le.nil _, rfl, rfl⟩
  refine wp_chain (M₀ := M) (σ₀ := {}) (w₀ := w) (Qx := Q6 e c) Tryz.follows_mixed (by decide) dom ?hy ?hx [p60, p61, p62, p63, p64, p65] ?hv hi (KeepF.refl _ _ _)
  case hv =>
    rw [show chainA [p60, p61, p62, p63, p64, p65] = (.seq (acL c6) (.seq (acL (acR c6)) (.seq (acL (acR (acR c6))) (.seq (acL (acR (acR (acR c6)))) (.seq (acL (acR (acR (acR (acR c6))))) (acL (acR (acR (acR (acR (acR c6))))))))))) by simp only [chainA, p60_is, p61_is, p62_is, p63_is, p64_is, p65_is]]
    exact ahead6 e c other hw hd ho _ fun t => rfl
  case hx =>
    rintro e1 a1 w1 hne ⟨M1, T1, s1, x, hx, hi1, hk1, ⟨rfl, h6⟩ | ⟨rfl, -⟩⟩
    · obtain rfl := hx
      exact fin hi1 hk1 h6
    · exact absurd hx hne
  rintro a1 w1 ⟨M1, T1, s1, x, hx, hi1, hk1, hxn, ⟨rfl, -⟩ | ⟨-, h0, b3, b4, b7, q, b', junk, cap, t3, t4, t7, t16, hcap, hl, hdd, k3, k4, k7, kq, z3, z4, z7⟩⟩
  · cases hxn
  have hlr : (rws eT b').length = c.b.length := by rw [za0, hl]
  rw [← cellsB_is] at kq
  rw [← hlr] at t16 hcap
  obtain ⟨hi2, hk2⟩ := giveup_slot hi1 kq (s := 1) (by simp [rws, eT]) hcap t16
  have hk3 := hk1.trans dom hk2
  have hd3 : ∀ {x : Nat} {cs : List D}, s1.box x = some cs → q ≠ x → (s1.del q).box x = some cs := fun h hx => by simp [St.del, Ne.symm hx, h]
  have hrest := rest6 e c hw hd (T := upd T1 16 (.slice .no (rws eT b'))) (σ := s1.del q) h0 hl hdd (by simp [upd, t3]) (by simp [upd, t4]) (by simp [upd, t7]) (by simp [upd]) (hd3 k3 z3) (hd3 k4 z4) (hd3 k7 z7)
  rw [← p66_is] at hrest
  refine Code.wp_mono ?_ (vcA_sound Tryz.follows_mixed (by decide) p66 hrest _ a1 w1 hi2)
  rintro e1 a2 w2 ⟨M2, T2, s2, x2, hx2, hi3, hk4, rfl, h6⟩
  obtain rfl := hx2
  exact fin hi3 (hk3.trans dom hk4) h6
end Go.AL
