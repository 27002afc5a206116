import Derived.Test.YtobmoajkfbigkaaGreatKj
import Derived.Test.YtobmoajkfbigkaaGreatKi
import Derived.Test.YtobmoajkfbigkaaGreatKg
import Derived.Test.YtobmoajkfbigkaaGreatKh
import Derived.Test.YtobmoajkfbigkaaGreatKd
set_option linter.unusedSimpArgs false
set_option linter.unusedVariables false
set_option maxRecDepth 100000
set_option maxHeartbeats 4000000
set_option linter.defProp false
namespace Go.AL
open Go.Proofs
theorem can_sig {e : En} (h : canB e = true) : ∃ hs : e.fn.toNat < e.sgs.length, 0 ≤ e.fn ∧ psOf e = e.sgs[e.fn.toNat].ps ∧ (psOf e).length ≤ 8 ∧ ∀ t ∈ psOf e, storedN e.cs.length t = true := by
  unfold canB at h
  simp only [Bool.and_eq_true, decide_eq_true_eq, List.all_eq_true] at h
  obtain ⟨⟨h1, h2, h3, h4⟩, h5⟩ := h
  have hs : e.fn.toNat < e.sgs.length := by omega
  have hp : psOf e = e.sgs[e.fn.toNat].ps := by unfold psOf; rw [List.getElem?_eq_getElem hs]; rfl
  have := h5 _ (List.getElem_mem hs)
  unfold sigMayB at this
  simp only [Bool.and_eq_true, decide_eq_true_eq, Bool.not_eq_true', List.any_eq_false] at this
  refine ⟨hs, h3, hp, by rw [hp]; exact this.1.1, fun t ht => ?_⟩
  rw [hp] at ht
  have := this.1.2 t ht
  simpa using this
theorem start_ok {e : En} {n : Int} (h : canB e = true) (h1 : ¬ n < (psOf e).length) (h2 : ¬ 16 < n) : (startF e.cs.length (psOf e) n).2 = 0 := by
  obtain ⟨_, _, _, h3, h4⟩ := can_sig h
  unfold startF
  rw [if_neg]
  rintro (h | h | h | h | h)
  · omega
  · exact h2 h
  · omega
  · exact h1 h
  · simp only [List.any_eq_true, Bool.not_eq_true'] at h
    obtain ⟨t, ht, h⟩ := h
    rw [h4 t ht] at h; cases h
theorem can_falls {e : En} (hw : WideE e) (h : canB e = true) : Falls e.cs e.cs.length := by
  unfold canB at h
  simp only [Bool.and_eq_true, decide_eq_true_eq] at h
  exact (check_right h.1.1).falls
theorem ct_len (c : Ct) : (eCt c).length = 2 := rfl
theorem ct_take (c : Ct) : (eCt c).take 2 = eCt c := rfl
theorem ct_0 (c : Ct) : (eCt c)[0]? = some (.int .i64 c.loc) := rfl
theorem ct_1 (c : Ct) : (eCt c)[1]? = some (.slice .no (rws eEy c.es)) := rfl
theorem fr_ta (f : Fr) (r : List D) : List.take 26 (eFr f ++ r) = eFr f := List.take_left' (za6 f)
theorem fr_da (f : Fr) (r : List D) : List.drop 26 (eFr f ++ r) = r := List.drop_left' (za6 f)
theorem fr_db (f : Fr) (r : List D) : List.drop 27 (eFr f ++ r) = r.drop 1 := by rw [show 27 = 26 + 1 from rfl, ← List.drop_drop, fr_da]
theorem fr_la (f : Fr) (r : List D) : (eFr f ++ r).length = 26 + r.length := by rw [List.length_append, za6]
def eGh (g : Nat × List Nat) : List D := [.slice .no (rws eN g.2), .int .i64 g.1]
theorem bad_some {e : En} {l : List Ey} {i : Nat} (h : i < l.length) (hn : ∀ x ∈ l.take i, (!x.dead && decide (checkF e.cs.length x.fr ≠ 0)) = false) (hb : (!l[i].dead && decide (checkF e.cs.length l[i].fr ≠ 0)) = true) : badE e l = some l[i] := by
  unfold badE
  obtain ⟨f, hf⟩ : ∃ f : Ey → Bool, (fun x : Ey => !x.dead && decide (checkF e.cs.length x.fr ≠ 0)) = f := ⟨_, rfl⟩
  have hz : (l.take i).find? f = none := find_none fun y hy => by rw [← hf]; exact hn y hy
  rw [hf]
  have hsplit : l = l.take i ++ l[i] :: l.drop (i + 1) := by rw [List.getElem_cons_drop, List.take_append_drop]
  have hx : (l.take i ++ l[i] :: l.drop (i + 1)).find? f = some l[i] := by
    rw [List.find?_append, hz, List.find?_cons_of_pos (by rw [← hf]; exact hb)]; rfl
  exact (congrArg (fun z => List.find? f z) hsplit).trans hx
theorem late_some {l : List Ey} {i n : Nat} (h : i < l.length) (hn : ∀ x ∈ l.take i, ¬ (n : Int) ≤ x.pos) (hb : (n : Int) ≤ l[i].pos) : lateE l n = some l[i] := by
  unfold lateE
  obtain ⟨f, hf⟩ : ∃ f : Ey → Bool, (fun x : Ey => decide ((n : Int) ≤ x.pos)) = f := ⟨_, rfl⟩
  have hz : (l.take i).find? f = none := find_none fun y hy => by rw [← hf]; simpa using hn y hy
  rw [hf]
  have hsplit : l = l.take i ++ l[i] :: l.drop (i + 1) := by rw [List.getElem_cons_drop, List.take_append_drop]
  have hx : (l.take i ++ l[i] :: l.drop (i + 1)).find? f = some l[i] := by
    rw [List.find?_append, hz, List.find?_cons_of_pos (by rw [← hf]; simpa using hb)]; rfl
  exact (congrArg (fun z => List.find? f z) hsplit).trans hx
theorem come_no_pos {cs : List Cl} {l : List Ey} {n : Nat} {s : PS} {a : Int} {w : Nat} (h : comeD cs l n s = .no a w) : a = s.p := by
  unfold comeD at h
  split at h
  · split at h; · cases h
    cases h; rfl
  · split at h; · cases h; rfl
    split at h; · cases h; rfl
    split at h <;> cases h
theorem ghz {x y : D} : DLe (.tup [.agg [.slice .nil [], .int .i64 0], x, y]) (.tup [.agg (eGh (0, [])), x, y]) := DLe.tup (.cons (DLe.agg (.cons (DLe.slice _ _) (.refl _))) (.refl _))
theorem checkD_some {e : En} {n : Int} {b c : List Ty} {a : Int} {w : Nat} (h : beginD e n b.length c = some (a, w)) : checkD e n b c = ((0, []), a, w) := by unfold checkD; rw [h]
def bYgcD0 := aI @ct_len (aI @ct_take (aI @ct_0 (aI @ct_1 (aI @zb1 (aI @za8 (aI @zb0 (aI @za6 (aI @za5 (aI @za7 (aI @zb2 (aI @za9 (aI @anD (aI @za2 (aI @ey_0 (aI @ey_1 (aI @zf8 (aI @zb8 (aI @gdD (aI @ldD @za3)))))))))))))))))))
def bYgcD1 := aI @ct_len (aI @ct_take (aI @ct_0 (aI @ct_1 (aI @zb1 (aI @za8 (aI @zb0 (aI @za6 (aI @za5 (aI @za7 (aI @zb2 (aI @za9 (aI @anD (aI @za2 (aI @ey_0 (aI @ey_1 (aI @zf8 (aI @zb8 (aI @gdD (aI @ldD (aI @za3 @Int.ofNat_zero))))))))))))))))))))
def bYgcD2 := aI @q_len (aI @q_0 (aI @q_3 (aI @q_4 (aI @q_5 (aI @q_32 (aI @q_33 (aI @q_34 (aI @q_en (aI @q_fr (aI @zb8 (aI @gdD (aI @ldD (aI @ct_len (aI @ct_take (aI @ct_0 (aI @ct_1 (aI @zb1 (aI @za8 (aI @zb0 (aI @za6 (aI @za5 (aI @za7 (aI @zb2 (aI @za9 (aI @anD (aI @za2 (aI @ey_0 (aI @ey_1 (aI @zf8 @za3)))))))))))))))))))))))))))))
def bYgcD3 := aI @q_len (aI @q_0 (aI @q_3 (aI @q_4 (aI @q_5 (aI @q_32 (aI @q_33 (aI @q_34 (aI @q_en (aI @q_fr (aI @zb8 (aI @gdD (aI @ldD (aI @ct_len (aI @ct_take (aI @ct_0 (aI @ct_1 (aI @zb1 (aI @za8 (aI @zb0 (aI @za6 (aI @za5 (aI @za7 (aI @zb2 (aI @za9 (aI @anD (aI @za2 (aI @ey_0 (aI @ey_1 (aI @zf8 (aI @za3 @Int.ofNat_zero))))))))))))))))))))))))))))))
theorem refCheck18_a (e : En) (n : Int) (b c : List Ty) (o2 : Own) (hw : WideE e) (hb : b.length ≤ 140737488355328) (hc : c.length ≤ 140737488355328) (hcan : canB e = true) (T : Env) (hT : ∀ t, T t = envOf [.agg (eEn e), .int .i64 n, .slice .no (rws eT b), .slice o2 (rws eT c)] t) :
    vcA Tryz.prog 168 c18 (bodyS Tryz.prog [.cell 8 31, .tmp 9, .tmp 10] fun d s => d = .tup [.agg (eGh (checkD e n b c).1), .int .i64 (checkD e n b c).2.1, .int .i64 (checkD e n b c).2.2]) T {} := by
  simp -implicitDefEqProofs only [go_sem, c18, hT, forall_eq, bYgcD0]
  intro b4 b8 n1 n2 b11 n3 n4 n5 n6
  have en1 : (eEn e)[1]? = some (.slice .no (rws eSg e.sgs)) := rfl
  have en0 : (eEn e)[0]? = some (.slice .no (rws eC e.cs)) := rfl
  have en2 : (eEn e)[2]? = some (.int .i64 e.fn) := rfl
  simp -implicitDefEqProofs only [go_sem, hT, forall_eq, n1, n2, n3, n4, n5, n6, bYgcD0]
  refine za4 (can73 e hw) ?_
  obtain ⟨hs, h0, hps, hp8, hst⟩ := can_sig hcan
  have hpn : e.sgs[e.fn.toNat].ps = psOf e := hps.symm
  have hat : (rws eSg e.sgs)[e.fn.toNat]?.getD [] = eSg e.sgs[e.fn.toNat] := rws_at hs
  have hs1 : (e.fn < e.sgs.length) = True := by simp; omega
  have hs0 : (0 ≤ e.fn) = True := by simp [h0]
  have sg0 : (eSg e.sgs[e.fn.toNat])[0]? = some (.slice .no (rws eT (psOf e))) := by rw [hps]; rfl
  have sgl : (eSg e.sgs[e.fn.toNat]).length = 2 := rfl
  rw [hcan]
  by_cases h1 : n < (psOf e).length
  · rw [checkD_some (a := 0) (w := 1) (by unfold beginD; rw [if_pos (.inr (.inl h1))])]
    simp -implicitDefEqProofs only [go_sem, hT, forall_eq, n1, n2, n3, n4, n5, n6, en0, en1, en2, hat, hs1, hs0, sg0, sgl, h1, bYgcD0]
    exact ⟨_, {}, ghz, St.le.nil _, rfl⟩
  by_cases h2 : 16 < n
  · rw [checkD_some (a := 0) (w := 1) (by unfold beginD; rw [if_pos (.inr (.inr h2))])]
    simp -implicitDefEqProofs only [go_sem, hT, forall_eq, n1, n2, n3, n4, n5, n6, en0, en1, en2, hat, hs1, hs0, sg0, sgl, h1, h2, bYgcD0]
    exact ⟨_, {}, ghz, St.le.nil _, rfl⟩
  have hb0 : beginD e n b.length c = (if 4096 < b.length then some ((0 : Int), 4) else if b.length = 0 then some (0, 51) else if (decC c).2.2 ≠ 0 then some ((decC c).2.1, (decC c).2.2) else match badE e (decC c).1.es with
    | some x => some (x.pos, 65)
    | none => if ((decC c).1.loc : Int) ≠ n then some (0, 32) else none) := by
    unfold beginD; rw [if_neg (by rintro (h | h | h); · rw [hcan] at h; cases h
                                  · exact h1 h
                                  · exact h2 h)]; rfl
  simp -implicitDefEqProofs only [go_sem, hT, forall_eq, n1, n2, n3, n4, n5, n6, en0, en1, en2, hat, hs1, hs0, sg0, sgl, h1, h2, bYgcD0]
  by_cases h3 : 4096 < b.length
  · have g3 : ((4096 : Int) < b.length) = True := by simp; omega
    rw [checkD_some (a := 0) (w := 4) (by rw [hb0, if_pos h3])]
    simp -implicitDefEqProofs only [go_sem, hT, forall_eq, n1, n2, n3, n4, n5, n6, en0, en1, en2, hat, hs1, hs0, sg0, sgl, g3, bYgcD0]
    exact ⟨_, {}, ghz, St.le.nil _, rfl⟩
  have g3 : ((4096 : Int) < b.length) = False := by simp; omega
  rw [if_neg h3] at hb0
  by_cases h4 : b.length = 0
  · have g4 : ((b.length : Int) = 0) = True := eq_true (by omega)
    rw [checkD_some (a := 0) (w := 51) (by rw [hb0, if_pos h4])]
    simp -implicitDefEqProofs only [go_sem, hT, forall_eq, n1, n2, n3, n4, n5, n6, en0, en1, en2, hat, hs1, hs0, sg0, sgl, g3, g4, bYgcD0]
    exact ⟨_, {}, ghz, St.le.nil _, rfl⟩
  have g4 : ((b.length : Int) = 0) = False := eq_false (by omega)
  rw [if_neg h4] at hb0
  simp -implicitDefEqProofs only [go_sem, hT, forall_eq, n1, n2, n3, n4, n5, n6, en0, en1, en2, hat, hs1, hs0, sg0, sgl, g3, g4, bYgcD0]
  refine za4 (refDecode31 c o2 hc) ?_
  obtain ⟨hr1, hr2, hr3, hr4⟩ := decC_rise c
  by_cases h5 : (decC c).2.2 = 0
  case neg =>
    have q5 : (((decC c).2.2 : Int) = 0) = False := by simp; omega
    rw [checkD_some (a := (decC c).2.1) (w := (decC c).2.2) (by rw [hb0, if_pos h5])]
    simp -implicitDefEqProofs only [go_sem, hT, forall_eq, n1, n2, n3, n4, n5, n6, en0, en1, en2, hat, hs1, hs0, sg0, sgl, bYgcD0]
    intro b12 m1 m2 m3 m4 m5 m6
    simp -implicitDefEqProofs only [go_sem, hT, forall_eq, n1, n2, n3, n4, n5, n6, m1, m2, m3, m4, m5, m6, en0, en1, en2, hat, hs1, hs0, sg0, sgl, q5, bYgcD0]
    exact ⟨_, {}, ghz, St.le.nil _, rfl⟩
  have q5 : (((decC c).2.2 : Int) = 0) = True := by simp; omega
  rw [if_neg (by simp [h5])] at hb0
  have hEnts : Ents (decC c).1.es := ⟨hr1, hr2, hr3⟩
  have hCC0 : (decC c).1 = (decC c).1 := rfl
  obtain ⟨CC, hCC⟩ : ∃ CC, (decC c).1 = CC := ⟨_, rfl⟩
  clear hCC0
  rw [hCC] at hb0 hEnts ⊢
  simp -implicitDefEqProofs only [go_sem, hT, forall_eq, n1, n2, n3, n4, n5, n6, en0, en1, en2, hat, hs1, hs0, sg0, sgl, bYgcD0]
  intro b12 m1 m2 m3 m4 m5 m6
  simp -implicitDefEqProofs only [go_sem, hT, forall_eq, n1, n2, n3, n4, n5, n6, m1, m2, m3, m4, m5, m6, en0, en1, en2, hat, hs1, hs0, sg0, sgl, q5, bYgcD0]
  obtain ⟨S1, hS1⟩ : ∃ S1, (((({} : St).set b4 (eEn e)).set b8 [.slice .nil [], .int .i64 0]).set b11 [.slice .nil [], .int .i64 0]).set b12 (eCt CC) = S1 := ⟨_, rfl⟩
  have k4 : S1.box b4 = some (eEn e) := by rw [← hS1]; simp [St.set, n1, n2, n3, n4, n5, n6, m1, m2, m3, m4, m5, m6]
  have k8 : S1.box b8 = some [.slice .nil [], .int .i64 0] := by rw [← hS1]; simp [St.set, n1, n2, n3, n4, n5, n6, m1, m2, m3, m4, m5, m6]
  have k11 : S1.box b11 = some [.slice .nil [], .int .i64 0] := by rw [← hS1]; simp [St.set, n1, n2, n3, n4, n5, n6, m1, m2, m3, m4, m5, m6]
  have k12 : S1.box b12 = some (eCt CC) := by rw [← hS1]; simp [St.set]
  rw [hS1]
  have hEl := hEnts.len
  refine loopL F18 (fun i : Nat => [(1, .int .i64 n), (2, .slice .no (rws eT b)), (4, .ptr b4 0), (8, .ptr b8 0), (11, .ptr b11 0), (12, .ptr b12 0), (66, .slice .no (rws eEy CC.es)), (67, .int .i64 CC.es.length), (68, .int .i64 i)]) (fun _ => S1) (fun i => i ≤ CC.es.length ∧ ∀ x ∈ CC.es.take i, (!x.dead && decide (checkF e.cs.length x.fr ≠ 0)) = false) (fun i => CC.es.length - i) 0 ⟨by omega, by simp⟩ ?_ (St.le.refl _) ?_
  · simp -implicitDefEqProofs only [go_sem, hT, Int.ofNat_zero]
  clear hT T
  rintro i ⟨hi, hn⟩ T hT
  by_cases h : i < CC.es.length
  · have p1 : ((i : Int) < CC.es.length) = True := eq_true (by omega)
    have p0 : (0 ≤ (i : Int)) = True := eq_true (by omega)
    have hax := getEy h
    have w1 : IntKind.wrap .i64 ((i : Int) + 1) = ((i + 1 : Nat) : Int) := wrapN (by omega) (by omega)
    simp -implicitDefEqProofs only [go_sem, hT, forall_eq, k4, k8, k11, k12, en0, en1, en2, p1, p0, hax, w1, bYgcD0]
    intro b16 hb16
    have n16 : b16 ≠ b4 := fun h => hb16 (by rw [h]; exact .inl (by simp [k4]))
    have n17 : b16 ≠ b8 := fun h => hb16 (by rw [h]; exact .inl (by simp [k8]))
    have n18 : b16 ≠ b11 := fun h => hb16 (by rw [h]; exact .inl (by simp [k11]))
    cases hd : CC.es[i].dead with
    | true =>
      simp -implicitDefEqProofs only [go_sem, hT, forall_eq, k4, k8, k11, k12, en0, en1, en2, n16, Ne.symm n16, n17, Ne.symm n17, n18, Ne.symm n18, p1, p0, hax, w1, hd, bYgcD0]
      exact ⟨i + 1, ⟨by omega, take_more h hn (by simp [hd])⟩, by omega, rfl, le_add hb16⟩
    | false =>
      simp -implicitDefEqProofs only [go_sem, hT, forall_eq, k4, k8, k11, k12, en0, en1, en2, n16, Ne.symm n16, n17, Ne.symm n17, n18, Ne.symm n18, p1, p0, hax, w1, hd, bYgcD0]
      refine za4 (refCheck40 e.cs .no CC.es[i].fr) ?_
      by_cases hz : checkF e.cs.length CC.es[i].fr = 0
      · have qz : ((checkF e.cs.length CC.es[i].fr : Int) = 0) = True := eq_true (by omega)
        simp -implicitDefEqProofs only [go_sem, hT, forall_eq, k4, k8, k11, k12, en0, en1, en2, n16, Ne.symm n16, n17, Ne.symm n17, n18, Ne.symm n18, p1, p0, hax, w1, hd, qz, bYgcD0]
        exact ⟨i + 1, ⟨by omega, take_more h hn (by simp [hd, hz])⟩, by omega, rfl, le_add hb16⟩
      · have qz : ((checkF e.cs.length CC.es[i].fr : Int) = 0) = False := eq_false (by omega)
        rw [bad_some h hn (by simp [hd, hz])] at hb0
        rw [checkD_some hb0]
        simp -implicitDefEqProofs only [go_sem, hT, forall_eq, k4, k8, k11, k12, en0, en1, en2, n16, Ne.symm n16, n17, Ne.symm n17, n18, Ne.symm n18, p1, p0, hax, w1, hd, qz, bYgcD0]
        exact ⟨by simp, _, {}, ghz, St.le.nil _, rfl⟩
  have p1 : ((i : Int) < CC.es.length) = False := eq_false (by omega)
  rw [show CC.es.take i = CC.es from List.take_of_length_le (by omega)] at hn
  have hbad : badE e CC.es = none := find_none hn
  rw [hbad] at hb0
  clear hn
  simp -implicitDefEqProofs only [go_sem, hT, forall_eq, k4, k8, k11, k12, en0, en1, en2, p1, bYgcD0]
  by_cases h7 : (CC.loc : Int) = n
  case neg =>
    rw [checkD_some (a := 0) (w := 32) (hb0.trans (by simp [h7]))]
    simp -implicitDefEqProofs only [go_sem, hT, forall_eq, k4, k8, k11, k12, en0, en1, en2, p1, h7, bYgcD0]
    exact ⟨_, {}, ghz, St.le.nil _, rfl⟩
  have hbn : beginD e n b.length c = none := hb0.trans (by simp [h7])
  simp -implicitDefEqProofs only [go_sem, hT, forall_eq, k4, k8, k11, k12, en0, en1, en2, hat, hs1, hs0, sg0, sgl, p1, h7, bYgcD0]
  refine za4 (refStart71 e.cs .no .no (psOf e) n (by omega)) ?_
  have hso := start_ok hcan h1 h2
  have hss : startS e n = ⟨0, (startF e.cs.length (psOf e) n).1, true, 0, []⟩ := rfl
  generalize startF e.cs.length (psOf e) n = F at *
  obtain ⟨f, er⟩ := F
  simp only at hso hss
  subst hso
  simp -implicitDefEqProofs only [go_sem, hT, forall_eq, k4, k8, k11, k12, en0, en1, en2, hat, hs1, hs0, sg0, sgl, bYgcD1]
  intro b17 hb17
  have n16 : b17 ≠ b4 := fun h => hb17 (by rw [h]; exact .inl (by simp [k4]))
  have n17 : b17 ≠ b8 := fun h => hb17 (by rw [h]; exact .inl (by simp [k8]))
  have n18 : b17 ≠ b11 := fun h => hb17 (by rw [h]; exact .inl (by simp [k11]))
  have n19 : b17 ≠ b12 := fun h => hb17 (by rw [h]; exact .inl (by simp [k12]))
  simp -implicitDefEqProofs only [go_sem, hT, forall_eq, k4, k8, k11, k12, en0, en1, en2, n16, Ne.symm n16, n17, Ne.symm n17, n18, Ne.symm n18, n19, Ne.symm n19, hat, hs1, hs0, sg0, sgl, bYgcD1]
  simp -implicitDefEqProofs only [go_sem, hT, ct_len, ct_take, ct_0, ct_1, zb1, za8, zb0, za6, za5, za7, zb2, za9, anD, za2, ey_0, ey_1, zf8, forall_eq, zb8, gdD, ldD, za3, k4, k8, k11, k12, en0, en1, en2, n16, Ne.symm n16, n17, Ne.symm n17, n18, Ne.symm n18, n19, Ne.symm n19, hat, hs1, hs0, sg0, sgl, eEn, fr_ta, fr_da, fr_db, fr_la, Int.ofNat_zero]
  have hl29 : (eFr f ++ [D.bool true] ++ [D.slice Own.nil [], D.int IntKind.i64 0]).length = 29 := by simp [za6]
  have hQ : D.slice Own.no (rws eC e.cs) :: D.slice Own.no (rws eSg e.sgs) :: D.int IntKind.i64 e.fn :: D.slice Own.no (rws eT b) :: D.slice Own.no (rws eEy CC.es) :: D.int IntKind.i64 0 :: (eFr f ++ [D.bool true] ++ [D.slice Own.nil [], D.int IntKind.i64 0]) = eQ e b CC.es (startS e n) none := by
    rw [hss]; simp [eQ, eEn, grD, rws]
  rw [if_pos hl29, hQ]
  simp -implicitDefEqProofs only [go_sem, hT, forall_eq, k4, k8, k11, k12, en0, en1, en2, n16, Ne.symm n16, n17, Ne.symm n17, n18, Ne.symm n18, n19, Ne.symm n19, hat, hs1, hs0, sg0, sgl, bYgcD1]
  intro q hq1 hq2 hqS
  have q4 : b4 ≠ q := fun h => hqS (by rw [← h]; exact .inl (by simp [k4]))
  have q8 : b8 ≠ q := fun h => hqS (by rw [← h]; exact .inl (by simp [k8]))
  have q11 : b11 ≠ q := fun h => hqS (by rw [← h]; exact .inl (by simp [k11]))
  have q12 : b12 ≠ q := fun h => hqS (by rw [← h]; exact .inl (by simp [k12]))
  obtain ⟨L, hL⟩ : ∃ L : List LI, L = [.bx b4 (eEn e), .bx b8 [.slice .nil [], .int .i64 0], .bx b11 [.slice .nil [], .int .i64 0], .bx b12 (eCt CC), .bx b17 (eFr f)] := ⟨_, rfl⟩
  have hput : ∀ s : St, (putL s L).box b4 = some (eEn e) ∧ (putL s L).box b8 = some [.slice .nil [], .int .i64 0] ∧ (putL s L).box b11 = some [.slice .nil [], .int .i64 0] ∧ (putL s L).box b12 = some (eCt CC) ∧ (putL s L).box q = s.box q := fun s => by
    rw [hL]
    simp [putL, LI.put, St.set, n1, n2, n3, n4, n5, n6, m1, m2, m3, m4, m5, m6, q4, Ne.symm q4, q8, Ne.symm q8, q11, Ne.symm q11, q12, Ne.symm q12, hq1, hq2, n16, Ne.symm n16, n17, Ne.symm n17, n18, Ne.symm n18, n19, Ne.symm n19]
  obtain ⟨RR, hRR⟩ : ∃ RR, runD e b CC.es (b.length + 1) (startS e n) = RR := ⟨_, rfl⟩
  have hstart : (S1.set b17 (eFr f)).set q (eQ e b CC.es (startS e n) none) = putL (stQ e b CC.es (startS e n) none q) L := by
    rw [hL, ← hS1]
    show _ = ((((((({} : St).set q _).set b4 _).set b8 _).set b11 _).set b12 _).set b17 _)
    rw [set_comm (Ne.symm hq1), set_comm q12, set_comm q11, set_comm q8, set_comm q4]
  have hoff : offL (stQ e b CC.es (startS e n) none q) L := by
    have h : ∀ x, x ≠ q → ¬ (stQ e b CC.es (startS e n) none q).has x := fun x hx hh => by
      rw [stQ] at hh
      have : (({} : St).set q (eQ e b CC.es (startS e n) none)).has x := hh
      rw [set_has] at this
      rcases this with h | h
      · exact hx h
      · exact St.not_has_nil _ h
    rw [hL]
    exact ⟨h _ q4, h _ q8, h _ q11, h _ q12, h _ (Ne.symm hq1), trivial⟩
  rw [hstart]
  have hw2 : e.cs.length * 48 ≤ 140737488355328 := by have := hw.1.1; omega
  have hfa := can_falls hw hcan
  refine loopL F18 (fun x : PS × Option Nat => [(1, .int .i64 n), (2, .slice .no (rws eT b)), (4, .ptr b4 0), (8, .ptr b8 0), (11, .ptr b11 0), (12, .ptr b12 0), (18, .ptr q 0)]) (fun x => putL (stQ e b CC.es x.1 x.2 q) L)
    (fun x => (∃ k, b.length < x.1.p + k ∧ runD e b CC.es k x.1 = RR) ∧ x.1.cmp ≤ 2 * x.1.p ∧ x.1.fet.length ≤ x.1.p ∧ x.1.p ≤ b.length ∧ (x.2 = none → x.1.fet = []) ∧ x.2 ≠ some q ∧ offL (stQ e b CC.es x.1 x.2 q) L)
    (fun x => b.length - x.1.p) (startS e n, none) ⟨⟨b.length + 1, by simp [hss], hRR⟩, by simp [hss], by simp [hss], by simp [hss], fun _ => by simp [hss], by simp, hoff⟩ ?_ (St.le.refl _) ?_
  · simp -implicitDefEqProofs only [go_sem, hT, Int.ofNat_zero]
  clear hT T
  rintro ⟨s, o⟩ ⟨⟨k, hk, hrun⟩, hcmp, hfet, hpb, hon, hoq, hof⟩ T hT
  simp only at hk hrun hcmp hfet hpb hon hoq hof hT ⊢
  obtain ⟨y4, y8, y11, y12, yq⟩ := hput (stQ e b CC.es s o q)
  have hqq : (putL (stQ e b CC.es s o q) L).box q = some (eQ e b CC.es s o) := by rw [yq, stQ, grS_boxa, St.set_box, if_pos rfl]
  by_cases hpl : s.p < b.length
  case neg =>
    have p1 : ((s.p : Int) < b.length) = False := eq_false (by omega)
    have hok : RR = .ok s := by
      rw [← hrun]
      cases k with
      | zero => omega
      | succ k => rw [runD, if_pos (by omega)]
    have hck : checkD e n b c = match lateE CC.es b.length with
      | some x => ((0, []), x.pos, 93)
      | none => ((s.cmp, s.fet), 0, 0) := by
      unfold checkD; rw [hbn, hCC]; simp only; rw [hRR, hok]; rfl
    obtain ⟨S3, hS3⟩ : ∃ S3, putL (stQ e b CC.es s o q) L = S3 := ⟨_, rfl⟩
    rw [hS3] at hqq y4 y8 y11 y12 ⊢
    simp -implicitDefEqProofs only [go_sem, hT, hqq, y4, y8, y11, y12, forall_eq, p1, bYgcD2]
    refine loopL F18 (fun i : Nat => [(2, .slice .no (rws eT b)), (8, .ptr b8 0), (11, .ptr b11 0), (12, .ptr b12 0), (18, .ptr q 0), (149, .slice .no (rws eEy CC.es)), (150, .int .i64 CC.es.length), (151, .int .i64 i)]) (fun _ => S3) (fun i => i ≤ CC.es.length ∧ ∀ x ∈ CC.es.take i, ¬ (b.length : Int) ≤ x.pos) (fun i => CC.es.length - i) 0 ⟨by omega, by simp⟩ ?_ (St.le.refl _) ?_
    · simp -implicitDefEqProofs only [go_sem, hT, Int.ofNat_zero]
    clear hT T
    rintro i ⟨hi, hn⟩ T hT
    by_cases h : i < CC.es.length
    · have p2 : ((i : Int) < CC.es.length) = True := eq_true (by omega)
      have p0 : (0 ≤ (i : Int)) = True := eq_true (by omega)
      have hax := getEy h
      have w1 : IntKind.wrap .i64 ((i : Int) + 1) = ((i + 1 : Nat) : Int) := wrapN (by omega) (by omega)
      simp -implicitDefEqProofs only [go_sem, hT, forall_eq, hqq, y8, y11, y12, p2, p0, hax, w1, bYgcD0]
      intro b24 hb24
      have r8 : b24 ≠ b8 := fun h => hb24 (by rw [h]; exact .inl (by simp [y8]))
      have r11 : b24 ≠ b11 := fun h => hb24 (by rw [h]; exact .inl (by simp [y11]))
      by_cases h9 : (b.length : Int) ≤ CC.es[i].pos
      · rw [late_some h hn h9] at hck
        rw [hck]
        simp -implicitDefEqProofs only [go_sem, hT, forall_eq, hqq, y8, y11, y12, r8, Ne.symm r8, r11, Ne.symm r11, p2, p0, hax, w1, h9, bYgcD0]
        exact ⟨by simp, _, {}, ghz, St.le.nil _, rfl⟩
      · simp -implicitDefEqProofs only [go_sem, hT, forall_eq, hqq, y8, y11, y12, r8, Ne.symm r8, r11, Ne.symm r11, p2, p0, hax, w1, h9, bYgcD0]
        exact ⟨i + 1, ⟨by omega, take_more h hn h9⟩, by omega, rfl, le_add hb24⟩
    · have p2 : ((i : Int) < CC.es.length) = False := eq_false (by omega)
      rw [show CC.es.take i = CC.es from List.take_of_length_le (by omega)] at hn
      have hlate : lateE CC.es b.length = none := find_none fun y hy => by simpa using hn y hy
      rw [hlate] at hck
      rw [hck]
      simp -implicitDefEqProofs only [go_sem, hT, ct_len, ct_take, ct_0, ct_1, zb1, za8, zb0, za6, za5, za7, zb2, za9, anD, za2, ey_0, ey_1, zf8, forall_eq, zb8, gdD, ldD, za3, hqq, y8, y11, y12, p2, q_len, q_0, q_3, q_4, q_5, q_32, q_33, q_34, q_en, q_fr, q_d33]
      exact ⟨_, {}, DLe.tup (.cons (DLe.agg (.cons grD_le (.refl _))) (.refl _)), St.le.nil _, rfl⟩
  have p1 : ((s.p : Int) < b.length) = True := eq_true (by omega)
  simp -implicitDefEqProofs only [go_sem, hT, hqq, forall_eq, p1, bYgcD2]
  refine callB_under L hof ((entry61 e b CC.es s o q hfa hw2 hEnts (by omega) hpl (by omega) hoq).xcall (Rp := fun _ _ => False)) (fun d s' hR hof' => ?_) fun d s' h => h.elim
  obtain ⟨z4, z8, z11, z12, zq⟩ := hput s'
  obtain ⟨kk, rfl⟩ : ∃ kk, k = kk + 1 := ⟨k - 1, by omega⟩
  rw [runD, if_neg (by omega)] at hrun
  unfold entR at hR
  cases hcm : comeD e.cs CC.es b.length s with
  | no a w =>
    rw [hcm] at hR hrun
    obtain ⟨rfl, s2, h2p, h2f, rfl⟩ := hR
    have ha := come_no hcm
    have hap := come_no_pos hcm
    have hck : checkD e n b c = ((0, []), a, w) := by
      unfold checkD; rw [hbn, hCC]; simp only; rw [hRR, ← hrun]
    have hq2 : (putL (stQ e b CC.es s2 o q) L).box q = some (eQ e b CC.es s2 o) := by rw [zq, stQ, grS_boxa, St.set_box, if_pos rfl]
    have qa : ((w : Int) = 0) = False := eq_false (by omega)
    rw [hck, hap]
    simp -implicitDefEqProofs only [go_sem, hT, hq2, z4, z8, z11, z12, forall_eq, qa, h2p, bYgcD2]
    exact ⟨q8, _, {}, ghz, St.le.nil _, rfl⟩
  | ok z =>
    obtain ⟨s2, on⟩ := z
    rw [hcm] at hR hrun
    obtain ⟨rfl, rfl⟩ := hR
    have hq2 : (putL (stQ e b CC.es s2 o q) L).box q = some (eQ e b CC.es s2 o) := by rw [zq, stQ, grS_boxa, St.set_box, if_pos rfl]
    cases on with
    | false =>
      obtain ⟨c1, c2, _⟩ := come_off hcm
      have hnp := nextP_gt (l := CC.es) hpl
      have e1 : s2.p = nextP CC.es b.length s.p := by rw [c2]
      have e2 : s2.cmp = s.cmp := by rw [c2]
      have e3 : s2.fet = s.fet := by rw [c2]
      simp -implicitDefEqProofs only [go_sem, hT, hq2, z4, z8, z11, z12, forall_eq, bYgcD3]
      refine ⟨(s2, o), ⟨⟨kk, ?_, hrun⟩, ?_, ?_, ?_, ?_, hoq, hof'⟩, ?_, ?_⟩
      · simp only; omega
      · simp only; omega
      · simp only; rw [e3]; omega
      · simp only; omega
      · simp only; rw [e3]; exact hon
      · simp only; omega
      · exact St.le.refl _
    | true =>
      obtain ⟨c1, c2, c3, c4, _⟩ := come_on hcm
      have c5 : s2.cmp ≤ s.cmp + 1 := by split at c4 <;> omega
      clear c4
      have c6 : s2.fet.length = s.fet.length := by rw [c3]
      simp -implicitDefEqProofs only [go_sem, hT, hq2, z4, z8, z11, z12, forall_eq, bYgcD3]
      refine callB_under L hof' ((fetch62 e b CC.es s2 o q hfa hw hw2 hEnts (by omega) (by omega) (by omega) hoq (by rw [c3]; exact hon) (by rw [c3]; omega) c2).xcall (Rp := fun _ _ => False)) (fun d s' hR hof2 => ?_) fun d s' h => h.elim
      obtain ⟨v4, v8, v11, v12, vq⟩ := hput s'
      unfold fetR at hR
      cases hfm : fetD e b CC.es s2 with
      | no a w =>
        rw [hfm] at hR
        simp only [hfm] at hrun
        subst hR
        have ha := fet_no hfm
        have hck : checkD e n b c = ((0, []), a, w) := by
          unfold checkD; rw [hbn, hCC]; simp only; rw [hRR, ← hrun]
        have qa : ((w : Int) = 0) = False := eq_false (by omega)
        rw [hck]
        simp -implicitDefEqProofs only [go_sem, hT, v4, v8, v11, v12, forall_eq, qa, bYgcD2]
        exact ⟨_, {}, ghz, St.le.nil _, rfl⟩
      | ok s3 =>
        rw [hfm] at hR
        simp only [hfm] at hrun
        obtain ⟨rfl, o', ho1, ho2, rfl⟩ := hR
        obtain ⟨f1, _, _, _, _, f6⟩ := fet_ok hfm
        obtain ⟨_, _, f7, f8⟩ := decF_ok f1
        have e1 : s3.p = s2.p + sizeOp (decF b s2.p).1.op.val := by rw [f6]
        have e2 : s3.cmp ≤ s2.cmp + 1 := by rw [f6]; simp only; split <;> omega
        have e3 : s3.fet.length = s2.fet.length + 1 := by rw [f6]; simp
        simp -implicitDefEqProofs only [go_sem, hT, v4, v8, v11, v12, forall_eq, bYgcD3]
        refine ⟨(s3, o'), ⟨⟨kk, ?_, hrun⟩, ?_, ?_, ?_, ?_, ho1, hof2⟩, ?_, ?_⟩
        · simp only; omega
        · simp only; omega
        · simp only; omega
        · simp only; omega
        · simp only; exact ho2
        · simp only; omega
        · exact St.le.refl _
def bYgcD4 := aI @zb2 (aI @za9 (aI @anD (aI @za2 @za3)))
theorem refCheck18 (e : En) (n : Int) (b c : List Ty) (o o2 : Own) (hw : WideE e) (hb : b.length ≤ 140737488355328) (hc : c.length ≤ 140737488355328) :
    zf9 Tryz.prog 18 [.agg (eEn e), .int .i64 n, .slice o (rws eT b), .slice o2 (rws eT c)] (.tup [.agg (eGh (checkD e n b c).1), .int .i64 (checkD e n b c).2.1, .int .i64 (checkD e n b c).2.2]) := by
  refine RCall.pcall (RCall.args (ds := [.agg (eEn e), .int .i64 n, .slice .no (rws eT b), .slice o2 (rws eT c)]) ?_ (.cons (.refl _) (.cons (.refl _) (.cons (DLe.slice _ _) (.refl _)))))
  by_cases hcan : canB e = true
  · exact F18.rcall rfl fun T hT => refCheck18_a e n b c o2 hw hb hc hcan T hT
  have hcf : canB e = false := by simpa using hcan
  rw [checkD_some (a := 0) (w := 1) (by unfold beginD; rw [if_pos (.inl hcf)])]
  refine F18.rcall rfl fun T hT => ?_
  simp -implicitDefEqProofs only [go_sem, c18, hT, forall_eq, bYgcD4]
  intro b4 b8 n1 n2 b11 n3 n4 n5 n6
  simp -implicitDefEqProofs only [go_sem, hT, forall_eq, n1, n2, n3, n4, n5, n6, bYgcD4]
  refine za4 (can73 e hw) ?_
  rw [hcf]
  simp -implicitDefEqProofs only [go_sem, hT, forall_eq, n1, n2, n3, n4, n5, n6, bYgcD4]
  exact ⟨_, {}, ghz, St.le.nil _, rfl⟩
open Go.Proofs
def sL : Code → Code | .seq a _ => a | c => c
def sR : Code → Code | .seq _ b => b | c => c
def inC : Code → Code | .block _ c => c | .loop c => c | c => c
def asC : Code → Code | .rangeFunc _ _ a _ => a | c => c
def bdC : Code → Code | .rangeFunc _ _ _ b => b | c => c
def opsC : Code → Array Oper | .region _ l _ => l | _ => #[]
noncomputable def k94 : Code := Tryz.f94.body.getD .skip
noncomputable def r94 : Code := inC (sR (sL (sR (sR (sR (sR k94))))))
noncomputable def as94 : Code := asC r94
noncomputable def bd94 : Code := bdC r94
noncomputable def asO : Array Oper := opsC as94
noncomputable def bdO : Array Oper := opsC (inC bd94)
theorem asO_is : asO.toList.map (plainO asO.toList) = [oO 9 (.alloc 86), oN (.store 86 (tT 9) (tT 26))] := by kernel_rfl
theorem bdO_is : bdO.toList.map (plainO bdO.toList) = [oO 27 (.fieldAddr 52 (tT 8) 1), oO 28 (.load 50 (tT 27)), oO 29 (.load 86 (tT 9)), oO 30 (.buildSlice 50 1 #[(0, tT 29)]), oO 31 (cB .append #[tT 28, tT 30] #[50, 50]), oO 32 (.fieldAddr 52 (tT 8) 1), oN (.store 50 (tT 32) (tT 31))] := by kernel_rfl
noncomputable def k168 : Code := Tryz.f168.body.getD .skip
noncomputable def l168 : Code := inC (inC (inC k168))
noncomputable def a168 : Code := sL l168
noncomputable def b168 : Code := sL (sR l168)
noncomputable def bO168 : Array Oper := opsC b168
theorem a168_is : strip a168 = rg [oO 7 (.load 192 (tT 1)), oO 8 (cF (.func 169) #[tT 7] #[192]), oO 6 (.move (tT 8)), oO 9 (.extract (tT 6) 0), oO 10 (.extract (tT 6) 1), oO 11 (.extract (tT 6) 2), oO 3 (.alloc 86), oN (.store 86 (tT 3) (tT 9)), oO 4 (.assign (tT 10)), oO 5 (.assign (tT 11))] := by kernel_rfl
theorem b168_is : b168 = .region 1 bO168 false := by kernel_rfl
open Go.Proofs
def nx (b : List Ty) (p : Nat) (last : Int) (left n : Nat) : Ey × Bool × Nat × List D :=
  if left = 0 then (if p < b.length then (ey0, false, 3, eRd b p last 0 n p 3) else (ey0, false, 0, eRd b p last 0 n 0 0))
  else if (entD b (bt b 3) p last).2.2 ≠ 0 then (ey0, false, (entD b (bt b 3) p last).2.2, eRd b p last left n (entD b (bt b 3) p last).2.1 (entD b (bt b 3) p last).2.2)
  else ((entD b (bt b 3) p last).1, true, 0, eRd b (entD b (bt b 3) p last).2.1 (entD b (bt b 3) p last).1.pos (left - 1) n 0 0)
theorem nx_eq {b : List Ty} {r p : Nat} {last : Int} {left n : Nat} {d : D} {s : St} (h : nextR b r p last left n d s) :
    d = .tup [.agg (eEy (nx b p last left n).1), .bool (nx b p last left n).2.1, .int .i64 (nx b p last left n).2.2.1] ∧ s = ({} : St).set r (nx b p last left n).2.2.2 := by
  unfold nextR at h
  unfold nx
  split at h
  · rename_i h1; rw [if_pos h1]
    split at h
    · rename_i h2; rw [if_pos h2]; exact h
    · rename_i h2; rw [if_neg h2]; exact h
  · rename_i h1; rw [if_neg h1]
    split at h
    · rename_i h2; rw [if_pos h2]; exact h
    · rename_i h2; rw [if_neg h2]; exact h
def sB (b2 bc r b8 : Nat) (rd ct : List D) : St := (((({} : St).set b2 [.int .i64 0, .slice .nil []]).set bc [.ptr r 0]).set r rd).set b8 ct
def ctL (loc : Nat) (o : Option Nat) (es : List Ey) : List D := [.int .i64 loc, grD 28 o (rws eEy es)]
def sN (b2 bc r b8 : Nat) (loc : Nat) (o : Option Nat) (es : List Ey) (rd : List D) : St := grS 28 es.length o (sB b2 bc r b8 rd (ctL loc o es))
structure Ap (b2 bc r b8 : Nat) : Prop where
  h1 : bc ≠ b2
  h2 : r ≠ b2
  h3 : r ≠ bc
  h4 : b8 ≠ b2
  h5 : b8 ≠ bc
  h6 : b8 ≠ r
def offB (b2 bc r b8 : Nat) (o : Option Nat) : Prop := ∀ b, o = some b → b ≠ b2 ∧ b ≠ bc ∧ b ≠ r ∧ b ≠ b8
theorem sB_has {b2 bc r b8 x : Nat} {rd ct : List D} : (sB b2 bc r b8 rd ct).has x ↔ x = b2 ∨ x = bc ∨ x = r ∨ x = b8 := by
  unfold sB
  rw [set_has, set_has, set_has, set_has]
  have := St.not_has_nil x
  constructor
  · rintro (h | h | h | h | h)
    · exact .inr (.inr (.inr h))
    · exact .inr (.inr (.inl h))
    · exact .inr (.inl h)
    · exact .inl h
    · exact absurd h this
  · rintro (h | h | h | h)
    · exact .inr (.inr (.inr (.inl h)))
    · exact .inr (.inr (.inl h))
    · exact .inr (.inl h)
    · exact .inl h
theorem round94 {b2 bc r b8 loc : Nat} {o : Option Nat} {es : List Ey} {rd : List D} {e : Ey} {T : Env} (ha : Ap b2 bc r b8) (ho : offB b2 bc r b8 o) (hn : o = none → es = []) (hl : es.length ≤ 4096) (h8 : T 8 = .ptr b8 0) {J : St → Prop}
    (hJ : ∀ o' s', offB b2 bc r b8 o' → o' ≠ none → St.le (sN b2 bc r b8 loc o' (es ++ [e]) rd) s' → J s') :
    aopsD Tryz.prog 48 [] (asO.toList.map (plainO asO.toList)) (fun x T' s => x = .normal ∧ aopsD Tryz.prog 48 [] (bdO.toList.map (plainO bdO.toList)) (fun y T'' s' => y = .normal ∧ J s') T' s) (upd T 26 (.agg (eEy e))) (sN b2 bc r b8 loc o es rd) := by
  rw [asO_is, bdO_is]
  obtain ⟨S0, hS0⟩ : ∃ S0, sN b2 bc r b8 loc o es rd = S0 := ⟨_, rfl⟩
  have hb8 : S0.box b8 = some (ctL loc o es) := by rw [← hS0, sN, grS_boxa, sB, St.set_box, if_pos rfl]
  rw [hS0]
  simp -implicitDefEqProofs only [go_sem, h8, zb1, za8, zb0, anD, za2, ey_zero]
  intro b9 hb9
  have n9 : b9 ≠ b8 := fun hh => hb9 (by rw [hh]; exact .inl (by simp [hb8]))
  have hc0 : (ctL loc o es).length = 2 := rfl
  have hc1 : (ctL loc o es)[1]? = some (grD 28 o (rws eEy es)) := rfl
  simp -implicitDefEqProofs only [go_sem, h8, zb1, za8, zb0, anD, za2, ey_zero, hb8, n9, Ne.symm n9, hc0, hc1, gdD]
  have hbase : grN o (sB b2 bc r b8 rd (ctL loc o es)) := fun b hb hin => by have := ho b hb; have := sB_has.1 hin; omega
  have hle0 : St.le (grS 28 es.length o (sB b2 bc r b8 rd (ctL loc o es))) (S0.set b9 (eEy e)) := by
    rw [show grS 28 es.length o (sB b2 bc r b8 rd (ctL loc o es)) = S0 from hS0]; exact le_add hb9
  refine app_gr' Tryz.sli50 Tryz.sz86 Tryz.by86 Tryz.zero86 rfl (n := es.length) (m := 1) (base := sB b2 bc r b8 rd (ctL loc o es)) (by simp [rws]) rfl hle0 hbase (fun h => by rw [hn h]; rfl) (by simp [zb1]) (by omega) fun o' σ' hbox hle' hg hno => ?_
  have hb8' : σ'.box b8 = some (ctL loc o es) := by rw [hbox, St.set_box, if_neg (Ne.symm n9), hb8]
  simp -implicitDefEqProofs only [go_sem, h8, zb1, za8, zb0, anD, za2, ey_zero, hb8', n9, Ne.symm n9, hc0, hc1]
  have hrow : rws eEy es ++ [eEy e] = rws eEy (es ++ [e]) := by simp [rws]
  refine hJ o' _ (fun b hb => ?_) (fun h => by have := hno h; omega) ?_
  · have h := hg b hb
    rw [sB_has] at h
    omega
  · have he : sN b2 bc r b8 loc o' (es ++ [e]) rd = (grS 28 (es.length + 1) o' (sB b2 bc r b8 rd (ctL loc o es))).set b8 (ctL loc o' (es ++ [e])) := by
      rw [grS_set, sN, sB, sB, za2, List.length_append]; rfl
    rw [he]
    have := le_set (b := b8) (cs := ctL loc o' (es ++ [e])) hle'
    have hx : List.take 1 (ctL loc o es) ++ [grD 28 o' (rws eEy es ++ [List.take 28 (List.map frz (eEy e))])] ++ List.drop 2 (ctL loc o es) = ctL loc o' (es ++ [e]) := by
      rw [eEy_frz, za8, hrow]; rfl
    rw [hx]; exact this
theorem yield_op {P : Program} {o : Oper} {a : Act} {w : World} {f x : Operand} {ts : Array TypeId} {l : Nat} {r : Loop} (hop : o.op = .call { callee := .value f, args := #[x], argTypes := ts }) (hf : a.eval f = .func (.yield l) #[] #[]) (hl : w.heap[l]? = some (.loop r)) {p : Nat} (hs : r.params = #[p]) :
    (execOp a.eval o).run P w = .ok (.round l r.fn (r.tmps.setIfInBounds p (a.eval x)) r.assign r.body) w := by
  have h := run_yield (P := P) (args := #[a.eval x]) hl (by simp [hs])
  rw [hs] at h
  simp only [execOp, hop, resolve, hf, Deferred.ofValue, invoke]
  simpa using h
def fin (b : List Ty) (left p : Nat) (last : Int) : Nat × Nat :=
  if (decP b (bt b 3) left p last).2.2 ≠ 0 then (decP b (bt b 3) left p last).2 else if (decP b (bt b 3) left p last).2.1 < b.length then ((decP b (bt b 3) left p last).2.1, 3) else (0, 0)
theorem nx_off {b : List Ty} {p : Nat} {last : Int} {left n : Nat} (hp : p ≤ b.length) (h : (nx b p last left n).2.1 = false) : esOf (decP b (bt b 3) left p last).1 = [] ∧ ∃ p' last' left', (nx b p last left n).2.2.2 = eRd b p' last' left' n (fin b left p last).1 (fin b left p last).2 := by
  unfold nx at h ⊢
  unfold fin
  cases left with
  | zero =>
    simp only [if_true, decP]
    by_cases hl : p < b.length
    · refine ⟨rfl, p, last, 0, ?_⟩
      simp [hl]
    · refine ⟨rfl, p, last, 0, ?_⟩
      simp [hl]
  | succ k =>
    rw [if_neg (Nat.succ_ne_zero k)] at h ⊢
    rw [decP]
    split
    · rename_i he
      refine ⟨rfl, p, last, k + 1, ?_⟩
      simp only [if_pos he]
    · rename_i he
      rw [if_neg he] at h
      cases h
theorem nx_on {b : List Ty} {p : Nat} {last : Int} {left n : Nat} (h : (nx b p last left n).2.1 = true) : ∃ e p' k, left = k + 1 ∧ p' ≤ b.length ∧ nx b p last left n = (e, true, 0, eRd b p' e.pos k n 0 0) ∧
    esOf (decP b (bt b 3) left p last).1 = e :: esOf (decP b (bt b 3) k p' e.pos).1 ∧ fin b left p last = fin b k p' e.pos := by
  unfold nx at h ⊢
  cases left with
  | zero =>
    simp only [if_true] at h
    split at h <;> cases h
  | succ k =>
    rw [if_neg (Nat.succ_ne_zero k)] at h ⊢
    split at h
    · cases h
    · rename_i he
      have h0 := Classical.not_not.1 he
      rw [if_neg he]
      refine ⟨_, _, k, rfl, (entD_place h0).2, rfl, ?_, ?_⟩
      · rw [decP, if_neg he]; rfl
      · simp only [fin]
        rw [decP, if_neg he]
open Go.Proofs
noncomputable def o17 : Oper := (bO168.toList[5]?).getD default
noncomputable def o18 : Oper := (bO168.toList[6]?).getD default
noncomputable def o19 : Oper := (bO168.toList[7]?).getD default
theorem bO168_parts : bO168.toList = bO168.toList.take 5 ++ (o17 :: [o18, o19]) := by kernel_rfl
theorem o17_op : o17.op = .call { callee := .value (.tmp 15), args := #[.tmp 16], argTypes := #[86] } := by kernel_rfl
theorem o17_dst : o17.dst = some 17 := by kernel_rfl
theorem o17_guard (T : Env) : guardA bO168.toList T o17 = gq (T 14) false := by kernel_rfl
theorem nodefA : ∀ o ∈ asO.toList, ∀ c, o.op ≠ .defer c := by
  have h : (asO.toList.all fun o => match o.op with | .defer _ => false | _ => true) = true := by kernel_rfl
  intro o ho c hc
  have := List.all_eq_true.1 h o ho
  rw [hc] at this; cases this
theorem nodefB : ∀ o ∈ bdO.toList, ∀ c, o.op ≠ .defer c := by
  have h : (bdO.toList.all fun o => match o.op with | .defer _ => false | _ => true) = true := by kernel_rfl
  intro o ho c hc
  have := List.all_eq_true.1 h o ho
  rw [hc] at this; cases this
theorem body168 : Tryz.f168.body = some (.block 0 (.loop (.block 1 (.seq a168 (.seq b168 (.cond (.tmp 19) .ret .skip)))))) := by kernel_rfl
theorem res168 (tmps : Array Value) (w : World) : (results Tryz.f168 tmps).run Tryz.prog w = .ok (.tuple #[]) w := by
  have h : Tryz.f168.results = #[] := by kernel_rfl
  simp [results, h]
theorem sN_rd {b2 bc r b8 loc : Nat} {o : Option Nat} {es : List Ey} {rd rd' : List D} (ha : Ap b2 bc r b8) : (sN b2 bc r b8 loc o es rd).set r rd' = sN b2 bc r b8 loc o es rd' := by
  rw [sN, grS_set, sB, set_comm (Ne.symm ha.h6 |> Ne.symm), za2]; rfl
theorem b168_strip : strip b168 = rg [oO 12 (.move (tT 4)), oO 13 (.unOp .not 4 (tT 12)), oO 14 (.move (tT 13)), oG 15 (.move (tT 0)) 14 false, oG 16 (.load 86 (tT 3)) 14 false, oG 17 (cF (tT 15) #[tT 16] #[86]) 14 false, oG 18 (.unOp .not 4 (tT 17)) 14 false, oO 19 (.pick (tT 14) (.const (.bool true)) (tT 18))] := by kernel_rfl
theorem pre168_is : (bO168.toList.take 5).map (plainO bO168.toList) = [oO 12 (.move (tT 4)), oO 13 (.unOp .not 4 (tT 12)), oO 14 (.move (tT 13)), oG 15 (.move (tT 0)) 14 false, oG 16 (.load 86 (tT 3)) 14 false] := by kernel_rfl
theorem suf168_is : [o18, o19].map (plainO bO168.toList) = [oG 18 (.unOp .not 4 (tT 17)) 14 false, oO 19 (.pick (tT 14) (.const (.bool true)) (tT 18))] := by kernel_rfl
def E168 (l bc : Nat) : Env := envL [(0, .func (.yield l) [] []), (1, .ptr bc 0)]
section
variable {b : List Ty} {b2 bc r b8 loc n : Nat} {l : Nat}
theorem next_part {o : Option Nat} {es : List Ey} {p left : Nat} {last : Int} (ha : Ap b2 bc r b8) (ho : offB b2 bc r b8 o) (hl : b.length ≤ 140737488355328) (h6 : 6 ≤ b.length) (hp : p ≤ b.length) (hleft : left ≤ 4096) :
    vcA Tryz.prog 20 (strip a168) (fun x T' s => x = .normal ∧ ∃ b3, ¬ (sN b2 bc r b8 loc o es (nx b p last left n).2.2.2).has b3 ∧ s = (sN b2 bc r b8 loc o es (nx b p last left n).2.2.2).set b3 (eEy (nx b p last left n).1) ∧
      T' 0 = .func (.yield l) [] [] ∧ T' 1 = .ptr bc 0 ∧ T' 3 = .ptr b3 0 ∧ T' 4 = .bool (nx b p last left n).2.1) (E168 l bc) (sN b2 bc r b8 loc o es (eRd b p last left n 0 0)) := by
  rw [a168_is]
  have hbc : (sN b2 bc r b8 loc o es (eRd b p last left n 0 0)).box bc = some [.ptr r 0] := by
    rw [sN, grS_boxa, sB, St.set_box, if_neg (Ne.symm ha.h5), St.set_box, if_neg (Ne.symm ha.h3), St.set_box, if_pos rfl]
  have hbr : (sN b2 bc r b8 loc o es (eRd b p last left n 0 0)).box r = some (eRd b p last left n 0 0) := by
    rw [sN, grS_boxa, sB, St.set_box, if_neg (Ne.symm ha.h6), St.set_box, if_pos rfl]
  have hbf : (sN b2 bc r b8 loc o es (eRd b p last left n 0 0)).buf r = none := by
    cases o with
    | none => rfl
    | some x =>
      have := ho x rfl
      simp only [sN, grS, St.setBuf, sB, St.set]
      rw [if_neg (by omega)]
  have e0 : E168 l bc 0 = .func (.yield l) [] [] := rfl
  have e1 : E168 l bc 1 = .ptr bc 0 := rfl
  simp -implicitDefEqProofs only [go_sem, e0, e1, hbc, zb1, za8, zb0, anD, za2, ey_zero]
  refine callB_box (b := r) hbr hbf ((next169 b r p last left n hl (by omega) hp hleft).mono fun d s h => nx_eq h) ?_
  rw [sN_rd ha]
  generalize (nx b p last left n) = v at *
  obtain ⟨e, ok, err, rd⟩ := v
  simp -implicitDefEqProofs only [go_sem, e0, e1, zb1, za8, zb0, anD, za2, ey_zero]
  intro b3 hb3
  exact ⟨b3, hb3, rfl, rfl⟩
theorem left_of {M : MMap} {w : World} {o : Option Nat} {es : List Ey} {p left bad err : Nat} {last : Int} (ha : Ap b2 bc r b8) (hi : Inv M (sN b2 bc r b8 loc o es (eRd b p last left n bad err)) w) :
    (match w.cell? ⟨r, 3, none⟩ with | some (.int _ z) => z.toNat | _ => 0) = left := by
  have hbr : (sN b2 bc r b8 loc o es (eRd b p last left n bad err)).box r = some (eRd b p last left n bad err) := by
    rw [sN, grS_boxa, sB, St.set_box, if_neg (Ne.symm ha.h6), St.set_box, if_pos rfl]
  obtain ⟨c, e, h1, h2, h3⟩ := box_at hi hbr
  obtain ⟨v, hv, hr⟩ := h2.get (i := 3) (d := .int .i64 left) rfl
  obtain rfl := hr
  rw [cell_of h1 (by simpa using hv)]
  simp
abbrev LD (M₀ : MMap) (σ₀ : St) (w₀ : World) (T : Env) (l dk : Nat) (fn : FuncId) (tm : Array Value) (M : MMap) (σ : St) (w : World) : Prop :=
  LInv 48 M₀ σ₀ w₀ T l dk fn tm #[26] (.region 6 asO false) (.block 1 (.region 7 bdO false)) M σ w
def I168 (b : List Ty) (b2 bc r b8 n l : Nat) (M₀ : MMap) (σ₀ : St) (w₀ : World) (T : Env) (dk : Nat) (fn : FuncId) (tm : Array Value) (ES : List Ey) (FN : Nat × Nat) (a : Act) (w : World) : Prop :=
  ∃ M o es p left last, LD M₀ σ₀ w₀ T l dk fn tm M (sN b2 bc r b8 (bt b 3) o es (eRd b p last left n 0 0)) w ∧ AInv 20 M (E168 l bc) (sN b2 bc r b8 (bt b 3) o es (eRd b p last left n 0 0)) a w ∧
    offB b2 bc r b8 o ∧ (o = none → es = []) ∧ p ≤ b.length ∧ es.length + left ≤ 4096 ∧ ES = es ++ esOf (decP b (bt b 3) left p last).1 ∧ FN = fin b left p last
def R168 (b : List Ty) (b2 bc r b8 n l : Nat) (M₀ : MMap) (σ₀ : St) (w₀ : World) (T : Env) (dk : Nat) (fn : FuncId) (tm : Array Value) (ES : List Ey) (FN : Nat × Nat) (e : Ending) (w : World) : Prop :=
  e = .returned (.tuple #[]) ∧ ∃ M o p left last, LD M₀ σ₀ w₀ T l dk fn tm M (sN b2 bc r b8 (bt b 3) o ES (eRd b p last left n FN.1 FN.2)) w
theorem round168 {M₀ : MMap} {σ₀ : St} {w₀ : World} {T : Env} {dk : Nat} {fn : FuncId} {tm : Array Value} {ES : List Ey} {FN : Nat × Nat} (ha : Ap b2 bc r b8) (hl : b.length ≤ 140737488355328) (h6 : 6 ≤ b.length) (h8 : T 8 = .ptr b8 0) (a : Act) (w : World)
    (hI : I168 b b2 bc r b8 n l M₀ σ₀ w₀ T dk fn tm ES FN a w) :
    (Code.block 1 (.seq a168 (.seq b168 (.cond (.tmp 19) .ret .skip)))).wpIn Fence.wide 0 Tryz.prog
      (Exit.then (fun a' w' => I168 b b2 bc r b8 n l M₀ σ₀ w₀ T dk fn tm ES FN a' w' ∧ (match w'.cell? ⟨r, 3, none⟩ with | some (.int _ z) => z.toNat | _ => 0) < (match w.cell? ⟨r, 3, none⟩ with | some (.int _ z) => z.toNat | _ => 0))
        (Exit.inBlock 0 (bodyPost Tryz.prog Tryz.f168 (R168 b b2 bc r b8 n l M₀ σ₀ w₀ T dk fn tm ES FN)))) a w := by
  obtain ⟨M, o, es, p, left, last, hL, hi, ho, hn, hp, hle, hES, hFN⟩ := hI
  have hN : decide (20 ≤ 1000000) = true := rfl
  rw [left_of ha hL.inv]
  refine wpIn_block (wpIn_seq (wpIn_wide.2 (Code.wp_mono ?_ (vcA_sound Tryz.follows_mixed (by decide) a168 (next_part (l := l) ha ho hl h6 hp (by omega)) M a w hi))))
  rintro e a1 w1 ⟨M1, T1, s1, x, hx, hi1, hk1, rfl, b3, hb3, rfl, t0, t1, t3, t4⟩
  obtain rfl := hx
  have hL1 := hL.keep hk1 hi1.inv
  show (Code.seq b168 (.cond (.tmp 19) .ret .skip)).wpIn Fence.wide 0 Tryz.prog _ a1 w1
  by_cases hok : (nx b p last left n).2.1 = true
  case neg =>
    have hf : (nx b p last left n).2.1 = false := by simpa using hok
    obtain ⟨hz, p', last', left', hrd⟩ := nx_off hp hf
    rw [hf] at t4
    rw [hrd] at hb3 hi1 hL1
    refine wpIn_wide.2 (Code.wp_mono ?_ (vcA_sound (N := 20) Tryz.follows_mixed (by decide) (.seq b168 (.cond (.tmp 19) .ret .skip)) (Q := fun x T' s => x = .ret ∧ s = (sN b2 bc r b8 (bt b 3) o es (eRd b p' last' left' n (fin b left p last).1 (fin b left p last).2)).set b3 (eEy (nx b p last left n).1)) ?_ M1 a1 w1 hi1))
    · rintro e a2 w2 ⟨M2, T2, s2, x, hx, hi2, hk2, rfl, rfl⟩
      obtain rfl := hx
      refine ⟨hi2.defers, _, res168 _ _, rfl, M2, o, p', left', last', ?_⟩
      have := (hL1.keep hk2 hi2.inv).less (le_add hb3)
      rw [hES, hFN, hz, List.append_nil]
      exact this
    · show vcA Tryz.prog 20 (.seq (strip b168) (.cond (.tmp 19) .ret .skip)) _ T1 _
      rw [b168_strip]
      simp -implicitDefEqProofs only [go_sem, t0, t1, t3, t4]
  obtain ⟨e, p', k, hk, hpb, hnx, hES', hFN'⟩ := nx_on hok
  rw [hnx] at hb3 hi1 hL1 t4
  simp only at hb3 hi1 hL1 t4
  have hsub : St.le (sN b2 bc r b8 (bt b 3) o es (eRd b p' e.pos k n 0 0)) ((sN b2 bc r b8 (bt b 3) o es (eRd b p' e.pos k n 0 0)).set b3 (eEy e)) := le_add hb3
  refine wpIn_seq ?_
  rw [b168_is]
  refine wpIn_region_list ?_
  rw [bO168_parts]
  refine list_wide_cut (Q := Post 20 M1 ((sN b2 bc r b8 (bt b 3) o es (eRd b p' e.pos k n 0 0)).set b3 (eEy e)) w1 fun x T' s => x = .normal ∧ s = (sN b2 bc r b8 (bt b 3) o es (eRd b p' e.pos k n 0 0)).set b3 (eEy e) ∧ T' 0 = .func (.yield l) [] [] ∧ T' 1 = .ptr bc 0 ∧ T' 14 = .bool false ∧ T' 15 = .func (.yield l) [] [] ∧ T' 16 = .agg (eEy e)) noOut ?_ ?_ _ a1 w1 ?_
  · rintro e' a' w' hne ⟨M', T', s', x, hx, _, _, rfl, _⟩
    exact absurd hx hne
  · rintro a2 w2 ⟨M2, T2, s2, x, hx, hi2, hk2, -, rfl, u0, u1, u14, u15, u16⟩
    have hL2 := hL1.keep hk2 hi2.inv
    have hw : Region.wanted o17 (yielded bO168 a2.tmps) = true := guardA_sound (by rw [o17_guard, u14]; rfl) hi2
    have hf15 : a2.eval (.tmp 15) = .func (.yield l) #[] #[] := by
      have := hi2.env 15
      rw [u15] at this
      obtain ⟨vf, vc, h1, h2, h3⟩ := this
      have e2 : vf = #[] := by simpa [zf6] using h2
      have e3 : vc = #[] := by simpa [zf6] using h3
      subst e2; subst e3; exact h1
    have hv : Rep M2 w2 (.agg (eEy e)) (a2.eval (.tmp 16)) := by have := hi2.env 16; rw [u16] at this; exact this
    rw [wpListIn, if_pos hw]
    refine ⟨fun f _ => trivial, ?_⟩
    rw [show Fence.wide.round = none from rfl, show Oper.semAt none a2.eval o17 = execOp a2.eval o17 from rfl, yield_op o17_op hf15 hL2.lrec rfl, Oper.uponIn_round]
    refine ⟨fun hd => absurd hd (by simp [Fence.wide]), ?_⟩
    refine (round_sound (n := 0 - 1) (P := Tryz.prog) (hN := by decide) (hL2.less hsub) (p := 26) (by decide) hv nodefA nodefB
      (round94 (J := fun s' => ∃ o', offB b2 bc r b8 o' ∧ o' ≠ none ∧ St.le (sN b2 bc r b8 (bt b 3) o' (es ++ [e]) (eRd b p' e.pos k n 0 0)) s') ha ho hn (by omega) h8 fun o' s' h1 h2 h3 => ⟨o', h1, h2, h3⟩)).mono ?_
    rintro e' w3 ⟨rfl, M3, s3, hL3, hK3, o', ho', hno', hle3⟩
    have hL3' := hL3.less hle3
    have hi3 : AInv 20 M3 (upd T2 17 (.bool true)) (sN b2 bc r b8 (bt b 3) o' (es ++ [e]) (eRd b p' e.pos k n 0 0)) (a2.put o17.dst (.bool true)) w3 := by
      rw [o17_dst]
      exact (hi2.keep hK3 hL3'.inv).put (dst := some 17) (d := .bool true) (v := .bool true) (fun t ht => by cases ht; decide) rfl
    show wpListIn Fence.wide 0 Tryz.prog bO168 _ ([o18, o19] ++ []) _ _
    refine list_wide_cut (Q := Post 20 M3 (sN b2 bc r b8 (bt b 3) o' (es ++ [e]) (eRd b p' e.pos k n 0 0)) w3 fun x T' s => x = .normal ∧ s = sN b2 bc r b8 (bt b 3) o' (es ++ [e]) (eRd b p' e.pos k n 0 0) ∧ T' 0 = .func (.yield l) [] [] ∧ T' 1 = .ptr bc 0 ∧ T' 19 = .bool false) noOut ?_ ?_ _ _ w3 ?_
    · rintro e' a' w' hne ⟨M', T', s', x, hx, _, _, rfl, _⟩
      exact absurd hx hne
    · rintro a4 w4 ⟨M4, T4, s4, x, hx, hi4, hk4, -, rfl, v0, v1, v19⟩
      have hc : a4.eval (.tmp 19) = .bool false := by have := hi4.env 19; rw [v19] at this; exact this
      refine wpIn_cond_false hc (wpIn_skip ?_)
      have hL4 := hL3'.keep hk4 hi4.inv
      refine ⟨⟨M4, o', es ++ [e], p', k, e.pos, hL4, hi4.forget ?_ (St.le.refl _), ho', fun h => absurd h hno', hpb, by simp; omega, by rw [hES, hES', List.append_assoc]; rfl, hFN.trans hFN'⟩, ?_⟩
      · refine envL_le fun q hq => ?_
        simp only [List.mem_cons, List.not_mem_nil, or_false] at hq
        rcases hq with rfl | rfl
        · exact v0
        · exact v1
      · rw [left_of ha hL4.inv]; omega
    · refine aopsD_plain (M := M3) (by decide) [o18, o19] ?_ hi3 hi3.inv.dom (KeepF.refl _ _ _)
      rw [suf168_is]
      simp -implicitDefEqProofs only [go_sem, u0, u1, u14]
  · refine aopsD_plain (M := M1) (by decide) (bO168.toList.take 5) ?_ hi1 hi1.inv.dom (KeepF.refl _ _ _)
    rw [pre168_is]
    simp -implicitDefEqProofs only [go_sem, t0, t1, t3, t4, zb1, za8, zb0]
theorem all168 {M₀ : MMap} {σ₀ : St} {w₀ : World} {T : Env} {dk : Nat} {fn : FuncId} {tm : Array Value} {M : MMap} {w : World} (ha : Ap b2 bc r b8) (hl : b.length ≤ 140737488355328) (h6 : 6 ≤ b.length) (h8 : T 8 = .ptr b8 0) {left : Nat} (hle : left ≤ 4096)
    (hL : LD M₀ σ₀ w₀ T l dk fn tm M (sN b2 bc r b8 (bt b 3) none [] (eRd b 6 (-1) left n 0 0)) w) :
    Calls Tryz.prog 168 #[.func (.yield l) #[] #[], .pointer (some ⟨bc, 0, none⟩)] w (R168 b b2 bc r b8 n l M₀ σ₀ w₀ T dk fn tm (esOf (decP b (bt b 3) left 6 (-1)).1) (fin b left 6 (-1))) := by
  refine calls_of_wp Tryz.func168 body168 ?_
  obtain ⟨tms, htms⟩ : ∃ tms, (#[.func (.yield l) #[] #[], .pointer (some ⟨bc, 0, none⟩)] ++ Array.replicate (Tryz.f168.ntmps - 2) undef : Array Value) = tms := ⟨_, rfl⟩
  have hsz : tms.size = 20 := by rw [← htms, Tryz.ntmps168]; simp
  have hra : zf6 M w [.func (.yield l) [] [], .ptr bc 0] [.func (.yield l) #[] #[], .pointer (some ⟨bc, 0, none⟩)] := ⟨_, _, rfl, ⟨_, _, rfl, rfl, rfl⟩, _, _, rfl, rfl, rfl⟩
  have hi0 : AInv 20 M (envOf [.func (.yield l) [] [], .ptr bc 0]) (sN b2 bc r b8 (bt b 3) none [] (eRd b 6 (-1) left n 0 0)) { tmps := tms, defers := [] } w :=
    ⟨hL.inv, hsz, rfl, fun t => by rw [← htms]; exact envOf_rep hra _ t⟩
  have hie : Env.le (E168 l bc) (envOf [.func (.yield l) [] [], .ptr bc 0]) := envL_le fun q hq => by
    simp only [List.mem_cons, List.not_mem_nil, or_false] at hq
    rcases hq with rfl | rfl <;> rfl
  refine Code.wp_mono (Q := Exit.inBlock 0 (bodyPost Tryz.prog Tryz.f168 (R168 b b2 bc r b8 n l M₀ σ₀ w₀ T dk fn tm (esOf (decP b (bt b 3) left 6 (-1)).1) (fin b left 6 (-1))))) ?_ ?_ |> wp_block
  · exact fun e a w h => h
  show (Code.loop _).wp Tryz.prog _ { tmps := (#[.func (.yield l) #[] #[], .pointer (some ⟨bc, 0, none⟩)] ++ Array.replicate (Tryz.f168.ntmps - 2) undef : Array Value), defers := [] } w
  rw [htms]
  refine (wpIn_wide (n := 0)).1 (wpIn_loop (I168 b b2 bc r b8 n l M₀ σ₀ w₀ T dk fn tm (esOf (decP b (bt b 3) left 6 (-1)).1) (fin b left 6 (-1))) (fun _ w => match w.cell? ⟨r, 3, none⟩ with | some (.int _ z) => z.toNat | _ => 0) ?_ fun a w hI => round168 ha hl h6 h8 a w hI)
  exact ⟨M, none, [], 6, left, -1, hL, hi0.forget hie (St.le.refl _), fun b hb => (by cases hb), fun _ => rfl, h6, by simpa using hle, rfl, rfl⟩
end
open Go.Proofs
noncomputable def p94 (i : Nat) : Code := match i with
  | 0 => sL k94
  | 1 => sL (sR k94)
  | 2 => sL (sR (sR k94))
  | 3 => sL (sR (sR (sR k94)))
  | 4 => sL (sL (sR (sR (sR (sR k94)))))
  | 5 => sL (sR (sR (sR (sR (sR k94)))))
  | _ => sL (sR (sR (sR (sR (sR (sR k94))))))
theorem body94 : Tryz.f94.body = some (chainC [p94 0, p94 1, p94 2, p94 3] (.seq (.seq (p94 4) (.block 0 (.rangeFunc (.tmp 25) #[26] (.region 6 asO false) (.block 1 (.region 7 bdO false))))) (chainC [p94 5, p94 6] .ret))) := by kernel_rfl
theorem pre94 : chainA [p94 0, p94 1, p94 2, p94 3] = .seq (acL c94) (.seq (acL (acR c94)) (.seq (acL (acR (acR c94))) (acL (acR (acR (acR c94)))))) := by kernel_rfl
theorem mid94 : chainA [p94 4] = acL (acL (acR (acR (acR (acR c94))))) := by kernel_rfl
theorem suf94 : chainA [p94 5, p94 6] = .seq (acL (acR (acR (acR (acR (acR c94)))))) (acL (acR (acR (acR (acR (acR (acR c94))))))) := by kernel_rfl
theorem rs94 : Tryz.f94.results.toList = [.cell 2 52, .tmp 3, .tmp 4] := by kernel_rfl
theorem ahead94 (b : List Ty) (o : Own) (hl : b.length ≤ 140737488355328) (T : Env) (hT : ∀ t, T t = envOf [.slice o (rws eT b)] t) : vcA Tryz.prog 48 (chainA [p94 0, p94 1, p94 2, p94 3])
    (fun x T' s => (x = .ret ∧ (headD b).2 ≠ 0 ∧ ∃ d, resA Tryz.prog T' s Tryz.f94.results.toList = some d ∧ DLe d (.tup [.agg (eCt ct0), .int .i64 (headD b).1, .int .i64 (headD b).2])) ∨
      (x = .normal ∧ (headD b).2 = 0 ∧ ∃ b2 r b8, r ≠ b2 ∧ b8 ≠ b2 ∧ b8 ≠ r ∧ s = ((({} : St).set b2 [.int .i64 0, .slice .nil []]).set r (eRd b 6 (-1) (word2 b 4) (word2 b 4) 0 0)).set b8 [.int .i64 (bt b 3), .slice .nil []] ∧ T' 2 = .ptr b2 0 ∧ T' 5 = .ptr r 0 ∧ T' 8 = .ptr b8 0)) T {} := by
  rw [pre94, rs94]
  simp -implicitDefEqProofs only [go_sem, c94, acL, acR, hT, eRd_len, rd_0, rd_7, zb8, rws_one eT_len, gdD, za2, za3]
  intro b2
  refine callB_under (s := {}) [.bx b2 [.int .i64 0, .slice .nil []]] ⟨St.not_has_nil _, trivial⟩ (((open134 b hl).args (.cons (DLe.slice _ _) .nil)).xcall (Rp := fun _ _ => False)) (fun d s' hR hoff => ?_) fun d s' h => h.elim
  have hb2 : ¬ s'.has b2 := hoff.1
  clear hoff
  by_cases h0 : (headD b).2 = 0
  case neg =>
    rw [openR_no h0] at hR
    obtain ⟨rfl, rfl⟩ := hR
    have q0 : (((headD b).2 : Int) = 0) = False := by simp; omega
    have hp : putL ({} : St) [.bx b2 [.int .i64 0, .slice .nil []]] = ({} : St).set b2 [.int .i64 0, .slice .nil []] := rfl
    simp -implicitDefEqProofs only [go_sem, hp, hT, eRd_len, rd_0, rd_7, zb8, rws_one eT_len, gdD, za2, za3, q0, h0]
    exact .inl ⟨_, rfl, DLe.tup (.cons (DLe.agg (.cons (.refl _) (.cons (DLe.slice _ _) .nil))) (.refl _))⟩
  rw [openR_yes h0] at hR
  obtain ⟨r, rfl, rfl⟩ := hR
  have hrb : r ≠ b2 := fun h => hb2 (by rw [set_has]; exact .inl h.symm)
  have hp : putL (({} : St).set r (eRd b 6 (-1) (word2 b 4) (word2 b 4) 0 0)) [.bx b2 [.int .i64 0, .slice .nil []]] = (({} : St).set b2 [.int .i64 0, .slice .nil []]).set r (eRd b 6 (-1) (word2 b 4) (word2 b 4) 0 0) := by
    show (({} : St).set r _).set b2 _ = _
    rw [set_comm hrb]
  simp -implicitDefEqProofs only [go_sem, hp, hT, eRd_len, rd_0, rd_7, zb8, rws_one eT_len, gdD, za2, za3, h0, Int.ofNat_zero]
  refine callB_box (b := r) (by simp [St.set]) (by simp [St.set]) (locals135 b r 6 (-1) (word2 b 4) (word2 b 4) 0 0 (by have := headD_zero h0; omega)) ?_
  simp -implicitDefEqProofs only [go_sem, hT, eRd_len, rd_0, rd_7, zb8, rws_one eT_len, gdD, za2, za3, h0, Int.ofNat_zero]
  intro b8 h1 h2
  intro h3 h4
  exact .inr ⟨b2, r, b8, hrb, h3, h1, rfl, rfl, rfl, rfl⟩
theorem sN_nil {b2 bc r b8 loc : Nat} {rd : List D} : sN b2 bc r b8 loc none [] rd = (((({} : St).set b2 [.int .i64 0, .slice .nil []]).set bc [.ptr r 0]).set r rd).set b8 [.int .i64 loc, .slice .nil []] := rfl
theorem mid94_ok [DSt] (b : List Ty) {b2 r b8 left : Nat} {T : Env} (h2 : r ≠ b2) (h4 : b8 ≠ b2) (h6 : b8 ≠ r) (t2 : T 2 = .ptr b2 0) (t5 : T 5 = .ptr r 0) (t8 : T 8 = .ptr b8 0) :
    vcA Tryz.prog 48 (chainA [p94 4]) (fun x T' s => x = .normal ∧ ∃ bc, Ap b2 bc r b8 ∧ s = sN b2 bc r b8 (bt b 3) none [] (eRd b 6 (-1) left left 0 0) ∧ T' 2 = .ptr b2 0 ∧ T' 5 = .ptr r 0 ∧ T' 8 = .ptr b8 0 ∧ T' 25 = .func (.func 168) [] [.ptr bc 0])
      T (((({} : St).set b2 [.int .i64 0, .slice .nil []]).set r (eRd b 6 (-1) left left 0 0)).set b8 [.int .i64 (bt b 3), .slice .nil []]) := by
  rw [mid94]
  simp -implicitDefEqProofs only [go_sem, c94, acL, acR, t2, t5, t8]
  refine callB_under (s := {}) [.bx b2 [.int .i64 0, .slice .nil []], .bx r (eRd b 6 (-1) left left 0 0), .bx b8 [.int .i64 (bt b 3), .slice .nil []]] ⟨St.not_has_nil _, St.not_has_nil _, St.not_has_nil _, trivial⟩ ((all136 r).xcall (Rp := fun _ _ => False)) (fun d s' hR hoff => ?_) fun d s' h => h.elim
  obtain ⟨bc, rfl, rfl⟩ := hR
  obtain ⟨o1, o2, o3, -⟩ := hoff
  have n1 : bc ≠ b2 := fun h => o1 (by rw [set_has]; exact .inl h.symm)
  have n2 : r ≠ bc := fun h => o2 (by rw [set_has]; exact .inl h)
  have n3 : b8 ≠ bc := fun h => o3 (by rw [set_has]; exact .inl h)
  have hp : putL (({} : St).set bc [.ptr r 0]) [.bx b2 [.int .i64 0, .slice .nil []], .bx r (eRd b 6 (-1) left left 0 0), .bx b8 [.int .i64 (bt b 3), .slice .nil []]] = sN b2 bc r b8 (bt b 3) none [] (eRd b 6 (-1) left left 0 0) := by
    rw [sN_nil]
    show (((({} : St).set bc _).set b2 _).set r _).set b8 _ = _
    rw [set_comm n1]
  rw [hp]
  simp -implicitDefEqProofs only [go_sem, t2, t5, t8]
  exact ⟨bc, ⟨n1, h2, n2, h4, n3, h6⟩, rfl, rfl⟩
theorem after94_ok [DSt] (b : List Ty) {b2 bc r b8 p left n bad err : Nat} {last : Int} {o : Option Nat} {ES : List Ey} {T : Env} (ha : Ap b2 bc r b8) (t2 : T 2 = .ptr b2 0) (t5 : T 5 = .ptr r 0) (t8 : T 8 = .ptr b8 0) :
    vcA Tryz.prog 48 (chainA [p94 5, p94 6]) (fun x T' s => (x = .ret ∨ x = .normal) ∧ ∃ d, resA Tryz.prog T' s Tryz.f94.results.toList = some d ∧
      DLe d (if err ≠ 0 then .tup [.agg (eCt ct0), .int .i64 bad, .int .i64 err] else .tup [.agg (eCt ⟨bt b 3, ES⟩), .int .i64 0, .int .i64 0]))
      T (sN b2 bc r b8 (bt b 3) o ES (eRd b p last left n bad err)) := by
  obtain ⟨S0, hS0⟩ : ∃ S0, sN b2 bc r b8 (bt b 3) o ES (eRd b p last left n bad err) = S0 := ⟨_, rfl⟩
  have hbr : S0.box r = some (eRd b p last left n bad err) := by
    rw [← hS0, sN, grS_boxa, sB, St.set_box, if_neg (Ne.symm ha.h6), St.set_box, if_pos rfl]
  have hb2 : S0.box b2 = some [.int .i64 0, .slice .nil []] := by
    rw [← hS0, sN, grS_boxa, sB, St.set_box, if_neg (Ne.symm ha.h4), St.set_box, if_neg (Ne.symm ha.h2), St.set_box, if_neg (Ne.symm ha.h1), St.set_box, if_pos rfl]
  have hb8 : S0.box b8 = some [.int .i64 (bt b 3), grD 28 o (rws eEy ES)] := by rw [← hS0, sN, grS_boxa, sB, St.set_box, if_pos rfl]; rfl
  rw [hS0, suf94, rs94]
  by_cases h0 : err = 0
  case neg =>
    have q0 : ((err : Int) = 0) = False := by simp; omega
    rw [if_pos h0]
    simp -implicitDefEqProofs only [go_sem, c94, acL, acR, t2, t5, t8, hbr, hb2, hb8, q0, eRd_len, rd_5, rd_6, zb8, rws_one eT_len, gdD, za2, za3]
    exact ⟨fun x hx => by simp [hx, hbr], Ne.symm ha.h2, _, rfl, DLe.tup (.cons (DLe.agg (.cons (.refl _) (.cons (DLe.slice _ _) .nil))) (.refl _))⟩
  rw [if_neg (by simp [h0])]
  subst h0
  simp -implicitDefEqProofs only [go_sem, c94, acL, acR, t2, t5, t8, hbr, hb2, hb8, Int.ofNat_zero, eRd_len, rd_5, rd_6, zb8, rws_one eT_len, gdD, za2, za3]
  exact ⟨_, rfl, DLe.tup (.cons (DLe.agg (.cons (.refl _) (.cons grD_le .nil))) (.refl _))⟩
theorem decC_fin {b : List Ty} (h : (headD b).2 = 0) : decC b = if (fin b (word2 b 4) 6 (-1)).2 ≠ 0 then (ct0, fin b (word2 b 4) 6 (-1)) else (⟨bt b 3, esOf (decP b (bt b 3) (word2 b 4) 6 (-1)).1⟩, 0, 0) := by
  unfold decC toldD fin
  rw [if_neg (show ¬ (headD b).2 ≠ 0 by simp [h])]
  by_cases h1 : (decP b (bt b 3) (word2 b 4) 6 (-1)).2.2 ≠ 0
  · simp only [if_pos h1]
  · simp only [if_neg h1]
    by_cases h2 : (decP b (bt b 3) (word2 b 4) 6 (-1)).2.1 < b.length
    · simp only [if_pos h2]
    · simp only [if_neg h2]
theorem leaves_mark {P : Program} {fn : Func} {N n dk : Nat} {M : MMap} {T : Env} {σ : St} {a : Act} {w : World} {d d' : D} {R : Ending → World → Prop} [DSt] (hi : AInv N M T σ a w) (hd : a.defers = [{ target := .collected dk, args := #[] }]) (hk : w.heap[dk]? = some (.deferred (some []))) (hM : M dk = some .box) (hs : ¬ σ.has dk)
    (hr : resA P T σ fn.results.toList = some d) (hle : DLe d d') (hR : ∀ v, Rep M (w.putObj dk (.deferred none)) d' v → R (.returned v) (w.putObj dk (.deferred none))) : LeavesInM Fence.wide n P fn a.tmps R a.defers .returning w := by
  rw [hd]
  refine ⟨by simp, .inl ⟨dk, _, rfl, run_takeDeferred hk, ?_⟩⟩
  have hi' := ainv_put (o := .deferred none) hi hM hs
  obtain ⟨v, hv, hrep⟩ := resA_sound hr hi'
  exact ⟨v, hv, hR v (hle _ _ _ hrep)⟩
theorem decode94 (b : List Ty) (o : Own) (hl : b.length ≤ 140737488355328) : zf9 Tryz.prog 94 [.slice o (rws eT b)] (.tup [.agg (eCt (decC b).1), .int .i64 (decC b).2.1, .int .i64 (decC b).2.2]) := by
  refine ⟨⟨Tryz.f94, Tryz.func94, rfl, rfl⟩, fun M w vs hi hv => ?_⟩
  refine (callsIn_wide (n := 0)).1 (callsIn_of_wp_marks Tryz.func94 body94 trivial ?_)
  obtain ⟨tms, htms⟩ : ∃ tms, (vs.toArray ++ Array.replicate (Tryz.f94.ntmps - vs.toArray.size) undef : Array Value) = tms := ⟨_, rfl⟩
  have hlen : vs.length = 1 := by have := hv.length; simpa using this.symm
  have hsz : tms.size = 48 := by rw [← htms, Tryz.ntmps94]; simp [hlen]
  have hi0 : AInv 48 M (envOf [.slice o (rws eT b)]) {} { tmps := tms, defers := [] } w := ⟨hi, hsz, rfl, fun t => by rw [← htms]; exact envOf_rep hv _ t⟩
  rw [htms]
  refine wpIn_chain Tryz.follows_mixed (by decide) hi.dom ?hy1 ?hx1 _ (ahead94 b o hl _ fun t => rfl) hi0 (KeepF.refl _ _ _)
  case hx1 =>
    rintro e a1 w1 hne ⟨M1, T1, s1, x, hx, hi1, hk1, ⟨rfl, h0, d, hd, hle⟩ | ⟨rfl, -⟩⟩
    · obtain rfl := hx
      obtain ⟨v, hv1, hr1⟩ := resA_sound hd hi1
      show LeavesInM Fence.wide 0 Tryz.prog Tryz.f94 a1.tmps _ a1.defers .returning w1
      rw [show a1.defers = [] from hi1.defers]
      refine ⟨v, hv1, M1, {}, .ret _, ⟨v, rfl, ?_⟩, hi1.inv.less (St.le.nil _), hk1.less (St.le.nil _), rfl, rfl⟩
      have hz : decC b = (ct0, headD b) := by unfold decC toldD; simp [h0]
      rw [hz]; exact hle _ _ _ hr1
    · exact absurd hx hne
  rintro a1 w1 ⟨M1, T1, s1, x, hx, hi1, hk1, -, ⟨hh, -⟩ | ⟨-, h0, b2, r, b8, h2, h4, h6, rfl, t2, t5, t8⟩⟩
  · cases hh; exact absurd hx (by simp [RepX])
  obtain ⟨hb6, hloc, hcnt⟩ := headD_zero h0
  refine wpIn_seq (wpIn_chain Tryz.follows_mixed (by decide) hi.dom ?hy2 ?hx2 _ (mid94_ok b h2 h4 h6 t2 t5 t8) hi1 hk1)
  case hx2 =>
    rintro e a2 w2 hne ⟨M2, T2, s2, x, hx, hi2, hk2, rfl, -⟩
    exact absurd hx hne
  rintro a2 w2 ⟨M2, T2, s2, x, hx, hi2, hk2, -, -, bc, ha, rfl, u2, u5, u8, u25⟩
  refine wpIn_block (wpIn_rangeFunc fun fn _ => ?_)
  have hg : a2.eval (.tmp 25) = .func (.func 168) #[] #[.pointer (some ⟨bc, 0, none⟩)] := by
    have := hi2.env 25
    rw [u25] at this
    obtain ⟨vf, vc, e1, e2, e3⟩ := this
    obtain ⟨v, vs', e4, e5, e6⟩ := e3
    have e7 : vf = #[] := by simpa [zf6] using e2
    obtain rfl := e5
    obtain rfl := e6
    have e8 : vc = #[.pointer (some ⟨bc, 0, none⟩)] := by rw [← Array.toList_inj]; exact e4
    rw [e7, e8] at e1; exact e1
  obtain ⟨W1, hW1⟩ : ∃ W1, ((w2.alloc (.deferred (some []))).alloc (.loop { state := .ready, pending := none, fn, tmps := a2.tmps, params := #[26], assign := .region 6 asO false, body := .block 1 (.region 7 bdO false), defers := w2.heap.size })) = W1 := ⟨_, rfl⟩
  have hen : (Instr.enterLoop fn a2.tmps #[26] (.region 6 asO false) (.block 1 (.region 7 bdO false)) Fence.wide.round).run Tryz.prog w2 = .ok (w2.heap.size + 1, [{ target := .collected w2.heap.size, args := #[] }]) W1 := by
    rw [← hW1]; exact run_enterLoop_outer fn a2.tmps _ _ _
  have hres : (resolve a2.eval (rangeCall (.tmp 25) (w2.heap.size + 1)) 0).run Tryz.prog W1 = .ok { target := .fn (.func 168) #[.pointer (some ⟨bc, 0, none⟩)], args := #[.func (.yield (w2.heap.size + 1)) #[] #[]] } W1 := by
    simp [resolve, hg, Deferred.ofValue, eval_const]
  have hinv : (invoke (.fn (.func 168) #[.pointer (some ⟨bc, 0, none⟩)]) #[.func (.yield (w2.heap.size + 1)) #[] #[]]).run Tryz.prog W1 = .ok (.enter 168 #[.func (.yield (w2.heap.size + 1)) #[] #[], .pointer (some ⟨bc, 0, none⟩)]) W1 := by
    exact callFunc_run ⟨Tryz.f168, Tryz.func168, rfl, rfl⟩ _ _
  refine ⟨w2.heap.size + 1, [{ target := .collected w2.heap.size, args := #[] }], W1, _, W1, 168, _, W1, hen, hres, fun _ _ => trivial, hinv, fun h => absurd h (by simp [Fence.wide]), callsIn_wide.2 ?_⟩
  obtain ⟨i1, k1⟩ := inv_rec hi2.inv (.deferred (some []))
  obtain ⟨i2, k2⟩ := inv_rec i1 (.loop { state := .ready, pending := none, fn, tmps := a2.tmps, params := #[26], assign := .region 6 asO false, body := .block 1 (.region 7 bdO false), defers := w2.heap.size })
  have hs1 : (w2.alloc (.deferred (some []))).heap.size = w2.heap.size + 1 := heap_alloc_size _ _
  rw [hs1, hW1] at i2 k2
  have k12 := k1.trans hi2.inv.dom k2
  have hlt : ∀ x, (sN b2 bc r b8 (bt b 3) none [] (eRd b 6 (-1) (word2 b 4) (word2 b 4) 0 0)).has x → x < w2.heap.size := fun x hx => hi2.inv.dom x (hi2.inv.lt hx)
  have hL : LD M2 (sN b2 bc r b8 (bt b 3) none [] (eRd b 6 (-1) (word2 b 4) (word2 b 4) 0 0)) w2 T2 (w2.heap.size + 1) w2.heap.size fn a2.tmps (updM (updM M2 w2.heap.size) (w2.heap.size + 1)) (sN b2 bc r b8 (bt b 3) none [] (eRd b 6 (-1) (word2 b 4) (word2 b 4) 0 0)) W1 :=
    { inv := i2, ml := by simp [updM], md := by simp [updM], nl := fun hx => by have := hlt _ hx; omega, nd := fun hx => by have := hlt _ hx; omega, ne := by omega, hl := by omega, hdk := by omega, dom₀ := hi2.inv.dom, old := k12
      lrec := by rw [← hW1, ← hs1]; exact World.alloc_heap_new _ _
      dfr := by rw [← hW1, heap_alloc_old (by rw [hs1]; omega)]; exact World.alloc_heap_new _ _
      size := hi2.size
      env := fun t => (hi2.env t).keep k12.toKeep }
  refine (all168 ha hl hb6 u8 hcnt hL).mono ?_
  rintro e w3 ⟨rfl, M3, o3, p3, left3, last3, hL3⟩
  refine ⟨none, _, run_endLoop hL3.lrec (by simp), ?_⟩
  have hz2 := hi2.size
  have hf2 : a2.defers = [] := hi2.defers
  have hdm2 := hi2.inv.dom
  letI : DSt := ⟨[{ target := .collected w2.heap.size, args := #[] }]⟩
  obtain ⟨w4, hw4⟩ : ∃ w4, w3.putObj (w2.heap.size + 1) (.loop { state := .exhausted, pending := none, fn := fn, tmps := a2.tmps, params := #[26], assign := .region 6 asO false, body := .block 1 (.region 7 bdO false), defers := w2.heap.size }) = w4 := ⟨_, rfl⟩
  have hi4 : AInv 48 M3 T2 (sN b2 bc r b8 (bt b 3) o3 (esOf (decP b (bt b 3) (word2 b 4) 6 (-1)).1) (eRd b p3 last3 left3 (word2 b 4) (fin b (word2 b 4) 6 (-1)).1 (fin b (word2 b 4) 6 (-1)).2)) { a2 with defers := [{ target := .collected w2.heap.size, args := #[] }] ++ a2.defers } w4 :=
    ⟨hw4 ▸ inv_put hL3.inv hL3.ml hL3.nl, hz2, by rw [hf2]; rfl, fun t => (hL3.env t).keep (hw4 ▸ keep_put hL3.ml)⟩
  have hK4 : KeepF M {} w M3 (sN b2 bc r b8 (bt b 3) o3 (esOf (decP b (bt b 3) (word2 b 4) 6 (-1)).1) (eRd b p3 last3 left3 (word2 b 4) (fin b (word2 b 4) 6 (-1)).1 (fin b (word2 b 4) 6 (-1)).2)) w4 := hk2.trans hi.dom (hw4 ▸ keepF_put hdm2 hL3.old hL3.ml hL3.hl)
  have hd4 : w4.heap[w2.heap.size]? = some (.deferred (some [])) := by rw [← hw4, World.putObj_heap_other (by omega)]; exact hL3.dfr
  have hsz2 : w.heap.size ≤ w2.heap.size := hk2.size
  have fin94 : ∀ a5 w5 M5 T5 s5, AInv 48 M5 T5 s5 a5 w5 → KeepF M3 (sN b2 bc r b8 (bt b 3) o3 (esOf (decP b (bt b 3) (word2 b 4) 6 (-1)).1) (eRd b p3 last3 left3 (word2 b 4) (fin b (word2 b 4) 6 (-1)).1 (fin b (word2 b 4) 6 (-1)).2)) w4 M5 s5 w5 → (∃ d, resA Tryz.prog T5 s5 Tryz.f94.results.toList = some d ∧
      DLe d (if (fin b (word2 b 4) 6 (-1)).2 ≠ 0 then .tup [.agg (eCt ct0), .int .i64 (fin b (word2 b 4) 6 (-1)).1, .int .i64 (fin b (word2 b 4) 6 (-1)).2] else .tup [.agg (eCt ⟨bt b 3, esOf (decP b (bt b 3) (word2 b 4) 6 (-1)).1⟩), .int .i64 0, .int .i64 0])) →
      bodyPostM Fence.wide 0 Tryz.prog Tryz.f94 (fun e w' => ∃ M' s' x, RepE M' w' x e ∧ Inv M' s' w' ∧ KeepF M {} w M' s' w' ∧ x = .ret (.tup [.agg (eCt (decC b).1), .int .i64 (decC b).2.1, .int .i64 (decC b).2.2]) ∧ s' = {}) .ret a5 w5 := by
    rintro a5 w5 M5 T5 s5 hi5 hk5 ⟨d, hd, hle⟩
    have hf5 := hk5.frame w2.heap.size (by rw [hL3.md]; simp) hL3.nd
    have hM5 : M5 w2.heap.size = some .box := hf5.1.trans hL3.md
    have hs5 : ¬ s5.has w2.heap.size := fun hx => (hk5.fresh _ hx).elim hL3.nd (by have := hi4.inv.dom _ (show M3 w2.heap.size ≠ none by rw [hL3.md]; simp); omega)
    refine leaves_mark hi5 hi5.defers (hf5.2.trans hd4) hM5 hs5 hd hle fun v hv => ?_
    refine ⟨M5, {}, .ret _, ⟨v, rfl, ?_⟩, (inv_put hi5.inv hM5 hs5).less (St.le.nil _), (keepF_put hi.dom (hK4.trans hi.dom hk5) hM5 hsz2).less (St.le.nil _), rfl, rfl⟩
    rw [decC_fin h0]
    split
    · rename_i h; rw [if_pos h] at hv; exact hv
    · rename_i h; rw [if_neg h] at hv; exact hv
  show (chainC [p94 5, p94 6] .ret).wpIn Fence.wide 0 Tryz.prog _ { a2 with defers := [{ target := .collected w2.heap.size, args := #[] }] ++ a2.defers } _
  rw [hw4]
  refine wpIn_chain (M₀ := M3) (w₀ := w4) Tryz.follows_mixed (by decide) hi4.inv.dom ?hy3 ?hx3 _ (after94_ok b ha u2 u5 u8) hi4 (KeepF.refl _ _ _)
  case hx3 =>
    rintro e a5 w5 hne ⟨M5, T5, s5, x, hx, hi5, hk5, rfl | rfl, hd⟩
    · obtain rfl := hx
      exact fin94 a5 w5 M5 T5 s5 hi5 hk5 hd
    · exact absurd hx hne
  rintro a5 w5 ⟨M5, T5, s5, x, hx, hi5, hk5, -, -, hd⟩
  exact wpIn_ret (fin94 a5 w5 M5 T5 s5 hi5 hk5 hd)
open Go.Proofs
def alikeF (n : Nat) (a b : Fr) : Nat := if checkF n a ≠ 0 then checkF n a else if checkF n b ≠ 0 then checkF n b else if a.loc = b.loc ∧ a.h = b.h then 0 else 32
def bYfaA0 := aI @za6 (aI @za5 (aI @fr_0 (aI @fr_1 @gdD)))
def bYfaA1 := aI @za6 (aI @za5 (aI @fr_0 (aI @fr_1 (aI @gdD @Int.ofNat_zero))))
theorem alike206 (l : List Cl) (o : Own) (a b : Fr) : zf9 Tryz.prog 206 [.slice o (rws eC l), .agg (eFr a), .agg (eFr b)] (.int .i64 (alikeF l.length a b)) := by
  refine F206.pcall' rfl fun T hT => ?_
  simp -implicitDefEqProofs only [go_sem, c206, hT, bYfaA0]
  intro b4 b5 n1 n2
  simp -implicitDefEqProofs only [go_sem, hT, n1, n2, bYfaA0]
  refine za4 (check81 l o a) ?_
  by_cases h1 : checkF l.length a = 0
  case neg =>
    have h1' : ((checkF l.length a : Int) = 0) = False := by simp; omega
    rw [show alikeF l.length a b = checkF l.length a by rw [alikeF, if_pos h1]]
    simp -implicitDefEqProofs only [go_sem, mmB, hT, n1, n2, h1', bYfaA0]
    all_goals exact DLe.refl _
  have h1' : ((checkF l.length a : Int) = 0) = True := by simp; omega
  simp -implicitDefEqProofs only [go_sem, hT, n1, n2, h1', bYfaA0]
  refine za4 (check81 l o b) ?_
  by_cases h2 : checkF l.length b = 0
  case neg =>
    have h2' : ((checkF l.length b : Int) = 0) = False := by simp; omega
    rw [show alikeF l.length a b = checkF l.length b by rw [alikeF, if_neg (by simp [h1]), if_pos h2]]
    simp -implicitDefEqProofs only [go_sem, mmB, hT, n1, n2, h2', bYfaA0]
    all_goals exact DLe.refl _
  have h2' : ((checkF l.length b : Int) = 0) = True := by simp; omega
  have ha : alikeF l.length a b = if a.loc = b.loc ∧ a.h = b.h then 0 else 32 := by rw [alikeF, if_neg (by simp [h1]), if_neg (by simp [h2])]
  rw [ha, h2]
  by_cases h3 : a.loc = b.loc ∧ a.h = b.h
  · have hq : (!decide (a.loc = b.loc) || !decide (a.h = b.h)) = false := by simp [h3]
    rw [if_pos h3]
    simp -implicitDefEqProofs only [go_sem, mmB, hT, n1, n2, h2', hq, bYfaA1]
    all_goals exact DLe.refl _
  · have hq : (!decide (a.loc = b.loc) || !decide (a.h = b.h)) = true := by
      by_cases h4 : a.loc = b.loc
      · have : ¬ a.h = b.h := fun h => h3 ⟨h4, h⟩
        simp [h4, this]
      · simp [h4]
    rw [if_neg h3]
    simp -implicitDefEqProofs only [go_sem, mmB, hT, n1, n2, h2', hq, bYfaA1]
    all_goals exact DLe.refl _
theorem sub171 (l : List Cl) (o : Own) (a b : Fr) (hl : l.length ≤ 140737488355328) : zf9 Tryz.prog 171 [.slice o (rws eC l), .agg (eFr a), .agg (eFr b)] (.bool (subFr l a b)) := by
  refine F171.pcall' rfl fun T hT => ?_
  simp -implicitDefEqProofs only [go_sem, c171, hT, bYfaA0]
  intro b4 b5 n1 n2
  simp -implicitDefEqProofs only [go_sem, hT, n1, n2, bYfaA0]
  refine za4 (alike206 l o a b) ?_
  have hsf : subFr l a b = (decide (alikeF l.length a b = 0) && (List.range 24).all fun i => subB l (slAt a i) (slAt b i)) := by
    rw [subFr]; congr 1
    unfold alikeF
    rw [Bool.eq_iff_iff]
    simp only [decide_eq_true_eq]
    repeat' split
    all_goals simp_all
    all_goals omega
  by_cases h0 : alikeF l.length a b = 0
  case neg =>
    have h0' : ((alikeF l.length a b : Int) = 0) = False := by simp; omega
    simp -implicitDefEqProofs only [go_sem, hT, n1, n2, h0', bYfaA0]
    exact zc2 (by rw [hsf, decide_eq_false h0]; rfl)
  have h0' : ((alikeF l.length a b : Int) = 0) = True := by simp; omega
  obtain ⟨R, hR⟩ : ∃ R, ((List.range 24).all fun i => subB l (slAt a i) (slAt b i)) = R := ⟨_, rfl⟩
  rw [hsf, decide_eq_true h0, hR, Bool.true_and]
  simp -implicitDefEqProofs only [go_sem, hT, n1, n2, h0', bYfaA1]
  refine loopL F171 (fun i : Nat => [(0, .slice o (rws eC l)), (4, .ptr b4 0), (5, .ptr b5 0), (13, .int .i64 i)]) (fun _ => (({} : St).set b4 (eFr a)).set b5 (eFr b)) (fun i => i ≤ 24 ∧ ∀ j : Nat, j < i → subB l (slAt a j) (slAt b j) = true) (fun i => 24 - i) 0 ⟨by omega, fun j hj => by omega⟩ ?_ (St.le.refl _) ?_
  · simp -implicitDefEqProofs only [go_sem, hT, Int.ofNat_zero]
  clear hT T
  rintro k ⟨hk, hv⟩ T hT
  by_cases hkn : k < 24
  · have h1 : ((k : Int) < 24) = True := by simp; omega
    have hx := fr_slAt a hkn
    have hy := fr_slAt b hkn
    have hd : ∀ j : Nat, j < k + 1 → j = k ∨ j < k := fun j hj => by omega
    have hkm : 24 - (k + 1) < 24 - k := by omega
    simp -implicitDefEqProofs only [go_sem, hT, h1, hx, hy, Nat.mul_one, n1, n2, bYfaA0]
    refine ⟨by omega, by omega, za4 (sub164 l o _ _ hl) ?_⟩
    cases hb : subB l (slAt a k) (slAt b k)
    · obtain rfl : R = false := hR.symm.trans (List.all_eq_false.2 ⟨k, List.mem_range.2 hkn, by simp [hb]⟩)
      simp -implicitDefEqProofs only [go_sem, hT]
    · simp -implicitDefEqProofs only [go_sem, hT]
      refine ⟨k + 1, ⟨hkn, fun j hj => ?_⟩, hkm, ?_, St.le.refl _⟩
      · rcases hd j hj with rfl | h
        · exact hb
        · exact hv j h
      · rw [zb7 (by omega) (by omega)]; simp
  · have h1 : ((k : Int) < 24) = False := by simp; omega
    obtain rfl : k = 24 := by omega
    have hall : ((List.range 24).all fun i => subB l (slAt a i) (slAt b i)) = true := List.all_eq_true.2 fun j hj => hv j (List.mem_range.1 hj)
    obtain rfl : R = true := hR.symm.trans hall
    simp -implicitDefEqProofs only [go_sem, hT, h1, n1, n2, bYfaA0]
open Go.Proofs
def refD (a : Int) (w : Nat) : D := .iface 161 (.agg [.int .i64 a, .int .i64 w])
theorem refuse93 (a : Int) (w : Nat) : XCall Tryz.prog 93 [.int .i64 a, .int .i64 w] {} (fun _ _ => False) fun d s' => d = refD a w ∧ s' = {} := by
  refine F93.xcall rfl fun T hT => ?_
  simp -implicitDefEqProofs only [go_sem, c93, hT]
  exact ⟨_, _, DLe.refl _, St.le.refl _, rfl, rfl⟩
theorem must95_ok (a : Int) : zf9 Tryz.prog 95 [.int .i64 a, .int .i64 0] (.tup []) := by
  refine F95.pcall' rfl fun T hT => ?_
  simp -implicitDefEqProofs only [go_sem, c95, hT]
theorem must95_no (a : Int) (w : Nat) (hw : w ≠ 0) : XCall Tryz.prog 95 [.int .i64 a, .int .i64 w] {} (fun _ _ => False) fun d s' => d = refD a w ∧ s' = {} := by
  have q : ((w : Int) = 0) = False := eq_false (by omega)
  refine F95.xcall rfl fun T hT => ?_
  simp -implicitDefEqProofs only [go_sem, c95, hT, q]
  refine callB_pan (refuse93 a w) ?_
  simp -implicitDefEqProofs only [go_sem]
  exact ⟨_, _, DLe.refl _, St.le.refl _, rfl, rfl⟩
def eP (e : En) (n : Nat) (l : List Ey) (nx : Nat) (fd : D) (s : PS) (o : Option Nat) : List D :=
  eEn e ++ ([.int .i64 n, .slice .no (rws eEy l), .int .i64 nx, fd, grD 1 o (rws eN s.fet), .int .i64 s.cmp] ++ (eFr s.fr ++ [.bool s.live]))
section
variable {e : En} {n : Nat} {l : List Ey} {nx : Nat} {fd : D} {s : PS} {o : Option Nat}
theorem e_len : (eP e n l nx fd s o).length = 36 := by simp [eP, eEn, za6]
theorem e_0 : (eP e n l nx fd s o)[0]? = some (.slice .no (rws eC e.cs)) := rfl
theorem e_3 : (eP e n l nx fd s o)[3]? = some (.int .i64 n) := rfl
theorem e_4 : (eP e n l nx fd s o)[4]? = some (.slice .no (rws eEy l)) := rfl
theorem e_5 : (eP e n l nx fd s o)[5]? = some (.int .i64 nx) := rfl
theorem e_7 : (eP e n l nx fd s o)[7]? = some (grD 1 o (rws eN s.fet)) := rfl
theorem e_8 : (eP e n l nx fd s o)[8]? = some (.int .i64 s.cmp) := rfl
theorem e_35 : (eP e n l nx fd s o)[35]? = some (.bool s.live) := by simp [eP, eEn, List.getElem?_append, za6]
theorem e_en : (eP e n l nx fd s o).take 3 = eEn e := rfl
theorem e_d9 : (eP e n l nx fd s o).drop 9 = eFr s.fr ++ [.bool s.live] := rfl
theorem e_fr : ((eP e n l nx fd s o).drop 9).take 26 = eFr s.fr := by rw [e_d9, List.take_left' (za6 _)]
theorem e_d35 : (eP e n l nx fd s o).drop 35 = [.bool s.live] := by rw [show 35 = 9 + 26 from rfl, ← List.drop_drop, e_d9, List.drop_left' (za6 _)]
theorem e_d36 : (eP e n l nx fd s o).drop 36 = [] := by rw [show 36 = 35 + 1 from rfl, ← List.drop_drop, e_d35]; rfl
theorem e_t9 : (eP e n l nx fd s o).take 9 = eEn e ++ [.int .i64 n, .slice .no (rws eEy l), .int .i64 nx, fd, grD 1 o (rws eN s.fet), .int .i64 s.cmp] := rfl
theorem e_t35 : (eP e n l nx fd s o).take 35 = (eEn e ++ [.int .i64 n, .slice .no (rws eEy l), .int .i64 nx, fd, grD 1 o (rws eN s.fet), .int .i64 s.cmp]) ++ eFr s.fr := by
  rw [show 35 = 9 + 26 from rfl, List.take_add, e_t9, e_fr]
theorem e_snx {k : Nat} : (eP e n l nx fd s o).take 5 ++ [D.int .i64 k] ++ (eP e n l nx fd s o).drop 6 = eP e n l k fd s o := rfl
theorem e_sfd {d : D} : (eP e n l nx fd s o).take 6 ++ [d] ++ (eP e n l nx fd s o).drop 7 = eP e n l nx d s o := rfl
theorem e_sfet {o' : Option Nat} {r : List Nat} : (eP e n l nx fd s o).take 7 ++ [grD 1 o' (rws eN r)] ++ (eP e n l nx fd s o).drop 8 = eP e n l nx fd { s with fet := r } o' := rfl
theorem e_scmp {x : Nat} : (eP e n l nx fd s o).take 8 ++ [D.int .i64 x] ++ (eP e n l nx fd s o).drop 9 = eP e n l nx fd { s with cmp := x } o := rfl
theorem e_sfr {f : Fr} : (eP e n l nx fd s o).take 9 ++ eFr f ++ (eP e n l nx fd s o).drop 35 = eP e n l nx fd { s with fr := f } o := by
  rw [e_t9, e_d35]; simp [eP]
theorem e_slive {x : Bool} : (eP e n l nx fd s o).take 35 ++ [D.bool x] ++ (eP e n l nx fd s o).drop 36 = eP e n l nx fd { s with live := x } o := by
  rw [e_t35, e_d36]; simp [eP]
end
def foundD (l : List Ey) (a : Int) : D := .tup [.agg (eEy ((findE l a).getD ey0)), .bool (findE l a).isSome]
def bYgdA0 := aI @e_len (aI @e_0 (aI @e_3 (aI @e_4 (aI @e_5 (aI @e_7 (aI @e_8 (aI @e_35 (aI @e_en (aI @e_fr (aI @zb8 (aI @gdD (aI @ldD (aI @zb1 (aI @za8 (aI @zb0 (aI @anD (aI @za2 (aI @ey_0 (aI @ey_1 (aI @zf8 (aI @ey_zero @za3)))))))))))))))))))))
theorem entry141 (e : En) (n : Nat) (l : List Ey) (nx : Nat) (fd : D) (s : PS) (o : Option Nat) (q : Nat) (a : Int) (hl : Ents l) :
    RCall Tryz.prog 141 [.ptr q 0, .int .i64 a] (({} : St).set q (eP e n l nx fd s o)) fun d s' => d = foundD l a ∧ s' = ({} : St).set q (eP e n l nx fd s o) := by
  obtain ⟨S0, hS0⟩ : ∃ S0, ({} : St).set q (eP e n l nx fd s o) = S0 := ⟨_, rfl⟩
  have hq : S0.box q = some (eP e n l nx fd s o) := by rw [← hS0, St.set_box, if_pos rfl]
  have hlen := hl.len
  refine F141.rcall rfl fun T hT => ?_
  rw [hS0]
  simp -implicitDefEqProofs only [go_sem, c141, hT, hq, forall_eq, bYgdA0]
  intro b4 hb4
  have n4 : b4 ≠ q := fun h => hb4 (by rw [h]; exact .inl (by simp [hq]))
  simp -implicitDefEqProofs only [go_sem, hT, hq, forall_eq, n4, Ne.symm n4, bYgdA0]
  obtain ⟨S1, hS1⟩ : ∃ S1, S0.set b4 (eEy ey0) = S1 := ⟨_, rfl⟩
  have hq1 : S1.box q = some (eP e n l nx fd s o) := by rw [← hS1, St.set_box, if_neg (Ne.symm n4), hq]
  have h41 : S1.box b4 = some (eEy ey0) := by rw [← hS1, St.set_box, if_pos rfl]
  have hle : St.le S0 S1 := hS1 ▸ le_add hb4
  rw [hS1]
  have hle2 : ∀ X, St.le S0 (S1.set b4 X) := fun X => by rw [← hS1, za2]; exact le_add hb4
  have hcl := cnt_le l a
  refine loopL F141 (fun x : Nat × Nat => [(0, .ptr q 0), (1, .int .i64 a), (4, .ptr b4 0), (5, .bool false), (6, .int .i64 x.1), (7, .int .i64 x.2)]) (fun _ => S1) (fun x => x.1 ≤ cnt l a ∧ cnt l a ≤ x.2 ∧ x.2 ≤ l.length) (fun x => x.2 - x.1) (0, l.length) ⟨by omega, by simpa using hcl, by simp⟩ ?_ (St.le.refl _) ?_
  · simp -implicitDefEqProofs only [go_sem, hT, Int.ofNat_zero]
  clear hT T
  rintro ⟨x, y⟩ ⟨h1, h2, h3⟩ T hT
  simp only at h1 h2 h3 hT ⊢
  by_cases hxy : x < y
  · have p1 : ((x : Int) < y) = True := eq_true (by omega)
    have w1 : IntKind.wrap .i64 ((x : Int) + y) = ((x + y : Nat) : Int) := wrapN (by omega) (by omega)
    have w2 : IntKind.wrap .i64 (((x + y : Nat) : Int).tdiv 2) = (((x + y) / 2 : Nat) : Int) := wrapN (by rw [Int.tdiv_eq_ediv_of_nonneg (by omega)]; omega) (by omega)
    obtain ⟨k, hk⟩ : ∃ k, (x + y) / 2 = k := ⟨_, rfl⟩
    rw [hk] at w2
    have hkl : k < l.length := by omega
    have p2 : ((k : Int) < l.length) = True := eq_true (by omega)
    have p0 : (0 ≤ (k : Int)) = True := eq_true (by omega)
    have w3 : IntKind.wrap .i64 ((k : Int) + 1) = ((k + 1 : Nat) : Int) := wrapN (by omega) (by omega)
    have hat := getEy hkl
    have hci := cnt_iff hl.rise (a := a) hkl
    by_cases h4 : l[k].pos < a
    · simp -implicitDefEqProofs only [go_sem, hT, hq1, forall_eq, n4, Ne.symm n4, p1, w1, w2, w3, p2, p0, hat, h4, bYgdA0]
      have := hci.1 h4
      exact ⟨(k + 1, y), ⟨by simp only; omega, h2, h3⟩, by simp only; omega, ⟨rfl, rfl⟩, St.le.refl _⟩
    · simp -implicitDefEqProofs only [go_sem, hT, hq1, forall_eq, n4, Ne.symm n4, p1, w1, w2, w3, p2, p0, hat, h4, bYgdA0]
      have := mt hci.2 h4
      exact ⟨(x, k), ⟨h1, by simp only; omega, by simp only; omega⟩, by simp only; omega, ⟨rfl, rfl⟩, St.le.refl _⟩
  obtain rfl : x = y := by omega
  obtain rfl : x = cnt l a := by omega
  have p1 : ((cnt l a : Int) < cnt l a) = False := eq_false (by omega)
  have hfe := findE_cnt hl.rise a
  by_cases h5 : cnt l a = l.length
  · have p2 : ((cnt l a : Int) = l.length) = True := eq_true (by omega)
    rw [h5, List.getElem?_eq_none (Nat.le_refl _)] at hfe
    rw [show foundD l a = .tup [.agg (eEy ey0), .bool false] by unfold foundD; rw [hfe]; rfl]
    simp -implicitDefEqProofs only [go_sem, hT, hq1, h41, forall_eq, n4, Ne.symm n4, p1, p2, bYgdA0]
    exact ⟨_, S0, DLe.refl _, hle2 _, rfl, rfl⟩
  have hlt : cnt l a < l.length := by omega
  have p2 : ((cnt l a : Int) = l.length) = False := eq_false (by omega)
  have p3 : ((cnt l a : Int) < l.length) = True := eq_true (by omega)
  have p0 : (0 ≤ (cnt l a : Int)) = True := eq_true (by omega)
  have hat := getEy hlt
  rw [List.getElem?_eq_getElem hlt] at hfe
  by_cases h6 : l[cnt l a].pos = a
  · rw [show foundD l a = .tup [.agg (eEy l[cnt l a]), .bool true] by unfold foundD; rw [hfe]; simp [h6]]
    simp -implicitDefEqProofs only [go_sem, hT, hq1, h41, forall_eq, n4, Ne.symm n4, p1, p2, p3, p0, hat, h6, bYgdA0]
    exact ⟨_, S0, DLe.refl _, hle2 _, rfl, rfl⟩
  · rw [show foundD l a = .tup [.agg (eEy ey0), .bool false] by unfold foundD; rw [hfe]; simp [h6]]
    simp -implicitDefEqProofs only [go_sem, hT, hq1, h41, forall_eq, n4, Ne.symm n4, p1, p2, p3, p0, hat, h6, bYgdA0]
    exact ⟨_, S0, DLe.refl _, hle2 _, rfl, rfl⟩
theorem sub_hold (e : En) (f g : Fr) (hw : WideE e) : zf9 Tryz.prog 171 [.slice .no (rws eC e.cs), .agg (eFr f), .agg (eFr g)] (.bool (subFr e.cs f g)) := sub171 e.cs .no f g (by have := hw.1.1; omega)
def bYgdA1 := aI @e_len (aI @e_0 (aI @e_3 (aI @e_4 (aI @e_5 (aI @e_7 (aI @e_8 (aI @e_35 (aI @e_en (aI @e_fr (aI @e_scmp (aI @zb8 (aI @gdD (aI @ldD (aI @za6 (aI @za5 (aI @za7 (aI @anD (aI @za2 @za3))))))))))))))))))
theorem hold142 (e : En) (n : Nat) (l : List Ey) (nx : Nat) (fd : D) (s : PS) (o : Option Nat) (q : Nat) (at' : Int) (f g : Fr) (hw : WideE e) (hc : s.cmp ≤ 100000) :
    XCall Tryz.prog 142 [.ptr q 0, .int .i64 at', .agg (eFr f), .agg (eFr g)] (({} : St).set q (eP e n l nx fd s o)) (fun d s' => subFr e.cs f g = true ∧ d = .tup [] ∧ s' = ({} : St).set q (eP e n l nx fd { s with cmp := s.cmp + 1 } o))
      (fun d _ => subFr e.cs f g = false ∧ d = refD at' 92) := by
  obtain ⟨S0, hS0⟩ : ∃ S0, ({} : St).set q (eP e n l nx fd s o) = S0 := ⟨_, rfl⟩
  have hq : S0.box q = some (eP e n l nx fd s o) := by rw [← hS0, St.set_box, if_pos rfl]
  have wc : IntKind.wrap .i64 ((s.cmp : Int) + 1) = ((s.cmp + 1 : Nat) : Int) := wrapN (by omega) (by omega)
  refine F142.xcall rfl fun T hT => ?_
  rw [hS0]
  simp -implicitDefEqProofs only [go_sem, c142, hT, hq, forall_eq, bYgdA1]
  intro b6 h6 b7 n1 n2 h7
  have n4 : b6 ≠ q := fun h => h6 (by rw [h]; exact .inl (by simp [hq]))
  have n5 : b7 ≠ q := fun h => h7 (by rw [h]; exact .inl (by simp [hq]))
  simp -implicitDefEqProofs only [go_sem, hT, hq, forall_eq, n4, Ne.symm n4, n5, Ne.symm n5, n1, n2, wc, bYgdA1]
  refine za4 (sub_hold e f g hw) ?_
  cases hs : subFr e.cs f g with
  | true =>
    simp -implicitDefEqProofs only [go_sem, hT, hq, forall_eq, n4, Ne.symm n4, n5, Ne.symm n5, n1, n2, wc, bYgdA1]
    refine ⟨_, S0.set q (eP e n l nx fd { s with cmp := s.cmp + 1 } o), DLe.refl _, le_set ((le_add h6).trans (le_add ?_)), rfl, by rw [← hS0, za2]⟩
    rw [set_has]; rintro (h | h)
    · exact n1 h
    · exact h7 h
  | false =>
    simp -implicitDefEqProofs only [go_sem, hT, hq, forall_eq, n4, Ne.symm n4, n5, Ne.symm n5, n1, n2, wc, bYgdA1]
    refine callB_pan (refuse93 at' 92) ?_
    simp -implicitDefEqProofs only [go_sem]
    exact ⟨_, _, DLe.refl _, St.le.refl _, rfl⟩
theorem found_some {l : List Ey} {a : Int} {x : Ey} (h : findE l a = some x) : foundD l a = .tup [.agg (eEy x), .bool true] := by unfold foundD; rw [h]; rfl
theorem found_none {l : List Ey} {a : Int} (h : findE l a = none) : foundD l a = .tup [.agg (eEy ey0), .bool false] := by unfold foundD; rw [h]; rfl
theorem in_0 (i : Ins) : (eIn i)[0]? = some (.int .i64 i.pos) := rfl
def bYgdA2 := aI @e_len (aI @e_0 (aI @e_3 (aI @e_4 (aI @e_5 (aI @e_7 (aI @e_8 (aI @e_35 (aI @e_en (aI @e_fr (aI @e_scmp (aI @zb8 (aI @gdD (aI @ldD (aI @zb6 (aI @zb3 (aI @in_0 (aI @in_2 (aI @zb1 (aI @za8 (aI @zb0 (aI @za6 (aI @za5 (aI @za7 (aI @anD (aI @za2 (aI @za3 (aI @ey_0 (aI @ey_1 (aI @zf8 @ey_zero)))))))))))))))))))))))))))))
theorem jump145 (e : En) (n : Nat) (l : List Ey) (nx : Nat) (fd : D) (s : PS) (o : Option Nat) (q : Nat) (i : Ins) (hw : WideE e) (hl : Ents l) (hc : s.cmp ≤ 100000) :
    XCall Tryz.prog 145 [.ptr q 0, .agg (eIn i)] (({} : St).set q (eP e n l nx fd s o)) (fun d s' => jumpD e.cs l n 0 i.a s.fr = none ∧ d = .tup [] ∧ s' = ({} : St).set q (eP e n l nx fd { s with cmp := s.cmp + 1 } o))
      (fun d _ => ∃ w, jumpD e.cs l n 0 i.a s.fr = some w ∧ d = refD i.pos w) := by
  obtain ⟨S0, hS0⟩ : ∃ S0, ({} : St).set q (eP e n l nx fd s o) = S0 := ⟨_, rfl⟩
  have hq : S0.box q = some (eP e n l nx fd s o) := by rw [← hS0, St.set_box, if_pos rfl]
  refine F145.xcall rfl fun T hT => ?_
  rw [hS0]
  simp -implicitDefEqProofs only [go_sem, c145, hT, hq, forall_eq, bYgdA2]
  intro b3 h3
  have n3 : b3 ≠ q := fun h => h3 (by rw [h]; exact .inl (by simp [hq]))
  have hbf : S0.buf q = none := by rw [← hS0]; rfl
  refine callB_boxS (b := q) (by rw [St.set_box, if_neg (Ne.symm n3)]; exact hq) hbf (entry141 e n l nx fd s o q i.a hl) ?_
  by_cases h1 : (n : Int) ≤ i.a
  · have hj : jumpD e.cs l n 0 i.a s.fr = some 50 := by unfold jumpD; rw [if_pos h1]
    cases hf : findE l i.a with
    | none =>
      rw [found_none hf]
      simp -implicitDefEqProofs only [go_sem, hT, hq, forall_eq, n3, Ne.symm n3, bYgdA2]
      intro b4 h6 h7 h8
      have h4 : b4 ≠ q := fun h => h8 (by rw [h]; exact .inl (by simp [hq]))
      have h5 := Ne.symm h4
      simp -implicitDefEqProofs only [go_sem, hT, hq, forall_eq, n3, Ne.symm n3, h4, h5, h6, h7, h1, bYgdA2]
      refine callB_pan (refuse93 i.pos 50) ?_
      simp -implicitDefEqProofs only [go_sem]
      exact ⟨_, {}, DLe.refl _, St.le.nil _, _, hj, rfl⟩
    | some x =>
      rw [found_some hf]
      simp -implicitDefEqProofs only [go_sem, hT, hq, forall_eq, n3, Ne.symm n3, bYgdA2]
      intro b4 h6 h7 h8
      have h4 : b4 ≠ q := fun h => h8 (by rw [h]; exact .inl (by simp [hq]))
      have h5 := Ne.symm h4
      simp -implicitDefEqProofs only [go_sem, hT, hq, forall_eq, n3, Ne.symm n3, h4, h5, h6, h7, h1, bYgdA2]
      refine callB_pan (refuse93 i.pos 50) ?_
      simp -implicitDefEqProofs only [go_sem]
      exact ⟨_, {}, DLe.refl _, St.le.nil _, _, hj, rfl⟩
  cases hf : findE l i.a with
  | none =>
    have hj : jumpD e.cs l n 0 i.a s.fr = some 90 := by unfold jumpD; rw [if_neg h1, hf]
    rw [found_none hf]
    simp -implicitDefEqProofs only [go_sem, hT, hq, forall_eq, n3, Ne.symm n3, bYgdA2]
    intro b4 h6 h7 h8
    have h4 : b4 ≠ q := fun h => h8 (by rw [h]; exact .inl (by simp [hq]))
    have h5 := Ne.symm h4
    simp -implicitDefEqProofs only [go_sem, hT, hq, forall_eq, n3, Ne.symm n3, h4, h5, h6, h7, h1, bYgdA2]
    refine callB_pan (refuse93 i.pos 90) ?_
    simp -implicitDefEqProofs only [go_sem]
    exact ⟨_, {}, DLe.refl _, St.le.nil _, _, hj, rfl⟩
  | some x =>
    rw [found_some hf]
    simp -implicitDefEqProofs only [go_sem, hT, hq, forall_eq, n3, Ne.symm n3, bYgdA2]
    intro b4 h6 h7 h8
    have h4 : b4 ≠ q := fun h => h8 (by rw [h]; exact .inl (by simp [hq]))
    have h5 := Ne.symm h4
    cases hd : x.dead with
    | true =>
      have hj : jumpD e.cs l n 0 i.a s.fr = some 91 := by unfold jumpD; rw [if_neg h1, hf]; simp [hd]
      simp -implicitDefEqProofs only [go_sem, hT, hq, forall_eq, n3, Ne.symm n3, h4, h5, h6, h7, h1, hd, bYgdA2]
      refine callB_pan (refuse93 i.pos 91) ?_
      simp -implicitDefEqProofs only [go_sem]
      exact ⟨_, {}, DLe.refl _, St.le.nil _, _, hj, rfl⟩
    | false =>
      have hj : jumpD e.cs l n 0 i.a s.fr = if subFr e.cs s.fr x.fr = false then some 92 else none := by unfold jumpD; rw [if_neg h1, hf]; simp [hd]
      simp -implicitDefEqProofs only [go_sem, hT, hq, forall_eq, n3, Ne.symm n3, h4, h5, h6, h7, h1, hd, bYgdA2]
      refine callB_boxX (b := q) (cs := eP e n l nx fd s o) ?_ hbf (hold142 e n l nx fd s o q i.pos s.fr x.fr hw hc) (fun d s' hR => ?_) fun d s' hR => ?_
      · rw [St.set_box, if_neg h5, St.set_box, if_neg (Ne.symm n3), hq]
      · obtain ⟨hs, rfl, rfl⟩ := hR
        refine ⟨_, rfl, ?_⟩
        simp -implicitDefEqProofs only [go_sem]
        refine ⟨_, S0.set q (eP e n l nx fd { s with cmp := s.cmp + 1 } o), DLe.refl _, le_set ((le_add h3).trans (le_add ?_)), by rw [hj, hs]; rfl, rfl, by rw [← hS0, za2]⟩
        rw [set_has]; rintro (h | h)
        · exact h6 h
        · exact h8 h
      · obtain ⟨hs, rfl⟩ := hR
        simp -implicitDefEqProofs only [go_sem]
        exact ⟨_, {}, DLe.refl _, St.le.nil _, 92, by rw [hj, hs]; rfl, rfl⟩
open Go.Proofs
def bYgdB0 := aI @e_len (aI @e_0 (aI @e_3 (aI @e_4 (aI @e_5 (aI @e_7 (aI @e_8 (aI @e_35 (aI @e_en (aI @e_fr (aI @e_snx (aI @e_scmp (aI @e_sfr (aI @e_slive (aI @zb8 (aI @gdD (aI @ldD (aI @zb1 (aI @za8 (aI @zb0 (aI @za6 (aI @za5 (aI @za7 (aI @anD (aI @za2 (aI @za3 (aI @ey_0 (aI @ey_1 (aI @zf8 @ey_zero))))))))))))))))))))))))))))
theorem come98 (e : En) (n : Nat) (l : List Ey) (fd : D) (s : PS) (o : Option Nat) (q : Nat) (hw : WideE e) (hl : Ents l) (hn : n ≤ 4096) (hp : s.p < n) (hc : s.cmp ≤ 100000) :
    XCall Tryz.prog 98 [.ptr q 0, .int .i64 s.p] (({} : St).set q (eP e n l (cnt l s.p) fd s o))
      (fun d s' => ∃ s2 on, comeD e.cs l n s = .ok (s2, on) ∧ d = .int .i64 s2.p ∧ s' = ({} : St).set q (eP e n l (cnt l ((s.p : Int) + 1)) fd s2 o))
      (fun d _ => ∃ w, comeD e.cs l n s = .no s.p w ∧ d = refD s.p w) := by
  obtain ⟨S0, hS0⟩ : ∃ S0, ({} : St).set q (eP e n l (cnt l s.p) fd s o) = S0 := ⟨_, rfl⟩
  have hq : S0.box q = some (eP e n l (cnt l s.p) fd s o) := by rw [← hS0, St.set_box, if_pos rfl]
  have hbf : S0.buf q = none := by rw [← hS0]; rfl
  have hcs := cnt_succ hl.rise (s.p : Int)
  have hcl := cnt_le l (s.p : Int)
  have hll := hl.len
  refine F98.xcall rfl fun T hT => ?_
  rw [hS0]
  simp -implicitDefEqProofs only [go_sem, c98, hT, hq, forall_eq, bYgdB0]
  refine callB_boxS (b := q) hq hbf (entry141 e n l (cnt l s.p) fd s o q s.p hl) ?_
  cases hf : findE l s.p with
  | none =>
    rw [hf] at hcs
    simp only [Option.isSome_none, Bool.false_eq_true, if_false, Nat.add_zero] at hcs
    rw [found_none hf]
    simp -implicitDefEqProofs only [go_sem, hT, hq, forall_eq, bYgdB0]
    intro b5 h8
    have h4 : b5 ≠ q := fun h => h8 (by rw [h]; exact .inl (by simp [hq]))
    have h5 := Ne.symm h4
    cases hlv : s.live with
    | true =>
      have hk : comeD e.cs l n s = .ok (s, true) := by unfold comeD; rw [hf]; simp [hlv]
      simp -implicitDefEqProofs only [go_sem, hT, hq, forall_eq, h4, h5, hlv, bYgdB0]
      exact ⟨_, S0, DLe.refl _, le_add h8, s, true, hk, rfl, by rw [hcs]; exact hS0.symm⟩
    | false =>
      have hk : comeD e.cs l n s = .no s.p 90 := by unfold comeD; rw [hf]; simp [hlv]
      simp -implicitDefEqProofs only [go_sem, hT, hq, forall_eq, h4, h5, hlv, bYgdB0]
      refine callB_pan (refuse93 s.p 90) ?_
      simp -implicitDefEqProofs only [go_sem]
      exact ⟨_, {}, DLe.refl _, St.le.nil _, _, hk, rfl⟩
  | some x =>
    rw [hf] at hcs
    simp only [Option.isSome_some, if_true] at hcs
    rw [found_some hf]
    have hk : comeD e.cs l n s = if s.live = true ∧ x.dead = true then .no s.p 91
      else if s.live = true ∧ subFr e.cs s.fr x.fr = false then .no s.p 92
      else if x.dead = true then .ok ({ s with p := nextP l n s.p }, false)
      else .ok ({ s with fr := x.fr, live := true, cmp := s.cmp + (if s.live = true then 1 else 0) }, true) := by unfold comeD; rw [hf]
    have hlt : cnt l s.p < l.length := by
      have := findE_cnt hl.rise (s.p : Int)
      rw [hf] at this
      by_cases h : cnt l s.p < l.length
      · exact h
      · rw [List.getElem?_eq_none (by omega)] at this; cases this
    have wn : IntKind.wrap .i64 ((cnt l s.p : Int) + 1) = ((cnt l s.p + 1 : Nat) : Int) := wrapN (by omega) (by omega)
    simp -implicitDefEqProofs only [go_sem, hT, hq, forall_eq, bYgdB0]
    intro b5 h8
    have h4 : b5 ≠ q := fun h => h8 (by rw [h]; exact .inl (by simp [hq]))
    have h5 := Ne.symm h4
    cases hlv : s.live with
    | true =>
      cases hd : x.dead with
      | true =>
        simp -implicitDefEqProofs only [go_sem, hT, hq, forall_eq, h4, h5, hlv, hd, wn, bYgdB0]
        refine callB_pan (refuse93 s.p 91) ?_
        simp -implicitDefEqProofs only [go_sem]
        exact ⟨_, {}, DLe.refl _, St.le.nil _, 91, by rw [hk]; simp [hlv, hd], rfl⟩
      | false =>
        simp -implicitDefEqProofs only [go_sem, hT, hq, forall_eq, h4, h5, hlv, hd, wn, bYgdB0]
        refine callB_boxX (b := q) (cs := eP e n l (cnt l s.p + 1) fd s o) (by rw [St.set_box, if_pos rfl]) (by exact hbf) (hold142 e n l (cnt l s.p + 1) fd s o q s.p s.fr x.fr hw hc) (fun d s' hR => ?_) fun d s' hR => ?_
        · obtain ⟨hs, rfl, rfl⟩ := hR
          refine ⟨_, rfl, ?_⟩
          simp -implicitDefEqProofs only [go_sem, hT, hq, forall_eq, h4, h5, hlv, hd, wn, bYgdB0]
          exact ⟨_, S0.set q (eP e n l (cnt l s.p + 1) fd { s with fr := x.fr, live := true, cmp := s.cmp + 1 } o), DLe.refl _, le_set (le_add h8), { s with fr := x.fr, live := true, cmp := s.cmp + 1 }, true, by rw [hk]; simp [hlv, hd, hs], rfl, by rw [hcs, ← hS0, za2]⟩
        · obtain ⟨hs, rfl⟩ := hR
          simp -implicitDefEqProofs only [go_sem]
          exact ⟨_, {}, DLe.refl _, St.le.nil _, 92, by rw [hk]; simp [hlv, hd, hs], rfl⟩
    | false =>
      cases hd : x.dead with
      | true =>
        simp -implicitDefEqProofs only [go_sem, hT, hq, forall_eq, h4, h5, hlv, hd, wn, bYgdB0]
        have hk2 : comeD e.cs l n s = .ok ({ s with p := nextP l n s.p }, false) := by rw [hk]; simp [hlv, hd]
        have hle : St.le (S0.set q (eP e n l (cnt l s.p + 1) fd s o)) ((S0.set b5 (eEy x)).set q (eP e n l (cnt l s.p + 1) fd s o)) := le_set (le_add h8)
        have hfi : ({} : St).set q (eP e n l (cnt l ((s.p : Int) + 1)) fd { s with p := nextP l n s.p } o) = S0.set q (eP e n l (cnt l s.p + 1) fd s o) := by rw [hcs, ← hS0, za2]; rfl
        have hnx := nextP_cnt hl.rise n s.p
        rw [hcs] at hnx
        by_cases h9 : cnt l s.p + 1 = l.length
        · have g9 : (((cnt l s.p + 1 : Nat) : Int) = l.length) = True := eq_true (by omega)
          rw [List.getElem?_eq_none (by omega)] at hnx
          simp -implicitDefEqProofs only [go_sem, hT, hq, forall_eq, h4, h5, hlv, hd, wn, g9, bYgdB0]
          exact ⟨_, _, DLe.refl _, hle, _, false, hk2, by simp only [hnx], hfi.symm⟩
        · have h9' : cnt l s.p + 1 < l.length := by omega
          have g9 : (((cnt l s.p + 1 : Nat) : Int) = l.length) = False := eq_false (by omega)
          have g8 : (((cnt l s.p + 1 : Nat) : Int) < l.length) = True := eq_true (by omega)
          have g7 : (0 ≤ ((cnt l s.p + 1 : Nat) : Int)) = True := eq_true (by omega)
          have hat := getEy h9'
          obtain ⟨m, hm⟩ : ∃ m : Nat, l[cnt l s.p + 1].pos = m := ⟨_, (Int.toNat_of_nonneg (hl.rng _ (List.getElem_mem h9')).1).symm⟩
          rw [List.getElem?_eq_getElem h9'] at hnx
          simp only [hm, Int.toNat_natCast] at hnx
          have hmin : min (n : Int) (m : Int) = ((nextP l n s.p : Nat) : Int) := by rw [hnx]; split <;> omega
          simp -implicitDefEqProofs only [go_sem, hT, hq, forall_eq, h4, h5, hlv, hd, wn, g9, g8, g7, hat, hm, hmin, bYgdB0]
          exact ⟨_, _, DLe.refl _, hle, _, false, hk2, rfl, hfi.symm⟩
      | false =>
        simp -implicitDefEqProofs only [go_sem, hT, hq, forall_eq, h4, h5, hlv, hd, wn, bYgdB0]
        have hk2 : comeD e.cs l n s = .ok ({ s with fr := x.fr, live := true, cmp := s.cmp + 0 }, true) := by rw [hk]; simp [hlv, hd]
        exact ⟨_, S0.set q (eP e n l (cnt l s.p + 1) fd { s with fr := x.fr, live := true } o), DLe.refl _, le_set (le_add h8), _, true, hk2, rfl, by rw [hcs, ← hS0, za2]; rfl⟩
open Go.Proofs
structure Asc (n : Nat) (l : List Nat) : Prop where
  up : l.Pairwise (· < ·)
  lt : ∀ x ∈ l, x < n
theorem asc_more {p j : Nat} {l : List Nat} (h : Asc p l) : Asc (p + j) (l ++ List.range' p j) := by
  refine ⟨List.pairwise_append.2 ⟨h.up, List.pairwise_lt_range', fun x hx y hy => ?_⟩, fun x hx => ?_⟩
  · have := h.lt x hx; have := List.mem_range'_1.1 hy; omega
  · rcases List.mem_append.1 hx with hx | hx
    · have := h.lt x hx; omega
    · have := List.mem_range'_1.1 hx; omega
theorem Asc.mono {n m : Nat} {l : List Nat} (h : Asc n l) (hm : n ≤ m) : Asc m l := ⟨h.up, fun x hx => by have := h.lt x hx; omega⟩
structure FetchOk (g : FuncId) (ca : List D) (b : List Ty) (FS : List Nat → St → Prop) : Prop where
  run : ∀ asked a sf, FS asked sf → Asc a asked → a < b.length → XCall Tryz.prog g ([.int .i64 a] ++ ca) sf (fun d s' => d = .int .u8 (bt b a) ∧ FS (asked ++ [a]) s') fun _ _ => False
theorem decF_cut {b : List Ty} {p : Nat} (hp : p < b.length) (hz : sizeOp ((b[p]?).getD 0).val ≠ 0) (hl : p + sizeOp ((b[p]?).getD 0).val ≤ b.length) :
    decF ((b.drop p).take (sizeOp ((b[p]?).getD 0).val)) 0 = (if (decF b p).2 = 0 then { (decF b p).1 with pos := 0 } else ins0, (decF b p).2) := by
  obtain ⟨t, ht⟩ : ∃ t, (b[p]?).getD 0 = t := ⟨_, rfl⟩
  rw [ht] at hz hl ⊢
  have hsz : sizeOp t.val = 1 + (wid t.val).1 + (wid t.val).2 := by
    unfold sizeOp at hz ⊢; split
    · rename_i h34; rw [if_pos h34] at hz; omega
    · rfl
  obtain ⟨B, hB⟩ : ∃ B, (b.drop p).take (sizeOp t.val) = B := ⟨_, rfl⟩
  have hBl : B.length = sizeOp t.val := by rw [← hB, List.length_take, List.length_drop]; omega
  have hB0 : (B[0]?).getD 0 = t := by
    rw [← hB, List.getElem?_take, if_pos (by omega), List.getElem?_drop, Nat.add_zero, ht]
  have hin : decIn B 0 t = { decIn b p t with pos := 0 } := by
    unfold decIn
    rw [← hB]
    have e1 : ((((b.drop p).take (sizeOp t.val)).drop (0 + 1)).take (wid t.val).1) = (b.drop (p + 1)).take (wid t.val).1 := by
      rw [List.drop_take, List.take_take, List.drop_drop]; congr 1; omega
    have e2 : ((((b.drop p).take (sizeOp t.val)).drop (0 + 1 + (wid t.val).1)).take (wid t.val).2) = (b.drop (p + 1 + (wid t.val).1)).take (wid t.val).2 := by
      rw [List.drop_take, List.take_take, List.drop_drop]; congr 1
      · omega
      · congr 1; omega
    rw [e1, e2]; rfl
  rw [hB]
  have h1 : decF B 0 = if t.val = 2 ∧ 1 < (decIn b p t).a then (ins0, 5) else ({ decIn b p t with pos := 0 }, 0) := by
    unfold decF
    rw [if_neg (by omega), if_neg (by omega), hB0, if_neg hz, if_neg (by omega), hin]
  have h2 : decF b p = if t.val = 2 ∧ 1 < (decIn b p t).a then (ins0, 5) else (decIn b p t, 0) := by
    unfold decF
    rw [if_neg (by omega), if_neg (by omega), ht, if_neg hz, if_neg (by omega)]
  rw [h1, h2]
  split <;> simp
theorem le_putL : ∀ {l : List LI} {s σ : St}, St.le s σ → offL s l → St.le s (putL σ l)
  | [], _, _, h, _ => h
  | i :: l, s, σ, h, hl => le_putL (l := l) (by
      cases i with
      | bx b c => exact ⟨fun x y hx => by
          have : x ≠ b := fun he => hl.1 (by rw [← he]; exact .inl (by simp [hx]))
          simp only [LI.put, St.set, if_neg this]; exact h.box x y hx, fun x y hx => h.buf x y hx⟩
      | gr z n o =>
        cases o with
        | none => exact h
        | some b => exact ⟨fun x y hx => h.box x y hx, fun x y hx => by
            have : x ≠ b := fun he => hl.1 b rfl (by rw [← he]; exact .inr (by simp [hx]))
            simp only [LI.put, grS, St.setBuf, if_neg this]; exact h.buf x y hx⟩) hl.2
theorem le_off {s σ : St} {b : Nat} {c : List D} (h : St.le s σ) (hb : ¬ s.has b) : St.le s (σ.set b c) := le_putL (l := [.bx b c]) h ⟨hb, trivial⟩
theorem app_ex {P : Program} {N : Nat} {T : Env} {σ : St} {K : Env → St → Prop} {d : Option Nat} {t e : TypeId} {s by' : Nat} {z : List D} (h1 : sliP P t = some e) (h2 : szP P e = some s) (h3 : zb4 P e = some by') (h4 : zc1 P e = some z) (hz : (z.length == s && decide (0 < s) && decide (0 < by')) = true)
    {es ys : List (List D)} {ow : Own} (he : ∀ r ∈ es, r.length = s) (hy : ∀ r ∈ ys, r.length = s) (hy0 : ys ≠ []) (hl : (es.length + ys.length) * by' ≤ 140737488355328)
    (hk : ∀ b', ¬ σ.has b' → putK N d (.slice (.buf b' s) (es ++ ys)) K T (σ.setBuf b' s (es.length + ys.length))) :
    appendA P N d t t (.slice .exact es) (.slice ow ys) K T σ := by
  simp only [Bool.and_eq_true, beq_iff_eq, decide_eq_true_eq] at hz
  simp only [app_exact, h1, h2, h3, h4, Option.map_some, true_and]
  exact ⟨hz.1.1, hz.1.2, hz.2, hy, hl, he, fun h => absurd h hy0, fun _ b' hb' => hk b' hb'⟩
def bsD (o : Option Nat) (es : List (List D)) : D := match o with | none => .slice .exact es | some b => .slice (.buf b 1) es
theorem bsD_le {o : Option Nat} {es : List (List D)} : DLe (bsD o es) (.slice .no es) := by cases o <;> exact DLe.slice _ _
theorem app_bs {P : Program} {N : Nat} {T : Env} {σ : St} {K : Env → St → Prop} {d : Option Nat} {t e : TypeId} {by' : Nat} {z : List D} (h1 : sliP P t = some e) (h2 : szP P e = some 1) (h3 : zb4 P e = some by') (h4 : zc1 P e = some z) (hz : (z.length == 1 && decide (0 < by')) = true)
    {o : Option Nat} {es ys : List (List D)} {ow : Own} {n m : Nat} (hn : es.length = n) (hm : ys.length = m) (ho : grN o σ) (he : ∀ r ∈ es, r.length = 1) (hy : ∀ r ∈ ys, r.length = 1) (hy0 : ys ≠ []) (hl : (n + m) * by' ≤ 140737488355328)
    (hk : ∀ b', ¬ σ.has b' → putK N d (bsD (some b') (es ++ ys)) K T (grS 1 (n + m) (some b') σ)) :
    appendA P N d t t (bsD o es) (.slice ow ys) K T (grS 1 n o σ) := by
  subst hn; subst hm
  cases o with
  | none => exact app_ex h1 h2 h3 h4 (by simpa using hz) he hy hy0 hl hk
  | some b =>
    simp only [Bool.and_eq_true, beq_iff_eq, decide_eq_true_eq] at hz
    have hb := ho b rfl
    have hd : (σ.setBuf b 1 es.length).dropBuf b = σ := by
      ext x
      · rfl
      · simp only [St.dropBuf, St.setBuf]
        by_cases h : x = b
        · subst h
          have : σ.buf x = none := by
            cases hx : σ.buf x with
            | none => rfl
            | some y => exact absurd (.inr (by simp [hx])) hb
          simp [this]
        · simp [h]
    show appendA P N d t t (.slice (.buf b 1) es) (.slice ow ys) K T (σ.setBuf b 1 es.length)
    simp only [app_buf, h1, h2, h3, h4, Option.map_some, true_and]
    refine ⟨hz.1, by omega, hz.2, hy, hl, by simp [St.setBuf], fun b' hb' => ?_⟩
    rw [hd] at hb' ⊢
    exact hk b' hb'
section
variable {e : En} {b : List Ty} {l : List Ey} {s : PS} {o : Option Nat} {q nx p : Nat} {g : FuncId} {ca : List D} {FS : List Nat → St → Prop} {asked : List Nat} {sf : St}
def L0 (e : En) (b : List Ty) (l : List Ey) (nx : Nat) (fd : D) (s : PS) (o : Option Nat) (q : Nat) : List LI := [.bx q (eP e b.length l nx fd s o), .gr 1 s.fet.length o]
def bYgdC0 := aI @e_len (aI @e_0 (aI @e_3 (aI @e_4 (aI @e_5 (aI @e_7 (aI @e_8 (aI @e_35 (aI @e_en (aI @e_fr (aI @zb8 (aI @gdD (aI @ldD (aI @zb6 (aI @zb3 (aI @zc3 (aI @in_0 (aI @in_1 (aI @in_2 (aI @ze3 (aI @anD (aI @za2 @za3)))))))))))))))))))))
theorem instr143 (hF : FetchOk g ca b FS) (hb : b.length ≤ 4096) (hp : p < b.length) (hs : FS asked sf) (ha : Asc p asked) (hoff : offL sf (L0 e b l nx (.func (.func g) [] ca) s o q)) (hoq : o ≠ some q) :
    XCall Tryz.prog 143 [.ptr q 0, .int .i64 p] (putL sf (L0 e b l nx (.func (.func g) [] ca) s o q))
      (fun d s' => (decF b p).2 = 0 ∧ d = .agg (eIn (decF b p).1) ∧ ∃ sf', FS (asked ++ List.range' p (sizeOp (decF b p).1.op.val)) sf' ∧ offL sf' (L0 e b l nx (.func (.func g) [] ca) s o q) ∧ s' = putL sf' (L0 e b l nx (.func (.func g) [] ca) s o q))
      (fun d s' => (decF b p).2 ≠ 0 ∧ d = refD p (decF b p).2 ∧ ∃ j, p + j ≤ b.length ∧ FS (asked ++ List.range' p j) s') := by
  obtain ⟨C, hC⟩ : ∃ C, eP e b.length l nx (.func (.func g) [] ca) s o = C := ⟨_, rfl⟩
  have hL0 : L0 e b l nx (.func (.func g) [] ca) s o q = [.bx q C, .gr 1 s.fet.length o] := by rw [L0, hC]
  rw [hL0] at hoff ⊢
  have c3 : C[3]? = some (.int .i64 b.length) := by rw [← hC]; rfl
  have c6 : C[6]? = some (.func (.func g) [] ca) := by rw [← hC]; rfl
  have hqb : ∀ (sf : St) (L : List LI), (∀ i ∈ L, match i with | .bx x _ => x ≠ q | _ => True) → (putL sf (.bx q C :: L)).box q = some C := by
    intro sf L
    have : ∀ (L : List LI) (σ : St), σ.box q = some C → (∀ i ∈ L, match i with | .bx x _ => x ≠ q | _ => True) → (putL σ L).box q = some C := by
      intro L
      induction L with
      | nil => intro σ h _; exact h
      | cons i L ih =>
        intro σ h hi
        refine ih _ ?_ fun j hj => hi j (by simp [hj])
        have := hi i (by simp)
        cases i with
        | bx x c => simp only at this; simp only [LI.put, St.set_box, if_neg (Ne.symm this), h]
        | gr z n o => simp only [LI.put, grS_boxa, h]
    intro hi
    exact this L _ (by simp [LI.put, St.set_box]) hi
  obtain ⟨S0, hS0⟩ : ∃ S0, putL sf [.bx q C, .gr 1 s.fet.length o] = S0 := ⟨_, rfl⟩
  have hq : S0.box q = some C := by rw [← hS0]; exact hqb sf _ (by simp)
  refine F143.xcall rfl fun T hT => ?_
  rw [hS0]
  simp -implicitDefEqProofs only [go_sem, c143, hT, hq, c3, c6, forall_eq, bYgdC0]
  intro b4 hb4
  have n4 : b4 ≠ q := fun h => hb4 (by rw [h]; exact .inl (by simp [hq]))
  simp -implicitDefEqProofs only [go_sem, hT, hq, c3, c6, forall_eq, n4, Ne.symm n4, bYgdC0]
  have hsb4 : ¬ sf.has b4 := fun h => hb4 (by
    have := (le_putL (l := [.bx q C, .gr 1 s.fet.length o]) (St.le.refl sf) hoff).has h
    rw [hS0] at this; exact this)
  obtain ⟨L1, hL1⟩ : ∃ L1 : List LI, [.bx q C, .gr 1 s.fet.length o, .bx b4 (eIn ins0)] = L1 := ⟨_, rfl⟩
  have hS1 : S0.set b4 (eIn ins0) = putL sf L1 := by rw [← hS0, ← hL1]; rfl
  have hoff1 : offL sf L1 := by rw [← hL1]; exact ⟨hoff.1, hoff.2.1, hsb4, trivial⟩
  have hq1 : ∀ sf, (putL sf L1).box q = some C := fun sf => by rw [← hL1]; exact hqb sf _ (by simp [n4])
  have h41 : ∀ sf, (putL sf L1).box b4 = some (eIn ins0) := fun sf => by rw [← hL1]; simp [putL, LI.put, St.set_box]
  have hback : ∀ sf', offL sf' L1 → offL sf' [.bx q C, .gr 1 s.fet.length o] ∧ St.le (putL sf' [.bx q C, .gr 1 s.fet.length o]) (putL sf' L1) := fun sf' h => by
    rw [← hL1] at h ⊢
    refine ⟨⟨h.1, h.2.1, trivial⟩, ?_⟩
    show St.le _ ((putL sf' [.bx q C, .gr 1 s.fet.length o]).set b4 _)
    refine le_add fun hh => ?_
    have : (grS 1 s.fet.length o (sf'.set q C)).has b4 := hh
    rw [grS_has, set_has] at this
    rcases this with hx | hx | hx
    · exact hb4 (by rw [← hS0]; show (grS 1 s.fet.length o (sf.set q C)).has b4; rw [grS_has]; exact .inl hx)
    · exact n4 hx
    · exact h.2.2.1 hx
  rw [hS1]
  refine callB_under L1 hoff1 (hF.run asked p sf hs ha hp) (fun d s1 hR hof1 => ?_) fun d s' h => h.elim
  obtain ⟨rfl, hs1⟩ := hR
  have hl1 := le_putL (St.le.refl s1) hof1
  simp -implicitDefEqProofs only [go_sem, hT, hq1 s1, h41 s1, c3, c6, forall_eq, n4, Ne.symm n4, bYgdC0]
  obtain ⟨t, ht⟩ : ∃ t, (b[p]?).getD 0 = t := ⟨_, rfl⟩
  have hbt : bt b p = t.val := by rw [← ht]; rfl
  rw [hbt]
  refine za4 (size125 t) ?_
  by_cases hz : sizeOp t.val = 0
  · have qz : ((sizeOp t.val : Int) = 0) = True := eq_true (by omega)
    have hd : (decF b p).2 = 40 := by unfold decF; rw [if_neg (by omega), if_neg (by omega), ht, if_pos hz]
    simp -implicitDefEqProofs only [go_sem, hT, hq1 s1, h41 s1, c3, c6, forall_eq, n4, Ne.symm n4, qz, bYgdC0]
    refine callB_pan (refuse93 p 40) ?_
    simp -implicitDefEqProofs only [go_sem]
    exact ⟨_, s1, DLe.refl _, hl1, by rw [hd]; decide, by rw [hd], 1, by omega, hs1⟩
  have qz : ((sizeOp t.val : Int) = 0) = False := eq_false (by omega)
  simp -implicitDefEqProofs only [go_sem, hT, hq1 s1, h41 s1, c3, c6, forall_eq, n4, Ne.symm n4, qz, bYgdC0]
  have hhas : ∀ (sf' : St) (x : Nat), (putL sf' L1).has x ↔ x = b4 ∨ o = some x ∨ x = q ∨ sf'.has x := fun sf' x => by
    rw [← hL1]
    show ((grS 1 s.fet.length o (sf'.set q C)).set b4 (eIn ins0)).has x ↔ _
    rw [set_has, grS_has, set_has]
  have h1t : (b.drop p).take 1 = [t] := by
    rw [List.take_one, List.head?_drop, List.getElem?_eq_getElem hp]
    rw [List.getElem?_eq_getElem hp] at ht
    simpa using ht
  have hsle := sizeOp_le t.val
  refine loopL F143 (fun x : Nat × Option Nat × St => [(0, .ptr q 0), (1, .int .i64 p), (4, .ptr b4 0), (5, .int .u8 t.val), (6, .int .i64 (sizeOp t.val)), (7, bsD x.2.1 (rws eT ((b.drop p).take x.1))), (8, .int .i64 x.1)]) (fun x => grS 1 x.1 x.2.1 (putL x.2.2 L1))
    (fun x => 1 ≤ x.1 ∧ x.1 ≤ sizeOp t.val ∧ p + x.1 ≤ b.length ∧ FS (asked ++ List.range' p x.1) x.2.2 ∧ offL x.2.2 L1 ∧ grN x.2.1 (putL x.2.2 L1)) (fun x => sizeOp t.val - x.1) (1, none, s1) ⟨by simp, by simp only; omega, by simp only; omega, hs1, hof1, grN_none⟩ ?_ (St.le.refl _) ?_
  · simp -implicitDefEqProofs only [go_sem, hT, Int.ofNat_zero]
    rw [h1t]; exact ⟨rfl, rfl⟩
  clear hT T hs1 hof1 hl1
  rintro ⟨i, ob, sx⟩ ⟨k1, k2, k3, hsx, hofx, hob⟩ T hT
  simp only at k1 k2 k3 hsx hofx hob hT ⊢
  have hqx : (grS 1 i ob (putL sx L1)).box q = some C := by rw [grS_boxa, hq1]
  have h4x : (grS 1 i ob (putL sx L1)).box b4 = some (eIn ins0) := by rw [grS_boxa, h41]
  obtain ⟨L2, hL2⟩ : ∃ L2 : List LI, [.bx q C, .gr 1 s.fet.length o, .bx b4 (eIn ins0), .gr 1 i ob] = L2 := ⟨_, rfl⟩
  have hS2 : ∀ sf', grS 1 i ob (putL sf' L1) = putL sf' L2 := fun sf' => by rw [← hL2, ← hL1]; rfl
  have hlx : St.le sx (grS 1 i ob (putL sx L1)) := (le_putL (St.le.refl sx) hofx).trans (base_le hob)
  by_cases hi : i < sizeOp t.val
  case neg =>
    have p1 : ((i : Int) < sizeOp t.val) = False := eq_false (by omega)
    simp -implicitDefEqProofs only [go_sem, hT, hqx, h4x, c3, c6, forall_eq, n4, Ne.symm n4, p1, bYgdC0]
    obtain rfl : i = sizeOp t.val := by omega
    have hBl : ((b.drop p).take (sizeOp t.val)).length ≤ 4096 := by rw [List.length_take, List.length_drop]; omega
    refine za4 ((decode82 ((b.drop p).take (sizeOp t.val)) .no 0 (by omega) (by omega)).args (.cons bsD_le (.refl _))) ?_
    have hcut := decF_cut hp (by rw [ht]; exact hz) (by rw [ht]; exact k3)
    rw [ht] at hcut
    rw [hcut]
    by_cases hd : (decF b p).2 = 0
    case neg =>
      rw [if_neg hd]
      simp -implicitDefEqProofs only [go_sem, hT, hqx, h4x, c3, c6, forall_eq, n4, Ne.symm n4, p1, bYgdC0]
      intro b9 hb9
      refine callB_nilX (must95_no p (decF b p).2 hd) (fun d s' h => h.elim) fun d s' h => ⟨h.2, ?_⟩
      rw [h.1]
      simp -implicitDefEqProofs only [go_sem]
      exact ⟨_, sx, DLe.refl _, hlx.trans (le_add hb9), hd, rfl, _, k3, hsx⟩
    rw [if_pos hd, hd]
    obtain ⟨d1, d2, d3, d4⟩ := decF_ok hd
    have hop : (decF b p).1.op = t := by rw [d2, ← ht]; rfl
    have hpos : (decF b p).1.pos = p := by rw [d2]; rfl
    generalize (decF b p).1 = I at hop hpos ⊢
    simp -implicitDefEqProofs only [go_sem, hT, hqx, h4x, c3, c6, forall_eq, n4, Ne.symm n4, p1, bYgdC0]
    intro b9 hb9
    refine za4 (must95_ok p) ?_
    have n9 : b9 ≠ b4 := fun h => hb9 (by rw [h]; exact .inl (by simp [h4x]))
    have hI : [D.int .i64 p] ++ (eIn { I with pos := 0 }).drop 1 = eIn I := by rw [← hpos]; rfl
    simp -implicitDefEqProofs only [go_sem, hT, hqx, h4x, c3, c6, forall_eq, n4, Ne.symm n4, n9, Ne.symm n9, p1, hI, bYgdC0]
    have hA : St.le (putL sx [.bx q C, .gr 1 s.fet.length o]) (grS 1 (sizeOp t.val) ob (putL sx L1)) := (hback sx hofx).2.trans (base_le hob)
    have hA4 : ¬ (putL sx [.bx q C, .gr 1 s.fet.length o]).has b4 := fun hh => by
      have : (grS 1 s.fet.length o (sx.set q C)).has b4 := hh
      rw [grS_has, set_has] at this
      rw [← hL1] at hofx
      rcases this with hx | hx | hx
      · exact hb4 (by rw [← hS0]; show (grS 1 s.fet.length o (sf.set q C)).has b4; rw [grS_has]; exact .inl hx)
      · exact n4 hx
      · exact hofx.2.2.1 hx
    exact ⟨_, putL sx [.bx q C, .gr 1 s.fet.length o], DLe.refl _, le_off (hA.trans (le_add hb9)) hA4, rfl, sx, by rw [hop]; exact hsx, (hback sx hofx).1, rfl⟩
  have p1 : ((i : Int) < sizeOp t.val) = True := eq_true (by omega)
  have w1 : IntKind.wrap .i64 ((p : Int) + i) = ((p + i : Nat) : Int) := wrapN (by omega) (by omega)
  have w2 : IntKind.wrap .i64 ((i : Int) + 1) = ((i + 1 : Nat) : Int) := wrapN (by omega) (by omega)
  by_cases hpi : b.length ≤ p + i
  · have p2 : ((b.length : Int) ≤ ((p + i : Nat) : Int)) = True := eq_true (by omega)
    have hd : (decF b p).2 = 2 := by
      unfold decF; rw [if_neg (by omega), if_neg (by omega), ht, if_neg hz, if_pos (by omega)]
    simp -implicitDefEqProofs only [go_sem, hT, hqx, h4x, c3, c6, forall_eq, n4, Ne.symm n4, p1, w1, p2, bYgdC0]
    refine callB_pan (refuse93 p 2) ?_
    simp -implicitDefEqProofs only [go_sem]
    exact ⟨_, sx, DLe.refl _, hlx, by rw [hd]; decide, by rw [hd], i, by omega, hsx⟩
  have p2 : ((b.length : Int) ≤ ((p + i : Nat) : Int)) = False := eq_false (by omega)
  simp -implicitDefEqProofs only [go_sem, hT, hqx, h4x, c3, c6, forall_eq, n4, Ne.symm n4, p1, w1, p2, bYgdC0]
  rw [hS2]
  have hof2 : offL sx L2 := by
    rw [← hL1] at hofx
    rw [← hL2]
    exact ⟨hofx.1, hofx.2.1, hofx.2.2.1, fun x hx hh => hob x hx ((hhas sx x).2 (.inr (.inr (.inr hh)))), trivial⟩
  refine callB_under L2 hof2 (hF.run _ (p + i) sx hsx (asc_more ha) (by omega)) (fun d sy hR hofy => ?_) fun d s' h => h.elim
  obtain ⟨rfl, hsy⟩ := hR
  rw [← hS2]
  have hofy1 : offL sy L1 := by rw [← hL2] at hofy; rw [← hL1]; exact ⟨hofy.1, hofy.2.1, hofy.2.2.1, trivial⟩
  have hqy : (grS 1 i ob (putL sy L1)).box q = some C := by rw [grS_boxa, hq1]
  have h4y : (grS 1 i ob (putL sy L1)).box b4 = some (eIn ins0) := by rw [grS_boxa, h41]
  have hoby : grN ob (putL sy L1) := fun x hx hh => by
    rcases (hhas sy x).1 hh with h | h | h | h
    · exact hob x hx ((hhas sx x).2 (.inl h))
    · exact hob x hx ((hhas sx x).2 (.inr (.inl h)))
    · exact hob x hx ((hhas sx x).2 (.inr (.inr (.inl h))))
    · rw [← hL2] at hofy; exact hofy.2.2.2.1 x hx h
  simp -implicitDefEqProofs only [go_sem, hT, hqy, h4y, c3, c6, forall_eq, n4, Ne.symm n4, p1, w1, p2, bYgdC0]
  have hrow : rws eT ((b.drop p).take i) ++ [[D.int .u8 (bt b (p + i))]] = rws eT ((b.drop p).take (i + 1)) := by
    have hlt : i < (b.drop p).length := by rw [List.length_drop]; omega
    rw [List.take_succ_eq_append_getElem hlt, rws, rws, List.map_append]
    simp [eT, bt, List.getElem_drop, List.getElem?_eq_getElem (show p + i < b.length by omega)]
  refine app_bs Tryz.sli26 Tryz.sz5 Tryz.by5 Tryz.zero5 rfl (n := i) (m := 1) (by simp [rws, List.length_take, List.length_drop]; omega) rfl hoby (rows_len (enc := eT) (n := 1) (fun _ => rfl) _) (by simp) (by simp) (by omega) fun b' hb' => ?_
  simp -implicitDefEqProofs only [go_sem, hT, hqy, h4y, c3, c6, forall_eq, n4, Ne.symm n4, p1, w1, w2, p2, bYgdC0]
  refine ⟨(i + 1, some b', sy), ⟨by simp only; omega, by simp only; omega, by simp only; omega, ?_, hofy1, fun x hx => by cases hx; exact hb'⟩, by simp only; omega, ⟨?_, rfl⟩, St.le.refl _⟩
  · simp only; rw [List.range'_1_concat, ← List.append_assoc]; exact hsy
  · simp only; rw [← hrow]; rfl
end
end Go.AL
