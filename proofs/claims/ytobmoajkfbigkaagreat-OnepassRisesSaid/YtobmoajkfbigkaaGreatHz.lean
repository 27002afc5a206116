import Derived.Test.YtobmoajkfbigkaaGreatHy
import Derived.Test.YtobmoajkfbigkaaGreatHp
import Derived.Test.YtobmoajkfbigkaaGreatHk
import Derived.Test.YtobmoajkfbigkaaGreatHd
import Derived.Test.YtobmoajkfbigkaaGreatRows
set_option linter.unusedSimpArgs false
set_option linter.unusedVariables false
set_option maxRecDepth 100000
set_option maxHeartbeats 4000000
set_option linter.defProp false
namespace Go.AL
open Go.Proofs
theorem clone17p (xs : List Ty) (o : Own) (h0 : nilOk o xs.length) (hl : xs.length * 1 ≤ 140737488355328) : PCall Tryz.prog 17 [.slice o (rws eT xs)] (.slice .no (rws eT xs)) := by
  refine F17.pcall' rfl fun T hT => ?_
  simp -implicitDefEqProofs only [go_sem, c17, hT]
  intro r hr
  refine br_split (fun h => ?_) fun h => ?_
  · exact DLe_nils (nilR_nil hr h fun h => by simpa [rws_nil] using h0 h)
  · simp -implicitDefEqProofs only [go_sem, hT, rws_one eT_len, rws_nil, hl]
    rintro rfl
    exact DLe_nils rfl
theorem checkD_no {e : En} {n : Int} {b c : List Ty} (h : (checkD e n b c).2.2 ≠ 0) : (checkD e n b c).1 = (0, []) := by
  unfold checkD at h ⊢
  split
  · rfl
  rename_i h1
  split
  · rfl
  rename_i s h2
  split
  · rfl
  rename_i h3
  rw [h1] at h
  simp only at h
  rw [h2] at h
  simp only at h
  rw [h3] at h
  exact absurd rfl h
theorem checkD_rises {e : En} {n : Int} {b c : List Ty} (h : (checkD e n b c).2.2 = 0) :
    (∃ hd : 0 < (checkD e n b c).1.2.length, (checkD e n b c).1.2[0] = 0) ∧ OkR b (checkD e n b c).1.2 ∧ (checkD e n b c).1.1 ≤ (accR b (checkD e n b c).1.2).2 + 1 := by
  cases hb : beginD e n b.length c with
  | some p =>
    exfalso
    obtain ⟨a, w⟩ := p
    have he : (checkD e n b c).2.2 = w := by unfold checkD; rw [hb]
    rw [he] at h
    subst h
    unfold beginD at hb
    split at hb; · cases hb
    split at hb; · cases hb
    split at hb; · cases hb
    split at hb; · rename_i h4; simp only [Option.some.injEq, Prod.mk.injEq] at hb; exact h4 hb.2
    split at hb
    · cases hb
    · split at hb <;> cases hb
  | none =>
    have hb0 : 0 < b.length := by
      unfold beginD at hb
      split at hb; · cases hb
      split at hb; · cases hb
      split at hb; · cases hb
      omega
    cases hr : runD e b (decC c).1.es (b.length + 1) (startS e n) with
    | no a w =>
      have he : (checkD e n b c).2.2 = w := by unfold checkD; rw [hb]; simp only; rw [hr]
      rw [he] at h
      exact absurd h (runD_no _ _ hr)
    | ok s =>
      cases hl : lateE (decC c).1.es b.length with
      | some x =>
        have he : (checkD e n b c).2.2 = 93 := by unfold checkD; rw [hb]; simp only; rw [hr]; simp only; rw [hl]
        rw [he] at h; cases h
      | none =>
        have he : checkD e n b c = ((s.cmp, s.fet), 0, 0) := by unfold checkD; rw [hb]; simp only; rw [hr]; simp only; rw [hl]
        rw [he]
        have hR := rises_run hr
        have hE := runD_end _ _ _ (by show b.length < 0 + (b.length + 1); omega) hr
        have hne : s.fet ≠ [] := fun h0 => by have := (hR.z h0).1; omega
        refine ⟨⟨List.length_pos_iff.2 hne, ?_⟩, hR.ok, by have := hR.cmp; simp only; omega⟩
        have := hR.hd hne
        rw [List.head_eq_getElem] at this
        exact this
theorem acc_take (b : List Ty) (l : List Nat) : ∀ i, i ≤ l.length → (accR b (l.take i)).2 ≤ 2 * i
  | 0, _ => by simp [accR]
  | i + 1, h => by
    have := acc_take b l i (by omega)
    rw [List.take_succ_eq_append_getElem (by omega), accR_snoc]
    simp only [stepR]
    split <;> split <;> omega
theorem eGh_two (g : Nat × List Nat) : eGh g = [.slice .no (rws eN g.2), .int .i64 g.1] := rfl
def bYgnG0 := aI @eEn_len (aI @eEn_take (aI @anD @gh_len))
def bYgnG1 := aI @eIn_len (aI @eIn_take (aI @Int.ofNat_zero @gdD))
theorem law3 (e : En) (c : Cd) (hw : WideE e) (hd : WideD c) : PCall Tryz.prog 3 [.agg (eEn e), .agg (eCd c)] (.bool true) := by
  obtain ⟨hb, hc⟩ := hd
  have hf : (checkD e c.n c.b c.c).1.2.length ≤ 140737488351232 := Nat.le_trans (checkD_short _ _ _ _) (by omega)
  refine F3.pcall' rfl fun T hT => ?_
  simp -implicitDefEqProofs only [go_sem, c3, hT, eCd, bYgnG0]
  intro b2 b3 n1 n2
  simp -implicitDefEqProofs only [go_sem, hT, eCd, n1, n2, bYgnG0]
  refine ⟨by rintro b rfl; simp, ?_⟩
  refine callB_pure (env30 e hw) ?_
  simp -implicitDefEqProofs only [go_sem, hT, eCd, n1, n2, bYgnG0]
  refine callB_pure (clone17p c.b .no (by simp [nilOk]) (by omega)) ?_
  simp -implicitDefEqProofs only [go_sem, hT, eCd, n1, n2, bYgnG0]
  refine callB_pure (clone17p c.c .no (by simp [nilOk]) (by omega)) ?_
  simp -implicitDefEqProofs only [go_sem, hT, eCd, n1, n2, bYgnG0]
  have hcheck := check15 e c.n c.b c.c .no .no hw (by omega) (by omega)
  have href := refCheck18 e c.n c.b c.c .no .no hw (by omega) (by omega)
  have hno := @checkD_no e c.n c.b c.c
  have hri := @checkD_rises e c.n c.b c.c
  generalize checkD e c.n c.b c.c = r at *
  obtain ⟨⟨cmp, fet⟩, a, w⟩ := r
  simp only at hno hri hf hcheck href
  refine callB_pure hcheck ?_
  simp -implicitDefEqProofs only [go_sem, hT, eCd, n1, n2, bYgnG0]
  intro b5 p1 p1' p2 p2'
  simp -implicitDefEqProofs only [go_sem, hT, eCd, n1, n2, p1, p1', p2, p2', bYgnG0]
  refine callB_pure href ?_
  simp -implicitDefEqProofs only [go_sem, hT, eCd, n1, n2, p1, p1', p2, p2', bYgnG0]
  intro b8 q1 q1' q2 q2' q3 q3' q4 q4'
  by_cases hz : w = 0
  rotate_left
  · have z1 : ((w : Int) = 0) = False := eq_false (by omega)
    have h0 := hno hz
    simp only [Prod.mk.injEq] at h0
    obtain ⟨rfl, rfl⟩ := h0
    have e0 : ((w : Int) = w) = True := eq_true rfl
    simp -implicitDefEqProofs only [go_sem, hT, eEn_len, eEn_take, anD, gh_len, eCd, n1, n2, p1, p1', p2, p2', q1, q1', q2, q2', q3, q3', q4, q4', z1, e0, eGh_two, rws_mt, List.length_nil, Int.ofNat_zero]
  subst hz
  obtain ⟨⟨hl0, hh0⟩, hok, hcm⟩ := hri rfl
  have l0 : ((fet.length : Int) = 0) = False := eq_false (by omega)
  have l1 : ((0 : Int) < fet.length) = True := eq_true (by omega)
  have f0 : (rws eN fet)[0]?.getD [] = [.int .i64 0] := by rw [rws_at hl0, hh0]; rfl
  simp -implicitDefEqProofs only [go_sem, hT, eEn_len, eEn_take, anD, gh_len, eCd, n1, n2, p1, p1', p2, p2', q1, q1', q2, q2', q3, q3', q4, q4', eGh_two, Int.ofNat_zero, l0, l1, f0, set_set]
  have hst : ∀ S : St, S = (((({} : St).set b2 (eEn e)).set b3 [.int .i64 c.n, .slice .no (rws eT c.b), .slice .no (rws eT c.c)]).set b5 [.slice .no (rws eN fet), .int .i64 cmp]).set b8 [.slice .no (rws eN fet), .int .i64 cmp] → S.box b3 = some [.int .i64 c.n, .slice .no (rws eT c.b), .slice .no (rws eT c.c)] ∧ S.box b5 = some [.slice .no (rws eN fet), .int .i64 cmp] := by
    rintro S rfl
    simp [St.set, n1, n2, p1, p1', p2, p2', q1, q1', q2, q2', q3, q3', q4, q4']
  generalize hS : (((({} : St).set b2 (eEn e)).set b3 [.int .i64 c.n, .slice .no (rws eT c.b), .slice .no (rws eT c.c)]).set b5 [.slice .no (rws eN fet), .int .i64 cmp]).set b8 [.slice .no (rws eN fet), .int .i64 cmp] = S
  obtain ⟨k3, k5⟩ := hst S hS.symm
  clear hst hS
  refine loopL F3 (fun i : Nat => [(3, .ptr b3 0), (5, .ptr b5 0), (11, .int .i64 ((accR c.b (fet.take i)).2 : Nat)), (12, .int .i64 ((accR c.b (fet.take i)).1 : Nat)), (76, .slice .no (rws eN fet)), (77, .int .i64 fet.length), (78, .int .i64 i)]) (fun _ => S) (fun i => i ≤ fet.length) (fun i => fet.length - i) 0
    (Nat.zero_le _) ?_ (St.le.refl _) ?_
  · simp -implicitDefEqProofs only [go_sem, hT, Int.ofNat_zero, List.take_zero, accR, List.foldl_nil]
  clear hT T
  rintro i hi T hT
  have hacc := acc_take c.b fet i hi
  by_cases h : i < fet.length
  · have h3 : ((i : Int) < fet.length) = True := eq_true (by omega)
    have h0 : (0 ≤ (i : Int)) = True := eq_true (by omega)
    obtain ⟨o1, o2⟩ := hok i h
    obtain ⟨d1, d2, d3, d4⟩ := decF_ok o2
    have htk : accR c.b (fet.take (i + 1)) = stepR c.b (accR c.b (fet.take i)) fet[i] := by rw [List.take_succ_eq_append_getElem h, accR_snoc]
    simp only [stepR] at htk
    have hR : (rws eN fet)[i]?.getD [] = [.int .i64 fet[i]] := by rw [rws_at h]; rfl
    have hdec := refDecode19 c.b .no fet[i] (by omega) (by omega)
    have hb1 : fet[i] ≤ 140737488351232 := by omega
    generalize fet[i] = x at *
    generalize accR c.b (fet.take i) = acc at *
    obtain ⟨ed, nx⟩ := acc
    simp only at o1 hacc
    have g1 : ((x : Int) < ed) = False := eq_false (by omega)
    rw [o2] at hdec
    generalize (decF c.b x).1 = ins at *
    simp -implicitDefEqProofs only [go_sem, hT, h3, h0, hR, Int.toNat_natCast, g1, k3, k5]
    refine callB_pure hdec ?_
    simp -implicitDefEqProofs only [go_sem, hT, k3, k5, eIn_len, eIn_take, Int.ofNat_zero]
    intro b15 hb15
    have f3 : ¬ b3 = b15 := fun he => by subst he; exact hb15 (.inl (by rw [k3]; simp))
    have f5 : ¬ b5 = b15 := fun he => by subst he; exact hb15 (.inl (by rw [k5]; simp))
    have i1 : (eIn ins)[1]? = some (.int .u8 (ins.op.val : Int)) := rfl
    have w1 : IntKind.i64.wrap ((x : Int) + sizeOp ins.op.val) = ((x + sizeOp ins.op.val : Nat) : Int) := by rw [wrap_i64 (by omega) (by omega)]; simp
    simp -implicitDefEqProofs only [go_sem, hT, k3, k5, f3, f5, i1, bYgnG1]
    refine callB_pure (refSize74 ins.op) ?_
    simp -implicitDefEqProofs only [go_sem, hT, k3, k5, f3, f5, i1, w1, bYgnG1]
    refine callB_pure (refEnds41 ins.op) ?_
    have hle : St.le S (S.set b15 (eIn ins)) := le_add hb15
    have v1 : IntKind.i64.wrap ((nx : Int) + 1) = ((nx + 1 : Nat) : Int) := by rw [wrap_i64 (by omega) (by omega)]; simp
    have v2 : IntKind.i64.wrap (((nx + 1 : Nat) : Int) + 1) = ((nx + 1 + 1 : Nat) : Int) := by rw [wrap_i64 (by omega) (by omega)]; simp
    have v3 : IntKind.i64.wrap ((i : Int) + 1) = ((i + 1 : Nat) : Int) := by rw [wrap_i64 (by omega) (by omega)]; simp
    cases hE : endsB ins.op.val <;> cases hJ : jumpsB ins.op.val
    all_goals
      simp -implicitDefEqProofs only [go_sem, hT, k3, k5, f3, f5, i1, Bool.not_true, Bool.not_false, v1, bYgnG1]
      refine callB_pure (refJumps22 ins.op) ?_
      rw [hJ]
      simp -implicitDefEqProofs only [go_sem, hT, k3, k5, f3, f5, i1, v1, v2, v3, bYgnG1]
      refine ⟨i + 1, by omega, by omega, ?_, by rw [set_set]; exact hle⟩
      rw [htk]
      simp [hE, hJ]
  · have h3 : ((i : Int) < fet.length) = False := eq_false (by omega)
    have hfull : fet.take i = fet := List.take_of_length_le (by omega)
    rw [hfull] at hT hacc
    have v1 : IntKind.i64.wrap (((accR c.b fet).2 : Int) + 1) = (((accR c.b fet).2 + 1 : Nat) : Int) := by rw [wrap_i64 (by omega) (by omega)]; simp
    have c0 : ((cmp : Int) ≥ 0) = True := eq_true (by omega)
    have c1 : (0 ≤ (cmp : Int)) = True := eq_true (by omega)
    have c2 : ((cmp : Int) ≤ ((accR c.b fet).2 + 1 : Nat)) = True := eq_true (by omega)
    simp -implicitDefEqProofs only [go_sem, hT, h3, k3, k5, v1, c0, c1, c2]
end Go.AL
namespace Go.AL
open Go.Proofs Go.ChangeShapes Go.WideShapes Go.ChangeAt Go.RowKit
open Go.Proofs.YtobmoajkfbigkaaGreat
theorem rws_of {α : Type} {enc : α → List D} : ∀ {es : List (List D)}, (∀ r ∈ es, ∃ x, r = enc x) → ∃ xs, es = rws enc xs
  | [], _ => ⟨[], rfl⟩
  | r :: es, h => by
    obtain ⟨x, rfl⟩ := h r (by simp)
    obtain ⟨xs, rfl⟩ := rws_of (es := es) (fun r hr => h r (by simp [hr]))
    exact ⟨x :: xs, rfl⟩
theorem wt_int {P : Program} {n : Nat} {t : TypeId} {k : IntKind} {ds : List D} (hu : P.underlying t = some (.int k)) (h : WT P n t ds) : ∃ z, ds = [.int k z] ∧ (Lit.int k z).wf = true := by
  cases n with
  | zero => exact h.elim
  | succ n => unfold WT at h; rw [hu] at h; exact h
theorem wt_slice {P : Program} {n : Nat} {t e : TypeId} {ds : List D} (hu : P.underlying t = some (.slice e)) (h : WT P (n + 1) t ds) : ∃ es, ds = [.slice .no es] ∧ es.length * P.bytesOf e ≤ reachBytes ∧ ∀ r ∈ es, WT P n e r := by
  unfold WT at h; rw [hu] at h; exact h
theorem wt_struct {P : Program} {n : Nat} {t : TypeId} {fs : Array Field} {ds : List D} (hu : P.underlying t = some (.struct fs)) (h : WT P (n + 1) t ds) : WTs (WT P n) (fs.toList.map (·.type)) ds := by
  unfold WT at h; rw [hu] at h; exact h
theorem wf_u8 {z : Int} (h : (Lit.int .u8 z).wf = true) : ∃ t : Ty, z = t.val := by
  simp [Lit.wf, IntKind.min, IntKind.max, IntKind.signed, IntKind.bits] at h
  exact ⟨⟨z.toNat, by omega⟩, by simp; omega⟩
theorem reach_eq : reachBytes = 140737488351232 := rfl
theorem wt22 {n : Nat} {ds : List D} (h : WT Tryz.prog (n + 1) 93 ds) : ∃ ts : List Ty, ds = [.slice .no (rws eT ts)] ∧ ts.length ≤ 140737488351232 := by
  obtain ⟨es, rfl, hl, hr⟩ := wt_slice Tryz.underlying93 h
  obtain ⟨ts, rfl⟩ := rws_of (enc := eT) (fun r hr' => by
    obtain ⟨z, rfl, hz⟩ := wt_int Tryz.underlying81 (hr r hr')
    obtain ⟨t, rfl⟩ := wf_u8 hz
    exact ⟨t, rfl⟩)
  have hb : Tryz.prog.bytesOf 81 = 1 := by kernel_rfl
  rw [hb, rws_len] at hl
  exact ⟨ts, rfl, by rw [reach_eq] at hl; omega⟩
theorem wt25 {n : Nat} {ds : List D} (h : WT Tryz.prog (n + 2) 95 ds) : ∃ s : Sg, ds = eSg s ∧ s.ps.length ≤ 140737488351232 := by
  obtain ⟨d1, d2, rfl, h1, d3, d4, rfl, h2, h3⟩ := wt_struct Tryz.underlying95 h
  obtain ⟨ts, rfl, hl⟩ := wt22 h1
  obtain ⟨z, rfl, hz⟩ := wt_int Tryz.underlying81 h2
  obtain ⟨t, rfl⟩ := wf_u8 hz
  obtain rfl : d4 = [] := h3
  exact ⟨⟨ts, t⟩, rfl, hl⟩
theorem wt_str {P : Program} {n : Nat} {t : TypeId} {ds : List D} (hu : P.underlying t = some .string) (h : WT P n t ds) : ∃ s : ByteArray, ds = [.str s] := by
  cases n with
  | zero => exact h.elim
  | succ n => unfold WT at h; rw [hu] at h; obtain ⟨s, hs, _⟩ := h; exact ⟨s, hs⟩
theorem rws_of' {α : Type} {enc : α → List D} {p : α → Prop} : ∀ {es : List (List D)}, (∀ r ∈ es, ∃ x, r = enc x ∧ p x) → ∃ xs, es = rws enc xs ∧ ∀ x ∈ xs, p x
  | [], _ => ⟨[], rfl, by simp⟩
  | r :: es, h => by
    obtain ⟨x, rfl, hx⟩ := h r (by simp)
    obtain ⟨xs, rfl, hxs⟩ := rws_of' (es := es) (fun r hr => h r (by simp [hr]))
    exact ⟨x :: xs, rfl, by simpa using ⟨hx, hxs⟩⟩
theorem wt110 {n : Nat} {ds : List D} (h : WT Tryz.prog (n + 2) 157 ds) : ∃ f : Fd, ds = eF f := by
  obtain ⟨d1, d2, rfl, h1, d3, d4, rfl, h2, h3⟩ := wt_struct Tryz.underlying157 h
  obtain ⟨s, rfl⟩ := wt_str Tryz.underlying9 h1
  obtain ⟨z, rfl, hz⟩ := wt_int Tryz.underlying81 h2
  obtain ⟨t, rfl⟩ := wf_u8 hz
  obtain rfl : d4 = [] := h3
  exact ⟨⟨s, t⟩, rfl⟩
theorem wt105 {n : Nat} {ds : List D} (h : WT Tryz.prog (n + 3) 152 ds) : ∃ fs : List Fd, ds = [.slice .no (rws eF fs)] ∧ fs.length * 24 ≤ 140737488351232 := by
  obtain ⟨es, rfl, hl, hr⟩ := wt_slice Tryz.underlying152 h
  obtain ⟨ts, rfl⟩ := rws_of (enc := eF) (fun r hr' => wt110 (hr r hr'))
  have hb : Tryz.prog.bytesOf 157 = 24 := by kernel_rfl
  rw [hb, rws_len] at hl
  exact ⟨ts, rfl, by rw [reach_eq] at hl; omega⟩
theorem wt107 {n : Nat} {ds : List D} (h : WT Tryz.prog (n + 4) 154 ds) : ∃ c : Cl, ds = eC c ∧ c.fields.length * 24 ≤ 140737488351232 := by
  obtain ⟨d1, d2, rfl, h1, d3, d4, rfl, h2, d5, d6, rfl, h3, h4⟩ := wt_struct Tryz.underlying154 h
  obtain ⟨s, rfl⟩ := wt_str Tryz.underlying9 h1
  obtain ⟨z, rfl, hz⟩ := wt_int Tryz.underlying3 h2
  obtain ⟨fs, rfl, hl⟩ := wt105 h3
  obtain rfl : d6 = [] := h4
  exact ⟨⟨s, z, fs⟩, rfl, hl⟩
theorem wt52 {n : Nat} {ds : List D} (h : WT Tryz.prog (n + 5) 22 ds) : ∃ l : List Cl, ds = [.slice .no (rws eC l)] ∧ Wide l := by
  obtain ⟨es, rfl, hl, hr⟩ := wt_slice Tryz.underlying22 h
  obtain ⟨l, rfl, hw⟩ := rws_of' (enc := eC) (fun r hr' => wt107 (hr r hr'))
  have hb : Tryz.prog.bytesOf 154 = 48 := by kernel_rfl
  rw [hb, rws_len] at hl
  exact ⟨l, rfl, by rw [reach_eq] at hl; omega, hw⟩
theorem wt49 {n : Nat} {ds : List D} (h : WT Tryz.prog (n + 3) 23 ds) : ∃ l : List Sg, ds = [.slice .no (rws eSg l)] ∧ l.length * 32 ≤ 140737488351232 ∧ ∀ s ∈ l, s.ps.length ≤ 140737488351232 := by
  obtain ⟨es, rfl, hl, hr⟩ := wt_slice Tryz.underlying23 h
  obtain ⟨l, rfl, hw⟩ := rws_of' (enc := eSg) (p := fun s => s.ps.length ≤ 140737488351232) (fun r hr' => wt25 (hr r hr'))
  have hb : Tryz.prog.bytesOf 95 = 32 := by kernel_rfl
  rw [hb, rws_len] at hl
  exact ⟨l, rfl, by rw [reach_eq] at hl; omega, hw⟩
theorem wt57 {n : Nat} {ds : List D} (h : WT Tryz.prog (n + 6) 25 ds) : ∃ e : En, ds = eEn e ∧ WideE e := by
  obtain ⟨d1, d2, rfl, h1, d3, d4, rfl, h2, d5, d6, rfl, h3, h4⟩ := wt_struct Tryz.underlying25 h
  obtain ⟨l, rfl, hl⟩ := wt52 h1
  obtain ⟨s, rfl, hs⟩ := wt49 h2
  obtain ⟨z, rfl, hz⟩ := wt_int Tryz.underlying3 h3
  obtain rfl : d6 = [] := h4
  exact ⟨⟨l, s, z⟩, rfl, hl, hs⟩
end Go.AL
namespace Go.AL
open Go.Proofs Go.ChangeShapes Go.WideShapes Go.ChangeAt Go.RowKit
theorem wt26b {n : Nat} {ds : List D} (h : WT Tryz.prog (n + 1) 26 ds) : ∃ ts : List Ty, ds = [.slice .no (rws eT ts)] ∧ ts.length ≤ 140737488351232 := by
  obtain ⟨es, rfl, hl, hr⟩ := wt_slice Tryz.underlying26 h
  obtain ⟨ts, rfl⟩ := rws_of (enc := eT) (fun r hr' => by
    obtain ⟨z, rfl, hz⟩ := wt_int Tryz.underlying5 (hr r hr')
    obtain ⟨t, rfl⟩ := wf_u8 hz
    exact ⟨t, rfl⟩)
  have hb : Tryz.prog.bytesOf 5 = 1 := by kernel_rfl
  rw [hb, rws_len] at hl
  exact ⟨ts, rfl, by rw [reach_eq] at hl; omega⟩
theorem wt28 {n : Nat} {ds : List D} (h : WT Tryz.prog (n + 2) 28 ds) : ∃ c : Cd, ds = eCd c ∧ WideD c := by
  obtain ⟨d1, d2, rfl, h1, d3, d4, rfl, h2, d5, d6, rfl, h3, h4⟩ := wt_struct Tryz.underlying28 h
  obtain ⟨z, rfl, hz⟩ := wt_int Tryz.underlying3 h1
  obtain ⟨b, rfl, hb⟩ := wt26b h2
  obtain ⟨c, rfl, hc⟩ := wt26b h3
  obtain rfl : d6 = [] := h4
  exact ⟨⟨z, b, c⟩, rfl, hb, hc⟩
end Go.AL
