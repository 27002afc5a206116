import Derived.Test.YtobmoajkfbigkaaGreatGy
import Derived.Test.YtobmoajkfbigkaaGreatGh
import Derived.Test.YtobmoajkfbigkaaGreatGk
import Derived.Test.YtobmoajkfbigkaaGreatGd
import Derived.Test.YtobmoajkfbigkaaGreatRows
set_option linter.unusedSimpArgs false
set_option linter.unusedVariables false
set_option maxRecDepth 100000
set_option maxHeartbeats 4000000
set_option linter.defProp false
namespace Go.AL
open Go.Proofs
structure Cd where
  n : Int
  b : List Ty
  c : List Ty
def eCd (c : Cd) : List D := [.int .i64 c.n, .slice .no (rws eT c.b), .slice .no (rws eT c.c)]
def WideD (c : Cd) : Prop := c.b.length ≤ 140737488351232 ∧ c.c.length ≤ 140737488351232
theorem run_short {e : En} {b : List Ty} {l : List Ey} {k : Nat} {s : PS} {f : Fr} (h : runD e b l k ⟨0, f, true, 0, []⟩ = .ok s) : s.fet.length ≤ b.length := by
  have := runD_inv (J := fun s => s.fet.length ≤ s.p ∧ s.p ≤ b.length) (J' := fun s => s.fet.length ≤ s.p ∧ s.p ≤ b.length) ?_ ?_ ?_ k _ s ?_ h
  · omega
  · intro s s' hp hJ hc
    obtain ⟨hl, rfl, _⟩ := come_off hc
    have := nextP_gt (l := l) hp
    exact ⟨by simp only; omega, by simp only; omega⟩
  · intro s s' hp hJ hc
    obtain ⟨h1, h2, h3, h4, _⟩ := come_on hc
    rw [h1, h3]
    exact hJ
  · rintro s s' ⟨j1, j2⟩ hf
    obtain ⟨f1, _, _, _, _, rfl⟩ := fet_ok hf
    obtain ⟨_, _, d1, d2⟩ := decF_ok f1
    exact ⟨by simp; omega, by simp only; omega⟩
  · exact ⟨Nat.le_refl _, Nat.zero_le _⟩
theorem checkD_short (e : En) (n : Int) (b c : List Ty) : (checkD e n b c).1.2.length ≤ b.length := by
  unfold checkD
  split
  · simp
  split
  · simp
  rename_i h
  split
  · simp
  · exact run_short h
def bYgnD0 := aI @eEn_len (aI @eEn_take (aI @anD (aI @gh_len @gh_take)))
theorem law5 (e : En) (c : Cd) (hw : WideE e) (hd : WideD c) : PCall Tryz.prog 5 [.agg (eEn e), .agg (eCd c)] (.bool true) := by
  obtain ⟨hb, hc⟩ := hd
  have hf : (checkD e c.n c.b c.c).1.2.length ≤ 140737488355328 := Nat.le_trans (checkD_short _ _ _ _) (by omega)
  refine F5.pcall' rfl fun T hT => ?_
  simp -implicitDefEqProofs only [go_sem, c5, hT, eCd, bYgnD0]
  intro b2 b3 n1 n2
  simp -implicitDefEqProofs only [go_sem, hT, eCd, n1, n2, bYgnD0]
  refine callB_pure (env30 e hw) ?_
  simp -implicitDefEqProofs only [go_sem, hT, eCd, n1, n2, bYgnD0]
  intro b5 m1 m1' m2 m2'
  simp -implicitDefEqProofs only [go_sem, hT, eCd, n1, n2, m1, m1', m2, m2', bYgnD0]
  refine callB_pure (roomy27 c.b .no (by simp [nilOk]) (by omega)) ?_
  simp -implicitDefEqProofs only [go_sem, hT, eCd, n1, n2, m1, m1', m2, m2', bYgnD0]
  refine callB_pure (roomy27 c.c .no (by simp [nilOk]) (by omega)) ?_
  simp -implicitDefEqProofs only [go_sem, hT, eCd, n1, n2, m1, m1', m2, m2', bYgnD0]
  refine callB_pure (check15 e c.n c.b c.c .no .no hw (by omega) (by omega)) ?_
  simp -implicitDefEqProofs only [go_sem, hT, eCd, n1, n2, m1, m1', m2, m2', bYgnD0]
  intro b10 p1 p1' p2 p2' p3 p3' p4 p4'
  simp -implicitDefEqProofs only [go_sem, hT, eCd, n1, n2, m1, m1', m2, m2', p1, p1', p2, p2', p3, p3', p4, p4', bYgnD0]
  refine callB_pure (refCheck18 e c.n c.b c.c .no .no hw (by omega) (by omega)) ?_
  simp -implicitDefEqProofs only [go_sem, hT, eCd, n1, n2, m1, m1', m2, m2', p1, p1', p2, p2', p3, p3', p4, p4', bYgnD0]
  intro b13 q1 q1' q2 q2' q3 q3' q4 q4' q5 q5' q6 q6'
  simp -implicitDefEqProofs only [go_sem, hT, eCd, n1, n2, m1, m1', m2, m2', p1, p1', p2, p2', p3, p3', p4, p4', q1, q1', q2, q2', q3, q3', q4, q4', q5, q5', q6, q6', bYgnD0]
  refine callB_pure (same28 _ _ hf) ?_
  simp -implicitDefEqProofs only [go_sem, hT, eCd, n1, n2, m1, m1', m2, m2', p1, p1', p2, p2', p3, p3', p4, p4', q1, q1', q2, q2', q3, q3', q4, q4', q5, q5', q6, q6', bYgnD0]
  refine callB_pure (sameEnv33 e e hw) ?_
  simp -implicitDefEqProofs only [go_sem, hT, eCd, n1, n2, m1, m1', m2, m2', p1, p1', p2, p2', p3, p3', p4, p4', q1, q1', q2, q2', q3, q3', q4, q4', q5, q5', q6, q6', bYgnD0]
  refine callB_pure (untouched30 c.b .no .no (by omega)) ?_
  simp -implicitDefEqProofs only [go_sem, hT, eCd, n1, n2, m1, m1', m2, m2', p1, p1', p2, p2', p3, p3', p4, p4', q1, q1', q2, q2', q3, q3', q4, q4', q5, q5', q6, q6', bYgnD0]
  refine callB_pure (untouched30 c.c .no .no (by omega)) ?_
  simp -implicitDefEqProofs only [go_sem, hT, eCd, n1, n2, m1, m1', m2, m2', p1, p1', p2, p2', p3, p3', p4, p4', q1, q1', q2, q2', q3, q3', q4, q4', q5, q5', q6, q6', bYgnD0]
  trace_state
end Go.AL
namespace Go.AL
open Go.Proofs Go.ChangeShapes Go.WideShapes Go.ChangeAt Go.RowKit
open Go.Proofs.YtobmoajkfbigkaaGreat
theorem rws_of {α : Type} {enc : α → List D} : ∀ {es : List (List D)}, (∀ r ∈ es, ∃ x, r = enc x) → ∃ xs, es = rws enc xs
  | [], _ => ⟨[], rfl⟩
  | r :: es, h => by
    obtain ⟨x, rfl⟩ := h r (by simp)
    obtain ⟨xs, rfl⟩ := rws_of (es := es) (fun r hr => h r (by simp [hr]))
    exact ⟨x :: xs, rfl⟩
theorem wt_int {P : Program} {n : Nat} {t : TypeId} {k : IntKind} {ds : List D} (hu : P.underlying t = some (.int k)) (h : WT P n t ds) : ∃ z, ds = [.int k z] ∧ (Lit.int k z).wf = true := by
  cases n with
  | zero => exact h.elim
  | succ n => unfold WT at h; rw [hu] at h; exact h
theorem wt_slice {P : Program} {n : Nat} {t e : TypeId} {ds : List D} (hu : P.underlying t = some (.slice e)) (h : WT P (n + 1) t ds) : ∃ es, ds = [.slice .no es] ∧ es.length * P.bytesOf e ≤ reachBytes ∧ ∀ r ∈ es, WT P n e r := by
  unfold WT at h; rw [hu] at h; exact h
theorem wt_struct {P : Program} {n : Nat} {t : TypeId} {fs : Array Field} {ds : List D} (hu : P.underlying t = some (.struct fs)) (h : WT P (n + 1) t ds) : WTs (WT P n) (fs.toList.map (·.type)) ds := by
  unfold WT at h; rw [hu] at h; exact h
theorem wf_u8 {z : Int} (h : (Lit.int .u8 z).wf = true) : ∃ t : Ty, z = t.val := by
  simp [Lit.wf, IntKind.min, IntKind.max, IntKind.signed, IntKind.bits] at h
  exact ⟨⟨z.toNat, by omega⟩, by simp; omega⟩
theorem reach_eq : reachBytes = 140737488351232 := rfl
theorem wt22 {n : Nat} {ds : List D} (h : WT Tryz.prog (n + 1) 93 ds) : ∃ ts : List Ty, ds = [.slice .no (rws eT ts)] ∧ ts.length ≤ 140737488351232 := by
  obtain ⟨es, rfl, hl, hr⟩ := wt_slice Tryz.underlying93 h
  obtain ⟨ts, rfl⟩ := rws_of (enc := eT) (fun r hr' => by
    obtain ⟨z, rfl, hz⟩ := wt_int Tryz.underlying81 (hr r hr')
    obtain ⟨t, rfl⟩ := wf_u8 hz
    exact ⟨t, rfl⟩)
  have hb : Tryz.prog.bytesOf 81 = 1 := by kernel_rfl
  rw [hb, rws_len] at hl
  exact ⟨ts, rfl, by rw [reach_eq] at hl; omega⟩
theorem wt25 {n : Nat} {ds : List D} (h : WT Tryz.prog (n + 2) 95 ds) : ∃ s : Sg, ds = eSg s ∧ s.ps.length ≤ 140737488351232 := by
  obtain ⟨d1, d2, rfl, h1, d3, d4, rfl, h2, h3⟩ := wt_struct Tryz.underlying95 h
  obtain ⟨ts, rfl, hl⟩ := wt22 h1
  obtain ⟨z, rfl, hz⟩ := wt_int Tryz.underlying81 h2
  obtain ⟨t, rfl⟩ := wf_u8 hz
  obtain rfl : d4 = [] := h3
  exact ⟨⟨ts, t⟩, rfl, hl⟩
theorem wt_str {P : Program} {n : Nat} {t : TypeId} {ds : List D} (hu : P.underlying t = some .string) (h : WT P n t ds) : ∃ s : ByteArray, ds = [.str s] := by
  cases n with
  | zero => exact h.elim
  | succ n => unfold WT at h; rw [hu] at h; obtain ⟨s, hs, _⟩ := h; exact ⟨s, hs⟩
theorem rws_of' {α : Type} {enc : α → List D} {p : α → Prop} : ∀ {es : List (List D)}, (∀ r ∈ es, ∃ x, r = enc x ∧ p x) → ∃ xs, es = rws enc xs ∧ ∀ x ∈ xs, p x
  | [], _ => ⟨[], rfl, by simp⟩
  | r :: es, h => by
    obtain ⟨x, rfl, hx⟩ := h r (by simp)
    obtain ⟨xs, rfl, hxs⟩ := rws_of' (es := es) (fun r hr => h r (by simp [hr]))
    exact ⟨x :: xs, rfl, by simpa using ⟨hx, hxs⟩⟩
theorem wt110 {n : Nat} {ds : List D} (h : WT Tryz.prog (n + 2) 157 ds) : ∃ f : Fd, ds = eF f := by
  obtain ⟨d1, d2, rfl, h1, d3, d4, rfl, h2, h3⟩ := wt_struct Tryz.underlying157 h
  obtain ⟨s, rfl⟩ := wt_str Tryz.underlying9 h1
  obtain ⟨z, rfl, hz⟩ := wt_int Tryz.underlying81 h2
  obtain ⟨t, rfl⟩ := wf_u8 hz
  obtain rfl : d4 = [] := h3
  exact ⟨⟨s, t⟩, rfl⟩
theorem wt105 {n : Nat} {ds : List D} (h : WT Tryz.prog (n + 3) 152 ds) : ∃ fs : List Fd, ds = [.slice .no (rws eF fs)] ∧ fs.length * 24 ≤ 140737488351232 := by
  obtain ⟨es, rfl, hl, hr⟩ := wt_slice Tryz.underlying152 h
  obtain ⟨ts, rfl⟩ := rws_of (enc := eF) (fun r hr' => wt110 (hr r hr'))
  have hb : Tryz.prog.bytesOf 157 = 24 := by kernel_rfl
  rw [hb, rws_len] at hl
  exact ⟨ts, rfl, by rw [reach_eq] at hl; omega⟩
theorem wt107 {n : Nat} {ds : List D} (h : WT Tryz.prog (n + 4) 154 ds) : ∃ c : Cl, ds = eC c ∧ c.fields.length * 24 ≤ 140737488351232 := by
  obtain ⟨d1, d2, rfl, h1, d3, d4, rfl, h2, d5, d6, rfl, h3, h4⟩ := wt_struct Tryz.underlying154 h
  obtain ⟨s, rfl⟩ := wt_str Tryz.underlying9 h1
  obtain ⟨z, rfl, hz⟩ := wt_int Tryz.underlying3 h2
  obtain ⟨fs, rfl, hl⟩ := wt105 h3
  obtain rfl : d6 = [] := h4
  exact ⟨⟨s, z, fs⟩, rfl, hl⟩
theorem wt52 {n : Nat} {ds : List D} (h : WT Tryz.prog (n + 5) 22 ds) : ∃ l : List Cl, ds = [.slice .no (rws eC l)] ∧ Wide l := by
  obtain ⟨es, rfl, hl, hr⟩ := wt_slice Tryz.underlying22 h
  obtain ⟨l, rfl, hw⟩ := rws_of' (enc := eC) (fun r hr' => wt107 (hr r hr'))
  have hb : Tryz.prog.bytesOf 154 = 48 := by kernel_rfl
  rw [hb, rws_len] at hl
  exact ⟨l, rfl, by rw [reach_eq] at hl; omega, hw⟩
theorem wt49 {n : Nat} {ds : List D} (h : WT Tryz.prog (n + 3) 23 ds) : ∃ l : List Sg, ds = [.slice .no (rws eSg l)] ∧ l.length * 32 ≤ 140737488351232 ∧ ∀ s ∈ l, s.ps.length ≤ 140737488351232 := by
  obtain ⟨es, rfl, hl, hr⟩ := wt_slice Tryz.underlying23 h
  obtain ⟨l, rfl, hw⟩ := rws_of' (enc := eSg) (p := fun s => s.ps.length ≤ 140737488351232) (fun r hr' => wt25 (hr r hr'))
  have hb : Tryz.prog.bytesOf 95 = 32 := by kernel_rfl
  rw [hb, rws_len] at hl
  exact ⟨l, rfl, by rw [reach_eq] at hl; omega, hw⟩
theorem wt57 {n : Nat} {ds : List D} (h : WT Tryz.prog (n + 6) 25 ds) : ∃ e : En, ds = eEn e ∧ WideE e := by
  obtain ⟨d1, d2, rfl, h1, d3, d4, rfl, h2, d5, d6, rfl, h3, h4⟩ := wt_struct Tryz.underlying25 h
  obtain ⟨l, rfl, hl⟩ := wt52 h1
  obtain ⟨s, rfl, hs⟩ := wt49 h2
  obtain ⟨z, rfl, hz⟩ := wt_int Tryz.underlying3 h3
  obtain rfl : d6 = [] := h4
  exact ⟨⟨l, s, z⟩, rfl, hl, hs⟩
end Go.AL
namespace Go.AL
open Go.Proofs Go.ChangeShapes Go.WideShapes Go.ChangeAt Go.RowKit
theorem wt26b {n : Nat} {ds : List D} (h : WT Tryz.prog (n + 1) 26 ds) : ∃ ts : List Ty, ds = [.slice .no (rws eT ts)] ∧ ts.length ≤ 140737488351232 := by
  obtain ⟨es, rfl, hl, hr⟩ := wt_slice Tryz.underlying26 h
  obtain ⟨ts, rfl⟩ := rws_of (enc := eT) (fun r hr' => by
    obtain ⟨z, rfl, hz⟩ := wt_int Tryz.underlying5 (hr r hr')
    obtain ⟨t, rfl⟩ := wf_u8 hz
    exact ⟨t, rfl⟩)
  have hb : Tryz.prog.bytesOf 5 = 1 := by kernel_rfl
  rw [hb, rws_len] at hl
  exact ⟨ts, rfl, by rw [reach_eq] at hl; omega⟩
theorem wt28 {n : Nat} {ds : List D} (h : WT Tryz.prog (n + 2) 28 ds) : ∃ c : Cd, ds = eCd c ∧ WideD c := by
  obtain ⟨d1, d2, rfl, h1, d3, d4, rfl, h2, d5, d6, rfl, h3, h4⟩ := wt_struct Tryz.underlying28 h
  obtain ⟨z, rfl, hz⟩ := wt_int Tryz.underlying3 h1
  obtain ⟨b, rfl, hb⟩ := wt26b h2
  obtain ⟨c, rfl, hc⟩ := wt26b h3
  obtain rfl : d6 = [] := h4
  exact ⟨⟨z, b, c⟩, rfl, hb, hc⟩
end Go.AL
