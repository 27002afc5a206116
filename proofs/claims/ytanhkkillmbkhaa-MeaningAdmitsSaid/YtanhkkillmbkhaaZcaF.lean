/- The law MeaningAdmits returns true whatever it is given, and its arguments read behind the call as they read before. No condition. -/
import Derived.Test.YtanhkkillmbkhaaZcaE
import Derived.Test.YtanhkkillmbkhaaZbaK
import Derived.Test.YtanhkkillmbkhaaRows
namespace Go.AL
open Go.Proofs Go.ChangeShapes Go.WideShapes Go.ChangeAt Go.RowKit
open Go.Proofs.Ytanhkkillmbkhaa
set_option linter.unusedSimpArgs false
set_option linter.unusedVariables false
set_option maxRecDepth 100000

theorem rws_of {α : Type} {enc : α → List D} : ∀ {es : List (List D)}, (∀ r ∈ es, ∃ x, r = enc x) → ∃ xs, es = rws enc xs
  | [], _ => ⟨[], rfl⟩
  | r :: es, h => by
    obtain ⟨x, rfl⟩ := h r (by simp)
    obtain ⟨xs, rfl⟩ := rws_of (es := es) (fun r hr => h r (by simp [hr]))
    exact ⟨x :: xs, rfl⟩

theorem wt_int {P : Program} {n : Nat} {t : TypeId} {k : IntKind} {ds : List D} (hu : P.underlying t = some (.int k)) (h : WT P n t ds) : ∃ z, ds = [.int k z] ∧ (Lit.int k z).wf = true := by
  cases n with
  | zero => exact h.elim
  | succ n => unfold WT at h; rw [hu] at h; exact h
theorem wt_slice {P : Program} {n : Nat} {t e : TypeId} {ds : List D} (hu : P.underlying t = some (.slice e)) (h : WT P (n + 1) t ds) : ∃ es, ds = [.slice .no es] ∧ es.length * P.bytesOf e ≤ reachBytes ∧ ∀ r ∈ es, WT P n e r := by
  unfold WT at h; rw [hu] at h; exact h
theorem wt_struct {P : Program} {n : Nat} {t : TypeId} {fs : Array Field} {ds : List D} (hu : P.underlying t = some (.struct fs)) (h : WT P (n + 1) t ds) : WTs (WT P n) (fs.toList.map (·.type)) ds := by
  unfold WT at h; rw [hu] at h; exact h
theorem wf_u8 {z : Int} (h : (Lit.int .u8 z).wf = true) : ∃ t : Ty, z = t.val := by
  simp [Lit.wf, IntKind.min, IntKind.max, IntKind.signed, IntKind.bits] at h
  exact ⟨⟨z.toNat, by omega⟩, by simp; omega⟩
theorem wf_i64 {z : Int} (h : (Lit.int .i64 z).wf = true) : -9223372036854775808 ≤ z ∧ z ≤ 9223372036854775807 := by
  simp [Lit.wf, IntKind.min, IntKind.max, IntKind.signed, IntKind.bits] at h
  omega
theorem reach_eq : reachBytes = 140737488351232 := rfl

theorem wt22 {n : Nat} {ds : List D} (h : WT Try.prog (n + 1) 22 ds) : ∃ ts : List Ty, ds = [.slice .no (rws eT ts)] ∧ ts.length ≤ 140737488351232 := by
  obtain ⟨es, rfl, hl, hr⟩ := wt_slice Try.underlying22 h
  obtain ⟨ts, rfl⟩ := rws_of (enc := eT) (fun r hr' => by
    obtain ⟨z, rfl, hz⟩ := wt_int Try.underlying23 (hr r hr')
    obtain ⟨t, rfl⟩ := wf_u8 hz
    exact ⟨t, rfl⟩)
  have hb : Try.prog.bytesOf 23 = 1 := by kernel_rfl
  rw [hb, rws_len] at hl
  exact ⟨ts, rfl, by rw [reach_eq] at hl; omega⟩
theorem wt26 {n : Nat} {ds : List D} (h : WT Try.prog (n + 1) 26 ds) : ∃ ts : List Int, ds = [.slice .no (rws eI ts)] ∧ ts.length * 8 ≤ 140737488351232 := by
  obtain ⟨es, rfl, hl, hr⟩ := wt_slice Try.underlying26 h
  obtain ⟨ts, rfl⟩ := rws_of (enc := eI) (fun r hr' => by
    obtain ⟨z, rfl, hz⟩ := wt_int Try.underlying3 (hr r hr')
    exact ⟨z, rfl⟩)
  have hb : Try.prog.bytesOf 3 = 8 := by kernel_rfl
  rw [hb, rws_len] at hl
  exact ⟨ts, rfl, by rw [reach_eq] at hl; omega⟩
theorem wt25 {n : Nat} {ds : List D} (h : WT Try.prog (n + 2) 25 ds) : ∃ s : Sg, ds = eSg s ∧ s.ps.length ≤ 140737488351232 := by
  obtain ⟨d1, d2, rfl, h1, d3, d4, rfl, h2, h3⟩ := wt_struct Try.underlying25 h
  obtain ⟨ts, rfl, hl⟩ := wt22 h1
  obtain ⟨z, rfl, hz⟩ := wt_int Try.underlying23 h2
  obtain ⟨t, rfl⟩ := wf_u8 hz
  obtain rfl : d4 = [] := h3
  exact ⟨⟨ts, t⟩, rfl, hl⟩

theorem lifted3 (os : Os) (started : os.Started) (H : Type) (enc : TypeId × Value → H) :
    ReturnsInHanded {} Try.checked os 3 .any (Rows.meaningAdmitsSpec.pre6 enc Try.prog Try.f3 Rows.meaningAdmitsRow.domain false) (Rows.meaningAdmitsSpec.post enc Try.prog Try.f3 false true false false) := by
  refine returnsInHanded_of_change_sized (C := Try.checked) (by kernel_rfl) started (by kernel_rfl) Try.func3
    (ChangeSpec.witness6 (enc := enc) (C := Try.checked) false ⟨#[], #[.agg #[.slice none 0 0, .int .u8 0], .slice none 0 0], []⟩ 8 (by kernel_rfl) (by kernel_rfl) (by kernel_rfl) (by kernel_rfl)) ?_
  intro W base args ds gs before hval hW hcnd hz _
  refine law_contract (P := Try.prog) (a := {}) (conds := []) 5 (rt := 4) ?_ rfl rfl (by kernel_rfl) (by kernel_rfl) (by kernel_rfl) (by kernel_rfl) Try.underlying4 ?_ W base args ds gs before hval hW hz
  · intro ds hl
    match ds, hl with
    | [d1, d2], _ => rfl
  · rintro Ds hD
    rw [show Try.f3.params.toList = [25, 26] by rw [Try.params3]] at hD
    obtain ⟨d, r, rfl, ⟨c1, w1, e1⟩, d', r', rfl, ⟨c2, w2, e2⟩, rfl⟩ := hD
    rw [Try.underlying25] at e1
    rw [Try.underlying26] at e2
    subst e1; subst e2
    obtain ⟨s, rfl, hs⟩ := wt25 w1
    obtain ⟨xs, hx, hl⟩ := wt26 w2
    cases hx
    exact law3 s xs (by omega) (by omega)

theorem over3 : Rows.meaningAdmitsRow.holds Try.pinned (OpenSpec.ofChange Rows.meaningAdmitsSpec) :=
  OpenClaim.holds_of_wide 3 Try.f3 rfl rfl rfl rfl rfl rfl rfl ⟨rfl, rfl, rfl, rfl, rfl⟩ rfl rfl rfl rfl rfl (by kernel_rfl) Try.func3 (by kernel_rfl)
    (of_decide_eq_true (by kernel_rfl)) (by unfold Func.isWrapper; first | (rw [if_pos (by decide +kernel)]; kernel_rfl) | (rw [if_neg (by decide +kernel)]; exact ⟨rfl, rfl⟩))
    (fun os started H enc _ => lifted3 os started H enc)
end Go.AL
namespace Go.Proofs.Ytanhkkillmbkhaa
/-- MeaningAdmits answers true at every input, and what is handed in reads as it did: no condition. -/
theorem meaningAdmits_holds : Rows.MeaningAdmitsSaid := Go.AL.over3
#print axioms meaningAdmits_holds
end Go.Proofs.Ytanhkkillmbkhaa
