/- The law StepCounts returns true whatever it is given, and its arguments read behind the call as they read before. No condition. -/
import Derived.Test.YtanhkkillmbkhaaPf
import Derived.Test.YtanhkkillmbkhaaPj
namespace Go.AL
open Go.Proofs Go.ChangeShapes Go.WideShapes Go.ChangeAt Go.RowKit
open Go.Proofs.Ytanhkkillmbkhaa
set_option linter.unusedSimpArgs false
set_option linter.unusedVariables false
set_option maxRecDepth 100000

theorem wt63 {n : Nat} {ds : List D} (h : WT Try.prog (n + 2) 63 ds) : ∃ i : Ins, ds = eIn i := by
  obtain ⟨d1, d2, rfl, h1, d3, d4, rfl, h2, d5, d6, rfl, h3, d7, d8, rfl, h4, h5⟩ := wt_struct Try.underlying63 h
  obtain ⟨z1, rfl, _⟩ := wt_int Try.underlying3 h1
  obtain ⟨z2, rfl, hz⟩ := wt_int Try.underlying5 h2
  obtain ⟨t, rfl⟩ := wf_u8 hz
  obtain ⟨z3, rfl, _⟩ := wt_int Try.underlying3 h3
  obtain ⟨z4, rfl, _⟩ := wt_int Try.underlying3 h4
  obtain rfl : d8 = [] := h5
  exact ⟨⟨z1, t, z3, z4⟩, rfl⟩

theorem lifted6 (os : Os) (started : os.Started) (H : Type) (enc : TypeId × Value → H) :
    ReturnsInHanded {} Try.checked os 6 .any (Rows.stepCountsSpec.pre6 enc Try.prog Try.f6 Rows.stepCountsRow.domain false) (Rows.stepCountsSpec.post enc Try.prog Try.f6 false true false false) := by
  refine returnsInHanded_of_change_sized (C := Try.checked) (by kernel_rfl) started (by kernel_rfl) Try.func6
    (ChangeSpec.witness6 (enc := enc) (C := Try.checked) false ⟨#[], #[.agg #[.slice none 0 0, .slice none 0 0, .int .i64 0], .agg #[.int .i64 0, .int .u8 0, .int .i64 0, .int .i64 0]], []⟩ 8 (by kernel_rfl) (by kernel_rfl) (by kernel_rfl) (by kernel_rfl)) ?_
  intro W base args ds gs before hval hW hcnd hz _
  refine law_contract (P := Try.prog) (a := {}) (conds := []) 8 (rt := 4) ?_ rfl rfl (by kernel_rfl) (by kernel_rfl) (by kernel_rfl) (by kernel_rfl) Try.underlying4 ?_ W base args ds gs before hval hW hz
  · intro ds hl
    match ds, hl with
    | [d1, d2], _ => rfl
  · rintro Ds hD
    rw [show Try.f6.params.toList = [57, 63] by rw [Try.params6]] at hD
    obtain ⟨d, r, rfl, ⟨c1, w1, e1⟩, d', r', rfl, ⟨c2, w2, e2⟩, rfl⟩ := hD
    rw [Try.underlying57] at e1
    rw [Try.underlying63] at e2
    subst e1; subst e2
    obtain ⟨e, rfl, hw⟩ := wt57 w1
    obtain ⟨i, rfl⟩ := wt63 w2
    exact law6 e i hw

theorem over6 : Rows.stepCountsRow.holds Try.pinned (OpenSpec.ofChange Rows.stepCountsSpec) :=
  OpenClaim.holds_of_wide 6 Try.f6 rfl rfl rfl rfl rfl rfl rfl ⟨rfl, rfl, rfl, rfl, rfl⟩ rfl rfl rfl rfl rfl (by kernel_rfl) Try.func6 (by kernel_rfl)
    (of_decide_eq_true (by kernel_rfl)) (by unfold Func.isWrapper; first | (rw [if_pos (by decide +kernel)]; kernel_rfl) | (rw [if_neg (by decide +kernel)]; exact ⟨rfl, rfl⟩))
    (fun os started H enc _ => lifted6 os started H enc)
end Go.AL
namespace Go.Proofs.Ytanhkkillmbkhaa
/-- StepCounts answers true at every input, and what is handed in reads as it did: no condition. -/
theorem stepCounts_holds : Rows.StepCountsSaid := Go.AL.over6
#print axioms stepCounts_holds
end Go.Proofs.Ytanhkkillmbkhaa
