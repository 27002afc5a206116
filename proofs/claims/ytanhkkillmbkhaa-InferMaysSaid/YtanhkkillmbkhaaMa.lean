/- The law InferMays returns true whatever it is given, and its arguments read behind the call as they read before. No condition. -/
import Derived.Test.YtanhkkillmbkhaaPf
namespace Go.AL
open Go.Proofs Go.ChangeShapes Go.WideShapes Go.ChangeAt Go.RowKit
open Go.Proofs.Ytanhkkillmbkhaa
set_option linter.unusedSimpArgs false
set_option linter.unusedVariables false
set_option maxRecDepth 100000

theorem lifted5 (os : Os) (started : os.Started) (H : Type) (enc : TypeId × Value → H) :
    ReturnsInHanded {} Try.checked os 5 .any (Rows.inferMaysSpec.pre6 enc Try.prog Try.f5 Rows.inferMaysRow.domain false) (Rows.inferMaysSpec.post enc Try.prog Try.f5 false true false false) := by
  refine returnsInHanded_of_change_sized (C := Try.checked) (by kernel_rfl) started (by kernel_rfl) Try.func5
    (ChangeSpec.witness6 (enc := enc) (C := Try.checked) false ⟨#[], #[.agg #[.slice none 0 0, .slice none 0 0, .int .i64 0], .int .i64 0], []⟩ 8 (by kernel_rfl) (by kernel_rfl) (by kernel_rfl) (by kernel_rfl)) ?_
  intro W base args ds gs before hval hW hcnd hz _
  refine law_contract (P := Try.prog) (a := {}) (conds := []) 8 (rt := 4) ?_ rfl rfl (by kernel_rfl) (by kernel_rfl) (by kernel_rfl) (by kernel_rfl) Try.underlying4 ?_ W base args ds gs before hval hW hz
  · intro ds hl
    match ds, hl with
    | [d1, d2], _ => rfl
  · rintro Ds hD
    rw [show Try.f5.params.toList = [57, 3] by rw [Try.params5]] at hD
    obtain ⟨d, r, rfl, ⟨c1, w1, e1⟩, d', r', rfl, ⟨c2, w2, e2⟩, rfl⟩ := hD
    rw [Try.underlying57] at e1
    rw [Try.underlying3] at e2
    subst e1; subst e2
    obtain ⟨e, rfl, hw⟩ := wt57 w1
    obtain ⟨z, hz, _⟩ := wt_int Try.underlying3 w2
    cases hz
    exact law5 e z hw

theorem over5 : Rows.inferMaysRow.holds Try.pinned (OpenSpec.ofChange Rows.inferMaysSpec) :=
  OpenClaim.holds_of_wide 5 Try.f5 rfl rfl rfl rfl rfl rfl rfl ⟨rfl, rfl, rfl, rfl, rfl⟩ rfl rfl rfl rfl rfl (by kernel_rfl) Try.func5 (by kernel_rfl)
    (of_decide_eq_true (by kernel_rfl)) (by unfold Func.isWrapper; first | (rw [if_pos (by decide +kernel)]; kernel_rfl) | (rw [if_neg (by decide +kernel)]; exact ⟨rfl, rfl⟩))
    (fun os started H enc _ => lifted5 os started H enc)
end Go.AL
namespace Go.Proofs.Ytanhkkillmbkhaa
/-- InferMays answers true at every input, and what is handed in reads as it did: no condition. -/
theorem inferMays_holds : Rows.InferMaysSaid := Go.AL.over5
#print axioms inferMays_holds
end Go.Proofs.Ytanhkkillmbkhaa
