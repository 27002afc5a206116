/- StepParts answers true at every input that its parameters' types allow: the program's answer and the document's agree, nothing panics, and the arguments read behind the call as they read before. No condition. -/
import Derived.Test.YtanhkkillmbkhaaPt
namespace Go.AL
open Go.Proofs Go.ChangeShapes Go.WideShapes Go.ChangeAt Go.RowKit
open Go.Proofs.Ytanhkkillmbkhaa
set_option linter.unusedSimpArgs false
set_option linter.unusedVariables false
set_option maxRecDepth 100000

theorem lifted10 (os : Os) (started : os.Started) (H : Type) (enc : TypeId × Value → H) :
    ReturnsInHanded {} Try.checked os 10 .any (Rows.stepPartsSpec.pre6 enc Try.prog Try.f10 Rows.stepPartsRow.domain false) (Rows.stepPartsSpec.post enc Try.prog Try.f10 false true false false) := by
  refine returnsInHanded_of_change_sized (C := Try.checked) (by kernel_rfl) started (by kernel_rfl) Try.func10
    (ChangeSpec.witness6 (enc := enc) (C := Try.checked) false ⟨#[], #[.agg #[.slice none 0 0, .slice none 0 0, .int .i64 0], .agg #[.int .i64 0, .int .i64 0, .int .u8 0, .int .u8 0, .int .u8 0, .int .u8 0, .int .u8 0, .int .u8 0, .int .u8 0, .int .u8 0, .int .u8 0, .int .u8 0, .int .u8 0, .int .u8 0, .int .u8 0, .int .u8 0, .int .u8 0, .int .u8 0, .int .u8 0, .int .u8 0, .int .u8 0, .int .u8 0, .int .u8 0, .int .u8 0, .int .u8 0, .int .u8 0], .slice none 0 0, .slice none 0 0], []⟩ 8 (by kernel_rfl) (by kernel_rfl) (by kernel_rfl) (by kernel_rfl)) ?_
  intro W base args ds gs before hval hW hcnd hz _
  refine law_contract (P := Try.prog) (a := {}) (conds := []) 8 (rt := 4) ?_ rfl rfl (by kernel_rfl) (by kernel_rfl) (by kernel_rfl) (by kernel_rfl) Try.underlying4 ?_ W base args ds gs before hval hW hz
  · intro ds hl
    match ds, hl with
    | [d0, d1, d2, d3], _ => rfl
  · rintro Ds hD
    rw [show Try.f10.params.toList = [57, 71, 78, 78] by rw [Try.params10]] at hD
    obtain ⟨d0, r0, rfl, ⟨c0, wa0, e0⟩, d1, r1, rfl, ⟨c1, wa1, e1⟩, d2, r2, rfl, ⟨c2, wa2, e2⟩, d3, r3, rfl, ⟨c3, wa3, e3⟩, rfl⟩ := hD
    rw [Try.underlying57] at e0
    subst e0
    rw [Try.underlying71] at e1
    subst e1
    rw [Try.underlying78] at e2
    subst e2
    rw [Try.underlying78] at e3
    subst e3
    obtain ⟨a0, rfl, ha0⟩ := wt57 wa0
    obtain ⟨a1, rfl⟩ := wt71 wa1
    obtain ⟨a2, qa2, ha2⟩ := wt78 wa2; obtain rfl := (List.cons.inj qa2).1
    obtain ⟨a3, qa3, ha3⟩ := wt78 wa3; obtain rfl := (List.cons.inj qa3).1
    exact law10 a0 a1 a2 a3 ha0 ha2 ha3

theorem over10 : Rows.stepPartsRow.holds Try.pinned (OpenSpec.ofChange Rows.stepPartsSpec) :=
  OpenClaim.holds_of_wide 10 Try.f10 rfl rfl rfl rfl rfl rfl rfl ⟨rfl, rfl, rfl, rfl, rfl⟩ rfl rfl rfl rfl rfl (by kernel_rfl) Try.func10 (by kernel_rfl)
    (of_decide_eq_true (by kernel_rfl)) (by unfold Func.isWrapper; first | (rw [if_pos (by decide +kernel)]; kernel_rfl) | (rw [if_neg (by decide +kernel)]; exact ⟨rfl, rfl⟩))
    (fun os started H enc _ => lifted10 os started H enc)
end Go.AL
namespace Go.Proofs.Ytanhkkillmbkhaa
/-- StepParts answers true at every input, and what is handed in reads as it did: no condition. -/
theorem stepParts_holds : Rows.StepPartsSaid := Go.AL.over10
#print axioms stepParts_holds
end Go.Proofs.Ytanhkkillmbkhaa
