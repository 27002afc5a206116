/- OnepassModules answers true at every input that its parameters' types allow: the program's answer and the document's agree, nothing panics, and the arguments read behind the call as they read before. No condition. -/
import Derived.Test.YtobmoajkfbigkaaGreatJu
set_option linter.unusedSimpArgs false
set_option linter.unusedVariables false
set_option maxRecDepth 100000
set_option linter.defProp false
namespace Go.AL
open Go.Proofs Go.ChangeShapes Go.WideShapes Go.ChangeAt Go.RowKit
open Go.Proofs.YtobmoajkfbigkaaGreat
theorem lifted9 (os : Os) (started : os.Started) (H : Type) (enc : TypeId × Value → H) :
    ReturnsInHanded {} Tryz.checked os 9 .any (Rows.onepassModulesSpec.pre6 enc Tryz.prog Tryz.f9 Rows.onepassModulesRow.domain false) (Rows.onepassModulesSpec.post enc Tryz.prog Tryz.f9 false true false false) := by
  refine returnsInHanded_of_change_sized (C := Tryz.checked) (by kernel_rfl) started (by kernel_rfl) Tryz.func9
    (ChangeSpec.witness6 (enc := enc) (C := Tryz.checked) false ⟨#[], #[.agg #[.string ⟨#[]⟩, .slice none 0 0, .slice none 0 0, .slice none 0 0]], []⟩ 12 (by kernel_rfl) (by kernel_rfl) (by kernel_rfl) (by kernel_rfl)) ?_
  intro W base args ds gs before hval hW hcnd hz _
  refine law_contract (P := Tryz.prog) (a := {}) (conds := []) 12 (rt := 4) ?_ rfl rfl (by kernel_rfl) (by kernel_rfl) (by kernel_rfl) (by kernel_rfl) Tryz.underlying4 ?_ W base args ds gs before hval hW hz
  · intro ds hl
    match ds, hl with
    | [d0], _ => rfl
  · rintro Ds hD
    rw [show Tryz.f9.params.toList = [74] by rw [Tryz.params9]] at hD
    obtain ⟨d0, r0, rfl, ⟨c0, wa0, e0⟩, rfl⟩ := hD
    rw [Tryz.underlying74] at e0
    subst e0
    obtain ⟨a0, rfl, ha0⟩ := wt74 wa0
    exact law9 a0 ha0
theorem named9 : Tryz.checked.prog.funcNamed Rows.onepassModulesRow.func = some 9 := by kernel_rfl
theorem facts9 : joinedFacts Tryz.prog 9 Tryz.f9 Rows.onepassModulesSpec Rows.onepassModulesRow = true := by kernel_rfl
theorem inst9 : Tryz.f9.isInstance Tryz.prog Rows.onepassModulesRow.origin Rows.onepassModulesRow.targs := of_decide_eq_true (by kernel_rfl)
theorem wrap9 : Tryz.f9.isWrapper Tryz.prog Rows.onepassModulesRow.wrapper Rows.onepassModulesRow.mainSum := by
  unfold Func.isWrapper; first | (rw [if_pos (by decide +kernel)]; kernel_rfl) | (rw [if_neg (by decide +kernel)]; exact ⟨rfl, rfl⟩)
theorem over9 : Rows.onepassModulesRow.holds Tryz.pinned (OpenSpec.ofChange Rows.onepassModulesSpec) :=
  OpenClaim.holds_of_wide 9 Tryz.f9 rfl rfl rfl rfl rfl rfl rfl ⟨rfl, rfl, rfl, rfl, rfl⟩ rfl rfl rfl rfl rfl named9 Tryz.func9 facts9 inst9 wrap9
    (fun os started H enc _ => lifted9 os started H enc)
end Go.AL
namespace Go.Proofs.YtobmoajkfbigkaaGreat
/-- OnepassModules answers true at every input, and what is handed in reads as it did: no condition. -/
theorem onepassModules_holds : Rows.OnepassModulesSaid := Go.AL.over9
#print axioms onepassModules_holds
end Go.Proofs.YtobmoajkfbigkaaGreat
