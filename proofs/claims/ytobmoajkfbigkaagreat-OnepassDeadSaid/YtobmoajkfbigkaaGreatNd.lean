/- OnepassDead answers true at every input that its parameters' types allow: the program's answer and the document's agree, nothing panics, and the arguments read behind the call as they read before. No condition. -/
import Derived.Test.YtobmoajkfbigkaaGreatKm
set_option linter.unusedSimpArgs false
set_option linter.unusedVariables false
set_option maxRecDepth 100000
set_option linter.defProp false
namespace Go.AL
open Go.Proofs Go.ChangeShapes Go.WideShapes Go.ChangeAt Go.RowKit
open Go.Proofs.YtobmoajkfbigkaaGreat
theorem lifted6 (os : Os) (started : os.Started) (H : Type) (enc : TypeId × Value → H) :
    ReturnsInHanded {} Tryz.checked os 6 .any (Rows.onepassDeadSpec.pre6 enc Tryz.prog Tryz.f6 Rows.onepassDeadRow.domain false) (Rows.onepassDeadSpec.post enc Tryz.prog Tryz.f6 false true false false) := by
  refine returnsInHanded_of_change_sized (C := Tryz.checked) (by kernel_rfl) started (by kernel_rfl) Tryz.func6
    (ChangeSpec.witness6 (enc := enc) (C := Tryz.checked) false ⟨#[], #[.agg #[.slice none 0 0, .slice none 0 0, .int .i64 0], .agg #[.int .i64 0, .slice none 0 0, .slice none 0 0], .slice none 0 0], []⟩ 12 (by kernel_rfl) (by kernel_rfl) (by kernel_rfl) (by kernel_rfl)) ?_
  intro W base args ds gs before hval hW hcnd hz _
  refine law_contract (P := Tryz.prog) (a := {}) (conds := []) 12 (rt := 4) ?_ rfl rfl (by kernel_rfl) (by kernel_rfl) (by kernel_rfl) (by kernel_rfl) Tryz.underlying4 ?_ W base args ds gs before hval hW hz
  · intro ds hl
    match ds, hl with
    | [d0, d1, d2], _ => rfl
  · rintro Ds hD
    rw [show Tryz.f6.params.toList = [25, 28, 26] by rw [Tryz.params6]] at hD
    obtain ⟨d0, r0, rfl, ⟨c0, wa0, e0⟩, d1, r1, rfl, ⟨c1, wa1, e1⟩, d2, r2, rfl, ⟨c2, wa2, e2⟩, rfl⟩ := hD
    rw [Tryz.underlying25] at e0
    subst e0
    rw [Tryz.underlying28] at e1
    subst e1
    rw [Tryz.underlying26] at e2
    subst e2
    obtain ⟨a0, rfl, ha0⟩ := wt57 wa0
    obtain ⟨a1, rfl, ha1⟩ := wt28 wa1
    obtain ⟨a2, qa2, ha2⟩ := wt26b wa2; obtain rfl := (List.cons.inj qa2).1
    exact law6 a0 a1 a2 ha0 ha1 ha2
theorem named6 : Tryz.checked.prog.funcNamed Rows.onepassDeadRow.func = some 6 := by kernel_rfl
theorem facts6 : joinedFacts Tryz.prog 6 Tryz.f6 Rows.onepassDeadSpec Rows.onepassDeadRow = true := by kernel_rfl
theorem inst6 : Tryz.f6.isInstance Tryz.prog Rows.onepassDeadRow.origin Rows.onepassDeadRow.targs := of_decide_eq_true (by kernel_rfl)
theorem wrap6 : Tryz.f6.isWrapper Tryz.prog Rows.onepassDeadRow.wrapper Rows.onepassDeadRow.mainSum := by
  unfold Func.isWrapper; first | (rw [if_pos (by decide +kernel)]; kernel_rfl) | (rw [if_neg (by decide +kernel)]; exact ⟨rfl, rfl⟩)
theorem over6 : Rows.onepassDeadRow.holds Tryz.pinned (OpenSpec.ofChange Rows.onepassDeadSpec) :=
  OpenClaim.holds_of_wide 6 Tryz.f6 rfl rfl rfl rfl rfl rfl rfl ⟨rfl, rfl, rfl, rfl, rfl⟩ rfl rfl rfl rfl rfl named6 Tryz.func6 facts6 inst6 wrap6
    (fun os started H enc _ => lifted6 os started H enc)
end Go.AL
namespace Go.Proofs.YtobmoajkfbigkaaGreat
/-- OnepassDead answers true at every input, and what is handed in reads as it did: no condition. -/
theorem onepassDead_holds : Rows.OnepassDeadSaid := Go.AL.over6
#print axioms onepassDead_holds
end Go.Proofs.YtobmoajkfbigkaaGreat
