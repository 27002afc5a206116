/- InferFixed answers true at every input that its parameters' types allow: the program's answer and the document's agree, nothing panics, and the arguments read behind the call as they read before. No condition. -/
import Derived.Test.YtjffaachihpjbaaGreatAv
import Derived.Test.YtjffaachihpjbaaGreatAw
import Derived.Test.YtjffaachihpjbaaGreatAr
set_option linter.unusedSimpArgs false
set_option linter.unusedVariables false
set_option maxRecDepth 100000
set_option linter.defProp false
namespace Go.AL
open Go.Proofs Go.ChangeShapes Go.WideShapes Go.ChangeAt Go.RowKit
open Go.Proofs.YtjffaachihpjbaaGreat
theorem lifted3 (os:Os) (started:os.Started) (H:Type) (enc:TypeId×Value→H):
  ReturnsInHanded {} Tryz.checked os 3 .any (Rows.inferFixedSpec.pre6 enc Tryz.prog Tryz.f3 Rows.inferFixedRow.domain false) (Rows.inferFixedSpec.post enc Tryz.prog Tryz.f3 false true false false):=by
 refine returnsInHanded_of_change_sized (C:=Tryz.checked) (by kernel_rfl) started (by kernel_rfl) Tryz.func3
  (ChangeSpec.witness6 (enc:=enc) (C:=Tryz.checked) false ⟨#[],#[.agg #[.slice none 0 0,.slice none 0 0,.int .i64 0,.int .i64 0,.slice none 0 0]],[]⟩ 12 (by kernel_rfl) (by kernel_rfl) (by kernel_rfl) (by kernel_rfl)) ?_
 intro W base args ds gs before hval hW hcnd hz _
 refine law_contract (P:=Tryz.prog) (a:={}) (conds:=[]) 12 (rt:=4) ?_ rfl rfl (by kernel_rfl) (by kernel_rfl) (by kernel_rfl) (by kernel_rfl) Tryz.underlying4 ?_ W base args ds gs before hval hW hz
 ·intro ds hl
  match ds,hl with
  |[d0],_=>rfl
 ·rintro Ds hD
  rw[show Tryz.f3.params.toList=[28] by rw[Tryz.params3]] at hD
  obtain⟨d0,r0,rfl,⟨c0,wa0,e0⟩,rfl⟩:=hD
  rw[Tryz.underlying28] at e0
  subst e0
  obtain⟨ea0,za0,ba0,rfl,hwa0,hba0⟩:=wt28c wa0
  exact law3 ea0 za0 ba0 hwa0 hba0
theorem named3:Tryz.checked.prog.funcNamed Rows.inferFixedRow.func=some 3:=by kernel_rfl
theorem inst3:Tryz.f3.isInstance Tryz.prog Rows.inferFixedRow.origin Rows.inferFixedRow.targs:=of_decide_eq_true (by kernel_rfl)
theorem wrap3:Tryz.f3.isWrapper Tryz.prog Rows.inferFixedRow.wrapper Rows.inferFixedRow.mainSum:=by
 unfold Func.isWrapper; first|(rw[if_pos (by decide +kernel)]; kernel_rfl)|(rw[if_neg (by decide +kernel)]; exact⟨rfl,rfl⟩)
theorem over3:Rows.inferFixedRow.holds Tryz.pinned (OpenSpec.ofChange Rows.inferFixedSpec):=
 OpenClaim.holds_of_wide 3 Tryz.f3 rfl rfl rfl rfl rfl rfl rfl ⟨rfl,rfl,rfl,rfl,rfl⟩ rfl rfl rfl rfl rfl named3 Tryz.func3 facts3 inst3 wrap3
  (fun os started H enc _=>lifted3 os started H enc)
end Go.AL
namespace Go.Proofs.YtjffaachihpjbaaGreat
theorem inferFixed_holds:Rows.InferFixedSaid:=Go.AL.over3
#print axioms inferFixed_holds
end Go.Proofs.YtjffaachihpjbaaGreat
