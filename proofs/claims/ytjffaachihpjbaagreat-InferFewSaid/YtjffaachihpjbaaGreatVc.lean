/- InferFew answers true at every input that its parameters' types allow: the program's answer and the document's agree, nothing panics, and the arguments read behind the call as they read before. No condition. -/
import Derived.Test.YtjffaachihpjbaaGreatCx
import Derived.Test.YtjffaachihpjbaaGreatCr
set_option linter.unusedSimpArgs false
set_option linter.unusedVariables false
set_option maxRecDepth 100000
set_option linter.defProp false
namespace Go.AL
open Go.Proofs Go.ChangeShapes Go.WideShapes Go.ChangeAt Go.RowKit
open Go.Proofs.YtjffaachihpjbaaGreat
theorem lifted7 (os:Os) (started:os.Started) (H:Type) (enc:TypeId×Value→H):
  ReturnsInHanded {} Tryz.checked os 7 .any (Rows.inferFewSpec.pre6 enc Tryz.prog Tryz.f7 Rows.inferFewRow.domain false) (Rows.inferFewSpec.post enc Tryz.prog Tryz.f7 false true false false):=by
 refine returnsInHanded_of_change_sized (C:=Tryz.checked) (by kernel_rfl) started (by kernel_rfl) Tryz.func7
  (ChangeSpec.witness6 (enc:=enc) (C:=Tryz.checked) false ⟨#[],#[.agg #[.slice none 0 0,.slice none 0 0,.int .i64 0,.int .i64 0,.slice none 0 0]],[]⟩ 12 (by kernel_rfl) (by kernel_rfl) (by kernel_rfl) (by kernel_rfl)) ?_
 intro W base args ds gs before hval hW hcnd hz _
 refine law_contract (P:=Tryz.prog) (a:={}) (conds:=[]) 12 (rt:=4) ?_ rfl rfl (by kernel_rfl) (by kernel_rfl) (by kernel_rfl) (by kernel_rfl) Tryz.underlying4 ?_ W base args ds gs before hval hW hz
 ·intro ds hl
  match ds,hl with
  |[d0],_=>rfl
 ·rintro Ds hD
  rw[show Tryz.f7.params.toList=[28] by rw[Tryz.params7]] at hD
  obtain⟨d0,r0,rfl,⟨c0,wa0,e0⟩,rfl⟩:=hD
  rw[Tryz.underlying28] at e0
  subst e0
  obtain⟨ea0,za0,ba0,rfl,hwa0,hba0⟩:=wt28c wa0
  exact law7 ea0 za0 ba0 hwa0 hba0
theorem named7:Tryz.checked.prog.funcNamed Rows.inferFewRow.func=some 7:=by kernel_rfl
theorem inst7:Tryz.f7.isInstance Tryz.prog Rows.inferFewRow.origin Rows.inferFewRow.targs:=of_decide_eq_true (by kernel_rfl)
theorem wrap7:Tryz.f7.isWrapper Tryz.prog Rows.inferFewRow.wrapper Rows.inferFewRow.mainSum:=by
 unfold Func.isWrapper; first|(rw[if_pos (by decide +kernel)]; kernel_rfl)|(rw[if_neg (by decide +kernel)]; exact⟨rfl,rfl⟩)
theorem over7:Rows.inferFewRow.holds Tryz.pinned (OpenSpec.ofChange Rows.inferFewSpec):=
 OpenClaim.holds_of_wide 7 Tryz.f7 rfl rfl rfl rfl rfl rfl rfl ⟨rfl,rfl,rfl,rfl,rfl⟩ rfl rfl rfl rfl rfl named7 Tryz.func7 facts7 inst7 wrap7
  (fun os started H enc _=>lifted7 os started H enc)
end Go.AL
namespace Go.Proofs.YtjffaachihpjbaaGreat
theorem inferFew_holds:Rows.InferFewSaid:=Go.AL.over7
#print axioms inferFew_holds
end Go.Proofs.YtjffaachihpjbaaGreat
