/- InferReached answers true at every input that its parameters' types allow: the program's answer and the document's agree, nothing panics, and the arguments read behind the call as they read before. No condition. -/
import Derived.Test.YtjffaachihpjbaaGreatFw
import Derived.Test.YtjffaachihpjbaaGreatFr
set_option linter.unusedSimpArgs false
set_option linter.unusedVariables false
set_option maxRecDepth 100000
set_option linter.defProp false
namespace Go.AL
open Go.Proofs Go.ChangeShapes Go.WideShapes Go.ChangeAt Go.RowKit
open Go.Proofs.YtjffaachihpjbaaGreat
theorem lifted6 (os:Os) (started:os.Started) (H:Type) (enc:TypeId×Value→H):
  ReturnsInHanded {} Tryz.checked os 6 .any (Rows.inferReachedSpec.pre6 enc Tryz.prog Tryz.f6 Rows.inferReachedRow.domain false) (Rows.inferReachedSpec.post enc Tryz.prog Tryz.f6 false true false false):=by
 refine returnsInHanded_of_change_sized (C:=Tryz.checked) (by kernel_rfl) started (by kernel_rfl) Tryz.func6
  (ChangeSpec.witness6 (enc:=enc) (C:=Tryz.checked) false ⟨#[],#[.agg #[.slice none 0 0,.slice none 0 0,.int .i64 0,.int .i64 0,.slice none 0 0]],[]⟩ 12 (by kernel_rfl) (by kernel_rfl) (by kernel_rfl) (by kernel_rfl)) ?_
 intro W base args ds gs before hval hW hcnd hz _
 refine law_contract (P:=Tryz.prog) (a:={}) (conds:=[]) 12 (rt:=4) ?_ rfl rfl (by kernel_rfl) (by kernel_rfl) (by kernel_rfl) (by kernel_rfl) Tryz.underlying4 ?_ W base args ds gs before hval hW hz
 ·intro ds hl
  match ds,hl with
  |[d0],_=>rfl
 ·rintro Ds hD
  rw[show Tryz.f6.params.toList=[28] by rw[Tryz.params6]] at hD
  obtain⟨d0,r0,rfl,⟨c0,wa0,e0⟩,rfl⟩:=hD
  rw[Tryz.underlying28] at e0
  subst e0
  obtain⟨ea0,za0,ba0,rfl,hwa0,hba0⟩:=wt28c wa0
  exact law6 ea0 za0 ba0 hwa0 hba0
theorem named6:Tryz.checked.prog.funcNamed Rows.inferReachedRow.func=some 6:=by kernel_rfl
theorem inst6:Tryz.f6.isInstance Tryz.prog Rows.inferReachedRow.origin Rows.inferReachedRow.targs:=of_decide_eq_true (by kernel_rfl)
theorem wrap6:Tryz.f6.isWrapper Tryz.prog Rows.inferReachedRow.wrapper Rows.inferReachedRow.mainSum:=by
 unfold Func.isWrapper; first|(rw[if_pos (by decide +kernel)]; kernel_rfl)|(rw[if_neg (by decide +kernel)]; exact⟨rfl,rfl⟩)
theorem over6:Rows.inferReachedRow.holds Tryz.pinned (OpenSpec.ofChange Rows.inferReachedSpec):=
 OpenClaim.holds_of_wide 6 Tryz.f6 rfl rfl rfl rfl rfl rfl rfl ⟨rfl,rfl,rfl,rfl,rfl⟩ rfl rfl rfl rfl rfl named6 Tryz.func6 facts6 inst6 wrap6
  (fun os started H enc _=>lifted6 os started H enc)
end Go.AL
namespace Go.Proofs.YtjffaachihpjbaaGreat
theorem inferReached_holds:Rows.InferReachedSaid:=Go.AL.over6
#print axioms inferReached_holds
end Go.Proofs.YtjffaachihpjbaaGreat
