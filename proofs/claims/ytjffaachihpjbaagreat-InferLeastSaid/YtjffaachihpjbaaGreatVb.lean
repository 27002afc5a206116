/- InferLeast answers true at every input that its parameters' types allow: the program's answer and the document's agree, nothing panics, and the arguments read behind the call as they read before. No condition. -/
import Derived.Test.YtjffaachihpjbaaGreatBw
import Derived.Test.YtjffaachihpjbaaGreatBr
set_option linter.unusedSimpArgs false
set_option linter.unusedVariables false
set_option maxRecDepth 100000
set_option linter.defProp false
namespace Go.AL
open Go.Proofs Go.ChangeShapes Go.WideShapes Go.ChangeAt Go.RowKit
open Go.Proofs.YtjffaachihpjbaaGreat
theorem lifted4 (os:Os) (started:os.Started) (H:Type) (enc:TypeId×Value→H):
  ReturnsInHanded {} Tryz.checked os 4 .any (Rows.inferLeastSpec.pre6 enc Tryz.prog Tryz.f4 Rows.inferLeastRow.domain false) (Rows.inferLeastSpec.post enc Tryz.prog Tryz.f4 false true false false):=by
 refine returnsInHanded_of_change_sized (C:=Tryz.checked) (by kernel_rfl) started (by kernel_rfl) Tryz.func4
  (ChangeSpec.witness6 (enc:=enc) (C:=Tryz.checked) false ⟨#[],#[.agg #[.slice none 0 0,.slice none 0 0,.int .i64 0,.int .i64 0,.slice none 0 0],.slice none 0 0],[]⟩ 12 (by kernel_rfl) (by kernel_rfl) (by kernel_rfl) (by kernel_rfl)) ?_
 intro W base args ds gs before hval hW hcnd hz _
 refine law_contract (P:=Tryz.prog) (a:={}) (conds:=[]) 12 (rt:=4) ?_ rfl rfl (by kernel_rfl) (by kernel_rfl) (by kernel_rfl) (by kernel_rfl) Tryz.underlying4 ?_ W base args ds gs before hval hW hz
 ·intro ds hl
  match ds,hl with
  |[d0,d1],_=>rfl
 ·rintro Ds hD
  rw[show Tryz.f4.params.toList=[28,30] by rw[Tryz.params4]] at hD
  obtain⟨d0,r0,rfl,⟨c0,wa0,e0⟩,d1,r1,rfl,⟨c1,wa1,e1⟩,rfl⟩:=hD
  rw[Tryz.underlying28] at e0
  subst e0
  rw[Tryz.underlying30] at e1
  subst e1
  obtain⟨ea0,za0,ba0,rfl,hwa0,hba0⟩:=wt28c wa0
  obtain⟨la1,qla1,hla1⟩:=wt30 wa1; obtain rfl:=(List.cons.inj qla1).1
  exact law4 ea0 za0 ba0 la1 hwa0 hba0 hla1
theorem named4:Tryz.checked.prog.funcNamed Rows.inferLeastRow.func=some 4:=by kernel_rfl
theorem inst4:Tryz.f4.isInstance Tryz.prog Rows.inferLeastRow.origin Rows.inferLeastRow.targs:=of_decide_eq_true (by kernel_rfl)
theorem wrap4:Tryz.f4.isWrapper Tryz.prog Rows.inferLeastRow.wrapper Rows.inferLeastRow.mainSum:=by
 unfold Func.isWrapper; first|(rw[if_pos (by decide +kernel)]; kernel_rfl)|(rw[if_neg (by decide +kernel)]; exact⟨rfl,rfl⟩)
theorem over4:Rows.inferLeastRow.holds Tryz.pinned (OpenSpec.ofChange Rows.inferLeastSpec):=
 OpenClaim.holds_of_wide 4 Tryz.f4 rfl rfl rfl rfl rfl rfl rfl ⟨rfl,rfl,rfl,rfl,rfl⟩ rfl rfl rfl rfl rfl named4 Tryz.func4 facts4 inst4 wrap4
  (fun os started H enc _=>lifted4 os started H enc)
end Go.AL
namespace Go.Proofs.YtjffaachihpjbaaGreat
theorem inferLeast_holds:Rows.InferLeastSaid:=Go.AL.over4
#print axioms inferLeast_holds
end Go.Proofs.YtjffaachihpjbaaGreat
