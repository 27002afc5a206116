/- InferKnows answers true at every input that its parameters' types allow: the program's answer and the document's agree, nothing panics, and the arguments read behind the call as they read before. No condition. -/
import Derived.Test.YtjffaachihpjbaaGreatEv
import Derived.Test.YtjffaachihpjbaaGreatEw
import Derived.Test.YtjffaachihpjbaaGreatEr
set_option linter.unusedSimpArgs false
set_option linter.unusedVariables false
set_option maxRecDepth 100000
set_option linter.defProp false
namespace Go.AL
open Go.Proofs Go.ChangeShapes Go.WideShapes Go.ChangeAt Go.RowKit
open Go.Proofs.YtjffaachihpjbaaGreat
theorem lifted5 (os:Os) (started:os.Started) (H:Type) (enc:TypeId×Value→H):
  ReturnsInHanded {} Tryz.checked os 5 .any (Rows.inferKnowsSpec.pre6 enc Tryz.prog Tryz.f5 Rows.inferKnowsRow.domain false) (Rows.inferKnowsSpec.post enc Tryz.prog Tryz.f5 false true false false):=by
 refine returnsInHanded_of_change_sized (C:=Tryz.checked) (by kernel_rfl) started (by kernel_rfl) Tryz.func5
  (ChangeSpec.witness6 (enc:=enc) (C:=Tryz.checked) false ⟨#[],#[.agg #[.slice none 0 0,.slice none 0 0,.int .i64 0,.int .i64 0,.slice none 0 0],.slice none 0 0],[]⟩ 12 (by kernel_rfl) (by kernel_rfl) (by kernel_rfl) (by kernel_rfl)) ?_
 intro W base args ds gs before hval hW hcnd hz _
 refine law_contract (P:=Tryz.prog) (a:={}) (conds:=[]) 12 (rt:=4) ?_ rfl rfl (by kernel_rfl) (by kernel_rfl) (by kernel_rfl) (by kernel_rfl) Tryz.underlying4 ?_ W base args ds gs before hval hW hz
 ·intro ds hl
  match ds,hl with
  |[d0,d1],_=>rfl
 ·rintro Ds hD
  rw[show Tryz.f5.params.toList=[28,44] by rw[Tryz.params5]] at hD
  obtain⟨d0,r0,rfl,⟨c0,wa0,e0⟩,d1,r1,rfl,⟨c1,wa1,e1⟩,rfl⟩:=hD
  rw[Tryz.underlying28] at e0
  subst e0
  rw[Tryz.underlying44] at e1
  subst e1
  obtain⟨ea0,za0,ba0,rfl,hwa0,hba0⟩:=wt28c wa0
  obtain⟨ta1,qta1,hta1⟩:=wt44b wa1; obtain rfl:=(List.cons.inj qta1).1
  exact law5 ea0 za0 ba0 ta1 hwa0 hba0 hta1
theorem named5:Tryz.checked.prog.funcNamed Rows.inferKnowsRow.func=some 5:=by kernel_rfl
theorem inst5:Tryz.f5.isInstance Tryz.prog Rows.inferKnowsRow.origin Rows.inferKnowsRow.targs:=of_decide_eq_true (by kernel_rfl)
theorem wrap5:Tryz.f5.isWrapper Tryz.prog Rows.inferKnowsRow.wrapper Rows.inferKnowsRow.mainSum:=by
 unfold Func.isWrapper; first|(rw[if_pos (by decide +kernel)]; kernel_rfl)|(rw[if_neg (by decide +kernel)]; exact⟨rfl,rfl⟩)
theorem over5:Rows.inferKnowsRow.holds Tryz.pinned (OpenSpec.ofChange Rows.inferKnowsSpec):=
 OpenClaim.holds_of_wide 5 Tryz.f5 rfl rfl rfl rfl rfl rfl rfl ⟨rfl,rfl,rfl,rfl,rfl⟩ rfl rfl rfl rfl rfl named5 Tryz.func5 facts5 inst5 wrap5
  (fun os started H enc _=>lifted5 os started H enc)
end Go.AL
namespace Go.Proofs.YtjffaachihpjbaaGreat
theorem inferKnows_holds:Rows.InferKnowsSaid:=Go.AL.over5
#print axioms inferKnows_holds
end Go.Proofs.YtjffaachihpjbaaGreat
