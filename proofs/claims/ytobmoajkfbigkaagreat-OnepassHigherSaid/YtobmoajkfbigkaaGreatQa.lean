/- OnepassHigher answers true at every input that its parameters' types allow: the program's answer and the document's agree, nothing panics, and the arguments read behind the call as they read before. No condition. -/
import Derived.Test.YtobmoajkfbigkaaGreatPza
import Derived.Test.YtobmoajkfbigkaaGreatPw
set_option linter.unusedSimpArgs false
set_option linter.unusedVariables false
set_option maxRecDepth 100000
set_option linter.defProp false
namespace Go.AL
open Go.Proofs Go.ChangeShapes Go.WideShapes Go.ChangeAt Go.RowKit
open Go.Proofs.YtobmoajkfbigkaaGreat
theorem lifted13 (os:Os) (started:os.Started) (H:Type) (enc:TypeId×Value→H):
  ReturnsInHanded {} Tryz.checked os 13 .any (Rows.onepassHigherSpec.pre6 enc Tryz.prog Tryz.f13 Rows.onepassHigherRow.domain false) (Rows.onepassHigherSpec.post enc Tryz.prog Tryz.f13 false true false false):=by
 refine returnsInHanded_of_change_sized (C:=Tryz.checked) (by kernel_rfl) started (by kernel_rfl) Tryz.func13
  (ChangeSpec.witness6 (enc:=enc) (C:=Tryz.checked) false ⟨#[],#[.agg #[.slice none 0 0,.slice none 0 0,.int .i64 0],.agg #[.int .i64 0,.slice none 0 0,.slice none 0 0]],[]⟩ 12 (by kernel_rfl) (by kernel_rfl) (by kernel_rfl) (by kernel_rfl)) ?_
 intro W base args ds gs before hval hW hcnd hz _
 refine law_contract (P:=Tryz.prog) (a:={}) (conds:=[]) 12 (rt:=4) ?_ rfl rfl (by kernel_rfl) (by kernel_rfl) (by kernel_rfl) (by kernel_rfl) Tryz.underlying4 ?_ W base args ds gs before hval hW hz
 ·intro ds hl
  match ds,hl with
  |[d0,d1],_=>rfl
 ·rintro Ds hD
  rw[show Tryz.f13.params.toList=[25,28] by rw[Tryz.params13]] at hD
  obtain⟨d0,r0,rfl,⟨c0,wa0,e0⟩,d1,r1,rfl,⟨c1,wa1,e1⟩,rfl⟩:=hD
  rw[Tryz.underlying25] at e0
  subst e0
  rw[Tryz.underlying28] at e1
  subst e1
  obtain⟨a0,rfl,ha0⟩:=wt57 wa0
  obtain⟨a1,rfl,ha1⟩:=wt28 wa1
  exact law13 a0 a1 ha0 ha1
theorem named13:Tryz.checked.prog.funcNamed Rows.onepassHigherRow.func=some 13:=by kernel_rfl
theorem facts13:joinedFacts Tryz.prog 13 Tryz.f13 Rows.onepassHigherSpec Rows.onepassHigherRow=true:=by kernel_rfl
theorem inst13:Tryz.f13.isInstance Tryz.prog Rows.onepassHigherRow.origin Rows.onepassHigherRow.targs:=of_decide_eq_true (by kernel_rfl)
theorem wrap13:Tryz.f13.isWrapper Tryz.prog Rows.onepassHigherRow.wrapper Rows.onepassHigherRow.mainSum:=by
 unfold Func.isWrapper; first|(rw[if_pos (by decide +kernel)]; kernel_rfl)|(rw[if_neg (by decide +kernel)]; exact⟨rfl,rfl⟩)
theorem over13:Rows.onepassHigherRow.holds Tryz.pinned (OpenSpec.ofChange Rows.onepassHigherSpec):=
 OpenClaim.holds_of_wide 13 Tryz.f13 rfl rfl rfl rfl rfl rfl rfl ⟨rfl,rfl,rfl,rfl,rfl⟩ rfl rfl rfl rfl rfl named13 Tryz.func13 facts13 inst13 wrap13
  (fun os started H enc _=>lifted13 os started H enc)
end Go.AL
namespace Go.Proofs.YtobmoajkfbigkaaGreat
theorem onepassHigher_holds:Rows.OnepassHigherSaid:=Go.AL.over13
#print axioms onepassHigher_holds
end Go.Proofs.YtobmoajkfbigkaaGreat
