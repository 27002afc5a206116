/- OnepassTakes answers true at every input that its parameters' types allow: the program's answer and the document's agree, nothing panics, and the arguments read behind the call as they read before. No condition. -/
import Derived.Test.YtobmoajkfbigkaaGreatRzc
import Derived.Test.YtobmoajkfbigkaaGreatRu
import Derived.Test.YtobmoajkfbigkaaGreatRv
set_option linter.unusedSimpArgs false
set_option linter.unusedVariables false
set_option maxRecDepth 100000
set_option linter.defProp false
namespace Go.AL
open Go.Proofs Go.ChangeShapes Go.WideShapes Go.ChangeAt Go.RowKit
open Go.Proofs.YtobmoajkfbigkaaGreat
theorem lifted14 (os:Os) (started:os.Started) (H:Type) (enc:TypeId×Value→H):
  ReturnsInHanded {} Tryz.checked os 14 .any (Rows.onepassTakesSpec.pre6 enc Tryz.prog Tryz.f14 Rows.onepassTakesRow.domain false) (Rows.onepassTakesSpec.post enc Tryz.prog Tryz.f14 false true false false):=by
 refine returnsInHanded_of_change_sized (C:=Tryz.checked) (by kernel_rfl) started (by kernel_rfl) Tryz.func14
  (ChangeSpec.witness6 (enc:=enc) (C:=Tryz.checked) false ⟨#[],#[.agg #[.slice none 0 0,.slice none 0 0,.int .i64 0],.int .i64 0,.slice none 0 0],[]⟩ 12 (by kernel_rfl) (by kernel_rfl) (by kernel_rfl) (by kernel_rfl)) ?_
 intro W base args ds gs before hval hW hcnd hz _
 refine law_contract (P:=Tryz.prog) (a:={}) (conds:=[]) 12 (rt:=4) ?_ rfl rfl (by kernel_rfl) (by kernel_rfl) (by kernel_rfl) (by kernel_rfl) Tryz.underlying4 ?_ W base args ds gs before hval hW hz
 ·intro ds hl
  match ds,hl with
  |[d0,d1,d2],_=>rfl
 ·rintro Ds hD
  rw[show Tryz.f14.params.toList=[25,3,26] by rw[Tryz.params14]] at hD
  obtain⟨d0,r0,rfl,⟨c0,wa0,e0⟩,d1,r1,rfl,⟨c1,wa1,e1⟩,d2,r2,rfl,⟨c2,wa2,e2⟩,rfl⟩:=hD
  rw[Tryz.underlying25] at e0
  subst e0
  rw[Tryz.underlying3] at e1
  subst e1
  rw[Tryz.underlying26] at e2
  subst e2
  obtain⟨a0,rfl,ha0⟩:=wt57 wa0
  obtain⟨a1,qa1,_⟩:=wt_int Tryz.underlying3 wa1; cases qa1
  obtain⟨a2,qa2,ha2⟩:=wt26b wa2; obtain rfl:=(List.cons.inj qa2).1
  exact law14 a0 a1 a2 ha0 ha2
theorem named14:Tryz.checked.prog.funcNamed Rows.onepassTakesRow.func=some 14:=by kernel_rfl
theorem inst14:Tryz.f14.isInstance Tryz.prog Rows.onepassTakesRow.origin Rows.onepassTakesRow.targs:=of_decide_eq_true (by kernel_rfl)
theorem wrap14:Tryz.f14.isWrapper Tryz.prog Rows.onepassTakesRow.wrapper Rows.onepassTakesRow.mainSum:=by
 unfold Func.isWrapper; first|(rw[if_pos (by decide +kernel)]; kernel_rfl)|(rw[if_neg (by decide +kernel)]; exact⟨rfl,rfl⟩)
theorem over14:Rows.onepassTakesRow.holds Tryz.pinned (OpenSpec.ofChange Rows.onepassTakesSpec):=
 OpenClaim.holds_of_wide 14 Tryz.f14 rfl rfl rfl rfl rfl rfl rfl ⟨rfl,rfl,rfl,rfl,rfl⟩ rfl rfl rfl rfl rfl named14 Tryz.func14 facts14 inst14 wrap14
  (fun os started H enc _=>lifted14 os started H enc)
end Go.AL
namespace Go.Proofs.YtobmoajkfbigkaaGreat
theorem onepassTakes_holds:Rows.OnepassTakesSaid:=Go.AL.over14
#print axioms onepassTakes_holds
end Go.Proofs.YtobmoajkfbigkaaGreat
