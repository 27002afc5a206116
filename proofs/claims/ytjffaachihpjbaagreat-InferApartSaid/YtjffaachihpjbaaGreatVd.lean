/- InferApart answers true at every input that its parameters' types allow: the program's answer and the document's agree, nothing panics, and the arguments read behind the call as they read before. No condition. -/
import Derived.Test.YtjffaachihpjbaaGreatDx
import Derived.Test.YtjffaachihpjbaaGreatDr
set_option linter.unusedSimpArgs false
set_option linter.unusedVariables false
set_option maxRecDepth 100000
set_option linter.defProp false
namespace Go.AL
open Go.Proofs Go.ChangeShapes Go.WideShapes Go.ChangeAt Go.RowKit
open Go.Proofs.YtjffaachihpjbaaGreat
theorem lifted8 (os:Os) (started:os.Started) (H:Type) (enc:TypeId×Value→H):
  ReturnsInHanded {} Tryz.checked os 8 .any (Rows.inferApartSpec.pre6 enc Tryz.prog Tryz.f8 Rows.inferApartRow.domain false) (Rows.inferApartSpec.post enc Tryz.prog Tryz.f8 false true false false):=by
 refine returnsInHanded_of_change_sized (C:=Tryz.checked) (by kernel_rfl) started (by kernel_rfl) Tryz.func8
  (ChangeSpec.witness6 (enc:=enc) (C:=Tryz.checked) false ⟨#[],#[.agg #[.slice none 0 0,.slice none 0 0,.int .i64 0,.int .i64 0,.slice none 0 0],.int .u64 0,.int .u8 0],[]⟩ 12 (by kernel_rfl) (by kernel_rfl) (by kernel_rfl) (by kernel_rfl)) ?_
 intro W base args ds gs before hval hW hcnd hz _
 refine law_contract (P:=Tryz.prog) (a:={}) (conds:=[]) 12 (rt:=4) ?_ rfl rfl (by kernel_rfl) (by kernel_rfl) (by kernel_rfl) (by kernel_rfl) Tryz.underlying4 ?_ W base args ds gs before hval hW hz
 ·intro ds hl
  match ds,hl with
  |[d0,d1,d2],_=>rfl
 ·rintro Ds hD
  rw[show Tryz.f8.params.toList=[28,73,5] by rw[Tryz.params8]] at hD
  obtain⟨d0,r0,rfl,⟨c0,wa0,e0⟩,d1,r1,rfl,⟨c1,wa1,e1⟩,d2,r2,rfl,⟨c2,wa2,e2⟩,rfl⟩:=hD
  rw[Tryz.underlying28] at e0
  subst e0
  rw[Tryz.underlying73] at e1
  subst e1
  rw[Tryz.underlying5] at e2
  subst e2
  obtain⟨ea0,za0,ba0,rfl,hwa0,hba0⟩:=wt28c wa0
  obtain⟨ua1,qua1,hua1⟩:=wt_int Tryz.underlying73 wa1; cases qua1; have hva1:=wf_u64 hua1
  obtain⟨ua2,qua2,hua2⟩:=wt_int Tryz.underlying5 wa2; cases qua2; obtain⟨ya2,rfl⟩:=wf_u8 hua2
  exact law8 ea0 za0 ba0 ua1 ya2 hwa0 hba0 hva1.1 hva1.2
theorem named8:Tryz.checked.prog.funcNamed Rows.inferApartRow.func=some 8:=by kernel_rfl
theorem inst8:Tryz.f8.isInstance Tryz.prog Rows.inferApartRow.origin Rows.inferApartRow.targs:=of_decide_eq_true (by kernel_rfl)
theorem wrap8:Tryz.f8.isWrapper Tryz.prog Rows.inferApartRow.wrapper Rows.inferApartRow.mainSum:=by
 unfold Func.isWrapper; first|(rw[if_pos (by decide +kernel)]; kernel_rfl)|(rw[if_neg (by decide +kernel)]; exact⟨rfl,rfl⟩)
theorem over8:Rows.inferApartRow.holds Tryz.pinned (OpenSpec.ofChange Rows.inferApartSpec):=
 OpenClaim.holds_of_wide 8 Tryz.f8 rfl rfl rfl rfl rfl rfl rfl ⟨rfl,rfl,rfl,rfl,rfl⟩ rfl rfl rfl rfl rfl named8 Tryz.func8 facts8 inst8 wrap8
  (fun os started H enc _=>lifted8 os started H enc)
end Go.AL
namespace Go.Proofs.YtjffaachihpjbaaGreat
theorem inferApart_holds:Rows.InferApartSaid:=Go.AL.over8
#print axioms inferApart_holds
end Go.Proofs.YtjffaachihpjbaaGreat
