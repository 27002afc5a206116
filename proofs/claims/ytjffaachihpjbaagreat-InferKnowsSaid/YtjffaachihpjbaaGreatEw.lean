import Derived.Test.YtjffaachihpjbaaGreatEv
import Derived.Test.YtjffaachihpjbaaGreatEq
set_option linter.unusedSimpArgs false
set_option linter.unusedVariables false
set_option maxRecDepth 100000
set_option linter.defProp false
namespace Go.AL
open Go.Proofs Go.ChangeShapes Go.WideShapes Go.ChangeAt Go.RowKit
theorem wt26b {n:Nat} {ds:List D} (h:WT Tryz.prog (n+1) 26 ds):∃ts:List Ty,ds=[.slice .no (rws eT ts)]∧ts.length≤140737488351232:=by
 obtain⟨es,rfl,hl,hr⟩:=wt_slice Tryz.underlying26 h
 obtain⟨ts,rfl⟩:=rws_of (enc:=eT) (fun r hr'=>by
  obtain⟨z,rfl,hz⟩:=wt_int Tryz.underlying5 (hr r hr')
  obtain⟨t,rfl⟩:=wf_u8 hz
  exact⟨t,rfl⟩)
 have hb:Tryz.prog.bytesOf 5=1:=by kernel_rfl
 rw[hb,za1] at hl
 exact⟨ts,rfl,by rw[reach_eq] at hl; omega⟩
theorem wt44b {n:Nat} {ds:List D} (h:WT Tryz.prog (n+1) 44 ds):∃ts:List Ty,ds=[.slice .no (rws eT ts)]∧ts.length≤140737488351232:=by
 obtain⟨es,rfl,hl,hr⟩:=wt_slice Tryz.underlying44 h
 obtain⟨ts,rfl⟩:=rws_of (enc:=eT) (fun r hr'=>by
  obtain⟨z,rfl,hz⟩:=wt_int Tryz.underlying35 (hr r hr')
  obtain⟨t,rfl⟩:=wf_u8 hz
  exact⟨t,rfl⟩)
 have hb:Tryz.prog.bytesOf 35=1:=by kernel_rfl
 rw[hb,za1] at hl
 exact⟨ts,rfl,by rw[reach_eq] at hl; omega⟩
theorem wt28c {n:Nat} {ds:List D} (h:WT Tryz.prog (n+7) 28 ds):∃(e:En) (z:Int) (b:List Ty),ds=eCo e z b∧WideE e∧b.length≤140737488351232:=by
 obtain⟨d1,d2,rfl,h1,d3,d4,rfl,h2,d5,d6,rfl,h3,h4⟩:=wt_struct Tryz.underlying28 h
 obtain⟨e,rfl,he⟩:=wt57 h1
 obtain⟨z,rfl,hz⟩:=wt_int Tryz.underlying3 h2
 obtain⟨b,rfl,hb⟩:=wt26b h3
 obtain rfl:d6=[]:=h4
 exact⟨e,z,b,rfl,he,hb⟩
end Go.AL
