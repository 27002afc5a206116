import Derived.Test.YtjffaachihpjbaaGreatFi
import Derived.Test.YtjffaachihpjbaaGreatFe
import Derived.Test.YtjffaachihpjbaaGreatRows
import Derived.Test.YtjffaachihpjbaaGreatFm
set_option linter.unusedSimpArgs false
set_option linter.unusedVariables false
set_option maxRecDepth 100000
set_option linter.defProp false
namespace Go.AL
open Go.Proofs Go.ChangeShapes Go.WideShapes Go.ChangeAt Go.RowKit
open Go.Proofs.YtjffaachihpjbaaGreat
theorem rws_of {α:Type} {enc:α→List D}:∀{es:List (List D)},(∀r∈es,∃x,r=enc x)→∃xs,es=rws enc xs
 |[],_=>⟨[],rfl⟩
 |r::es,h=>by
  obtain⟨x,rfl⟩:=h r (by simp)
  obtain⟨xs,rfl⟩:=rws_of (es:=es) (fun r hr=>h r (by simp[hr]))
  exact⟨x::xs,rfl⟩
theorem wt_int {P:Program} {n:Nat} {t:TypeId} {k:IntKind} {ds:List D} (hu:P.underlying t=some (.int k)) (h:WT P n t ds):∃z,ds=[.int k z]∧(Lit.int k z).wf=true:=by
 cases n with
 |zero=>exact h.elim
 |succ n=>unfold WT at h; rw[hu] at h; exact h
theorem wt_slice {P:Program} {n:Nat} {t e:TypeId} {ds:List D} (hu:P.underlying t=some (.slice e)) (h:WT P (n+1) t ds):∃es,ds=[.slice .no es]∧es.length*P.bytesOf e≤reachBytes∧∀r∈es,WT P n e r:=by
 unfold WT at h; rw[hu] at h; exact h
theorem wt_struct {P:Program} {n:Nat} {t:TypeId} {fs:Array Field} {ds:List D} (hu:P.underlying t=some (.struct fs)) (h:WT P (n+1) t ds):WTs (WT P n) (fs.toList.map (·.type)) ds:=by
 unfold WT at h; rw[hu] at h; exact h
theorem wf_u8 {z:Int} (h:(Lit.int .u8 z).wf=true):∃t:Ty,z=t.val:=by
 simp[Lit.wf,IntKind.min,IntKind.max,IntKind.signed,IntKind.bits] at h
 exact⟨⟨z.toNat,by omega⟩,by simp; omega⟩
theorem reach_eq:reachBytes=140737488351232:=rfl
theorem wt22 {n:Nat} {ds:List D} (h:WT Tryz.prog (n+1) 44 ds):∃ts:List Ty,ds=[.slice .no (rws eT ts)]∧ts.length≤140737488351232:=by
 obtain⟨es,rfl,hl,hr⟩:=wt_slice Tryz.underlying44 h
 obtain⟨ts,rfl⟩:=rws_of (enc:=eT) (fun r hr'=>by
  obtain⟨z,rfl,hz⟩:=wt_int Tryz.underlying35 (hr r hr')
  obtain⟨t,rfl⟩:=wf_u8 hz
  exact⟨t,rfl⟩)
 have hb:Tryz.prog.bytesOf 35=1:=by kernel_rfl
 rw[hb,za1] at hl
 exact⟨ts,rfl,by rw[reach_eq] at hl; omega⟩
theorem wt25 {n:Nat} {ds:List D} (h:WT Tryz.prog (n+2) 47 ds):∃s:Sg,ds=eSg s∧s.ps.length≤140737488351232:=by
 obtain⟨d1,d2,rfl,h1,d3,d4,rfl,h2,h3⟩:=wt_struct Tryz.underlying47 h
 obtain⟨ts,rfl,hl⟩:=wt22 h1
 obtain⟨z,rfl,hz⟩:=wt_int Tryz.underlying35 h2
 obtain⟨t,rfl⟩:=wf_u8 hz
 obtain rfl:d4=[]:=h3
 exact⟨⟨ts,t⟩,rfl,hl⟩
theorem wt_str {P:Program} {n:Nat} {t:TypeId} {ds:List D} (hu:P.underlying t=some .string) (h:WT P n t ds):∃s:ByteArray,ds=[.str s]:=by
 cases n with
 |zero=>exact h.elim
 |succ n=>unfold WT at h; rw[hu] at h; obtain⟨s,hs,_⟩:=h; exact⟨s,hs⟩
theorem rws_of' {α:Type} {enc:α→List D} {p:α→Prop}:∀{es:List (List D)},(∀r∈es,∃x,r=enc x∧p x)→∃xs,es=rws enc xs∧∀x∈xs,p x
 |[],_=>⟨[],rfl,by simp⟩
 |r::es,h=>by
  obtain⟨x,rfl,hx⟩:=h r (by simp)
  obtain⟨xs,rfl,hxs⟩:=rws_of' (es:=es) (fun r hr=>h r (by simp[hr]))
  exact⟨x::xs,rfl,by simpa using ⟨hx,hxs⟩⟩
theorem wt110 {n:Nat} {ds:List D} (h:WT Tryz.prog (n+2) 189 ds):∃f:Fd,ds=eF f:=by
 obtain⟨d1,d2,rfl,h1,d3,d4,rfl,h2,h3⟩:=wt_struct Tryz.underlying189 h
 obtain⟨s,rfl⟩:=wt_str Tryz.underlying9 h1
 obtain⟨z,rfl,hz⟩:=wt_int Tryz.underlying35 h2
 obtain⟨t,rfl⟩:=wf_u8 hz
 obtain rfl:d4=[]:=h3
 exact⟨⟨s,t⟩,rfl⟩
theorem wt105 {n:Nat} {ds:List D} (h:WT Tryz.prog (n+3) 126 ds):∃fs:List Fd,ds=[.slice .no (rws eF fs)]∧fs.length*24≤140737488351232:=by
 obtain⟨es,rfl,hl,hr⟩:=wt_slice Tryz.underlying126 h
 obtain⟨ts,rfl⟩:=rws_of (enc:=eF) (fun r hr'=>wt110 (hr r hr'))
 have hb:Tryz.prog.bytesOf 189=24:=by kernel_rfl
 rw[hb,za1] at hl
 exact⟨ts,rfl,by rw[reach_eq] at hl; omega⟩
theorem wt107 {n:Nat} {ds:List D} (h:WT Tryz.prog (n+4) 128 ds):∃c:Cl,ds=eC c∧c.fields.length*24≤140737488351232:=by
 obtain⟨d1,d2,rfl,h1,d3,d4,rfl,h2,d5,d6,rfl,h3,h4⟩:=wt_struct Tryz.underlying128 h
 obtain⟨s,rfl⟩:=wt_str Tryz.underlying9 h1
 obtain⟨z,rfl,hz⟩:=wt_int Tryz.underlying3 h2
 obtain⟨fs,rfl,hl⟩:=wt105 h3
 obtain rfl:d6=[]:=h4
 exact⟨⟨s,z,fs⟩,rfl,hl⟩
theorem wt52 {n:Nat} {ds:List D} (h:WT Tryz.prog (n+5) 22 ds):∃l:List Cl,ds=[.slice .no (rws eC l)]∧Wide l:=by
 obtain⟨es,rfl,hl,hr⟩:=wt_slice Tryz.underlying22 h
 obtain⟨l,rfl,hw⟩:=rws_of' (enc:=eC) (fun r hr'=>wt107 (hr r hr'))
 have hb:Tryz.prog.bytesOf 128=48:=by kernel_rfl
 rw[hb,za1] at hl
 exact⟨l,rfl,by rw[reach_eq] at hl; omega,hw⟩
theorem wt49 {n:Nat} {ds:List D} (h:WT Tryz.prog (n+3) 23 ds):∃l:List Sg,ds=[.slice .no (rws eSg l)]∧l.length*32≤140737488351232∧∀s∈l,s.ps.length≤140737488351232:=by
 obtain⟨es,rfl,hl,hr⟩:=wt_slice Tryz.underlying23 h
 obtain⟨l,rfl,hw⟩:=rws_of' (enc:=eSg) (p:=fun s=>s.ps.length≤140737488351232) (fun r hr'=>wt25 (hr r hr'))
 have hb:Tryz.prog.bytesOf 47=32:=by kernel_rfl
 rw[hb,za1] at hl
 exact⟨l,rfl,by rw[reach_eq] at hl; omega,hw⟩
theorem wt57 {n:Nat} {ds:List D} (h:WT Tryz.prog (n+6) 25 ds):∃e:En,ds=eEn e∧WideE e:=by
 obtain⟨d1,d2,rfl,h1,d3,d4,rfl,h2,d5,d6,rfl,h3,h4⟩:=wt_struct Tryz.underlying25 h
 obtain⟨l,rfl,hl⟩:=wt52 h1
 obtain⟨s,rfl,hs⟩:=wt49 h2
 obtain⟨z,rfl,hz⟩:=wt_int Tryz.underlying3 h3
 obtain rfl:d6=[]:=h4
 exact⟨⟨l,s,z⟩,rfl,hl,hs⟩
end Go.AL
namespace Go.AL
open Go.Proofs Go.ChangeShapes Go.WideShapes Go.ChangeAt Go.RowKit
end Go.AL
