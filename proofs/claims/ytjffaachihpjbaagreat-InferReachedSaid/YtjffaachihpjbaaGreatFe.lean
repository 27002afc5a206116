import Derived.Test.YtjffaachihpjbaaGreatFc
import Derived.Test.YtjffaachihpjbaaGreatFd
import Derived.ProofKit
import Derived.OpenShut
import Derived.ChangeOld
import Derived.Below
import Derived.Carry
import Derived.SizedLaws
import Derived.ChangeMaps5
import Derived.RangeFuncIn
import Derived.RangeFuncCalls
import Derived.RangeFuncRecord
import Derived.RangeFuncLeaves
import Derived.Recover
set_option linter.unusedVariables false
set_option linter.unusedSimpArgs false
set_option linter.unusedSectionVars false
namespace Go.AL
abbrev tT (n:Nat):Operand:= .tmp n
abbrev kI (n:Int):Operand:= .const (.int .i64 n)
abbrev kB (n:Int):Operand:= .const (.int .u8 n)
abbrev cF (f:Operand) (as:Array Operand) (ts:Array TypeId):Op:= .call {callee:= .value f,args:=as,argTypes:=ts}
abbrev cB (b:Builtin) (as:Array Operand) (ts:Array TypeId):Op:= .call {callee:= .builtin b,args:=as,argTypes:=ts}
abbrev oO (d:Nat) (op:Op):DO:=⟨⟨some d,op,none⟩,false,false⟩
abbrev oN (op:Op):DO:=⟨⟨none,op,none⟩,false,false⟩
abbrev oG (d:Nat) (op:Op) (g:Nat) (w:Bool):DO:=⟨⟨some d,op,some (g,w)⟩,false,false⟩
end Go.AL
namespace Go.AL
section
variable (P : Program)
def WTs (W:TypeId→List D→Prop):List TypeId→List D→Prop
 |[],ds=>ds=[]
 |t::ts,ds=>∃d1 d2,ds=d1++d2∧W t d1∧WTs W ts d2
def WT:Nat→TypeId→List D→Prop
 |0,_,_=>False
 |n+1,t,ds=>match P.underlying t with
  |some .bool=>∃b,ds=[.bool b]
  |some (.int k)=>∃z,ds=[.int k z]∧(Lit.int k z).wf=true
  |some .string=>∃s:ByteArray,ds=[.str s]∧s.size≤reachBytes
  |some (.slice e)=>∃es,ds=[.slice .no es]∧es.length*P.bytesOf e≤reachBytes∧∀r∈es,WT n e r
  |some (.struct fs)=>WTs (WT n) (fs.toList.map (·.type)) ds
  |some (.array m e)=>WTs (WT n) (List.replicate m e) ds
  |_=>False
def contB:Nat→List (TypeId×Nat)→Nat→Bool
 |off,[],e=>off==e
 |off,(t,o)::r,e=>o==off&&contB (off+P.cellsOf t) r e
def plainT:Nat→TypeId→Bool
 |0,_=>false
 |n+1,t=>match P.underlying t with
  |some .bool|some (.int _)|some .string=>P.cellsOf t==1
  |some (.slice e)=>P.cellsOf t==1&&decide (0<P.cellsOf e)&&plainT n e
  |some (.struct fs)=>fs.toList.all (fun f=>plainT n f.type)&&contB P 0 (fs.toList.map fun f=>(f.type,f.offset)) (P.cellsOf t)
  |some (.array m e)=>plainT n e&&contB P 0 ((List.range m).map fun i=>(e,i*P.cellsOf e)) (P.cellsOf t)
  |_=>false
end
def M0:MMap:=fun _=>none
variable {P : Program} {w : World} {H : Type} {enc : TypeId × Value → H} {base : Nat} {spare : Nat → Bool} {held : Bool}
theorem imm0 (b off:Nat):ImmAt M0 b off:=trivial
def Opens (P:Program) (w:World) (n:Nat) (t:TypeId) (cs:List Value):Prop:=
 ∃ds,zf6 M0 w ds cs∧(∀u∈cs,u.oneCell'=true)∧WT P n t ds∧cs.length=P.cellsOf t
theorem open_parts {n m:Nat} (ih:∀t cs x,plainT P n t=true→DataW.trod enc P w base spare held m t cs=some x→(x.1.weights P t).all (· ≤reachBytes)=true→Opens P w n t cs):
  ∀(l:List (TypeId×Nat)) (off:Nat) (cs:List Value) (xs:List (DataW H×List MemPlace)),(∀p∈l,plainT P n p.1=true)→contB P off l cs.length=true→xs.length=l.length→
   (∀(i:Nat) p,l[i]? =some p→DataW.trod enc P w base spare held m p.1 ((cs.drop p.2).take (P.cellsOf p.1))=xs[i]?)→
   (DataW.weightsEach P (l.map (·.1)) (xs.map (·.1))).all (· ≤reachBytes)=true→
   ∃ds,zf6 M0 w ds (cs.drop off)∧(∀u∈cs.drop off,u.oneCell'=true)∧WTs (WT P n) (l.map (·.1)) ds
 |[],off,cs,xs,hp,hc,hx,ht,hw=>by
  simp only[contB,beq_iff_eq] at hc
  subst hc
  refine⟨[],by simp[zf6],by simp,rfl⟩
 |(t,o)::r,off,cs,xs,hp,hc,hx,ht,hw=>by
  simp only[contB,Bool.and_eq_true,beq_iff_eq] at hc
  obtain⟨rfl,hc⟩:=hc
  cases xs with
  |nil=>simp at hx
  |cons x xs=>
   simp only[List.map_cons,DataW.weightsEach,List.all_append,Bool.and_eq_true] at hw
   have h0:=ht 0 (t,o) rfl
   simp only[List.getElem?_cons_zero] at h0
   obtain⟨d1,r1,o1,w1,l1⟩:=ih t _ x (hp (t,o) (by simp)) h0 hw.1
   obtain⟨d2,r2,o2,w2⟩:=open_parts ih r (o+P.cellsOf t) cs xs (fun p h=>hp p (by simp[h])) hc (by simpa using hx) (fun i p hi=>ht (i+1) p (by simpa using hi)) hw.2
   have e:cs.drop o=(cs.drop o).take (P.cellsOf t)++cs.drop (o+P.cellsOf t):=by
    rw[←List.drop_drop,List.take_append_drop]
   refine⟨d1++d2,by rw[e]; exact r1.append r2, ?_,⟨d1,d2,rfl,w1,w2⟩⟩
   rw[e]
   intro u hu
   rcases List.mem_append.1 hu with h|h
   ·exact o1 u h
   ·exact o2 u h
theorem weightsAll_each (e:TypeId):∀(ds:List (DataW H)),DataW.weightsAll P e ds=DataW.weightsEach P (List.replicate ds.length e) ds
 |[]=>rfl
 |d::ds=>by simp[DataW.weightsAll,DataW.weightsEach,List.replicate_succ,weightsAll_each e ds]
theorem weightsAll_mem {e:TypeId} {ds:List (DataW H)} (h:(DataW.weightsAll P e ds).all (· ≤reachBytes)=true) {d:DataW H} (hd:d∈ds):(d.weights P e).all (· ≤reachBytes)=true:=by
 induction ds with
 |nil=>cases hd
 |cons a l ih=>
  simp only[DataW.weightsAll,List.all_append,Bool.and_eq_true] at h
  rcases List.mem_cons.1 hd with rfl|hd
  ·exact h.1
  ·exact ih h.2 hd
theorem repCells_of {b:Nat}:∀{ds:List D} {vs:List Value} {off:Nat},zf6 M0 w ds vs→(∀u∈vs,u.oneCell'=true)→(∀(i:Nat) v,vs[i]? =some v→w.cell? ⟨b,off+i,none⟩=some v)→RepCells M0 w ds b off
 |[],_,_,_,_,_=>trivial
 |d::ds,vs,off,hr,h1,hc=>by
  obtain⟨v,vs',rfl,r1,r2⟩:=hr
  refine⟨⟨v,by simpa using hc 0 v rfl,h1 v (by simp),imm0 _ _,r1⟩,repCells_of r2 (fun u hu=>h1 u (by simp[hu])) fun i u hi=> ?_⟩
  have:=hc (i+1) u (by simpa using hi)
  rw[show off+1+i=off+(i+1) by omega]; exact this
theorem list_choice {α:Type} {Q:Nat→α→Prop}:∀(n:Nat),(∀i,i<n→∃x,Q i x)→∃l:List α,l.length=n∧∀(i:Nat) x,l[i]? =some x→Q i x
 |0,_=>⟨[],rfl,fun i x h=>by simp at h⟩
 |n+1,h=>by
  obtain⟨l,h1,h2⟩:=list_choice n fun i hi=>h i (by omega)
  obtain⟨x,hx⟩:=h n (by omega)
  refine⟨l++[x],by simp[h1],fun i y hy=> ?_⟩
  by_cases hi:i<l.length
  ·rw[List.getElem?_append_left hi] at hy; exact h2 i y hy
  ·rw[List.getElem?_append_right (by omega)] at hy
   have:i-l.length=0:=by
    have:=(List.getElem?_eq_some_iff.1 hy).1
    simp at this; omega
   rw[this] at hy
   simp at hy
   subst hy
   rw[show i=n by omega]; exact hx
theorem open_wt:∀(n fuel:Nat) (t:TypeId) (cs:List Value) (x:DataW H×List MemPlace),plainT P n t=true→DataW.trod enc P w base spare held fuel t cs=some x→(x.1.weights P t).all (· ≤reachBytes)=true→Opens P w n t cs
 |0,_,_,_,_,hp,_,_=>by cases hp
 |n+1,fuel,t,cs,x,hp,h,hw=>by
  unfold plainT at hp
  unfold Opens WT
  split at hp
  ·rename_i hu
   obtain⟨b,rfl,rfl⟩:=DataW.trod_bool hu h
   exact⟨[.bool b],⟨_,_,rfl,rfl,rfl⟩,by simp[Value.oneCell'],⟨b,rfl⟩,by simpa using (beq_iff_eq.1 hp).symm⟩
  ·rename_i k hu
   obtain⟨z,rfl,rfl,hz⟩:=DataW.trod_int hu h
   exact⟨[.int k z],⟨_,_,rfl,rfl,rfl⟩,by simp[Value.oneCell'],⟨z,rfl,hz⟩,by simpa using (beq_iff_eq.1 hp).symm⟩
  ·rename_i hu
   obtain⟨s,rfl,rfl,hs⟩:=DataW.trod_string hu h
   refine⟨[.str s],⟨_,_,rfl,rfl,rfl⟩,by simp[Value.oneCell'],⟨s,rfl, ?_⟩,by simpa using (beq_iff_eq.1 hp).symm⟩
   simpa[DataW.weights] using hw
  ·rename_i e hu
   simp only[Bool.and_eq_true,decide_eq_true_eq,beq_iff_eq] at hp
   obtain⟨⟨hp1,hp2⟩,hp3⟩:=hp
   rcases DataW.trod_slice hu h with⟨rfl,rfl⟩|⟨a,len,cap,elems,rest,m,rfl,rfl,rfl,hb,hl,hm,hlen,hel,_,_⟩
   ·exact⟨[.slice .no []],⟨_,_,rfl,.inl ⟨rfl,rfl⟩,rfl⟩,by simp[Value.oneCell'],⟨[],rfl,by simp,by simp⟩,by simpa using hp1.symm⟩
   ·simp only[DataW.weights,hu,List.all_cons,List.all_append,Bool.and_eq_true,decide_eq_true_eq,List.length_map] at hw
    obtain⟨hw1,hw2,_⟩:=hw
    have each:∀i,i<len→∃ds,WT P n e ds∧ds.length=P.cellsOf e∧a.spot=none∧RepCells M0 w ds a.block (a.off+i*P.cellsOf e):=by
     have hone:∀i,i<len→∃y cs',elems[i]? =some y∧w.cells? base (a.add (i*P.cellsOf e)) (P.cellsOf e)=some cs'∧DataW.trod enc P w base spare held m e cs'=some y:=by
      intro i hi
      have hy:=hel i hi
      obtain⟨y,hy'⟩:∃y,elems[i]? =some y:=⟨elems[i]'(by omega),by simp[show i<elems.length by omega]⟩
      rw[hy',Option.bind_eq_some_iff] at hy
      obtain⟨cs',hc',hy⟩:=hy
      exact⟨y,cs',hy',hc',hy⟩
     intro i hi
     have hsp:a.spot=none:=by
      obtain⟨y,cs',_,hc',_⟩:=hone 0 (by omega)
      obtain⟨_,hcl,hcc⟩:=World.cells?_some hc'
      have h0:=hcc 0 hp2
      have e0:(a.add (0*P.cellsOf e)).add 0=a:=by simp[Addr.add]
      rw[e0] at h0
      have:cs'[0]? =some (cs'[0]'(by omega)):=by simp
      rw[this] at h0
      unfold World.cell? at h0
      split at h0
      ·cases hs:a.spot with
       |none=>rfl
       |some q=>simp[hs] at h0
      ·cases h0
     obtain⟨y,cs',hy',hc',hy⟩:=hone i hi
     obtain⟨ds,r1,o1,w1,l1⟩:=open_wt n m e cs' y hp3 hy (weightsAll_mem hw2 (List.mem_map.2 ⟨y,List.mem_of_getElem? hy',rfl⟩))
     obtain⟨hbb,hcl,hcc⟩:=World.cells?_some hc'
     refine⟨ds,w1,by rw[r1.length,l1],hsp,repCells_of r1 o1 fun j v hj=> ?_⟩
     obtain⟨ab,ao,as⟩:=a
     simp only at hsp
     subst hsp
     have hjl:j<P.cellsOf e:=by
      have:=(List.getElem?_eq_some_iff.1 hj).1
      omega
     have:=hcc j hjl
     rw[addr_add,addr_add,hj] at this
     exact this
    obtain⟨es,he1,he2⟩:=list_choice len each
    refine⟨[.slice .no es],⟨_,_,rfl, ?_,rfl⟩,by simp[Value.oneCell'],⟨es,rfl, ?_,fun r hr=> ?_⟩,by simpa using hp1.symm⟩
    ·cases len with
     |zero=>exact .inr (.inr ⟨a,cap,rfl,List.eq_nil_of_length_eq_zero he1⟩)
     |succ k=>
      obtain⟨_,_,_,hsp,_⟩:=each 0 (by omega)
      obtain⟨ab,ao,as⟩:=a
      simp only at hsp
      subst hsp
      refine .inr (.inl ⟨ab,ao,cap,P.cellsOf e,by rw[he1],by rw[he1]; exact hl,RepRows.mk fun i r hr=> ?_⟩)
      obtain⟨_,h2,_,h4⟩:=he2 i r hr
      exact⟨h2,h4⟩
    ·refine Nat.le_trans ?_ hw1
     rw[he1,hlen]
     exact Nat.mul_le_mul_right _ (Nat.le_add_right _ _)
    ·obtain⟨i,hi⟩:=List.getElem?_of_mem hr
     exact(he2 i r hi).1
  ·rename_i fs hu
   simp only[Bool.and_eq_true] at hp
   obtain⟨hp1,hp2⟩:=hp
   obtain⟨xs,m,rfl,rfl,hcl,hxl,hx⟩:=DataW.trod_struct hu h
   simp only[DataW.weights,hu] at hw
   obtain⟨ds,r1,o1,w1⟩:=open_parts (fun t cs x=>open_wt n m t cs x) (fs.toList.map fun f=>(f.type,f.offset)) 0 cs xs (fun p hpm=>by
     obtain⟨f,hf,rfl⟩:=List.mem_map.1 hpm
     exact List.all_eq_true.1 hp1 f hf) (by rw[hcl]; exact hp2) (by simpa using hxl) (fun i p hi=>by
     simp only[List.getElem?_map,Option.map_eq_some_iff] at hi
     obtain⟨f,hf,rfl⟩:=hi
     exact hx i f (by simpa using hf)) (by simpa[List.map_map,Function.comp_def] using hw)
   exact⟨ds,by simpa using r1,by simpa using o1,by simpa[List.map_map,Function.comp_def] using w1,hcl⟩
  ·rename_i k e hu
   simp only[Bool.and_eq_true] at hp
   obtain⟨hp1,hp2⟩:=hp
   obtain⟨xs,m,rfl,rfl,hcl,hxl,hx⟩:=DataW.trod_array hu h
   simp only[DataW.weights,hu,weightsAll_each,List.length_map,hxl] at hw
   have hrep:((List.range k).map fun i=>(e,i*P.cellsOf e)).map (·.1)=List.replicate k e:=by
    rw[List.map_map,List.eq_replicate_iff]; simp
   obtain⟨ds,r1,o1,w1⟩:=open_parts (fun t cs x=>open_wt n m t cs x) ((List.range k).map fun i=>(e,i*P.cellsOf e)) 0 cs xs (fun p hpm=>by
     obtain⟨f,hf,rfl⟩:=List.mem_map.1 hpm
     exact hp1) (by rw[hcl]; exact hp2) (by simpa using hxl) (fun i p hi=>by
     simp only[List.getElem?_map,Option.map_eq_some_iff] at hi
     obtain⟨f,hf,rfl⟩:=hi
     obtain⟨hlt,rfl⟩:=List.getElem?_eq_some_iff.1 hf
     simp at hlt
     simpa using hx i hlt) (by rw[hrep]; exact hw)
   exact⟨ds,by simpa using r1,by simpa using o1,by rw[hrep] at w1; exact w1,hcl⟩
  ·cases hp
end Go.AL
namespace Go.AL
open Go.ChangeShapes Go.WideShapes Go.ChangeAt Go.RowKit
def WV (P:Program) (n:Nat) (t:TypeId) (d:D):Prop:=∃cells,WT P n t cells∧(match P.underlying t with
 |some (.struct _)|some (.array _ _)=>d= .agg cells
 |_=>cells=[d])
def WVs (P:Program) (n:Nat):List TypeId→List D→Prop
 |[],Ds=>Ds=[]
 |t::ts,Ds=>∃d r,Ds=d::r∧WV P n t d∧WVs P n ts r
section
variable {P : Program} {w W W' : World} {H : Type} {enc : TypeId × Value → H} {base : Nat} {spare : Nat → Bool} {held : Bool}
theorem wt_one {n:Nat} {t:TypeId} {cells:List D} (h:WT P n t cells) (ht:∀fs,P.underlying t≠some (.struct fs)) (ht':∀m e,P.underlying t≠some (.array m e)):∃d,cells=[d]:=by
 cases n with
 |zero=>exact h.elim
 |succ n=>
  unfold WT at h
  split at h
  ·obtain⟨b,rfl⟩:=h; exact⟨_,rfl⟩
  ·obtain⟨b,rfl,_⟩:=h; exact⟨_,rfl⟩
  ·obtain⟨b,rfl,_⟩:=h; exact⟨_,rfl⟩
  ·obtain⟨b,rfl,_⟩:=h; exact⟨_,rfl⟩
  ·rename_i hu; exact absurd hu (ht _)
  ·rename_i hu; exact absurd hu (ht' _ _)
  ·exact h.elim
theorem open_value {n:Nat} {t:TypeId} {v:Value} {d:DataW H} {ps:List MemPlace} {b0:Nat} (hp:plainT P n t=true) (hval:Value.okWide P w .any b0 t v) (h:DataW.Trod enc P w base spare held t v d ps)
  (hw:(d.weights P t).all (· ≤reachBytes)=true):∃x,Rep M0 w x v∧WV P n t x:=by
 obtain⟨fuel,hf⟩:=h
 obtain⟨ds,r1,o1,w1,l1⟩:=open_wt n fuel t _ _ hp hf hw
 have agg:(∃cs,v= .agg cs∧cs.size=P.cellsOf t∧Row.okWide P w .any b0 t cs)→∃x,Rep M0 w x v∧x= .agg ds:=fun⟨cs,hv,_,_⟩=>by
  subst hv
  exact⟨.agg ds,⟨cs,rfl,by simpa[Value.cells] using r1,by simpa[Value.cells] using o1⟩,rfl⟩
 unfold Value.okWide at hval
 unfold WV
 split at hval
 ·rename_i fs hu
  obtain⟨x,hx,rfl⟩:=agg hval
  exact⟨_,hx,ds,w1,by rw[hu]⟩
 ·rename_i m e hu
  obtain⟨x,hx,rfl⟩:=agg hval
  exact⟨_,hx,ds,w1,by rw[hu]⟩
 ·rename_i hn1 hn2
  obtain⟨x,rfl⟩:=wt_one w1 (fun fs he=>hn1 _ he) (fun m e he=>hn2 _ _ he)
  have hlen:=r1.length
  obtain⟨u,us,he,ru,hus⟩:=r1
  have:us=[]:=hus
  subst this
  have ho:u.oneCell'=true:=o1 u (by rw[he]; simp)
  have hvu:v=u:=by
   cases v <;> simp only[Value.cells,List.cons.injEq,and_true] at he <;> try exact he
   exfalso
   unfold Cell.okWide at hval
   split at hval <;> first
    |contradiction
    |(unfold Cell.ok at hval; split at hval <;> first|contradiction|exact hval)
  subst hvu
  refine⟨x,ru,[x],w1, ?_⟩
  split
  ·rename_i hu; exact absurd hu (hn1 _)
  ·rename_i hu; exact absurd hu (hn2 _ _)
  ·rfl
theorem open_all {n:Nat} {b0:Nat}:∀{ts:List TypeId} {vs:List Value} {ds:List (DataW H)} {ps:List MemPlace},(∀t∈ts,plainT P n t=true)→(∀(j:Nat) t v,ts[j]? =some t→vs[j]? =some v→Value.okWide P w .any b0 t v)→
  DataW.TrodAll enc P w base spare held ts vs ds ps→(DataW.weightsEach P ts ds).all (· ≤reachBytes)=true→∃Ds,zf6 M0 w Ds vs∧WVs P n ts Ds
 |[],vs,ds,ps,hp,hv,h,hw=>by
  obtain⟨rfl,rfl,rfl⟩:=trodAll_nil h
  exact⟨[],rfl,rfl⟩
 |t::ts,vs,ds,ps,hp,hv,h,hw=>by
  obtain⟨v,vs',d,ds',p,q,rfl,rfl,rfl,h1,h2⟩:=trodAll_cons h
  simp only[DataW.weightsEach,List.all_append,Bool.and_eq_true] at hw
  obtain⟨x,rx,wx⟩:=open_value (hp t (by simp)) (hv 0 t v rfl rfl) h1 hw.1
  obtain⟨Ds,r2,w2⟩:=open_all (fun t ht=>hp t (by simp[ht])) (fun j t v h1 h2=>hv (j+1) t v (by simpa using h1) (by simpa using h2)) h2 hw.2
  exact⟨x::Ds,⟨v,vs',rfl,rx,r2⟩,x,Ds,rfl,wx,w2⟩
theorem trodAll_back (hl:laidOutB P=true) (hb:Below W.heap.size W W'):∀{ts:List TypeId} {vs:List Value} {ds:List (DataW H)} {ps:List MemPlace},(∀t∈ts,P.readableRec t=true∧t<P.types.size)→
  DataW.TrodAll enc P W 0 (fun _=>true) true ts vs ds ps→DataW.TrodAll enc P W' 0 (fun b=>decide (b<W.heap.size)) true ts vs ds ps
 |[],vs,ds,ps,hp,h=>by
  obtain⟨rfl,rfl,rfl⟩:=trodAll_nil h
  exact trodAll_mk0
 |t::ts,vs,ds,ps,hp,h=>by
  obtain⟨v,vs',d,ds',p,q,rfl,rfl,rfl,h1,h2⟩:=trodAll_cons h
  obtain⟨hr,ht⟩:=hp t (by simp)
  refine⟨p,q,Below.trod hl hr ht h1 hb ?_,trodAll_back hl hb (fun t ht=>hp t (by simp[ht])) h2,rfl⟩
  obtain⟨m,hm⟩:=h1
  exact DataW.trod_lt m _ _ _ hm
theorem below_of_keep {M':MMap} (h:Keep M0 W M' W'):Below W.heap.size W W':=
 ⟨h.os,h.tape,h.output,h.size,fun k hk=>(h.imm k hk rfl).2⟩
theorem law_contract {f:FuncId} {fn:Func} {s:ChangeSpec} (n:Nat) {rt:TypeId} (hs:∀ds:List (DataW H),ds.length=fn.params.size→s.fn H ds={results:=[.lit (.bool true)],args:=ds}) (hvars:s.vars=[]) (hvt:s.plain.varTypes P=[])
  (hpl:fn.params.toList.all (plainT P n)=true) (hread:fn.params.toList.all (fun t=>P.readableRec t&&decide (t<P.types.size))=true) (laid:laidOutB P=true) (hres:fn.resultTypes= #[rt]) (hrt:P.underlying rt=some .bool)
  (pure:∀Ds,WVs P n fn.params.toList Ds→PCall P f Ds (.bool true)) {conds:List PathCond} {a:Assume}
  (W:World) (base:Nat) (args:Array Value) (ds gs:List (DataW H)) (before:List MemPlace)
  (hval:∀(j:Nat) t v,fn.params[j]? =some t→args[j]? =some v→Value.okWide P W .any base t v)
  (hW:DataW.Whole enc P fn.params.toList s.vars false W args.toList ds gs before)
  (hz:(DataW.weightsEach P (fn.params.toList++s.plain.varTypes P) (ds++gs)).all (· ≤reachBytes)=true):
  Calls P f args W fun e W'=>∃v,e= .returned v∧s.post enc P fn false true false false W args v W':=by
 have hW':=hW
 obtain⟨p,q,hA,hV,rfl,hfz,hnd⟩:=hW
 rw[hvars] at hV
 obtain⟨rfl,rfl⟩:=trodVars_none hV
 simp only[List.append_nil,hvt] at hz hW'
 obtain⟨Ds,r1,w1⟩:=open_all (fun t ht=>List.all_eq_true.1 hpl t ht) (fun j t v h1 h2=>hval j t v (by simpa using h1) (by simpa using h2)) hA hz
 have hi:Inv M0 {} W:=⟨fun b cs h=>(by cases h),fun b s n h=>(by cases h),fun b o h=>(by cases h),fun b h=>absurd rfl h⟩
 have hc:=(pure Ds w1).run M0 W args.toList hi r1
 simp only[Array.toArray_toList] at hc
 refine hc.mono fun e W' ⟨M',s',x,hx,_,hk,hR⟩=> ?_
 obtain⟨rfl,rfl⟩:=hR
 obtain⟨v,rfl,hv⟩:=hx
 have hvb:v= .bool true:=hv
 subst hvb
 have bel:=below_of_keep hk.toKeep
 have hdl:ds.length=fn.params.size:=by
  have:∀{ts:List TypeId} {vs:List Value} {ds:List (DataW H)} {ps:List MemPlace},DataW.TrodAll enc P W 0 (fun _=>true) true ts vs ds ps→ds.length=ts.length:=by
   intro ts
   induction ts with
   |nil=>intro vs ds ps h; obtain⟨_,rfl,_⟩:=trodAll_nil h; rfl
   |cons t ts ih=>
    intro vs ds ps h
    obtain⟨v,vs',d,ds',p,q,rfl,rfl,rfl,h1,h2⟩:=trodAll_cons h
    simp[ih h2]
  simpa using this hA
 refine⟨_,rfl,ds,[],_,[],p,[],hW', ?_, ?_, ?_,bel.frame _,fun h=>by cases h⟩
 ·rw[List.append_nil,hs ds hdl,hres]
  exact trodAll_mk1 (shut_bool hrt _)
 ·rw[List.append_nil,hs ds hdl]
  exact trodAll_back laid bel (fun t ht=>by
   have:=List.all_eq_true.1 hread t ht
   simpa using this) hA
 ·rw[List.append_nil,hs ds hdl,hvars]
  rfl
end
end Go.AL
namespace Go.AL
section
variable {P : Program} {N : Nat} {T : Env} {σ : St} {K : Env → St → Prop} {Q : XA → Env → St → Prop}
variable [DSt] [Mo]
def RCall (P:Program) (f:FuncId) (ds:List D) (s:St) (R:D→St→Prop):Prop:=ACall P f ds s fun x s'=>∃d,x= .ret d∧R d s'
theorem RCall.mono {f:FuncId} {ds:List D} {s:St} {R R':D→St→Prop} (h:RCall P f ds s R) (hr:∀d s',R d s'→R' d s'):RCall P f ds s R':=
 ACall.mono h fun x s' ⟨d,hx,hd⟩=>⟨d,hx,hr d s' hd⟩
def resK (o:Option D) (R:D→St→Prop) (σ:St):Prop:=match o with|some d'=>∃d s',DLe d' d∧St.le s' σ∧R d s'|none=>False
def bodyS (P:Program) (rs:List ResultVar) (R:D→St→Prop):XA→Env→St→Prop
 | .normal,T,σ| .ret,T,σ=>resK (resA P T σ rs) R σ
 |_,_,_=>False
end
section
variable {P : Program} {N : Nat} {T : Env} {σ : St} {K : Env → St → Prop} {Q : XA → Env → St → Prop}
theorem Fun1.rcall [Mo] {f:FuncId} {c:AC} {rs:List ResultVar} {ds:List D} {s:St} {R:D→St→Prop} (F:Fun1 P f N c rs) (hl:decide (ds.length≤N)=true) (h:∀T,(∀t,T t=envOf ds t)→vcA P N c (bodyS P rs R) T s):RCall P f ds s R:=by
 obtain⟨fn,code,h1,h2,h3,h4,rfl,rfl⟩:=F.ex
 refine acall_of_body h1 h2 h3 h4 (of_decide_eq_true hl) ?_
 refine awp_mono (vcA_sound F.hm (of_decide_eq_true F.hN) code (h _ fun _=>rfl)) fun x T σ hq=> ?_
 cases x with
 |normal=>
  simp only[bodyS,resK] at hq
  split at hq
  ·rename_i d' hd
   obtain⟨d,s',h1,h2,h3⟩:=hq
   exact⟨_,_,s',hd,h1,h2,d,rfl,h3⟩
  ·exact hq.elim
 |ret=>
  simp only[bodyS,resK] at hq
  split at hq
  ·rename_i d' hd
   obtain⟨d,s',h1,h2,h3⟩:=hq
   exact⟨_,_,s',hd,h1,h2,d,rfl,h3⟩
  ·exact hq.elim
 |_=>exact hq.elim
end
section
variable {P : Program} {N : Nat} {T : Env} {σ : St} {K : Env → St → Prop} {Q : XA → Env → St → Prop}
variable [DSt] [Mo]
theorem bodyS_r {rs:List ResultVar} {R:D→St→Prop}:bodyS P rs R .ret T σ=resK (resA P T σ rs) R σ:=rfl
theorem bodyS_n {rs:List ResultVar} {R:D→St→Prop}:bodyS P rs R .normal T σ=resK (resA P T σ rs) R σ:=rfl
theorem resK_some {d:D} {R:D→St→Prop}:resK (some d) R σ=∃d' s',DLe d d'∧St.le s' σ∧R d' s':=rfl
theorem callB_all {dst:Option Nat} {g:FuncId} {ds:List D} {R:D→St→Prop} (h:RCall P g ds σ R) (hk:∀d s',R d s'→putK N dst d K T s'):callB P N [] false dst g ds K Q T σ:=by
 refine⟨σ,{},_,St.split.all σ,fun b hb=>(by cases hb),h,fun h=>(by cases h),fun x s' ⟨d,hx,hd⟩ _ _=> ?_⟩
 subst hx
 rw[St.nil_join]; exact hk d s' hd
theorem le_set {s s':St} {b:Nat} {cs:List D} (h:St.le s s'):St.le (s.set b cs) (s'.set b cs):=by
 refine⟨fun x l hx=> ?_,fun x p hx=>h.buf x p hx,fun x o hx=>h.mp x o hx⟩
 simp only[St.set] at hx ⊢
 split at hx
 ·rename_i he; rw[if_pos he]; exact hx
 ·rename_i he; rw[if_neg he]; exact h.box x l hx
theorem le_setBuf {s s':St} {b z n:Nat} (h:St.le s s'):St.le (s.setBuf b z n) (s'.setBuf b z n):=by
 refine⟨fun x l hx=>h.box x l hx,fun x p hx=> ?_,fun x o hx=>h.mp x o hx⟩
 simp only[St.setBuf] at hx ⊢
 split at hx
 ·rename_i he; rw[if_pos he]; exact hx
 ·rename_i he; rw[if_neg he]; exact h.buf x p hx
theorem le_add {s:St} {b:Nat} {cs:List D} (h:¬s.has b):St.le s (s.set b cs):=
 ⟨fun x l hx=>by simp only[St.set]; rw[if_neg (fun he=>h (.inl (by rw[←he,hx]; simp)))]; exact hx,fun x p hx=>hx,fun x o hx=>hx⟩
theorem le_addBuf {s:St} {b z n:Nat} (h:¬s.has b):St.le s (s.setBuf b z n):=
 ⟨fun x l hx=>hx,fun x p hx=>by simp only[St.setBuf]; rw[if_neg (fun he=>h (.inr (.inl (by rw[←he,hx]; simp))))]; exact hx,fun x o hx=>hx⟩
end
attribute [go_sem] bodyS_r bodyS_n resK_some
end Go.AL
namespace Go.AL
def optD (c:Bool) (v:D):D:=if c=true then v else .tup []
section
variable {P : Program} {N : Nat} {T : Env} {σ : St} {K : Env → St → Prop} {Q : XA → Env → St → Prop} {B : List Nat}
variable [DSt] [Mo]
theorem optD_t {v:D}:optD true v=v:=rfl
theorem optD_f {v:D}:optD false v= .tup []:=rfl
theorem optD_o {c:Bool} {v:D}:optD c (optD c v)=optD c v:=by cases c <;> rfl
theorem zb9 {c t w:Bool} {A A':Env→St→Prop}:guardK (optD c (.bool t)) w A A' T σ=gbr (c&&(t==w)) A A' T σ:=by
 cases c <;> simp[guardK,optD,gq]
theorem zd8 {a b:Bool}:(if a=true then b else false)=(a&&b):=by cases a <;> rfl
theorem zf0 {a b:Bool}:(if a=true then true else b)=(a||b):=by cases a <;> rfl
theorem pick_l {c:Bool} {x y:D}:pickD c (optD c x) y=pickD c x y:=by cases c <;> simp[optD,pickD_t,pickD_f]
theorem pick_r {c:Bool} {x y:D}:pickD c x (optD (!c) y)=pickD c x y:=by cases c <;> simp[optD,pickD_t,pickD_f]
def gsK (N:Nat) (d:Option Nat) (c:Bool) (o:Option (Prop×D)) (K:Env→St→Prop) (T:Env) (σ:St):Prop:=if c=true then sideK N d o K T σ else putK N d (.tup []) K T σ
def goK (N:Nat) (d:Option Nat) (c:Bool) (o:Option D) (K:Env→St→Prop) (T:Env) (σ:St):Prop:=if c=true then optK N d o K T σ else putK N d (.tup []) K T σ
theorem gs_some {d:Option Nat} {c:Bool} {side:Prop} {v:D}:gsK N d c (some (side,v)) K T σ=((c=true→side)∧putK N d (optD c v) K T σ):=by
 cases c <;> simp[gsK,sideK,optD]
theorem go_some {d:Option Nat} {c:Bool} {v:D}:goK N d c (some v) K T σ=putK N d (optD c v) K T σ:=by
 cases c <;> simp[goK,optK,optD]
theorem gs_congr {d:Option Nat} {c:Bool} {r r':Option (Prop×D)} (h:c=true→r=r'):gsK N d c r K T σ=gsK N d c r' K T σ:=by
 cases c
 ·rfl
 ·rw[h rfl]
theorem go_congr {d:Option Nat} {c:Bool} {r r':Option D} (h:c=true→r=r'):goK N d c r K T σ=goK N d c r' K T σ:=by
 cases c
 ·rfl
 ·rw[h rfl]
theorem gs_t {d:Option Nat} {r:Option (Prop×D)}:gsK N d true r K T σ=sideK N d r K T σ:=rfl
theorem gs_f {d:Option Nat} {r:Option (Prop×D)}:gsK N d false r K T σ=putK N d (.tup []) K T σ:=rfl
theorem go_t {d:Option Nat} {r:Option D}:goK N d true r K T σ=optK N d r K T σ:=rfl
theorem go_f {d:Option Nat} {r:Option D}:goK N d false r K T σ=putK N d (.tup []) K T σ:=rfl
def pickO (c x y:D):Option D:=match c with| .bool t=>some (pickD t x y)|_=>none
theorem pickO_b {t:Bool} {x y:D}:pickO (.bool t) x y=some (pickD t x y):=rfl
section merge
variable {d : Option Nat} {g : Option (Nat × Bool)} {fl st c : Bool}
theorem ze1 {x:Operand}:gbr c (dcore P N B fl st ⟨d,.move x,g⟩ Q K) (putK N d (.tup []) K) T σ=putK N d (optD c (ev T x)) K T σ:=by cases c <;> simp[gbr,w_move,optD]
theorem zd9 {x y z:Operand}:gbr c (dcore P N B fl st ⟨d,.pick z x y,g⟩ Q K) (putK N d (.tup []) K) T σ=goK N d c (pickO (ev T z) (ev T x) (ev T y)) K T σ:=by
 cases c <;> simp only[gbr,w_pick,goK,Bool.false_eq_true,if_true,if_false,pickK,optK,pickO]
 cases ev T z <;> rfl
theorem gm_bin {b:BinOp} {xt yt:TypeId} {x y:Operand} (h:nilOpnd y=false):gbr c (dcore P N B fl st ⟨d,.binOp b xt x y yt,g⟩ Q K) (putK N d (.tup []) K) T σ=gsK N d c (binD P b xt (ev T x) (ev T y)) K T σ:=by
 cases c <;> simp only[gbr,w_bin,gsK,Bool.false_eq_true,if_true,if_false,h,w_binA]
theorem zc9 {b:BinOp} {xt yt:TypeId} {x:Operand} {y:Nat}:gbr c (dcore P N B fl st ⟨d,.binOp b xt x (.tmp y) yt,g⟩ Q K) (putK N d (.tup []) K) T σ=gsK N d c (binD P b xt (ev T x) (ev T (.tmp y))) K T σ:=gm_bin rfl
theorem zd2 {b:BinOp} {xt yt:TypeId} {x:Operand} {k:IntKind} {n:Int}:gbr c (dcore P N B fl st ⟨d,.binOp b xt x (.const (.int k n)) yt,g⟩ Q K) (putK N d (.tup []) K) T σ=gsK N d c (binD P b xt (ev T x) (ev T (.const (.int k n)))) K T σ:=gm_bin rfl
theorem gm_un {o:UnOp} {xt:TypeId} {x:Operand}:gbr c (dcore P N B fl st ⟨d,.unOp o xt x,g⟩ Q K) (putK N d (.tup []) K) T σ=goK N d c (unD o (ev T x)) K T σ:=by
 cases c <;> simp only[gbr,w_un,goK,Bool.false_eq_true,if_true,if_false]
theorem zc8 {t:TypeId} {x:Operand} {f:Nat}:gbr c (dcore P N B fl st ⟨d,.fieldAddr t x f,g⟩ Q K) (putK N d (.tup []) K) T σ=goK N d c (faddrD (ev T x) (fldP P t f)) K T σ:=by
 cases c <;> simp only[gbr,w_faddr,goK,Bool.false_eq_true,if_true,if_false]
theorem zc6 {t:TypeId} {x i:Operand}:gbr c (dcore P N B fl st ⟨d,.indexAddr t x i,g⟩ Q K) (putK N d (.tup []) K) T σ=gsK N d c (iaddrD P t (ev T x) (ev T i)) K T σ:=by
 cases c <;> simp only[gbr,w_iaddr,gsK,Bool.false_eq_true,if_true,if_false]
def gnK (P:Program) (N:Nat) (d:Option Nat) (c:Bool) (t:TypeId) (o:Option D) (x:D) (K:Env→St→Prop) (T:Env) (σ:St):Prop:=if c=true then lenK P N d t o x K T σ else putK N d (.tup []) K T σ
theorem gn_some {t:TypeId} {v x:D}:gnK P N d c t (some v) x K T σ=putK N d (optD c v) K T σ:=by
 cases c <;> simp[gnK,lenK,optD]
theorem gn_f {t:TypeId} {o:Option D} {x:D}:gnK P N d false t o x K T σ=putK N d (.tup []) K T σ:=rfl
theorem gn_t {t:TypeId} {o:Option D} {x:D}:gnK P N d true t o x K T σ=lenK P N d t o x K T σ:=rfl
theorem gn_congr {t:TypeId} {x y:D} (h:c=true→x=y):gnK P N d c t (lenD P t x) x K T σ=gnK P N d c t (lenD P t y) y K T σ:=by
 cases c
 ·rfl
 ·rw[h rfl]
theorem zf1 {x:Operand} {t:TypeId}:gbr c (dcore P N B fl st ⟨d,.call {callee:= .builtin .len,args:= #[x],argTypes:= #[t]},g⟩ Q K) (putK N d (.tup []) K) T σ=gnK P N d c t (lenD P t (ev T x)) (ev T x) K T σ:=by
 cases c <;> simp only[gbr,w_len,gnK,Bool.false_eq_true,if_true,if_false]
def glK (P:Program) (N:Nat) (B:List Nat) (fl:Bool) (d:Option Nat) (c:Bool) (t:TypeId) (x:D) (K:Env→St→Prop) (T:Env) (σ:St):Prop:=if c=true then ldK P N B fl d t x K T σ else putK N d (.tup []) K T σ
theorem ze2 {t:TypeId} {x:Operand}:gbr c (dcore P N B fl st ⟨d,.load t x,g⟩ Q K) (putK N d (.tup []) K) T σ=glK P N B fl d c t (ev T x) K T σ:=by
 cases c <;> simp only[gbr,w_load,glK,Bool.false_eq_true,if_true,if_false]
theorem gl_e {t:TypeId} {cs:List D}:glK P N B fl d c t (.eptr cs) K T σ=goK N d c (partD P t cs 0) K T σ:=rfl
theorem gl_p {t:TypeId} {b off:Nat}:glK P N B fl d c t (.ptr b off) K T σ=((c=true→fl=true→b∈B)∧match σ.box b with
  |some cs=>goK N d c (partD P t (cs.drop off) 0) K T σ
  |none=>c=false∧putK N d (.tup []) K T σ):=by
 cases c <;> simp only[glK,goK,ldK,Bool.false_eq_true,if_true,if_false,false_implies,true_implies,true_and] <;> cases σ.box b <;> simp
theorem gl_f {t:TypeId} {x:D}:glK P N B fl d false t x K T σ=putK N d (.tup []) K T σ:=rfl
theorem gl_congr {t:TypeId} {x y:D} (h:c=true→x=y):glK P N B fl d c t x K T σ=glK P N B fl d c t y K T σ:=by
 cases c
 ·rfl
 ·rw[h rfl]
theorem gb_l_0 {c:Bool} {o:BinOp} {xt:TypeId} {y:D} {x:D}:gsK N d c (binD P o xt (optD c x) y) K T σ=gsK N d c (binD P o xt x y) K T σ:=gs_congr fun h=>by revert h; cases c <;> simp[optD]
theorem gb_r_0 {c:Bool} {o:BinOp} {xt:TypeId} {y:D} {x:D}:gsK N d c (binD P o xt y (optD c x)) K T σ=gsK N d c (binD P o xt y x) K T σ:=gs_congr fun h=>by revert h; cases c <;> simp[optD]
theorem gia_x_0 {c:Bool} {t:TypeId} {y:D} {x:D}:gsK N d c (iaddrD P t (optD c x) y) K T σ=gsK N d c (iaddrD P t x y) K T σ:=gs_congr fun h=>by revert h; cases c <;> simp[optD]
theorem gia_i_0 {c:Bool} {t:TypeId} {y:D} {x:D}:gsK N d c (iaddrD P t y (optD c x)) K T σ=gsK N d c (iaddrD P t y x) K T σ:=gs_congr fun h=>by revert h; cases c <;> simp[optD]
theorem gln_x_0 {c:Bool} {t:TypeId} {x:D}:gnK P N d c t (lenD P t (optD c x)) (optD c x) K T σ=gnK P N d c t (lenD P t x) x K T σ:=gn_congr fun h=>by revert h; cases c <;> simp[optD]
theorem gp_c_0 {c:Bool} {y z:D} {x:D}:goK N d c (pickO (optD c x) y z) K T σ=goK N d c (pickO x y z) K T σ:=go_congr fun h=>by revert h; cases c <;> simp[optD]
theorem gld_0 {c:Bool} {t:TypeId} {x:D}:glK P N B fl d c t (optD c x) K T σ=glK P N B fl d c t x K T σ:=gl_congr fun h=>by revert h; cases c <;> simp[optD]
theorem gpk_l {b:Bool} {x y:D}:goK N d c (some (pickD b (optD (c&&b) x) y)) K T σ=goK N d c (some (pickD b x y)) K T σ:=go_congr fun h=>by subst h; cases b <;> simp[optD,pickD_t,pickD_f]
theorem gpk_r {b:Bool} {x y:D}:goK N d c (some (pickD b x (optD (c&& !b) y))) K T σ=goK N d c (some (pickD b x y)) K T σ:=go_congr fun h=>by subst h; cases b <;> simp[optD,pickD_t,pickD_f]
end merge
def opq (Q:XA→Env→St→Prop):XA→Env→St→Prop:=Q
theorem opq_eq {x:XA}:opq Q x T σ=Q x T σ:=rfl
def condQ (P:Program) (N:Nat) (d:D) (x y:AC) (Q:XA→Env→St→Prop) (T:Env) (σ:St):Prop:=condK d (vcA P N x Q T σ) (vcA P N y Q T σ)
theorem zc0 {c:Operand} {x y:AC}:vcA P N (.cond c x y) Q T σ=condQ P N (ev T c) x y Q T σ:=rfl
theorem condQ_t {x y:AC}:condQ P N (.bool true) x y Q T σ=vcA P N x Q T σ:=by simp[condQ,condK,br]
theorem condQ_f {x y:AC}:condQ P N (.bool false) x y Q T σ=vcA P N y Q T σ:=by simp[condQ,condK,br]
def condM (t:Bool) (A B:Prop):Prop:=br t A B
def mk (T:Env):Env:=T
theorem mk_app {k:Nat}:mk T k=T k:=rfl
def unm (T:Env):Env:=T
theorem unm_u {k:Nat} {v:D}:unm (upd T k v)=upd (unm T) k v:=rfl
theorem unm_m:unm (mk T)=T:=rfl
theorem condQ_m {t:Bool} {x y:AC}:condQ P N (.bool t) x y Q T σ=condM t (vcA P N x (opq Q) (mk T) σ) (vcA P N y (opq Q) (mk T) σ):=rfl
theorem condM_t {A B:Prop}:condM true A B=A:=by simp[condM,br]
theorem condM_f {A B:Prop}:condM false A B=B:=by simp[condM,br]
theorem condM_l {t:Bool} {a A B:Prop}:condM t (a∧A) B=((t=true→a)∧condM t A B):=by cases t <;> simp[condM,br]
def mergeE (t:Bool) (T T':Env):Env:=fun k=>if t=true then T k else T' k
def keepD (t:Bool) (x y:D):D:=if t=true then x else y
theorem merge_r {t:Bool} {T T':Env} {k:Nat} {v:D}:mergeE t T (upd T' k v)=upd (mergeE t T T') k (keepD t (T k) v):=by
 funext u; cases t <;> by_cases h:u=k <;> simp[mergeE,upd,keepD,h]
theorem merge_s {t:Bool} {T:Env}:mergeE t (mk T) (mk T)=T:=by funext u; cases t <;> rfl
theorem keepD_b {t a b:Bool}:keepD t (.bool a) (.bool b)= .bool (if t=true then a else b):=by cases t <;> rfl
theorem condM_same {t:Bool} {x:XA} {T1 T2:Env}:condM t (opq Q x T1 σ) (opq Q x T2 σ)=Q x (mergeE t T1 T2) σ:=by
 cases t <;> simp[condM,br,opq] <;> rfl
theorem condM_any {t:Bool} {x y:XA} {T1 T2:Env} {σ':St}:condM t (opq Q x T1 σ) (opq Q y T2 σ')=br t (Q x (unm T1) σ) (Q y (unm T2) σ'):=rfl
theorem condM_1 {t u:Bool} {x y:XA} {T1 T2 T3:Env} {σ':St}:condM t (opq Q x T1 σ) (br u (opq Q x T2 σ) (opq Q y T3 σ'))=br (t||u) (Q x (mergeE t T1 T2) σ) (Q y (unm T3) σ'):=by
 cases t <;> cases u <;> simp[condM,br,opq,unm] <;> rfl
theorem zd7 {a b:Bool}:(if a=true then a else b)=(a||b):=by cases a <;> rfl
end
attribute [go_sem] gn_f gn_t gb_l_0 gb_r_0 gia_x_0 gia_i_0 gln_x_0 gp_c_0 gld_0 gs_t gs_f go_t go_f gl_f optD_t optD_f optD_o pick_l pick_r pickO_b gl_e gl_p gpk_l gpk_r condQ_t condQ_f condM_t condM_f merge_r merge_s mk_app unm_u unm_m condM_1 keepD_b condM_l condM_same
attribute [go_sem low] gs_some go_some gn_some condQ_m condM_any
end Go.AL
namespace Go.AL
def grD (s:Nat) (o:Option Nat) (es:List (List D)):D:=match o with|none=> .slice .nil es|some b=> .slice (.buf b s) es
def grS (s n:Nat) (o:Option Nat) (σ:St):St:=match o with|none=>σ|some b=>σ.setBuf b s n
def grN (o:Option Nat) (σ:St):Prop:=∀b,o=some b→¬σ.has b
section
variable {P : Program} {N : Nat} {T : Env} {σ base : St} {K : Env → St → Prop} {Q : XA → Env → St → Prop} {B : List Nat}
theorem grD_le {s:Nat} {o:Option Nat} {es:List (List D)}:DLe (grD s o es) (.slice .no es):=by cases o <;> exact DLe.slice _ _
theorem grD_cellQ {s:Nat} {o:Option Nat} {es:List (List D)}:(grD s o es).cellQ=true:=by cases o <;> rfl
theorem lenD_gr {s:Nat} {o:Option Nat} {es:List (List D)} {t:TypeId}:lenD P t (grD s o es)=(match sliP P t with|some _=>some (.int .i64 es.length)|none=>none):=by cases o <;> rfl
theorem iaddr_gr {s:Nat} {o:Option Nat} {es:List (List D)} {t:TypeId} {k:IntKind} {a:Int}:iaddrD P t (grD s o es) (.int k a)=(match sliP P t with|some e=>(match szP P e with|some n=>some ((0≤a∧a<es.length)∧(es[a.toNat]?.getD []).length=n,.eptr (es[a.toNat]?.getD []))|none=>none)|none=>none):=by cases o <;> rfl
theorem grD_none {s:Nat}:D.slice .nil []=grD s none []:=rfl
theorem za4 {b:Nat} {cs ds:List D}:(σ.set b cs).set b ds=σ.set b ds:=by
 simp only[St.set]; congr 1; funext x; split <;> rfl
theorem grS_set {s n:Nat} {o:Option Nat} {b:Nat} {cs:List D}:(grS s n o σ).set b cs=grS s n o (σ.set b cs):=by cases o <;> rfl
theorem grS_box {s n:Nat} {o:Option Nat}:(grS s n o σ).box=σ.box:=by cases o <;> rfl
theorem grS_boxa {s n:Nat} {o:Option Nat} {x:Nat}:(grS s n o σ).box x=σ.box x:=by cases o <;> rfl
theorem grN_none {σ:St}:grN none σ:=fun b h=>by cases h
theorem grN_nil {o:Option Nat}:grN o {}:=fun b _ h=>St.not_has_nil b h
theorem grS_has {s n:Nat} {o:Option Nat} {x:Nat}:(grS s n o σ).has x=(o=some x∨σ.has x):=by
 cases o with
 |none=>simp[grS]
 |some b=>
  simp only[grS,has_setBuf,Option.some.injEq,eq_iff_iff]
  constructor
  ·rintro(h|h|h)
   ·exact .inl h.symm
   ·exact .inl h
   ·exact .inr h
  ·rintro(h|h)
   ·exact .inr (.inl h)
   ·exact .inr (.inr h)
theorem base_le {s n:Nat} {o:Option Nat} (hb:grN o base):St.le base (grS s n o base):=by
 cases o with
 |none=>exact St.le.refl _
 |some b=>exact le_addBuf (hb b rfl)
theorem app_gr {d:Option Nat} {t e:TypeId} {s by':Nat} {z:List D} (h1:sliP P t=some e) (h2:szP P e=some s) (h3:zd5 P e=some by') (h4:zf4 P e=some z) (hz:(z.length==s&&decide (0<s)&&decide (0<by'))=true)
  {o:Option Nat} {es ys:List (List D)} {ow:Own} (hle:St.le (grS s es.length o base) σ) (hb:grN o base) (ho:o=none→es=[]) (hy:∀r∈ys,r.length=s) (hl:(es.length+ys.length)*by'≤140737488355328)
  (hk:∀o' σ',σ'.box=σ.box→St.le (grS s (es.length+ys.length) o' base) σ'→grN o' base→(o'=none→es++ys=[])→putK N d (grD s o' (es++ys)) K T σ'):
  appendA P N d t t (grD s o es) (.slice ow ys) K T σ:=by
 simp only[Bool.and_eq_true,beq_iff_eq,decide_eq_true_eq] at hz
 have fresh:∀b',¬σ.has b'→¬base.has b':=fun b' h h'=>h (hle.has ((base_le hb).has h'))
 cases o with
 |none=>
  obtain rfl:=ho rfl
  simp only[grD,app_nil,h1,h2,h3,h4,Option.map_some,true_and]
  refine⟨hz.1.1,hz.1.2,hz.2,hy,hl,fun hy0=> ?_,fun hy0 b' hb'=> ?_⟩
  ·subst hy0
   have:=hk none σ rfl hle hb (fun _=>rfl)
   simpa[grD] using this
  ·have:=hk (some b') (σ.setBuf b' s ys.length) rfl (by
    simp only[grS,List.length_nil,Nat.zero_add] at hle ⊢
    exact le_setBuf hle) (fun b hbb=>by cases hbb; exact fresh _ hb') (fun h=>by cases h)
   simpa[grD] using this
 |some b=>
  have hbuf:σ.buf b=some (s,es.length):=hle.buf b _ (by simp[grS,St.setBuf])
  simp only[grD,app_buf,h1,h2,h3,h4,Option.map_some,true_and]
  refine⟨hz.1.1,hz.1.2,hz.2,hy,hl,hbuf,fun b' hb'=> ?_⟩
  have hbb:=hb b rfl
  have le':St.le base (σ.dropBuf b):=⟨fun x cs hx=>hle.box x cs (by simpa[grS,St.setBuf] using hx),fun x p hx=>by
   have hne:x≠b:=fun he=>hbb (by subst he; exact .inr (.inl (by simp[hx])))
   have:=hle.buf x p (by simp[grS,St.setBuf,hne,hx])
   simp[St.dropBuf,hne,this],fun x o hx=>hle.mp x o (by simpa[grS,St.setBuf] using hx)⟩
  exact hk (some b') ((σ.dropBuf b).setBuf b' s (es.length+ys.length)) rfl (le_setBuf le') (fun c hc=>by cases hc; exact fun h=>hb' (le'.has h)) (fun h=>by cases h)
end
theorem app_gr' {P:Program} {N:Nat} {T:Env} {σ base:St} {K:Env→St→Prop} {d:Option Nat} {t e:TypeId} {s by':Nat} {z:List D} (h1:sliP P t=some e) (h2:szP P e=some s) (h3:zd5 P e=some by') (h4:zf4 P e=some z) (hz:(z.length==s&&decide (0<s)&&decide (0<by'))=true)
  {o:Option Nat} {es ys:List (List D)} {ow:Own} {n m:Nat} (hn:es.length=n) (hm:ys.length=m) (hle:St.le (grS s n o base) σ) (hb:grN o base) (ho:o=none→n=0) (hy:∀r∈ys,r.length=s) (hl:(n+m)*by'≤140737488355328)
  (hk:∀o' σ',σ'.box=σ.box→St.le (grS s (n+m) o' base) σ'→grN o' base→(o'=none→n+m=0)→putK N d (grD s o' (es++ys)) K T σ'):
  appendA P N d t t (grD s o es) (.slice ow ys) K T σ:=by
 subst hn; subst hm
 exact app_gr h1 h2 h3 h4 hz hle hb (fun h=>List.eq_nil_of_length_eq_zero (ho h)) hy hl fun o' σ' h1 h2 h3 h4=>hk o' σ' h1 h2 h3 fun h=>by rw[←List.length_append,h4 h]; rfl
section
variable {P : Program} {m : Nat} {t : TypeId}
theorem eqV_struct {fs:Array Field} {xs ys:List D} (hu:P.underlying t=some (.struct fs)) (h1:P.stoodInHeld t=false) (h2:fs.toList.all (fun f=>f.name != "_")=true):
  eqV P (m+1) t (.agg xs) (.agg ys)=eqAll P (eqV P m) xs ys (fsParts fs.toList):=by simp only[eqV,hu,h1,h2,and_self,if_true]
theorem eqV_array {n:Nat} {e:TypeId} {xs ys:List D} (hu:P.underlying t=some (.array n e)) (h1:(P.info? e).isSome=true):
  eqV P (m+1) t (.agg xs) (.agg ys)=eqAll P (eqV P m) xs ys ((List.range n).map fun i=>(e,i*P.cellsOf e)):=by simp only[eqV,hu,h1,if_true]
theorem eqV_int {k k':IntKind} {a b:Int} (hu:P.underlying t=some (.int k')):eqV P (m+1) t (.int k a) (.int k b)=some (decide (a=b)):=by simp only[eqV,hu,if_true]
end
attribute [go_sem] grD_cellQ lenD_gr iaddr_gr grS_boxa
end Go.AL
namespace Go.AL
section
open Classical in
noncomputable def frzM (σ:St) (M:MMap):MMap:=fun b=>if σ.has b then none else M b
variable {P : Program} {M : MMap} {σ : St} {w : World}
theorem frz_keep (h:Inv M σ w):KeepF M σ w (frzM σ M) {} w∧Inv (frzM σ M) {} w:=by
 refine⟨{os:=rfl,tape:=rfl,output:=rfl,size:=Nat.le_refl _,imm:=fun b hb hM=>⟨?_,rfl⟩,buf:=fun b lim c e f hM hc=>⟨⟨c,hc,rfl,fun _ _=>rfl⟩, ?_⟩,frame:=fun b hM hb=>⟨?_,rfl⟩,fresh:=fun b hb=>absurd hb (St.not_has_nil b)},
  ⟨fun b cs h=>(by cases h),fun b s n h=>(by cases h),fun b o h=>(by cases h),fun b hb=> ?_⟩⟩
 ·unfold frzM; split
  ·rfl
  ·exact hM
 ·unfold frzM; split
  ·exact .inl rfl
  ·exact .inr ⟨lim,Nat.le_refl _,hM⟩
 ·unfold frzM; rw[if_neg hb]
 ·unfold frzM at hb
  split at hb
  ·exact absurd rfl hb
  ·exact h.dom b hb
def FLe (σ:St) (d d':D):Prop:=∀(M:MMap) (w:World) (v:Value),Inv M σ w→Rep M w d v→Rep (frzM σ M) w d' v
def FLes (σ:St) (ds ds':List D):Prop:=∀(M:MMap) (w:World) (vs:List Value),Inv M σ w→zf6 M w ds vs→zf6 (frzM σ M) w ds' vs
theorem FLe.of {d d':D} (h:DLe d d'):FLe σ d d':=fun M w v hi hr=>h _ _ _ (Rep.keep (frz_keep hi).1.toKeep d v hr)
theorem FLes.nil:FLes σ [] []:=fun M w vs hi hr=>hr
theorem FLes.cons {d d':D} {ds ds':List D} (h:FLe σ d d') (hs:FLes σ ds ds'):FLes σ (d::ds) (d'::ds'):=fun M w vs hi hr=>by
 obtain⟨v,vs',rfl,r1,r2⟩:=hr
 exact⟨v,vs',rfl,h M w v hi r1,hs M w vs' hi r2⟩
theorem FLes.refl (ds:List D):FLes σ ds ds:=fun M w vs hi hr=>zf6.keep (frz_keep hi).1.toKeep ds vs hr
theorem FLe.func {fn:Fn} {fi fi' ca ca':List D} (h1:FLes σ fi fi') (h2:FLes σ ca ca'):FLe σ (.func fn fi ca) (.func fn fi' ca'):=fun M w v hi hr=>by
 obtain⟨vf,vc,rfl,r1,r2⟩:=hr
 exact⟨vf,vc,rfl,h1 M w _ hi r1,h2 M w _ hi r2⟩
theorem FLe.agg {ds ds':List D} (h:FLes σ ds ds'):FLe σ (.agg ds) (.agg ds'):=fun M w v hi hr=>by
 obtain⟨a,rfl,r1,r2⟩:=hr
 exact⟨a,rfl,h M w _ hi r1,r2⟩
theorem repCells_frz {M:MMap} {b:Nat}:∀{ds:List D} {vs:List Value} {off:Nat},M b=none→zf6 M w ds vs→(∀u∈vs,u.oneCell'=true)→(∀(i:Nat) v,vs[i]? =some v→w.cell? ⟨b,off+i,none⟩=some v)→RepCells M w ds b off
 |[],_,_,_,_,_,_=>trivial
 |d::ds,vs,off,hM,hr,h1,hc=>by
  obtain⟨v,vs',rfl,r1,r2⟩:=hr
  refine⟨⟨v,by simpa using hc 0 v rfl,h1 v (by simp),by simp[ImmAt,hM],r1⟩,repCells_frz hM r2 (fun u hu=>h1 u (by simp[hu])) fun i u hi=> ?_⟩
  have:=hc (i+1) u (by simpa using hi)
  rw[show off+1+i=off+(i+1) by omega]; exact this
theorem FLe.box {b:Nat} {cs cs':List D} (hb:σ.box b=some cs) (h:FLes σ cs cs'):FLe σ (.ptr b 0) (.eptr cs'):=fun M w v hi hr=>by
 have hv:v= .pointer (some ⟨b,0,none⟩):=hr
 subst hv
 obtain⟨c,e,hc,hrc,h1⟩:=(hi.box b cs hb).2
 refine⟨b,0,rfl,repCells_frz ?_ (h M w _ hi hrc) h1 fun i v hv=> ?_⟩
 ·unfold frzM; rw[if_pos (has_box hb)]
 ·rw[Nat.zero_add]; exact cell_of hc (by simpa using hv)
theorem RCall.freeze {f:FuncId} {ds:List D} {d:D} (h:RCall P f ds {} fun d' s'=>FLe s' d' d):PCall P f ds d:=
 ⟨h.enters,fun M w vs hi hv=>(h.run M w vs hi hv).mono fun e w' ⟨M',s',x,h1,h2,h3,d',hx,hd⟩=>by
  subst hx
  obtain⟨v,he,hr⟩:=h1
  obtain⟨k1,k2⟩:=frz_keep h2
  exact⟨frzM s' M',{},.ret d,⟨v,he,hd M' w' v h2 hr⟩,k2,h3.trans hi.dom k1,rfl,rfl⟩⟩
theorem DLe.eptr {cs cs':List D} (h:DLes cs cs'):DLe (.eptr cs) (.eptr cs'):=fun M w v hr=>by
 obtain⟨b,off,rfl,hc⟩:=hr
 refine⟨b,off,rfl, ?_⟩
 induction h generalizing off with
 |nil=>trivial
 |cons h1 _ ih=>
  obtain⟨⟨v,g1,g2,g3,g4⟩,h2⟩:=hc
  exact⟨⟨v,g1,g2,g3,h1 M w v g4⟩,ih _ h2⟩
theorem DLe.func {fn:Fn} {fi fi' ca ca':List D} (h1:DLes fi fi') (h2:DLes ca ca'):DLe (.func fn fi ca) (.func fn fi' ca'):=fun M w v hr=>by
 obtain⟨vf,vc,rfl,r1,r2⟩:=hr
 exact⟨vf,vc,rfl,h1.rep r1,h2.rep r2⟩
end
end Go.AL
namespace Go.AL
def St.over (σ s:St):St:={box:=fun x=>(s.box x).or (σ.box x),buf:=fun x=>(s.buf x).or (σ.buf x),mp:=fun x=>(s.mp x).or (σ.mp x)}
section
variable {P : Program} {N : Nat} {T : Env} {σ s : St} {K : Env → St → Prop} {Q : XA → Env → St → Prop}
theorem over_nil:St.over σ {}=σ:=by ext <;> simp[St.over]
theorem over_set {b:Nat} {cs:List D}:St.over σ (s.set b cs)=(St.over σ s).set b cs:=by
 ext x
 ·simp only[St.over,St.set]; split <;> simp
 ·rfl
 ·rfl
structure Part (s σ:St):Prop where
 le:St.le s σ
 box:∀b,s.buf b≠none→σ.box b=none
 buf:∀b,s.box b≠none→σ.buf b=none
 mp:∀b,s.mp b=none
 mpx:∀b,s.has b→σ.mp b=none
theorem callB_part {dst:Option Nat} {g:FuncId} {ds:List D} {R:D→St→Prop} (hp:Part s σ) (h:RCall P g ds s R) (hd:∀d s',R d s'→∀b,(s.box b≠none→s'.box b≠none)∧(s.buf b≠none→s'.buf b≠none))
  (hk:∀d s',R d s'→putK N dst d K T (St.over σ s')):callB P N [] false dst g ds K Q T σ:=by
 let fr:St:={box:=fun x=>if s.box x=none then σ.box x else none,buf:=fun x=>if s.buf x=none then σ.buf x else none,mp:=σ.mp}
 have hsp:St.split σ s fr:=by
  refine⟨?_,fun b hb hf=> ?_⟩
  ·ext x v
   ·simp only[St.join,fr]
    cases hx:s.box x with
    |none=>simp
    |some c=>simp[hp.le.box x c hx]
   ·simp only[St.join,fr]
    cases hx:s.buf x with
    |none=>simp
    |some c=>simp[hp.le.buf x c hx]
   ·simp[St.join,fr,hp.mp x]
  ·have h1:s.box b≠none→fr.box b=none∧fr.buf b=none:=fun h=>by
    refine⟨by simp only[fr]; rw[if_neg h], ?_⟩
    simp only[fr]
    split
    ·exact hp.buf b h
    ·rfl
   have h2:s.buf b≠none→fr.box b=none∧fr.buf b=none:=fun h=>by
    refine⟨?_,by simp only[fr]; rw[if_neg h]⟩
    simp only[fr]
    split
    ·exact hp.box b h
    ·rfl
   have h3:fr.box b=none∧fr.buf b=none:=hb.elim h1 fun hb=>hb.elim h2 fun hb=>absurd (hp.mp b) hb
   exact hf.elim (fun h=>h h3.1) fun hf=>hf.elim (fun h=>h h3.2) fun h=>h (hp.mpx b hb)
 refine⟨s,fr,_,hsp,fun b hb=>(by cases hb),h,fun h=>(by cases h),fun x s' ⟨d,hx,hR⟩ hap _=> ?_⟩
 subst hx
 have he:St.join s' fr=St.over σ s':=by
  ext x v
  ·simp only[St.join,St.over,fr]
   cases hx:s'.box x with
   |some c=>simp
   |none=>
    cases hs:s.box x with
    |none=>simp
    |some c=>exact absurd hx ((hd d s' hR x).1 (by simp[hs]))
  ·simp only[St.join,St.over,fr]
   cases hx:s'.buf x with
   |some c=>simp
   |none=>
    cases hs:s.buf x with
    |none=>simp
    |some c=>exact absurd hx ((hd d s' hR x).2 (by simp[hs]))
  ·rfl
 show putK N dst d K T (St.join s' fr)
 rw[he]; exact hk d s' hR
theorem callB_box {dst:Option Nat} {g:FuncId} {ds:List D} {b:Nat} {cs cs':List D} {d0:D} (hb:σ.box b=some cs) (hf:σ.buf b=none)
  (h:RCall P g ds (({}:St).set b cs) fun d s'=>d=d0∧s'=({}:St).set b cs') (hk:putK N dst d0 K T (σ.set b cs')) (hm:σ.mp b=none:=by rfl):callB P N [] false dst g ds K Q T σ:=by
 refine callB_part (s:=({}:St).set b cs) ⟨⟨fun x c hx=> ?_,fun x c hx=>by simp[St.set] at hx,fun x c hx=>by simp[St.set] at hx⟩,fun x hx=>absurd rfl hx,fun x hx=> ?_,fun _=>rfl,fun x hx=> ?_⟩ h (fun d s' hR x=> ?_) fun d s' hR=> ?_
 ·by_cases he:x=b
  ·subst he; simp[St.set] at hx; rw[←hx]; exact hb
  ·simp[St.set,he] at hx
 ·by_cases he:x=b
  ·subst he; exact hf
  ·simp[St.set,he] at hx
 ·rcases set_has.1 hx with he|hx
  ·subst he; exact hm
  ·exact absurd hx (St.not_has_nil x)
 ·rw[hR.2]
  refine⟨fun hx=> ?_,fun hx=>absurd rfl hx⟩
  by_cases he:x=b
  ·subst he; simp[St.set]
  ·simp[St.set,he] at hx
 ·rw[hR.1,hR.2,over_set,over_nil]; exact hk
end
end Go.AL
namespace Go.AL
open Go
end Go.AL
namespace Go.AL
open Go
section
variable {M M₀ : MMap} {σ σ₀ : St} {w w₀ : World} {l : Nat} {o : Obj}
end
end Go.AL
namespace Go.AL
open Go
structure LInv (N:Nat) (M₀:MMap) (σ₀:St) (w₀:World) (T:Env) (l dk:Nat) (fn:FuncId) (tm:Array Value) (ps:Array Tmp) (as bd:Code) (M:MMap) (σ:St) (w:World):Prop where
 inv:Inv M σ w
 ml:M l=some .box
 md:M dk=some .box
 nl:¬σ.has l
 nd:¬σ.has dk
 ne:l≠dk
 hl:w₀.heap.size≤l
 hdk:w₀.heap.size≤dk
 dom₀:∀b,M₀ b≠none→b<w₀.heap.size
 old:KeepF M₀ σ₀ w₀ M σ w
 lrec:w.heap[l]? =some (.loop {state:= .ready,pending:=none,fn,tmps:=tm,params:=ps,assign:=as,body:=bd,defers:=dk})
 dfr:w.heap[dk]? =some (.deferred (some []))
 size:tm.size=N
 env:∀t,Rep M w (T t) (tm.getD t undef)
section
variable {P : Program} {N : Nat} {M₀ M M' : MMap} {σ₀ σ σ' : St} {w₀ w w' : World} {T : Env} {l dk : Nat} {fn : FuncId} {tm : Array Value} {ps : Array Tmp} {as bd : Code}
theorem noOut {N:Nat} {M:MMap} {σ:St} {w:World} {Q:XA→Env→St→Prop} [DSt]:¬LetsOut (Post N M σ w Q):=by
 rintro⟨a,w',M',T',σ',x,hx,_⟩
 cases x <;> simp[RepX] at hx
end
end Go.AL
namespace Go.AL
section
variable {P : Program} {N : Nat} {T : Env} {σ s : St} {K : Env → St → Prop} {Q : XA → Env → St → Prop}
def XCall (P:Program) (f:FuncId) (ds:List D) (s:St) (R Rp:D→St→Prop):Prop:=ACall P f ds s fun x s'=>match x with| .ret d=>R d s'| .pan d=>Rp d s'
theorem RCall.xcall {f:FuncId} {ds:List D} {R Rp:D→St→Prop} (h:RCall P f ds s R):XCall P f ds s R Rp:=ACall.mono h fun x s' hx=>by obtain⟨d,rfl,hx⟩:=hx; exact hx
variable [DSt] [Mo]
inductive LI where
 |bx (b:Nat) (c:List D)
 |gr (z n:Nat) (o:Option Nat)
def LI.put (s:St):LI→St
 | .bx b c=>s.set b c
 | .gr z n o=>grS z n o s
def LI.off (s:St):LI→Prop
 | .bx b _=>¬s.has b
 | .gr _ _ o=>grN o s
def putL (s:St) (l:List LI):St:=l.foldl LI.put s
def offL (s:St):List LI→Prop
 |[]=>True
 |i::l=>i.off s∧offL s l
theorem put_join {fr:St} {i:LI} (ha:St.apart s fr) (h:i.off s):i.put (St.join s fr)=St.join s (i.put fr)∧St.apart s (i.put fr):=by
 cases i with
 |bx b c=>
  have hs:s.box b=none:=by
   cases hb:s.box b with
   |none=>rfl
   |some x=>exact absurd (.inl (by simp[hb])) h
  refine⟨?_,fun x hx hf=> ?_⟩
  ·simp only[LI.put,St.set,St.join]
   congr 1
   funext x
   by_cases he:x=b
   ·subst he; simp[hs]
   ·simp[he]
  ·simp only[LI.put] at hf
   rw[set_has] at hf
   rcases hf with hf|hf
   ·subst hf; exact h hx
   ·exact ha x hx hf
 |gr z n o=>
  cases o with
  |none=>exact⟨rfl,ha⟩
  |some b=>
   have h':¬s.has b:=h b rfl
   have hs:s.buf b=none:=by
    cases hb:s.buf b with
    |none=>rfl
    |some x=>exact absurd (.inr (.inl (by simp[hb]))) h'
   refine⟨?_,fun x hx hf=> ?_⟩
   ·simp only[LI.put,grS,St.setBuf,St.join]
    congr 1
    funext x
    by_cases he:x=b
    ·subst he; simp[hs]
    ·simp[he]
   ·simp only[LI.put,grS] at hf
    rw[setBuf_has] at hf
    rcases hf with hf|hf
    ·subst hf; exact h' hx
    ·exact ha x hx hf
theorem putL_join:∀{l:List LI} {s fr:St},St.apart s fr→offL s l→putL (St.join s fr) l=St.join s (putL fr l)∧St.apart s (putL fr l)
 |[],_,_,ha,_=>⟨rfl,ha⟩
 |i::l,s,fr,ha,h=>by
  obtain⟨h1,h2⟩:=put_join ha h.1
  have:=putL_join (l:=l) h2 h.2
  refine⟨?_,this.2⟩
  show putL (i.put (St.join s fr)) l=_
  rw[h1]; exact this.1
theorem apart_nil (s:St):St.apart s {}:=fun b _ h=>St.not_has_nil b h
theorem off_of:∀{l:List LI} {s' fr:St},St.apart s' (putL fr l)→(∀x,fr.has x→(putL fr l).has x)→offL s' l
 |[],_,_,_,_=>trivial
 |i::l,s',fr,ha,hm=>by
  have grow:∀(l:List LI) (fr:St) x,fr.has x→(putL fr l).has x:=by
   intro l
   induction l with
   |nil=>intro fr x h; exact h
   |cons j l ih=>
    intro fr x h
    refine ih (j.put fr) x ?_
    cases j with
    |bx b c=>simp only[LI.put]; rw[set_has]; exact .inr h
    |gr z n o=>simp only[LI.put]; rw[grS_has]; exact .inr h
  refine⟨?_,off_of (l:=l) (fr:=i.put fr) ha fun x hx=>grow l _ x hx⟩
  cases i with
  |bx b c=>
   intro hb
   refine ha b hb (grow l _ b ?_)
   simp only[LI.put]; rw[set_has]; exact .inl rfl
  |gr z n o=>
   intro b ho hb
   refine ha b hb (grow l _ b ?_)
   simp only[LI.put]; rw[grS_has]; exact .inl ho
theorem callB_under {dst:Option Nat} {g:FuncId} {ds:List D} {R Rp:D→St→Prop} (l:List LI) (hl:offL s l) (h:XCall P g ds s R Rp)
  (hk:∀d s',R d s'→offL s' l→putK N dst d K T (putL s' l)) (hp:∀d s',Rp d s'→panK Q d (putL s' l)):callB P N [] false dst g ds K Q T (putL s l):=by
 have h0:=putL_join (l:=l) (apart_nil s) hl
 have he:St.join s {}=s:=by simp[St.join]
 rw[he] at h0
 refine⟨s,putL {} l,_,⟨h0.1,h0.2⟩,fun b hb=>(by cases hb),h,fun h=>(by cases h),fun x s' hx hap _=> ?_⟩
 have ho:offL s' l:=off_of hap fun x hx=>absurd hx (St.not_has_nil x)
 have h1:=(putL_join (l:=l) (apart_nil s') ho).1
 rw[show St.join s' {}=s' by simp[St.join]] at h1
 rw[←h1]
 cases x with
 |ret d=>exact hk d s' hx ho
 |pan d=>exact hp d s' hx
end
end Go.AL
namespace Go.AL
open Go
section
variable {P : Program} {N n : Nat} {Qx : XA → Env → St → Prop} {Q : Exit → Act → World → Prop} {y : Code}
variable [DSt] [Mo]
end
end Go.AL
namespace Go.AL
section
variable {P : Program} {N : Nat} {T : Env} {σ s : St} {K : Env → St → Prop} {Q : XA → Env → St → Prop} {B : List Nat}
theorem le_join {s fr:St} (h:St.apart s fr):St.le fr (St.join s fr):=⟨fun x c hx=>by
  have:s.box x=none:=by
   cases hs:s.box x with
   |none=>rfl
   |some y=>exact absurd (.inl (by simp[hx])) (h x (.inl (by simp[hs])))
  simp[St.join,this,hx],fun x c hx=>by
  have:s.buf x=none:=by
   cases hs:s.buf x with
   |none=>rfl
   |some y=>exact absurd (.inr (.inl (by simp[hx]))) (h x (.inr (.inl (by simp[hs]))))
  simp[St.join,this,hx],fun x c hx=>by
  have:s.mp x=none:=by
   cases hs:s.mp x with
   |none=>rfl
   |some y=>exact absurd (.inr (.inr (by simp[hx]))) (h x (.inr (.inr (by simp[hs]))))
  simp[St.join,this,hx]⟩
variable [DSt] [Mo]
def minK (N:Nat) (d:Option Nat) (x y:D) (K:Env→St→Prop) (T:Env) (σ:St):Prop:=match x,y with
 | .int k a,.int k' b=>k=k'∧putK N d (.int k (min a b)) K T σ
 |_,_=>False
theorem w_min {fl st:Bool} {d:Option Nat} {g:Option (Nat×Bool)} {x y:Operand} {ts:Array TypeId}:dcore P N B fl st ⟨d,.call {callee:= .builtin .min,args:= #[x,y],argTypes:=ts},g⟩ Q K T σ=minK N d (ev T x) (ev T y) K T σ:=by
 simp only[dcore,aop,pureD,minK]
 cases ev T x <;> cases ev T y <;> simp
 rename_i k a k' b
 by_cases h:k=k' <;> simp[h]
theorem minK_int {d:Option Nat} {k:IntKind} {a b:Int}:minK N d (.int k a) (.int k b) K T σ=putK N d (.int k (min a b)) K T σ:=by simp[minK]
attribute [go_sem] w_min minK_int
end
end Go.AL
namespace Go.AL
open Go
theorem upon_to {P:Program} {o:Oper} {a:Act} {next next':Act→World→Prop} {Q Q':Exit→Act→World→Prop} (hn:∀a w,next a w→next' a w) (hq:∀e a w,e≠ .normal→Q e a w→Q' e a w):
  ∀r,o.upon P a next Q r→o.upon P a next' Q' r
 | .ok (.value v) w',h=>hn _ _ h
 | .ok .skip w',h=>hn _ _ h
 | .ok (.defer d) w',h=>hn _ _ h
 | .ok (.enter f args) w',h=>Calls.mono h fun e w'' hr=>by
   cases e with
   |returned v=>exact hn _ _ hr
   |panicked c=>exact hq _ _ _ (by simp) hr
   |outgrown=>exact let ⟨a,w,h⟩:=hr; ⟨a,w,hq _ _ _ (by simp) h⟩
 | .ok (.row row args) w',h=>Rows.mono h fun v w'' hr=>hn _ _ hr
 | .ok (.round ..) _,h=>by cases h
 | .halt x w',h=>by cases x <;> first|exact hq _ _ _ (by simp) h|exact h.elim
theorem list_cut {P:Program} {ops:Array Oper} {Q Q':Exit→Act→World→Prop} {rest:List Oper} (hQ:¬LetsOut Q) (hq:∀e a w,e≠ .normal→Q e a w→Q' e a w) (hK:∀a w,Q .normal a w→wpList P ops Q' rest a w):
  ∀(pre:List Oper) (a:Act) (w:World),wpList P ops Q pre a w→wpList P ops Q' (pre++rest) a w
 |[],_,_,h=>hK _ _ h
 |o::pre,a,w,h=>by
  have ih:=fun a w=>list_cut (P:=P) (ops:=ops) hQ hq hK pre a w
  simp only[wpList,List.cons_append] at h ⊢
  split at h
  ·rename_i hw
   rw[if_pos hw]
   rcases h with h|h
   ·exact .inl (upon_to (fun a w=>ih a w) hq _ h)
   ·exact absurd h.2 hQ
  ·rename_i hw
   rw[if_neg hw]
   exact ih _ _ h
theorem list_value {P:Program} {ops:Array Oper} {Q:Exit→Act→World→Prop} {o:Oper} {rest:List Oper} {a:Act} {w w':World} {v:Value} (hg:o.guard=none) (hrun:(execOp a.eval o).run P w= .ok (.value v) w') (h:wpList P ops Q rest (a.put o.dst v) w'):wpList P ops Q (o::rest) a w:=by
 simp only[wpList,Region.wanted,hg,if_true]
 refine .inl ?_
 show o.upon P a _ Q _
 rw[hrun]; exact h
section
variable {P : Program} {N : Nat} {Qx : XA → Env → St → Prop} {Q : Exit → Act → World → Prop} {y : Code}
variable [DSt] [Mo]
end
end Go.AL
namespace Go.AL
section
variable {P : Program} {M : MMap} {σ : St} {w : World}
end
end Go.AL
namespace Go.AL
section
variable {P : Program} {N : Nat} {M : MMap} {T : Env} {σ : St} {a : Act} {w : World} {b : Nat} {cs : List D}
variable [DSt] [Mo]
def gvM (M:MMap) (b:Nat):MMap:=fun x=>if x=b then none else M x
theorem repAll_left:∀{xs ys:List D} {vs:List Value},zf6 M w (xs++ys) vs→∃l r,vs=l++r∧zf6 M w xs l
 |[],ys,vs,h=>⟨[],vs,rfl,rfl⟩
 |x::xs,ys,vs,h=>by
  obtain⟨v,vs',rfl,h1,h2⟩:=h
  obtain⟨l,r,rfl,h3⟩:=repAll_left h2
  exact⟨v::l,r,rfl,v,l,rfl,h1,h3⟩
end
end Go.AL
namespace Go.AL
section
variable {P : Program} {N : Nat} {T : Env} {σ s : St} {K : Env → St → Prop} {Q : XA → Env → St → Prop}
variable [DSt] [Mo]
end
end Go.AL
namespace Go.AL
mutual
def flatD:D→Prop
 | .agg cs=>flatL cs
 | .tup cs=>flatL cs
 | .slice _ _=>False
 | .eptr _=>False
 | .func _ _ _=>False
 | .iface _ _=>False
 | .roomy _ _ _ _=>False
 |_=>True
def flatL:List D→Prop
 |[]=>True
 |d::ds=>flatD d∧flatL ds
end
section
variable {M M' : MMap} {w w' : World}
mutual
theorem flat_rep:∀(d:D) (v:Value),flatD d→Rep M w d v→Rep M' w' d v
 | .any,_,_,_=>trivial
 | .bool _,_,_,h=>h
 | .int _ _,_,_,h=>h
 | .str _,_,_,h=>h
 | .nilptr,_,_,h=>h
 | .ptr _ _,_,_,h=>h
 | .eptr _,_,hf,_=>hf.elim
 | .slice _ _,_,hf,_=>hf.elim
 | .bsl _ _ _ _,_,_,h=>h
 | .nilfunc,_,_,h=>h
 | .func _ _ _,_,hf,_=>hf.elim
 | .niliface,_,_,h=>h
 | .iface _ _,_,hf,_=>hf.elim
 | .agg cs,_,hf,⟨a,hv,h,ho⟩=>⟨a,hv,flat_repAll cs _ hf h,ho⟩
 | .tup cs,_,hf,⟨a,hv,h⟩=>⟨a,hv,flat_repAll cs _ hf h⟩
 | .roomy _ _ _ _,_,hf,_=>hf.elim
 | .nilmap,_,_,h=>h
 | .map _,_,_,h=>h
theorem flat_repAll:∀(ds:List D) (vs:List Value),flatL ds→zf6 M w ds vs→zf6 M' w' ds vs
 |[],_,_,h=>h
 |d::ds,_,hf,⟨v,vs',hv,h1,h2⟩=>⟨v,vs',hv,flat_rep d v hf.1 h1,flat_repAll ds vs' hf.2 h2⟩
end
end
section
variable {P : Program} {N : Nat} {T : Env} {σ s : St} {K : Env → St → Prop} {Q : XA → Env → St → Prop}
theorem inv_giveup {M:MMap} {w:World} {b:Nat} {cs:List D} (hb:¬s.has b) (hi:Inv M (s.set b cs) w):Keep M w (gvM M b) w∧Inv (gvM M b) s w∧M b=some .box:=by
 have hbx:(s.set b cs).box b=some cs:=by simp[St.set]
 have hM:M b=some .box:=(hi.box b cs hbx).1
 have ne:∀x,M x≠some .box→x≠b:=fun x h he=>h (by rw[he]; exact hM)
 have hk:Keep M w (gvM M b) w:=by
  refine⟨rfl,rfl,rfl,Nat.le_refl _,fun x hx h=>⟨?_,rfl⟩,fun x lim c e f h hc=>⟨⟨c,hc,rfl,fun _ _=>rfl⟩,.inr ⟨lim,Nat.le_refl _, ?_⟩⟩⟩
  ·simp only[gvM]; split
   ·rfl
   ·exact h
  ·simp only[gvM]
   rw[if_neg (ne x (by rw[h]; simp)),h]
 have nb:∀x,s.has x→x≠b:=fun x h he=>hb (he▸h)
 refine⟨hk,⟨fun x c hx=> ?_,fun x s' n hx=> ?_,fun x o hx=> ?_,fun x hx=>hi.dom x ?_⟩,hM⟩
 ·have hxb:=nb x (.inl (by rw[hx]; simp))
  obtain⟨h1,c',e,h2,h3,h4⟩:=hi.box x c (by simp only[St.set]; rw[if_neg hxb]; exact hx)
  exact⟨by simp only[gvM]; rw[if_neg hxb]; exact h1,c',e,h2,zf6.keep hk _ _ h3,h4⟩
 ·have hxb:=nb x (.inr (.inl (by rw[hx]; simp)))
  obtain⟨h1,h2⟩:=hi.buf x s' n hx
  exact⟨by simp only[gvM]; rw[if_neg hxb]; exact h1,h2⟩
 ·have hxb:=nb x (.inr (.inr (by rw[hx]; simp)))
  exact(hi.mp x o hx).keep hk (by simp only[gvM]; rw[if_neg hxb]) rfl
 ·simp only[gvM] at hx
  split at hx
  ·exact absurd rfl hx
  ·exact hx
variable [DSt] [Mo]
end
end Go.AL
namespace Go.AL
section
variable {P : Program} {N : Nat} {T : Env} {σ : St} {Q : XA → Env → St → Prop}
theorem strip_seq [Mo] {code:Code} {a b:AC} (h:strip code= .seq a b) (ha:∀pr l,a≠ .reg true pr l):∃x y,code= .seq x y∧strip x=a∧strip y=b:=by
 cases code with
 |seq x y=>
  simp only[strip,AC.seq.injEq] at h
  exact⟨x,y,rfl,h.1,h.2⟩
 |region id ops draw=>
  cases draw with
  |false=>simp only[strip] at h; cases h
  |true=>
   simp only[strip] at h
   split at h
   ·split at h
    ·cases h
    ·obtain⟨h1,h2⟩:=AC.seq.inj h
     exact absurd h1.symm (ha _ _)
   ·cases h
 |skip=>cases h
 |cond c x y=>cases h
 |block i x=>cases h
 |loop x=>cases h
 |exit i=>cases h
 |ret=>cases h
 |scope x=>cases h
 |label l=>cases h
 |_=>cases h
variable [DSt] [Mo]
def awpC (P:Program) (N:Nat) (c:AC) (Q:XA→Env→St→Prop) (T:Env) (σ:St):Prop:=∀code:Code,strip code=c→awp P N code Q T σ
theorem awpC_of (hm:P.follows .mixedOrders=true) (hN:N≤1000000) {c:AC} (h:vcA P N c Q T σ):awpC P N c Q T σ:=fun code hc=>vcA_sound hm hN code (by rw[hc]; exact h)
theorem awpC_step (hm:P.follows .mixedOrders=true) (hN:N≤1000000) {a b:AC} (ha:∀pr l,a≠ .reg true pr l) (h:vcA P N a (thenA (awpC P N b Q) Q) T σ):awpC P N (.seq a b) Q T σ:=by
 intro code hc
 obtain⟨x,y,rfl,hx,hy⟩:=strip_seq hc ha
 refine awp_seq (awp_mono (vcA_sound hm hN x (by rw[hx]; exact h)) fun e T' σ' hq=> ?_)
 cases e with
 |normal=>exact hq y hy
 |_=>exact hq
@[congr] theorem awpC_congr {c:AC} {T T':Env} {σ σ':St} (hT:T=T') (hs:σ=σ'):awpC P N c Q T σ=awpC P N c Q T' σ':=by subst hT; subst hs; rfl
end
section
variable {P : Program} {N : Nat} {T : Env} {σ : St}
theorem Fun1.pcallC [Mo] {f:FuncId} {c:AC} {rs:List ResultVar} {ds:List D} {d:D} (F:Fun1 P f N c rs) (hl:decide (ds.length≤N)=true) (h:∀T,(∀t,T t=envOf ds t)→awpC P N c (bodyP P rs d) T {}):PCall P f ds d:=by
 obtain⟨fn,code,h1,h2,h3,h4,rfl,h5⟩:=F.ex
 refine acall_of_body h1 h2 h3 h4 (of_decide_eq_true hl) ?_
 refine awp_mono (h _ (fun _=>rfl) code h5) fun x T σ hq=> ?_
 cases x with
 |normal=>
  simp only[bodyP,leK] at hq
  split at hq
  ·exact⟨_,_,{},by assumption,hq,St.le.nil _,rfl,rfl⟩
  ·exact hq.elim
 |ret=>
  simp only[bodyP,leK] at hq
  split at hq
  ·exact⟨_,_,{},by assumption,hq,St.le.nil _,rfl,rfl⟩
  ·exact hq.elim
 |_=>exact hq.elim
theorem RCall.shut {f:FuncId} {ds:List D} {R:D→St→Prop} {d0:D} (h:RCall P f ds {} R) (hR:∀d s',R d s'→(s'={}∧DLe d d0)∨∃(b cap sz:Nat) (rows:List (List D)) (junk rest:List D),d= .tup (.bsl b 0 rows.length cap::rest)∧s'=({}:St).set b (rows.flatten++junk)∧(∀r∈rows,r.length=sz)∧rows.length≤cap∧d0= .tup (.slice .no rows::rest)):PCall P f ds d0:=by
 refine⟨h.enters,fun M w vs hi hv=>(h.run M w vs hi hv).mono fun e w' ⟨M',s',x,h1,h2,h3,d,hx,hd⟩=> ?_⟩
 subst hx
 rcases hR d s' hd with⟨rfl,hle⟩|⟨b,cap,sz,rows,junk,rest,rfl,rfl,hs,hc,rfl⟩
 ·obtain⟨v,hv1,hv2⟩:=h1
  exact⟨M',{},.ret d0,⟨v,hv1,hle _ _ _ hv2⟩,h2,h3,rfl,rfl⟩
 obtain⟨hk,hi1,hM⟩:=inv_giveup (St.not_has_nil b) h2
 obtain⟨v,hv1,a,hv2,vb,vs',hvs,hvb,hrest⟩:=h1
 have hbx:(({}:St).set b (rows.flatten++junk)).box b=some (rows.flatten++junk):=by simp[St.set]
 obtain⟨-,c,ec,hc1,hc2,hc3⟩:=h2.box b _ hbx
 have hvb':vb= .slice (some ⟨b,0,none⟩) rows.length cap:=hvb
 have hrow:Rep (gvM M' b) w' (.slice .no rows) (.slice (some ⟨b,0,none⟩) rows.length cap):=by
  obtain⟨l,r,hl,h5⟩:=repAll_left hc2
  refine .inr (.inl ⟨b,0,cap,sz,rfl,hc,rows_of hs (zf6.keep hk _ _ h5) fun j v hv=> ?_⟩)
  have hj:j<l.length:=(List.getElem?_eq_some_iff.1 hv).1
  have hcv:c[j]? =some v:=by
   have:c.toList[j]? =some v:=by rw[hl,List.getElem?_append_left hj]; exact hv
   simpa using this
  refine⟨cell_of hc1 (by simpa using hcv),hc3 v ?_, ?_⟩
  ·rw[hl]; exact List.mem_append_left _ (List.mem_of_getElem? hv)
  ·simp[ImmAt,gvM]
 have hfresh:w.heap.size≤b:=(h3.fresh b (set_has.2 (.inl rfl))).resolve_left (St.not_has_nil b)
 refine⟨gvM M' b,{},.ret (.tup (.slice .no rows::rest)),(show RepE (gvM M' b) w' (.ret (.tup (.slice .no rows::rest))) e from⟨v,hv1,a,hv2,vb,vs',hvs,by rw[hvb']; exact hrow,zf6.keep hk _ _ hrest⟩),hi1,{h3.toKeep.trans hk with frame:=fun x hx hn=> ?_,fresh:=fun x hx=>absurd hx (St.not_has_nil x)},rfl,rfl⟩
 have hxb:x≠b:=fun he=>by
  have:=hi.dom x hx
  omega
 obtain⟨q1,q2⟩:=h3.frame x hx hn
 exact⟨by simp only[gvM]; rw[if_neg hxb]; exact q1,q2⟩
end
end Go.AL
namespace Go.AL
section
variable {P : Program} {N : Nat} {T : Env} {σ : St} {Q : XA → Env → St → Prop}
variable [DSt] [Mo]
def rawO (P:Program) (N:Nat) (d:Nat) (op:Op) (K:Env→St→Prop) (T:Env) (σ:St):Prop:=
 ∀(M:MMap) (a:Act) (w:World) (od:Oper),AInv N M T σ a w→od.op=op→od.dst=some d→∃v w',(execOp a.eval od).run P w= .ok (.value v) w'∧Nx N M σ w K (a.put (some d) v) w'
theorem awpC_raw (hN:N≤1000000) {pre post:List DO} {d:Nat} {op:Op} (h:aopsD P N [] pre (fun x T σ=>x= .normal∧rawO P N d op (fun T σ=>aopsD P N [] post Q T σ) T σ) T σ):
  awpC P N (.reg false [] (pre++⟨⟨some d,op,none⟩,false,false⟩::post)) Q T σ:=by
 intro code hcode
 cases code with
 |region id ops draw=>
  cases draw with
  |false=>
   simp only[strip,AC.reg.injEq,true_and] at hcode
   obtain⟨l1,l2,hl,h1,h2⟩:=List.map_eq_append_iff.1 hcode
   obtain⟨od,l3,rfl,h3,h4⟩:=List.map_eq_cons_iff.1 h2
   have hdst:od.dst=some d:=congrArg (fun x:DO=>x.o.d) h3
   have hop:od.op=op:=congrArg (fun x:DO=>x.o.op) h3
   have hg:od.guard=none:=by
    have:=congrArg (fun x:DO=>x.o.g) h3
    simp only[plainO,stripO] at this
    split at this
    ·assumption
    ·cases this
   intro M a w hi
   refine wp_region_list ?_
   have key:wpList P ops (Post N M σ w Q) (l1++od::l3) a w:=by
    refine list_cut (Q:=Post N M σ w (fun x T σ=>x= .normal∧rawO P N d op (fun T σ=>aopsD P N [] post Q T σ) T σ)) noOut ?_ ?_ l1 a w ?_
    ·rintro e a1 w1 hne ⟨M1,T1,s1,x,hx,_,_,rfl,_⟩
     exact absurd hx hne
    ·rintro a1 w1 ⟨M1,T1,s1,x,hx,hi1,hk1,-,hraw⟩
     obtain⟨v,w2,hrun,M2,T2,s2,hi2,hk2,hK⟩:=hraw M1 a1 w1 od hi1 hop hdst
     refine list_value hg hrun ?_
     rw[hdst]
     exact aopsD_plain (M:=M2) hN l3 (by rw[h4]; exact hK) hi2 hi.inv.dom (hk1.trans hi.inv.dom hk2)
    ·exact aopsD_plain (M:=M) hN l1 (by rw[h1]; exact h) hi hi.inv.dom (KeepF.refl _ _ _)
   rw[←hl] at key
   exact key
  |true=>
   simp only[strip] at hcode
   split at hcode
   ·split at hcode
    ·cases hcode
    ·cases hcode
   ·cases hcode
 |skip=>cases hcode
 |cond c x y=>cases hcode
 |block i x=>cases hcode
 |loop x=>cases hcode
 |exit i=>cases hcode
 |ret=>cases hcode
 |scope x=>cases hcode
 |label l=>cases hcode
 |_=>cases hcode
theorem awpC_seq {a b:AC} (ha:∀pr l,a≠ .reg true pr l) (h:awpC P N a (thenA (awpC P N b Q) Q) T σ):awpC P N (.seq a b) Q T σ:=by
 intro code hc
 obtain⟨x,y,rfl,hx,hy⟩:=strip_seq hc ha
 refine awp_seq (awp_mono (h x hx) fun e T' σ' hq=> ?_)
 cases e with
 |normal=>exact hq y hy
 |_=>exact hq
theorem strip_inv {code:Code} {c:AC} (h:strip code=c) (hs:∀a b,c≠ .seq a b) (hr:∀d pr l,c≠ .reg d pr l) (hb:c≠ .bad):∀id ops draw,code≠ .region id ops draw:=by
 rintro id ops draw rfl
 cases draw with
 |false=>simp only[strip] at h; exact hr _ _ _ h.symm
 |true=>
  simp only[strip] at h
  split at h
  ·split at h
   ·exact hr _ _ _ h.symm
   ·exact hs _ _ h.symm
  ·exact hb h.symm
theorem awpC_block {id:Nat} {c:AC} (h:awpC P N c (blockA id Q) T σ):awpC P N (.block id c) Q T σ:=by
 intro code hc
 have hreg:=strip_inv hc (by simp) (by simp) (by simp)
 cases code with
 |block i x=>
  simp only[strip,AC.block.injEq] at hc
  obtain⟨rfl,hc⟩:=hc
  exact awp_block (h x hc)
 |region id ops draw=>exact absurd rfl (hreg _ _ _)
 |_=>cases hc
theorem awpC_cond {c:Operand} {x y:AC} {t:Bool} (hc:ev T c= .bool t) (h:if t=true then awpC P N x Q T σ else awpC P N y Q T σ):awpC P N (.cond c x y) Q T σ:=by
 intro code hcode
 have hreg:=strip_inv hcode (by simp) (by simp) (by simp)
 cases code with
 |cond c' x' y'=>
  simp only[strip,AC.cond.injEq] at hcode
  obtain⟨rfl,hx,hy⟩:=hcode
  refine awp_cond hc ?_
  cases t with
  |true=>exact h x' hx
  |false=>exact h y' hy
 |region id ops draw=>exact absurd rfl (hreg _ _ _)
 |_=>cases hcode
theorem awpC_loop {α:Type} {c:AC} (E:α→Env) (S:α→St) (ok:α→Prop) (μ:α→Nat) (x₀:α) (h₀:ok x₀) (he:Env.le (E x₀) T) (hs:St.le (S x₀) σ)
  (round:∀x,ok x→awpC P N c (thenA (fun T' σ'=>∃y,ok y∧μ y<μ x∧Env.le (E y) T'∧St.le (S y) σ') Q) (E x) (S x)):awpC P N (.loop c) Q T σ:=by
 intro code hc
 have hreg:=strip_inv hc (by simp) (by simp) (by simp)
 cases code with
 |loop x=>
  simp only[strip,AC.loop.injEq] at hc
  exact awp_loop E S ok μ x₀ h₀ he hs fun y hy=>round y hy x hc
 |region id ops draw=>exact absurd rfl (hreg _ _ _)
 |_=>cases hc
theorem awpC_loopL {α:Type} {c:AC} (E:α→List (Nat×D)) (S:α→St) (ok:α→Prop) (μ:α→Nat) (x₀:α) (h₀:ok x₀) (he:envOk (E x₀) T) (hs:St.le (S x₀) σ)
  (round:∀x,ok x→∀T:Env,(∀t,T t=envL (E x) t)→awpC P N c (thenA (fun T' σ'=>∃y,ok y∧μ y<μ x∧envOk (E y) T'∧St.le (S y) σ') Q) T (S x)):awpC P N (.loop c) Q T σ:=by
 refine awpC_loop (fun x=>envL (E x)) S ok μ x₀ h₀ (envL_le (envOk_le he)) hs fun x hx code hc=> ?_
 refine awp_mono (round x hx _ (fun _=>rfl) code hc) fun x' T' σ' h=> ?_
 cases x' with
 |normal=>
  obtain⟨y,h1,h2,h3,h4⟩:=h
  exact⟨y,h1,h2,envL_le (envOk_le h3),h4⟩
 |_=>exact h
theorem rawO_build1 {t e:TypeId} {z:D} {k:IntKind} {n:Int} {x:Operand} {d:Nat} {K:Env→St→Prop} (ht:sliP P t=some e) (hs:szP P e=some 1) (hz:zf4 P e=some [z]) (hx:ev T x= .int k n) (hd:d<N)
  (hK:∀b,¬σ.has b→K (upd T d (.bsl b 0 1 1)) (σ.set b [.int k n])):rawO P N d (.buildSlice t 1 #[(0,x)]) K T σ:=by
 intro M a w od hi hop hdst
 have hv:a.eval x= .int k n:=by have:=ev_rep hi x; rw[hx] at this; exact this
 obtain⟨zv,h1,h2,h3,h4⟩:=cD_zero hz M w
 have hzs:zv.cells.size=1:=by have:=h3.length; simp at this; omega
 obtain⟨i1,i2⟩:=hi.inv.addBox (cs:=[.int k n]) (c:= #[.int k n]) e (by simp[zf6,Rep]) (by simp[Value.oneCell'])
 refine⟨.slice (some ⟨w.heap.size,0,none⟩) 1 1,w.alloc (.cells #[.int k n] e), ?_,putK_sound (dst:=some d) ⟨hd,hK _ hi.inv.fresh⟩ (hi.keep i2.toKeep i1) i2 rfl⟩
 simp[execOp,hop,Instr.buildSlice,run_underlying (und_of_sli ht),run_sizeOf hs,newRow,h1,hv,Instr.fill,Value.cells]
 congr 2
 refine Array.ext (by simp) fun j j1 j2=> ?_
 have:j=0:=by simp at j2; omega
 subst this
 simp
theorem rawO_cut1 {t e:TypeId} {i d b off len cap:Nat} {K:Env→St→Prop} (ht:sliP P t=some e) (hs:szP P e=some 1) (hx:T i= .bsl b off len cap) (h1:0<len) (h2:len≤cap) (hd:d<N)
  (hK:K (upd T d (.bsl b (if cap=1 then off else off+1) (len-1) (cap-1))) σ):rawO P N d (.slice t (.tmp i) (some (.const (.int .i64 1))) none none) K T σ:=by
 intro M a w od hi hop hdst
 have hv:a.eval (.tmp i)= .slice (some ⟨b,off,none⟩) len cap:=by have:=ev_rep hi (.tmp i); rw[show ev T (.tmp i)=T i from rfl,hx] at this; exact this
 refine⟨.slice (if cap=1 then some ⟨b,off,none⟩ else some ⟨b,off+1,none⟩) (len-1) (cap-1),w, ?_,putK_sound (dst:=some d) ⟨hd,hK⟩ hi (KeepF.refl _ _ _) (by by_cases h:cap=1 <;> simp[Rep,h])⟩
 have hb:(Instr.sliceBounds true len cap (some (.int .i64 1)) none none).run P w= .ok (1,len,cap) w:=by
  simp[Instr.sliceBounds,Instr.sliceBound,asIntOf,show(1:Int)≤len by omega]
 have hs2:(Instr.sliceAt t (.slice (some ⟨b,off,none⟩) len cap) (some (.int .i64 1)) none none).run P w= .ok (.slice (if cap=1 then some ⟨b,off,none⟩ else some ⟨b,off+1,none⟩) (len-1) (cap-1)) w:=by
  simp[Instr.sliceAt,Instr.slice,run_underlying (und_of_sli ht),hb,run_sizeOf hs,addr_add]
 simp[execOp,hop,hv,eval_const,hs2]
theorem rawO_app {t e:TypeId} {by':Nat} {z:D} {i j d b off len cap:Nat} {cs:List D} {o':Own} {ys:List (List D)} {K:Env→St→Prop} (ht:sliP P t=some e) (hs:szP P e=some 1) (hb:zd5 P e=some by') (hz:zf4 P e=some [z]) (hb0:0<by')
  (hx:T i= .bsl b off len cap) (hy:T j= .slice o' ys) (hys:∀r∈ys,r.length=1) (hl0:0<ys.length) (hcs:σ.box b=some cs) (h2:len≤cap) (h3:off+cap≤cs.length) (hbd:(len+ys.length)*by'≤140737488355328) (hd:d<N)
  (hin:len+ys.length≤cap→K (upd T d (.bsl b off (len+ys.length) cap)) (σ.set b (cs.take (off+len)++ys.flatten++cs.drop (off+len+ys.length))))
  (hout:cap<len+ys.length→∀b' cap',¬σ.has b'→len+ys.length≤cap'→K (upd T d (.bsl b' 0 (len+ys.length) cap')) (σ.set b' ((cs.drop off).take len++ys.flatten++List.replicate (cap'-(len+ys.length)) .any))):
  rawO P N d (.call {callee:= .builtin .append,args:= #[.tmp i,.tmp j],argTypes:= #[t,t]}) K T σ:=by
 intro M a w od hi hop hdst
 have hv:a.eval (.tmp i)= .slice (some ⟨b,off,none⟩) len cap:=by have:=ev_rep hi (.tmp i); rw[show ev T (.tmp i)=T i from rfl,hx] at this; exact this
 have ry:Rep M w (.slice o' ys) (a.eval (.tmp j)):=by have:=ev_rep hi (.tmp j); rwa[show ev T (.tmp j)=T j from rfl,hy] at this
 have H:AppT P t t e 1 by':=⟨ht,ht,hs,by decide,hb,_,hz,rfl⟩
 obtain⟨cc,ce,hc,hrc,ho1⟩:=box_at hi.inv hcs
 have hlen:=hrc.length
 have hsz:cc.size=cs.length:=by simpa using hlen.symm
 have hrun:∀{v:Value} {w':World},(Builtin.append_ #[t,t] od.type #[a.eval (.tmp i),a.eval (.tmp j)]).run P w= .ok v w'→(execOp a.eval od).run P w= .ok (.value v) w':=fun h=>by
  simp[execOp,hop,resolve,invoke,builtin,h]
 obtain⟨nl,nl1,nl2,nl3,⟨base',cap',hy'⟩,nl4⟩:=first_run (P:=P) ry hys
 rw[Nat.mul_one] at nl1
 by_cases hroom:len+ys.length≤cap
 ·obtain⟨ii,hii,his⟩:=Option.map_eq_some_iff.1 hs
  obtain⟨c',r1,r2⟩:=run_store_cells (P:=P) b (off+len) ce nl 0 cc w hc (by omega) nl3
  have r3:c'.toList=cc.toList.take (off+len)++nl++cc.toList.drop (off+len+ys.length):=by rw[r2,nl1]; simp
  have hrep:zf6 M w (cs.take (off+len)++ys.flatten++cs.drop (off+len+ys.length)) c'.toList:=by
   rw[r3]
   exact((hrc.take _).append nl2).append (hrc.drop _)
  have hone:∀u∈c'.toList,u.oneCell'=true:=by
   rw[r3]
   intro u hu
   simp only[List.mem_append] at hu
   rcases hu with(hu|hu)|hu
   ·exact ho1 u (List.mem_of_mem_take hu)
   ·exact nl3 u hu
   ·exact ho1 u (List.mem_of_mem_drop hu)
  obtain⟨i1,i2⟩:=hi.inv.setBox hcs ⟨cc,hc⟩ hrep hone
  refine⟨.slice (some ⟨b,off,none⟩) (len+ys.length) cap,setRow w b c' ce,hrun ?_,putK_sound (dst:=some d) ⟨hd,hin hroom⟩ (hi.keep i2.toKeep i1) i2 rfl⟩
  have nl5:=nl4 w rfl
  rw[hv]
  rw[hy'] at nl5 ⊢
  simp[Builtin.append_,run_underlying (und_of_sli ht),sizeOf,typeInfo,hii,his,Builtin.lenOf,hroom,nl5,addr_add,r1]
 ·have hld:∀w':World,w'.heap=w.heap→(Builtin.firstCells 1 len (a.eval (.tmp i))).run P w'= .ok ((cc.toList.drop off).take len).toArray w':=fun w' hw=>by
   have htl:((cc.toList.drop off).take len).length=len:=by rw[List.length_take,List.length_drop,Array.length_toList,hsz]; omega
   have:=run_loadCells_list (P:=P) w' ⟨b,off,none⟩ ((cc.toList.drop off).take len) (fun j v hv=>by
    rw[cell_heap hw,addr_add]
    refine cell_of hc ?_
    rw[List.getElem?_take] at hv
    split at hv
    ·rw[List.getElem?_drop] at hv; simpa using hv
    ·cases hv)
   rw[htl] at this
   rw[hv]
   simpa[Builtin.firstCells] using this
  obtain⟨w',M',b',ncap,r1,r2,r3,r4,r5⟩:=appB_new (σ:=σ) H hv ry (olds:=(cs.drop off).take len) (old:=(cc.toList.drop off).take len)
   (by rw[List.length_take,List.length_drop,Array.length_toList,hsz]; omega) ((hrc.drop _).take _) (fun u hu=>ho1 u (List.mem_of_mem_drop (List.mem_of_mem_take hu))) hld hys (by omega) hb0 hbd hi.inv od.type
  simp only[Nat.mul_one] at r4 r5
  exact⟨_,_,hrun r1,putK_sound (dst:=some d) ⟨hd,hout (by omega) b' ncap r3 r2⟩ (hi.keep r5.toKeep r4) r5 rfl⟩
end
end Go.AL
