import Derived.Test.YtjffaachihpjbaaGreatFa
import Derived.Maps.RangeRun
import Derived.Laws.MakeOwn
set_option linter.unusedVariables false
set_option linter.unusedSimpArgs false
set_option linter.unusedSectionVars false
namespace Go.AL
inductive EA where
 |ret (d:D)
 |pan (d:D)
def RepE (M:MMap) (w:World):EA→Ending→Prop
 | .ret d,e=>∃v,e= .returned v∧Rep M w d v
 | .pan d,e=>∃v,e= .panicked [{v,recovered:=false}]∧Rep M w d v
def Enters (P:Program) (f:FuncId):Prop:=∃fn,P.funcs[f]? =some fn∧(fn.name== "runtime.NumGoroutine")=false∧fn.body.isNone=false
structure ACall (P:Program) (f:FuncId) (ds:List D) (s:St) (R:EA→St→Prop):Prop where
 enters:Enters P f
 run:∀M w vs,Inv M s w→zf6 M w ds vs→Calls P f vs.toArray w fun e w'=>∃M' s' x,RepE M' w' x e∧Inv M' s' w'∧KeepF M s w M' s' w'∧R x s'
def PCall (P:Program) (f:FuncId) (ds:List D) (d:D):Prop:=ACall P f ds {} fun x s=>x= .ret d∧s={}
theorem ACall.mono {P:Program} {f:FuncId} {ds:List D} {s:St} {R R':EA→St→Prop} (h:ACall P f ds s R) (hr:∀x s,R x s→R' x s):ACall P f ds s R':=
 ⟨h.enters,fun M w vs hi hv=>(h.run M w vs hi hv).mono fun e w' ⟨M',s',x,h1,h2,h3,h4⟩=>⟨M',s',x,h1,h2,h3,hr _ _ h4⟩⟩
def putK (N:Nat) (dst:Option Nat) (d:D) (K:Env→St→Prop) (T:Env) (σ:St):Prop:=
 match dst with
 |some t=>t<N∧K (upd T t d) σ
 |none=>K T σ
def panK (Q:XA→Env→St→Prop) (d:D) (σ:St):Prop:=∃s,St.le s σ∧Q (.panic d) (fun _=> .any) s
def callA (P:Program) (N:Nat) (dst:Option Nat) (g:FuncId) (ds:List D) (K:Env→St→Prop) (Q:XA→Env→St→Prop) (T:Env) (σ:St):Prop:=
 ∃s fr R,St.split σ s fr∧ACall P g ds s R∧∀x s',R x s'→St.apart s' fr→St.fin s'→match x with
  | .ret d=>putK N dst d K T (St.join s' fr)
  | .pan d=>panK Q d (St.join s' fr)
def nilR (o:Own) (es:List (List D)) (r:Bool):Prop:=
 match o with
 | .nil=>r=true
 | .exact| .buf _ _=>r=false
 | .no=>es≠[]→r=false
def chunks (s:Nat):Nat→List D→List (List D)
 |0,_=>[]
 |n+1,l=>l.take s::chunks s n (l.drop s)
def appendA (P:Program) (N:Nat) (dst:Option Nat) (t t':TypeId) (x y:D) (K:Env→St→Prop) (T:Env) (σ:St):Prop:=
 match x,y,sliP P t,sliP P t' with
 | .slice o xs,.slice _ ys,some e,some e'=>e=e'∧
  match szP P e,zd5 P e,(zf4 P e).map List.length with
  |some s,some by',some z=>z=s∧0<s∧0<by'∧(∀r∈ys,r.length=s)∧(xs.length+ys.length)*by'≤140737488355328∧
   match o with
   | .buf b s'=>s'=s∧σ.buf b=some (s,xs.length)∧∀b',¬(σ.dropBuf b).has b'→putK N dst (.slice (.buf b' s) (xs++ys)) K T ((σ.dropBuf b).setBuf b' s (xs.length+ys.length))
   | .nil=>(ys=[]→putK N dst (.slice .nil []) K T σ)∧(ys≠[]→∀b',¬σ.has b'→putK N dst (.slice (.buf b' s) ys) K T (σ.setBuf b' s ys.length))
   | .exact=>(∀r∈xs,r.length=s)∧(ys=[]→putK N dst (.slice .exact xs) K T σ)∧(ys≠[]→∀b',¬σ.has b'→putK N dst (.slice (.buf b' s) (xs++ys)) K T (σ.setBuf b' s (xs.length+ys.length)))
   | .no=>False
  |_,_,_=>False
 | .roomy b s k xs,.slice _ ys,some e,some e'=>e=e'∧szP P e=some s∧(zd5 P e).isSome=true∧(zf4 P e).map List.length=some s∧0<s∧(∀r∈ys,r.length=s)∧xs.length+ys.length≤k∧σ.buf b=some (s,xs.length)∧
   putK N dst (.roomy b s k (xs++ys)) K T ((σ.dropBuf b).setBuf b s (xs.length+ys.length))
 |_,_,_,_=>False
def copyA (P:Program) (N:Nat) (dst:Option Nat) (t:TypeId) (x y:D) (K:Env→St→Prop) (T:Env) (σ:St):Prop:=
 match x,y,sliP P t with
 | .bsl b o l _,.bsl b' o' l' _,some e=>match szP P e,σ.box b,σ.box b' with
  |some 1,some cs,some cs'=>o+min l' l≤cs.length∧o'+min l' l≤cs'.length∧putK N dst (.int .i64 (min l' l:Nat)) K T (σ.set b (layD cs o ((cs'.drop o').take (min l' l))))
  |_,_,_=>False
 |_,_,_=>False
def appendB (P:Program) (N:Nat) (dst:Option Nat) (t t':TypeId) (x y:D) (K:Env→St→Prop) (T:Env) (σ:St):Prop:=
 match y,sliP P t,sliP P t' with
 | .slice _ ys,some e,some e'=>e=e'∧
  match szP P e,zd5 P e,(zf4 P e).map List.length with
  |some s,some by',some z=>z=s∧0<s∧0<by'∧(∀r∈ys,r.length=s)∧
   match x with
   | .slice .nil _=>ys≠[]∧ys.length*by'≤140737488355328∧∀b cap,¬σ.has b→ys.length≤cap→putK N dst (.bsl b 0 ys.length cap) K T (σ.set b (ys.flatten++List.replicate ((cap-ys.length)*s) .any))
   | .bsl b 0 len cap=>match σ.box b with
    |some cs=>len≤cap∧cs.length=cap*s∧(len+ys.length)*by'≤140737488355328∧
      (len+ys.length≤cap→putK N dst (.bsl b 0 (len+ys.length) cap) K T (σ.set b (layD cs (len*s) ys.flatten)))∧
      (cap<len+ys.length→∀b' cap',¬σ.has b'→len+ys.length≤cap'→putK N dst (.bsl b' 0 (len+ys.length) cap') K T (σ.set b' (cs.take (len*s)++ys.flatten++List.replicate ((cap'-(len+ys.length))*s) .any)))
    |none=>False
   |_=>False
  |_,_,_=>False
 |_,_,_=>False
class Mo where
 mks:TypeId→Bool
 mps:TypeId→Bool
 aps:TypeId→Bool
instance mo0:Mo:=⟨fun _=>false,fun _=>false,fun _=>false⟩
def mapP (P:Program) (t:TypeId):Option (TypeId×TypeId):=match P.underlying t with|some (.map k e)=>some (k,e)|_=>none
def kkP (P:Program) (kt:TypeId):Option (Option IntKind):=match P.underlying kt with|some (.int k)=>some (some k)|some .string=>some none|_=>none
def keyD:D→Option Ky
 | .int k n=>some (.int k n)
 | .str s=>some (.str s)
 |_=>none
def kfind (ks:List (Ky×Nat)) (k:Ky):Option Nat:=ks.findIdx? fun p=>decide (p.1=k)
def zvalD (P:Program) (t:TypeId):Option D:=(P.info? t).bind fun i=>i.zero.bind fun z=>match z with
 | .agg cs=>if cs.toList.all Value.oneCell'=true then some (.agg (cs.toList.map cD)) else none
 |v=>some (cD v)
def pairD (ok:Bool) (d:D) (is:Bool):D:=if ok=true then .tup [d,.bool is] else d
def lookO (o:Option MO) (kk:Option IntKind) (k:Ky) (z:D) (ok:Bool):Option D:=match o with
 |some (.map kk' ks vs _)=>if kk'=kk∧k.kind=kk then some (match kfind ks k with|some j=>pairD ok ((vs[j]?).getD .any) true|none=>pairD ok z false) else none
 |_=>none
def lookD (P:Program) (t:TypeId) (x i:D) (ok:Bool) (σ:St):Option D:=match x,mapP P t with
 | .map b,some (kt,et)=>match kkP P kt,keyD i,zvalD P et with
  |some kk,some k,some z=>lookO (σ.mp b) kk k z ok
  |_,_,_=>none
 |_,_=>none
def mset (kk:Option IntKind) (ks:List (Ky×Nat)) (vs:List D) (clock:Nat) (k:Ky) (v:D):MO:=match kfind ks k with
 |some j=> .map kk ks (vs.set j v) clock
 |none=> .map kk (ks++[(k,clock)]) (vs++[v]) (clock+1)
def mdel (kk:Option IntKind) (ks:List (Ky×Nat)) (vs:List D) (clock:Nat) (k:Ky):MO:=match kfind ks k with
 |some j=> .map kk (ks.eraseIdx j) (vs.eraseIdx j) clock
 |none=> .map kk ks vs clock
def updA (P:Program) (N:Nat) (dst:Option Nat) (t:TypeId) (m k v:D) (K:Env→St→Prop) (T:Env) (σ:St):Prop:=match m,mapP P t with
 | .map b,some (kt,_)=>match kkP P kt,keyD k,σ.mp b with
  |some kk,some k,some (.map kk' ks vs clock)=>kk'=kk∧k.kind=kk∧putK N dst .any K T (σ.setM b (mset kk ks vs clock k (frz v)))
  |_,_,_=>False
 |_,_=>False
def delA (P:Program) (N:Nat) (dst:Option Nat) (t:TypeId) (m k:D) (K:Env→St→Prop) (T:Env) (σ:St):Prop:=match m,mapP P t with
 | .map b,some (kt,_)=>match kkP P kt,keyD k,σ.mp b with
  |some kk,some k,some (.map kk' ks vs clock)=>kk'=kk∧k.kind=kk∧putK N dst (.tup []) K T (σ.setM b (mdel kk ks vs clock k))
  |_,_,_=>False
 |_,_=>False
def mlenA (P:Program) (N:Nat) (dst:Option Nat) (t:TypeId) (m:D) (K:Env→St→Prop) (T:Env) (σ:St):Prop:=match m,mapP P t with
 | .map b,some _=>match σ.mp b with
  |some (.map _ ks _ _)=>putK N dst (.int .i64 ks.length) K T σ
  |_=>False
 |_,_=>False
def mkmA (P:Program) (N:Nat) (dst:Option Nat) (t:TypeId) (K:Env→St→Prop) (T:Env) (σ:St):Prop:=match mapP P t with
 |some (kt,_)=>match kkP P kt with
  |some kk=>∀b,¬σ.has b→putK N dst (.map b) K T (σ.setM b (.map kk [] [] 0))
  |none=>False
 |none=>False
def rangeA (P:Program) (N:Nat) (dst:Option Nat) (t:TypeId) (m:D) (K:Env→St→Prop) (T:Env) (σ:St):Prop:=match m,mapP P t with
 | .map b,some _=>match σ.mp b with
  |some (.map _ _ _ clock)=>∀r,¬σ.has r→putK N dst (.ptr r 0) K T (σ.setM r (.iter b clock []))
  |_=>False
 |_,_=>False
def nextA (N:Nat) (dst:Option Nat) (it:D) (K:Env→St→Prop) (T:Env) (σ:St):Prop:=match it with
 | .ptr r 0=>match σ.mp r with
  |some (.iter m since seen)=>match σ.mp m with
   |some (.map _ ks vs clock)=>since=clock∧((∀p∈ks,p.2∈seen)→putK N dst (.tup [.bool false]) K T σ)∧
     ∀(i:Nat) (k:Ky) (s:Nat),ks[i]? =some (k,s)→s∉seen→putK N dst (.tup [.bool true,k.d,(vs[i]?).getD .any]) K T (σ.setM r (.iter m since (seen++[s])))
   |_=>False
  |_=>False
 |_=>False
def entryA (N:Nat) (dst:Option Nat) (it:D) (K:Env→St→Prop) (T:Env) (σ:St):Prop:=match it with
 | .ptr r 0=>match σ.mp r with
  |some (.iter m since seen)=>match σ.mp m,seen.getLast? with
   |some (.map _ ks vs clock),some s=>since=clock∧∃(i:Nat) (k:Ky),ks[i]? =some (k,s)∧putK N dst (.tup [k.d,(vs[i]?).getD .any]) K T σ
   |_,_=>False
  |_=>False
 |_=>False
def makeA (P:Program) (t:TypeId) (x y:D):Option (Prop×D):=
 match x,y,sliP P t with
 | .int _ n,.int _ m,some e=>match szP P e,zf4 P e,zd5 P e with
  |some s,some z,some by'=>some (z.length=s∧n=m∧0≤n∧n≤9223372036854775807∧(by':Int)*n≤140737488355328,.slice .exact (List.replicate n.toNat z))
  |_,_,_=>none
 |_,_,_=>none
def makeB (P:Program) (t:TypeId) (x y:D):Option (Prop×List D×(Nat→D)):=
 match x,y,sliP P t with
 | .int _ n,.int _ m,some e=>match szP P e,zf4 P e,zd5 P e with
  |some s,some z,some by'=>some (z.length=s∧n=m∧0≤n∧n≤9223372036854775807∧(by':Int)*n≤140737488355328,(List.replicate n.toNat z).flatten,fun b=> .bsl b 0 n.toNat n.toNat)
  |_,_,_=>none
 |_,_,_=>none
def nilOpnd:Operand→Bool
 | .const (.slice none 0 0)=>true
 |_=>false
def binA (P:Program) (N:Nat) (dst:Option Nat) (bop:BinOp) (xt:TypeId) (x y:D) (nl:Bool) (K:Env→St→Prop) (T:Env) (σ:St):Prop:=
 match nl,bop,x with
 |true,.eql,.slice ow es=>match sliP P xt with
  |some _=>∀r,nilR ow es r→putK N dst (.bool r) K T σ
  |none=>False
 |true,.neq,.slice ow es=>match sliP P xt with
  |some _=>∀r,nilR ow es r→putK N dst (.bool (!r)) K T σ
  |none=>False
 |_,bop,x=>match binD P bop xt x y with
  |some (side,d)=>side∧putK N dst d K T σ
  |none=>False
def aop [Mo] (P:Program) (N:Nat) (dst:Option Nat) (op:Op) (K:Env→St→Prop) (Q:XA→Env→St→Prop) (T:Env) (σ:St):Prop:=
 match op with
 | .load t x=>match ev T x with
  | .ptr b off=>match σ.box b with
   |some cs=>match partD P t (cs.drop off) 0 with
    |some d=>putK N dst d K T σ
    |none=>False
   |none=>False
  | .eptr cs=>match partD P t cs 0 with
   |some d=>putK N dst d K T σ
   |none=>False
  |_=>False
 | .store t x v=>match ev T x with
  | .ptr b off=>match σ.box b,cellsD P t (ev T v) with
   |some cs,some vs=>off+vs.length≤cs.length∧putK N dst .any K T (σ.set b (layD cs off vs))
   |_,_=>False
  |_=>False
 | .alloc t=>match zf4 P t with
  |some z=>∀b,¬σ.has b→putK N dst (.ptr b 0) K T (σ.set b z)
  |none=>False
 | .box t x=>match cellsD P t (ev T x) with
  |some z=>∀b,¬σ.has b→putK N dst (.ptr b 0) K T (σ.set b z)
  |none=>False
 | .buildSlice t len parts=>match sliP P t with
  |some e=>match szP P e,zf4 P e with
   |some s,some z=>z.length=s∧len*s≤16777216∧match fillD (fun i=>some (i*s,e)) P T frz parts.toList (List.replicate len z).flatten with
    |some cs=>putK N dst (.slice .exact (chunks s len cs)) K T σ
    |none=>False
   |_,_=>False
  |none=>False
 | .makeSlice t l c=>if Mo.mks t=true then
   match makeB P t (ev T l) (ev T c) with
   |some (side,z,f)=>side∧∀b,¬σ.has b→putK N dst (f b) K T (σ.set b z)
   |none=>False
  else match makeA P t (ev T l) (ev T c) with
  |some (side,d)=>side∧putK N dst d K T σ
  |none=>False
 | .lookup t x i ok=>match lookD P t (ev T x) (ev T i) ok σ with
  |some d=>putK N dst d K T σ
  |none=>False
 | .mapUpdate t m k v| .insert t m k v=>updA P N dst t (ev T m) (ev T k) (ev T v) K T σ
 | .makeMap t none=>mkmA P N dst t K T σ
 | .range t x=>rangeA P N dst t (ev T x) K T σ
 | .next it false=>nextA N dst (ev T it) K T σ
 | .entry it=>entryA N dst (ev T it) K T σ
 | .call {callee:= .builtin .delete,args,argTypes}=>match args.toList,argTypes.toList with
  |[x,y],[t,_]=>delA P N dst t (ev T x) (ev T y) K T σ
  |_,_=>False
 | .panic x=>match ev T x with
  | .iface t d=>panK Q (.iface t d) σ
  |_=>False
 | .call {callee:= .value f,args,..}=>match ev T f with
  | .func (.func g) fi ca=>callA P N dst g (fi++args.toList.map (ev T)++ca) K Q T σ
  |_=>False
 | .call {callee:= .builtin .append,args,argTypes}=>match args.toList,argTypes.toList with
  |[x,y],[t,t']=>if Mo.aps t=true then appendB P N dst t t' (ev T x) (ev T y) K T σ else appendA P N dst t t' (ev T x) (ev T y) K T σ
  |_,_=>False
 | .call {callee:= .builtin .copy,args,argTypes}=>match args.toList,argTypes.toList with
  |[x,y],[t,_]=>copyA P N dst t (ev T x) (ev T y) K T σ
  |_,_=>False
 | .call {callee:= .builtin .len,args,argTypes}=>match args.toList,argTypes.toList with
  |[x],[t]=>match ev T x with
   | .map b=>Mo.mps t=true∧mlenA P N dst t (.map b) K T σ
   |_=>match pureD P op T with
    |some (side,d)=>side∧putK N dst d K T σ
    |none=>False
  |_,_=>False
 | .binOp bop xt x y _=>binA P N dst bop xt (ev T x) (ev T y) (nilOpnd y) K T σ
 |op=>match pureD P op T with
  |some (side,d)=>side∧putK N dst d K T σ
  |none=>False
def br (c:Bool) (A B:Prop):Prop:=if c=true then A else B
@[congr] theorem br_congr {c c':Bool} {A B:Prop} (h:c=c'):br c A B=br c' A B:=by
 subst h; rfl
theorem br_true {A B:Prop}:br true A B=A:=by simp[br]
theorem br_false {A B:Prop}:br false A B=B:=by simp[br]
theorem br_split {c:Bool} {A B:Prop} (ha:c=true→A) (hb:c=false→B):br c A B:=by
 cases c
 ·rw[br_false]; exact hb rfl
 ·rw[br_true]; exact ha rfl
def gq (d:D) (want:Bool):Option Bool:=
 match d with
 | .bool b=>some (b==want)
 | .tup _=>some false
 |_=>none
def guardA (ops:List Oper) (T:Env) (o:Oper):Option Bool:=
 match o.guard with
 |none=>some true
 |some (j,want)=>match (ops[j]?).bind (·.dst) with
  |some t=>gq (T t) want
  |none=>none
def aops [Mo] (P:Program) (N:Nat) (ops:List Oper):List Oper→(XA→Env→St→Prop)→Env→St→Prop
 |[],Q,T,σ=>Q .normal T σ
 |o::rest,Q,T,σ=>match guardA ops T o with
  |some g=>br g (aop P N o.dst o.op (aops P N ops rest Q) Q T σ) (putK N o.dst (.tup []) (aops P N ops rest Q) T σ)
  |none=>False
end Go.AL
namespace Go.AL
section
variable {P : Program} {M : MMap} {σ : St} {w : World}
theorem RepObj.keep {M':MMap} {w':World} (hk:Keep M w M' w') {o:MO} {x:Obj} (h:RepObj M w o x):RepObj M' w' o x:=by
 cases o with
 |map kk ks vs clock=>
  obtain⟨es,e1,e2,e3,e4,e5⟩:=h
  exact⟨es,e1,e2,e3,zf6.keep hk _ _ e4,e5⟩
 |iter m since seen=>exact h
theorem RepObj.noCells {o:MO} {x:Obj} (h:RepObj M w o x) (c:Array Value) (e:TypeId) (f:Nat×Nat):x≠ .cells c e f:=by
 rintro rfl
 cases o <;> obtain⟨_,h,_⟩:=h <;> cases h
theorem Inv.addMp (h:Inv M σ w) {o:MO} {x:Obj} (hr:RepObj M w o x):
  Inv (fun y=>if y=w.heap.size then some .box else M y) (σ.setM w.heap.size o) (w.alloc x)∧
  KeepF M σ w (fun y=>if y=w.heap.size then some .box else M y) (σ.setM w.heap.size o) (w.alloc x):=by
 have hk:=Keep.alloc h.dom x (some .box)
 have hne:∀b,σ.has b→b≠w.heap.size:=fun b hb he=>h.fresh (he▸hb)
 have hold:∀b,σ.has b→(if b=w.heap.size then some MK.box else M b)=M b∧(w.alloc x).heap[b]? =w.heap[b]? :=fun b hb=>
  ⟨by rw[if_neg (hne b hb)],heap_alloc_old (h.dom b (h.lt hb))⟩
 refine⟨⟨fun b cs hb=>(h.box b cs hb).keep hk (hold _ (has_box hb)).1 (hold _ (has_box hb)).2,fun b s n hb=>(h.buf b s n hb).keep (hold _ (has_buf hb)).1 (hold _ (has_buf hb)).2,fun b o' hb=> ?_,fun b hb=> ?_⟩,
  {hk with frame:=fun b hM hb=> ?_,fresh:=fun b hb=> ?_}⟩
 ·simp only[St.setM] at hb
  split at hb
  ·rename_i he
   subst he; cases hb
   exact⟨by simp,x,heap_alloc_new _ _,hr.keep hk⟩
  ·exact(h.mp b o' hb).keep hk (hold _ (has_mp hb)).1 (hold _ (has_mp hb)).2
 ·rw[heap_alloc_size]
  split at hb
  ·omega
  ·have:=h.dom b hb; omega
 ·have hlt:=h.dom b hM
  exact⟨by rw[if_neg (by omega)],heap_alloc_old hlt⟩
 ·rcases hb with hb|hb|hb
  ·exact .inl (.inl hb)
  ·exact .inl (.inr (.inl hb))
  ·simp only[St.setM] at hb
   split at hb
   ·exact .inr (by omega)
   ·exact .inl (.inr (.inr hb))
def setOb (w:World) (b:Nat) (x:Obj):World:={w with heap:=w.heap.setIfInBounds b x}
theorem setOb_same {b:Nat} (h:b<w.heap.size) (x:Obj):(setOb w b x).heap[b]? =some x:=by simp[setOb,h]
theorem setOb_other {b y:Nat} (h:y≠b) (x:Obj):(setOb w b x).heap[y]? =w.heap[y]? :=by simp[setOb,Array.getElem?_setIfInBounds_ne (Ne.symm h)]
theorem run_getObj {α:Type} {b:Nat} {x:Obj} {k:Obj→Sem α} (h:w.heap[b]? =some x) (hx:∀c e f,x≠ .cells c e f):(Sem.getObj b k).run P w=(k x).run P w:=by
 cases x <;> first|(simp only[Sem.run,h]; done)|exact absurd rfl (hx _ _ _)
theorem Inv.setMp (h:Inv M σ w) {b:Nat} {o₀ o:MO} (hb:σ.mp b=some o₀) {x:Obj} (hr:RepObj M w o x):
  Inv M (σ.setM b o) (setOb w b x)∧KeepF M σ w M (σ.setM b o) (setOb w b x):=by
 obtain⟨hbM,x₀,hx₀,hr₀⟩:=h.mp _ _ hb
 have hlt:=heap_lt hx₀
 have hk:Keep M w M (setOb w b x):=by
  refine⟨rfl,rfl,rfl,by simp[setOb],fun y hy hM=>⟨hM,setOb_other (fun he=>by subst he; rw[hbM] at hM; cases hM) _⟩,fun y lim cx ex fx hM hx=> ?_⟩
  have hne:y≠b:=fun he=>by subst he; rw[hbM] at hM; cases hM
  exact⟨⟨cx,(setOb_other hne _).trans hx,rfl,fun _ _=>rfl⟩,.inr ⟨lim,Nat.le_refl _,hM⟩⟩
 refine⟨⟨fun y cs hx=> ?_,fun y s n hx=> ?_,fun y o' hx=> ?_,fun y hx=> ?_⟩,{hk with frame:=fun y hx hn=>⟨rfl,setOb_other (fun he=>hn ?_) _⟩,fresh:=fun y hx=> .inl ?_}⟩
 ·have hx':σ.box y=some cs:=hx
  have hne:y≠b:=fun he=>by
   obtain⟨_,c,e,h2,_⟩:=h.box y cs hx'
   rw[he,hx₀] at h2
   exact hr₀.noCells _ _ _ (Option.some.inj h2)
  exact(h.box y cs hx').keep hk rfl (setOb_other hne _)
 ·have hx':σ.buf y=some (s,n):=hx
  have hne:y≠b:=fun he=>by
   have:=(h.buf y s n hx').1
   rw[he,hbM] at this; cases this
  exact(h.buf y s n hx').keep rfl (setOb_other hne _)
 ·simp only[St.setM] at hx
  split at hx
  ·rename_i he
   subst he; cases hx
   exact⟨hbM,x,setOb_same hlt _,hr.keep hk⟩
  ·rename_i hne
   exact(h.mp y o' hx).keep hk rfl (setOb_other hne _)
 ·simp only[setOb,Array.size_setIfInBounds]; exact h.dom y hx
 ·subst he; exact has_mp hb
 ·rcases hx with hx|hx|hx
  ·exact .inl hx
  ·exact .inr (.inl hx)
  ·simp only[St.setM] at hx
   split at hx
   ·rename_i he; subst he; exact has_mp hb
   ·exact .inr (.inr hx)
theorem und_of_map {t kt et:TypeId} (h:mapP P t=some (kt,et)):P.underlying t=some (.map kt et):=by
 unfold mapP at h
 split at h
 ·rename_i k e hu; cases h; exact hu
 ·cases h
theorem keyD_rep {d:D} {k:Ky} (h:keyD d=some k) {v:Value} (hr:Rep M w d v):v=k.v:=by
 cases d <;> simp only[keyD,reduceCtorEq] at h <;> cases h <;> exact hr
theorem Ky.d_rep (k:Ky):Rep M w k.d k.v:=by cases k <;> rfl
def kdesc:Option IntKind→TypeDesc
 |some k=> .int k
 |none=> .string
theorem und_of_kk {kt:TypeId} {kk:Option IntKind} (h:kkP P kt=some kk):P.underlying kt=some (kdesc kk):=by
 unfold kkP at h
 split at h
 ·rename_i k hu; cases h; exact hu
 ·rename_i hu; cases h; exact hu
 ·cases h
theorem bytes_beq (s t:ByteArray):(s==t)=decide (s=t):=by
 show(s.data==t.data)=_
 by_cases h:s=t
 ·subst h; simp
 ·rw[decide_eq_false h]
  exact beq_eq_false_iff_ne.2 fun he=>h (by cases s; cases t; simp at he; rw[he])
theorem sameNow_ky {a b:Ky} {kk:Option IntKind} (ha:a.kind=kk) (hb:b.kind=kk):Instr.sameNow (kdesc kk) a.v b.v=some (decide (b=a)):=by
 cases a with
 |int k n=>
  cases b with
  |int k' n'=>
   simp only[Ky.kind] at ha hb
   subst ha
   cases hb
   simp only[kdesc,Ky.v,Instr.sameNow,if_true,Option.some.injEq,Ky.int.injEq,true_and]
   rw[show(n==n')=decide (n=n') from rfl]
   exact decide_eq_decide.2 eq_comm
  |str s=>simp only[Ky.kind] at ha hb; rw[←ha] at hb; cases hb
 |str s=>
  cases b with
  |int k n=>simp only[Ky.kind] at ha hb; rw[←ha] at hb; cases hb
  |str s'=>
   simp only[Ky.kind] at ha
   subst ha
   simp only[kdesc,Ky.v,Instr.sameNow,Option.some.injEq,Ky.str.injEq]
   rw[bytes_beq]
   exact decide_eq_decide.2 eq_comm
theorem findNow_ky {k:Ky} {kk:Option IntKind} (hk:k.kind=kk):∀(es:List MapEntry) (ks:List (Ky×Nat)) (i:Nat),es.map (·.key)=ks.map (·.1.v)→(∀p∈ks,p.1.kind=kk)→
  Instr.findNow (kdesc kk) k.v es i=some (match kfind ks k with|some j=>(es[j]?).map fun e=>(i+j,e.val)|none=>none)
 |[],[],i,_,_=>rfl
 |[],_::_,_,h,_=>by simp at h
 |_::_,[],_,h,_=>by simp at h
 |e::es,p::ks,i,h,hkk=>by
  simp only[List.map_cons,List.cons.injEq] at h
  have ih:=findNow_ky hk es ks (i+1) h.2 fun q hq=>hkk q (by simp[hq])
  have hs:=sameNow_ky hk (hkk p (by simp))
  rw[Instr.findNow,h.1,hs]
  by_cases hp:p.1=k
  ·rw[decide_eq_true hp]
   have:kfind (p::ks) k=some 0:=by simp[kfind,hp,List.findIdx?_cons]
   rw[this]; simp
  ·rw[decide_eq_false hp]
   simp only
   rw[ih]
   have:kfind (p::ks) k=(kfind ks k).map (· + 1):=by simp[kfind,hp,List.findIdx?_cons]
   rw[this]
   cases kfind ks k with
   |none=>rfl
   |some j=>simp only[Option.map_some,List.getElem?_cons_succ]; rw[show i+1+j=i+(j+1) by omega]
theorem kfind_lt {ks:List (Ky×Nat)} {k:Ky} {j:Nat} (h:kfind ks k=some j):∃p,ks[j]? =some p∧p.1=k:=by
 unfold kfind at h
 obtain⟨h1,h2,_⟩:=List.findIdx?_eq_some_iff_getElem.1 h
 exact⟨ks[j],by simp[h1],of_decide_eq_true h2⟩
theorem kfind_none {ks:List (Ky×Nat)} {k:Ky} (h:kfind ks k=none):∀p∈ks,p.1≠k:=by
 unfold kfind at h
 intro p hp he
 have:=List.findIdx?_eq_none_iff.1 h p hp
 simp[he] at this
theorem run_checkKey {kt:TypeId} {kk:Option IntKind} (h:kkP P kt=some kk) (b:Bool) (v:Value) (w:World):(Instr.checkKey b 10000 kt v).run P w= .ok () w:=by
 have hu:=und_of_kk h
 show(Instr.checkKey b (9999+1) kt v).run P w=_
 rw[Instr.checkKey]
 cases kk <;> simp[kdesc] at hu <;> cases v <;> simp[run_underlying hu]
theorem run_findKey {kt:TypeId} {kk:Option IntKind} (h:kkP P kt=some kk) {k:Ky} (hk:k.kind=kk) {es:Array MapEntry} {ks:List (Ky×Nat)} (he:es.toList.map (·.key)=ks.map (·.1.v)) (hkk:∀p∈ks,p.1.kind=kk) (w:World):
  (Instr.findKey kt k.v es.toList).run P w= .ok (match kfind ks k with|some j=>(es[j]?).map fun e=>(j,e.val)|none=>none) w:=by
 have hf:=findNow_ky hk es.toList ks 0 he hkk
 simp[Instr.findKey,run_underlying (und_of_kk h),hf]
theorem zvalD_run {t:TypeId} {z:D} (h:zvalD P t=some z) (w:World):∃v,(zeroValue t).run P w= .ok v w∧Rep M w z v:=by
 simp only[zvalD,Option.bind_eq_some_iff] at h
 obtain⟨i,hi,z',hz,h⟩:=h
 refine⟨z',by simp[zeroValue,typeInfo,hi,hz], ?_⟩
 cases z' with
 |agg cs=>
  simp only at h
  split at h
  ·rename_i hall
   cases h
   refine⟨cs,rfl,(zf6.iff _ _).2 ⟨by simp,fun j d u hd hu=> ?_⟩,fun u hu=>List.all_eq_true.1 hall u hu⟩
   simp only[List.getElem?_map,Option.map_eq_some_iff] at hd
   obtain⟨u',hu',rfl⟩:=hd
   rw[hu] at hu'; cases hu'
   exact cD_rep _ _ _
  ·cases h
 |_=>simp only[Option.some.injEq] at h; rw[←h]; exact cD_rep _ _ _
theorem mp_at (hi:Inv M σ w) {b:Nat} {kk:Option IntKind} {ks:List (Ky×Nat)} {vs:List D} {clock:Nat} (h:σ.mp b=some (.map kk ks vs clock)):∃es,w.heap[b]? =some (.map es clock)∧
  es.toList.map (·.key)=ks.map (·.1.v)∧es.toList.map (·.born)=ks.map (·.2)∧zf6 M w vs (es.toList.map (·.val))∧(ks.map (·.1)).Nodup∧(ks.map (·.2)).Nodup∧(∀p∈ks,p.2<clock)∧∀p∈ks,p.1.kind=kk:=by
 obtain⟨_,x,hx,es,rfl,h⟩:=hi.mp _ _ h
 exact⟨es,hx,h⟩
theorem es_len {es:Array MapEntry} {ks:List (Ky×Nat)} (h:es.toList.map (·.key)=ks.map (·.1.v)):es.size=ks.length:=by
 have:=congrArg List.length h
 simpa using this
theorem pair_rep {ok is:Bool} {d:D} {v:Value} (h:Rep M w d v):Rep M w (pairD ok d is) (if ok then .tuple #[v,.bool is] else v):=by
 cases ok
 ·exact h
 ·exact⟨_,rfl,v,[.bool is],rfl,h,_,_,rfl,rfl,rfl⟩
theorem lookup_sound (hi:Inv M σ w) {t:TypeId} {x i d:D} {ok:Bool} (h:lookD P t x i ok σ=some d) {u j:Value} (hx:Rep M w x u) (hj:Rep M w i j):∃v,(Instr.lookup t u j ok).run P w= .ok v w∧Rep M w d v:=by
 unfold lookD at h
 split at h
 ·rename_i b kt et hm
  split at h
  ·rename_i kk k z hkk hk hz
   unfold lookO at h
   split at h
   ·rename_i kk' ks vs clock hb
    split at h
    ·rename_i hcond
     obtain⟨rfl,hkind⟩:=hcond
     cases h
     obtain⟨es,he,e1,e2,e3,e4,e5,e6,e7⟩:=mp_at hi hb
     obtain⟨zv,hz1,hz2⟩:=zvalD_run (M:=M) hz w
     obtain rfl:=keyD_rep hk hj
     have hu:u= .map (some b):=hx
     subst hu
     have hf:=run_findKey hkk hkind e1 e7 w
     have hget:∀q:Obj→Sem Value,(Sem.getObj b q).run P w=(q (.map es clock)).run P w:=fun q=>run_getObj he (fun _ _ _=>by simp)
     cases hfi:kfind ks k with
     |none=>
      rw[hfi] at hf
      refine⟨if ok then .tuple #[zv,.bool false] else zv, ?_,pair_rep hz2⟩
      cases ok <;> simp[Instr.lookup,run_underlying (und_of_map hm),getObj,Sem.run,he,run_checkKey hkk,hf,hz1]
     |some n=>
      rw[hfi] at hf
      obtain⟨p,hp,_⟩:=kfind_lt hfi
      have hn:n<es.size:=by rw[es_len e1]; exact(List.getElem?_eq_some_iff.1 hp).1
      have hv:vs.length=es.size:=by have:=e3.length; simpa using this
      obtain⟨v,hv1,hv2⟩:=e3.get (i:=n) (d:=vs[n]) (by simp)
      have hv3:v=es[n].val:=by simpa[hn] using hv1.symm
      subst hv3
      simp only[hn,Array.getElem?_eq_getElem,Option.map_some] at hf
      refine⟨if ok then .tuple #[es[n].val,.bool true] else es[n].val, ?_,pair_rep (by simpa[hv,hn] using hv2)⟩
      cases ok <;> simp[Instr.lookup,run_underlying (und_of_map hm),getObj,Sem.run,he,run_checkKey hkk,hf]
    ·cases h
   ·cases h
  ·cases h
 ·cases h
theorem sameBits_ky (k:Ky):Instr.sameBits 10000 k.v k.v=true:=by cases k <;> simp[Ky.v,Instr.sameBits,bytes_beq]
theorem map_modify_id {es:List MapEntry} {j:Nat} {v:Value} {k:Value} (hk:∀e,es[j]? =some e→e.key=k):(es.modify j fun e=>{e with key:=k,val:=v}).map (·.key)=es.map (·.key)∧
  (es.modify j fun e=>{e with key:=k,val:=v}).map (·.born)=es.map (·.born)∧(es.modify j fun e=>{e with key:=k,val:=v}).map (·.val)=(es.map (·.val)).set j v:=by
 refine⟨?_, ?_, ?_⟩ <;> (apply List.ext_getElem?; intro i; simp only[List.getElem?_map,List.getElem?_modify,List.getElem?_set])
 ·by_cases h:j=i
  ·subst h
   cases he:es[j]? with
   |none=>simp
   |some e=>simp[hk e he]
  ·simp[h]
 ·by_cases h:j=i
  ·subst h; cases es[j]? <;> simp
  ·simp[h]
 ·by_cases h:j=i
  ·subst h
   cases he:es[j]? with
   |none=>simp; simpa using List.getElem?_eq_none_iff.1 he
   |some e=>simp[(List.getElem?_eq_some_iff.1 he).1]
  ·simp[h]
theorem zf6.set {ds:List D} {vs:List Value} (h:zf6 M w ds vs) (j:Nat) {d:D} {v:Value} (hr:Rep M w d v):zf6 M w (ds.set j d) (vs.set j v):=by
 refine(zf6.iff _ _).2 ⟨by simp[h.length],fun i a u ha hu=> ?_⟩
 rw[List.getElem?_set] at ha hu
 by_cases hij:j=i
 ·subst hij
  simp only[if_true] at ha hu
  split at ha
  ·cases ha
   split at hu
   ·cases hu; exact hr
   ·cases hu
  ·cases ha
 ·simp only[hij,if_false] at ha hu
  exact((zf6.iff _ _).1 h).2 i a u ha hu
theorem upd_sound (hi:Inv M σ w) {t kt et:TypeId} {kk:Option IntKind} {b clock:Nat} {ks:List (Ky×Nat)} {vs:List D} {k:Ky} {d:D} {v:Value} (hm:mapP P t=some (kt,et)) (hkk:kkP P kt=some kk)
  (hb:σ.mp b=some (.map kk ks vs clock)) (hk:k.kind=kk) (hr:Rep M w d v):
  ∃w',(Instr.mapUpdate t (.map (some b)) k.v v).run P w= .ok () w'∧Inv M (σ.setM b (mset kk ks vs clock k (frz d))) w'∧KeepF M σ w M (σ.setM b (mset kk ks vs clock k (frz d))) w':=by
 obtain⟨es,he,e1,e2,e3,e4,e5,e6,e7⟩:=mp_at hi hb
 have hf:=run_findKey hkk hk e1 e7 w
 have hr':=frz_rep hr
 cases hfi:kfind ks k with
 |none=>
  rw[hfi] at hf
  refine⟨setOb w b (.map (es.push {key:=k.v,val:=v,born:=clock}) (clock+1)), ?_, ?_⟩
  ·simp only[Instr.mapUpdate,Sem.run_bind,run_underlying (und_of_map hm),Result.andThen,getObj,Sem.run,he,run_checkKey hkk,hf,setObj,setOb]
  ·have hn:=kfind_none hfi
   have hs:mset kk ks vs clock k (frz d)= .map kk (ks++[(k,clock)]) (vs++[frz d]) (clock+1):=by simp[mset,hfi]
   rw[hs]
   refine hi.setMp hb ⟨_,rfl,by simp[e1],by simp[e2], ?_, ?_, ?_, ?_, ?_⟩
   ·simp only[Array.toList_push,List.map_append,List.map_cons,List.map_nil]
    exact e3.append ⟨v,[],rfl,hr',rfl⟩
   ·simp only[List.map_append,List.map_cons,List.map_nil]
    refine List.nodup_append.2 ⟨e4,by simp,fun a ha c hc=> ?_⟩
    obtain⟨p,hp,rfl⟩:=List.mem_map.1 ha
    simp at hc; subst hc
    exact hn p hp
   ·simp only[List.map_append,List.map_cons,List.map_nil]
    refine List.nodup_append.2 ⟨e5,by simp,fun a ha c hc=> ?_⟩
    obtain⟨p,hp,rfl⟩:=List.mem_map.1 ha
    simp at hc; subst hc
    exact Nat.ne_of_lt (e6 p hp)
   ·intro p hp
    simp only[List.mem_append,List.mem_singleton] at hp
    rcases hp with hp|rfl
    ·exact Nat.lt_succ_of_lt (e6 p hp)
    ·exact Nat.lt_succ_self _
   ·intro p hp
    simp only[List.mem_append,List.mem_singleton] at hp
    rcases hp with hp|rfl
    ·exact e7 p hp
    ·exact hk
 |some n=>
  rw[hfi] at hf
  obtain⟨p,hp,hpk⟩:=kfind_lt hfi
  have hn:n<es.size:=by rw[es_len e1]; exact(List.getElem?_eq_some_iff.1 hp).1
  have hkey:∀e,es.toList[n]? =some e→e.key=k.v:=fun e hee=>by
   have h1:(es.toList.map (·.key))[n]? =some e.key:=by simp only[List.getElem?_map,hee,Option.map_some]
   rw[e1,List.getElem?_map,hp] at h1
   simp only[Option.map_some,Option.some.injEq] at h1
   rw[←h1,hpk]
  have hkn:es[n].key=k.v:=hkey _ (by simp[hn])
  simp only[hn,Array.getElem?_eq_getElem,Option.map_some] at hf
  obtain⟨m1,m2,m3⟩:=map_modify_id (v:=v) hkey
  refine⟨setOb w b (.map (es.modify n fun e=>{e with key:=k.v,val:=v}) clock), ?_, ?_⟩
  ·simp only[Instr.mapUpdate,Sem.run_bind,run_underlying (und_of_map hm),Result.andThen,getObj,Sem.run,he,run_checkKey hkk,hf,setObj,setOb,hn,Array.getElem?_eq_getElem,Option.map_some,Option.getD_some,Instr.keyThatStays,hkn,sameBits_ky,if_true]
   simp[Sem.run,he]
  ·have hs:mset kk ks vs clock k (frz d)= .map kk ks (vs.set n (frz d)) clock:=by simp[mset,hfi]
   rw[hs]
   refine hi.setMp hb ⟨_,rfl,by rw[Array.toList_modify,m1]; exact e1,by rw[Array.toList_modify,m2]; exact e2, ?_,e4,e5,e6,e7⟩
   rw[Array.toList_modify,m3]
   exact e3.set n hr'
theorem zf6.eraseIdx:∀{ds:List D} {vs:List Value} (j:Nat),zf6 M w ds vs→zf6 M w (ds.eraseIdx j) (vs.eraseIdx j)
 |[],_,j,h=>by cases h; exact rfl
 |d::ds,_,0,h=>by obtain⟨v,vs',rfl,_,h2⟩:=h; exact h2
 |d::ds,_,j+1,h=>by obtain⟨v,vs',rfl,h1,h2⟩:=h; exact⟨v,_,rfl,h1,zf6.eraseIdx j h2⟩
theorem del_sound (hi:Inv M σ w) {t t' ty kt et:TypeId} {kk:Option IntKind} {b clock:Nat} {ks:List (Ky×Nat)} {vs:List D} {k:Ky} (hm:mapP P t=some (kt,et)) (hkk:kkP P kt=some kk)
  (hb:σ.mp b=some (.map kk ks vs clock)) (hk:k.kind=kk):
  ∃w',(Builtin.delete_ #[t,t'] ty #[.map (some b),k.v]).run P w= .ok (.tuple #[]) w'∧Inv M (σ.setM b (mdel kk ks vs clock k)) w'∧KeepF M σ w M (σ.setM b (mdel kk ks vs clock k)) w':=by
 obtain⟨es,he,e1,e2,e3,e4,e5,e6,e7⟩:=mp_at hi hb
 have hf:=run_findKey hkk hk e1 e7 w
 cases hfi:kfind ks k with
 |none=>
  rw[hfi] at hf
  refine⟨setOb w b (.map es clock), ?_, ?_⟩
  ·simp[Builtin.delete_,Sem.run_bind,run_underlying (und_of_map hm),Result.andThen,getObj,Sem.run,he,run_checkKey hkk,hf,setObj,setOb]
  ·have hs:mdel kk ks vs clock k= .map kk ks vs clock:=by simp[mdel,hfi]
   rw[hs]
   exact hi.setMp hb ⟨_,rfl,e1,e2,e3,e4,e5,e6,e7⟩
 |some n=>
  rw[hfi] at hf
  obtain⟨p,hp,hpk⟩:=kfind_lt hfi
  have hn:n<es.size:=by rw[es_len e1]; exact(List.getElem?_eq_some_iff.1 hp).1
  simp only[hn,Array.getElem?_eq_getElem,Option.map_some] at hf
  refine⟨setOb w b (.map (es.eraseIdxIfInBounds n) clock), ?_, ?_⟩
  ·simp[Builtin.delete_,Sem.run_bind,run_underlying (und_of_map hm),Result.andThen,getObj,Sem.run,he,run_checkKey hkk,hf,setObj,setOb]
  ·have hs:mdel kk ks vs clock k= .map kk (ks.eraseIdx n) (vs.eraseIdx n) clock:=by simp[mdel,hfi]
   rw[hs]
   have hl:(es.eraseIdxIfInBounds n).toList=es.toList.eraseIdx n:=by simp[Array.eraseIdxIfInBounds,hn]
   have hmap:∀{α:Type} (f:MapEntry→α),(es.toList.eraseIdx n).map f=(es.toList.map f).eraseIdx n:=fun f=>ChangeMaps.map_eraseIdx f es.toList n
   refine hi.setMp hb ⟨_,rfl, ?_, ?_, ?_, ?_, ?_,fun q hq=>e6 q (List.mem_of_mem_eraseIdx hq),fun q hq=>e7 q (List.mem_of_mem_eraseIdx hq)⟩
   ·rw[hl,hmap,e1]; exact(ChangeMaps.map_eraseIdx _ _ _).symm
   ·rw[hl,hmap,e2]; exact(ChangeMaps.map_eraseIdx _ _ _).symm
   ·rw[hl,hmap]; exact e3.eraseIdx n
   ·rw[ChangeMaps.map_eraseIdx]; exact e4.sublist (List.eraseIdx_sublist _ _)
   ·rw[ChangeMaps.map_eraseIdx]; exact e5.sublist (List.eraseIdx_sublist _ _)
theorem mlen_sound (hi:Inv M σ w) {t ty kt et:TypeId} {kk:Option IntKind} {b clock:Nat} {ks:List (Ky×Nat)} {vs:List D} (hm:mapP P t=some (kt,et)) (hb:σ.mp b=some (.map kk ks vs clock)):
  (Builtin.len_ #[t] ty #[.map (some b)]).run P w= .ok (.int .i64 ks.length) w:=by
 obtain⟨es,he,e1,_⟩:=mp_at hi hb
 simp[Builtin.len_,Sem.run_bind,run_underlying (und_of_map hm),Result.andThen,getObj,Sem.run,he,es_len e1,goInt]
theorem next_sound (hi:Inv M σ w) {ty:TypeId} {kk:Option IntKind} {r m since clock:Nat} {seen:List Nat} {ks:List (Ky×Nat)} {vs:List D} (hr:σ.mp r=some (.iter m since seen)) (hb:σ.mp m=some (.map kk ks vs clock)) (hs:since=clock):
  ((∀p∈ks,p.2∈seen)∧(Instr.next (.pointer (some ⟨r,0,none⟩)) false ty).run P w= .ok (.tuple #[.bool false]) w)∨
  ∃(i:Nat) (k:Ky) (s:Nat) (v:Value) (w':World),ks[i]? =some (k,s)∧s∉seen∧(Instr.next (.pointer (some ⟨r,0,none⟩)) false ty).run P w= .ok (.tuple #[.bool true,k.v,v]) w'∧Rep M w' ((vs[i]?).getD .any) v∧
   Inv M (σ.setM r (.iter m since (seen++[s]))) w'∧KeepF M σ w M (σ.setM r (.iter m since (seen++[s]))) w':=by
 subst hs
 obtain⟨es,he,e1,e2,e3,e4,e5,e6,e7⟩:=mp_at hi hb
 obtain⟨_,x,hx,a,rfl,ha⟩:=hi.mp _ _ hr
 have hold:∀x∈es.toList,x.born<since:=fun x hx=>by
  have h1:x.born∈es.toList.map (·.born):=List.mem_map_of_mem hx
  rw[e2] at h1
  obtain⟨p,hp,he⟩:=List.mem_map.1 h1
  rw[←he]; exact e6 p hp
 rcases run_next_at w ty r m since since a es since hx he hold (Nat.le_refl _) with⟨h0,hrun⟩|⟨e,hel,w1,hw1,hrun⟩
 ·left
  refine⟨fun p hp=> ?_,hrun⟩
  have h1:p.2∈es.toList.map (·.born):=by rw[e2]; exact List.mem_map_of_mem hp
  obtain⟨y,hy,hyb⟩:=List.mem_map.1 h1
  have h2:leftOf es a= #[]:=Array.eq_empty_of_size_eq_zero h0
  unfold leftOf at h2
  rw[Array.filter_eq_empty_iff] at h2
  have:=h2 y (by simpa using hy)
  simp at this
  rw[←ha,←hyb]; simpa using this
 ·right
  have hel':e∈es.toList∧e.born∉seen:=by
   unfold leftOf at hel
   simp at hel
   refine⟨by simpa using hel.1, ?_⟩
   rw[←ha]; simpa using hel.2
  obtain⟨i,hi1,hi2⟩:=List.mem_iff_getElem.1 hel'.1
  have hlen:=es_len e1
  have hik:i<ks.length:=by simp at hi1; omega
  have hk1:e.key=ks[i].1.v:=by
   have h1:(es.toList.map (·.key))[i]? =some e.key:=by simp only[List.getElem?_map,List.getElem?_eq_getElem hi1,hi2,Option.map_some]
   rw[e1] at h1
   simpa[hik] using h1.symm
  have hk2:e.born=ks[i].2:=by
   have h1:(es.toList.map (·.born))[i]? =some e.born:=by simp only[List.getElem?_map,List.getElem?_eq_getElem hi1,hi2,Option.map_some]
   rw[e2] at h1
   simpa[hik] using h1.symm
  have hv:vs.length=es.size:=by have:=e3.length; simpa using this
  have hiv:i<vs.length:=by omega
  obtain⟨v,hv1,hv2⟩:=e3.get (i:=i) (d:=vs[i]) (by simp[hiv])
  have hv3:v=e.val:=by
   rw[List.getElem?_map,List.getElem?_eq_getElem hi1,hi2] at hv1
   simpa using hv1.symm
  subst hv3
  have hw:Inv M σ w1∧KeepF M σ w M σ w1:=by
   rcases hw1 with rfl|rfl
   ·exact⟨hi,KeepF.refl _ _ _⟩
   ·exact drew_inv hi
  obtain⟨j1,j2⟩:=hw.1.setMp (x:= .mapIter (some m) since (a.push e.born) since) (o:= .iter m since (seen++[ks[i].2])) hr ⟨_,rfl,by simp[ha,hk2]⟩
  refine⟨i,ks[i].1,ks[i].2,e.val,_,by simp[hik],by rw[←hk2]; exact hel'.2, ?_, ?_,j1,hw.2.trans hi.dom j2⟩
  ·rw[hrun,hk1]; rfl
  ·have:=Rep.keep (hw.2.trans hi.dom j2).toKeep _ _ hv2
   simpa[hiv] using this
theorem entry_sound (hi:Inv M σ w) {kk:Option IntKind} {r m since clock i s:Nat} {k:Ky} {seen:List Nat} {ks:List (Ky×Nat)} {vs:List D} (hr:σ.mp r=some (.iter m since seen)) (hb:σ.mp m=some (.map kk ks vs clock)) (hs:since=clock)
  (hl:seen.getLast? =some s) (hk:ks[i]? =some (k,s)):∃v,(Instr.entry (.pointer (some ⟨r,0,none⟩))).run P w= .ok (.tuple #[k.v,v]) w∧Rep M w ((vs[i]?).getD .any) v:=by
 subst hs
 obtain⟨es,he,e1,e2,e3,e4,e5,e6,e7⟩:=mp_at hi hb
 obtain⟨_,x,hx,a,rfl,ha⟩:=hi.mp _ _ hr
 have hik:=(List.getElem?_eq_some_iff.1 hk).1
 have hlen:=es_len e1
 have hi1:i<es.toList.length:=by simp; omega
 obtain⟨e,he1⟩:∃e,es.toList[i]? =some e:=⟨_,List.getElem?_eq_getElem hi1⟩
 have hk1:e.key=k.v:=by
  have h1:(es.toList.map (·.key))[i]? =some e.key:=by simp only[List.getElem?_map,he1,Option.map_some]
  rw[e1,List.getElem?_map,hk] at h1
  simpa using h1.symm
 have hk2:e.born=s:=by
  have h1:(es.toList.map (·.born))[i]? =some e.born:=by simp only[List.getElem?_map,he1,Option.map_some]
  rw[e2,List.getElem?_map,hk] at h1
  simpa using h1.symm
 have hv:vs.length=es.size:=by have:=e3.length; simpa using this
 have hiv:i<vs.length:=by omega
 obtain⟨v,hv1,hv2⟩:=e3.get (i:=i) (d:=vs[i]) (by simp[hiv])
 have hv3:v=e.val:=by
  rw[List.getElem?_map,he1] at hv1
  simpa using hv1.symm
 subst hv3
 obtain⟨a',rfl⟩:∃a':Array Nat,a=a'.push e.born:=by
  refine⟨a.pop, ?_⟩
  have h1:a.toList.getLast? =some e.born:=by rw[ha,hl,hk2]
  have h2:a.toList=a.toList.dropLast++[e.born]:=by
   have hne:a.toList≠[]:=by intro h0; rw[h0] at h1; simp at h1
   rw[List.getLast?_eq_some_getLast hne] at h1
   rw[←Option.some.inj h1,List.dropLast_concat_getLast]
  apply Array.ext'
  rw[Array.toList_push,Array.toList_pop]; exact h2
 have:=run_entry_at (P:=P) w r m since a' es since e hx he (List.mem_of_getElem? he1) (by rw[e2]; exact e5)
 rw[hk1] at this
 exact⟨e.val,this,by simpa[hiv] using hv2⟩
end
end Go.AL
namespace Go.AL
section
variable {P : Program} {M : MMap} {σ : St} {w : World}
theorem zeroCells_mem {cs:Array Value} {n:Nat} {u:Value} (h:u∈(Builtin.zeroCells cs n).toList):u∈cs.toList:=by
 simp[Builtin.zeroCells] at h ⊢
 obtain⟨i,hi,rfl⟩:=h
 have hp:0<cs.size:=Nat.pos_of_ne_zero fun h0=>by rw[h0] at hi; omega
 have hlt:=Nat.mod_lt i hp
 rw[getElem!_pos cs (i%cs.size) hlt]
 exact Array.getElem_mem hlt
theorem append_growZ {t t' e:TypeId} {s by':Nat} (H:AppT P t t' e s by') {base:Option Addr} {len cap n:Nat} {x y:Value} (hx:x= .slice base len cap) {base':Option Addr} {cap':Nat} (hy:y= .slice base' n cap')
  (hc:cap<len+n) (hb:(len+n)*by'≤140737488355328) (hb0:0<by') {old l:List Value} (ho:old.length=len*s) (hl:l.length=n*s)
  (hx':∀w':World,w'.heap=w.heap→(Builtin.firstCells s len x).run P w'= .ok old.toArray w')
  (hy':∀w':World,w'.heap=w.heap→(Builtin.firstCells s n y).run P w'= .ok l.toArray w') (ty:TypeId):
  ∃c ncap,(Builtin.append_ #[t,t'] ty #[x,y]).run P w= .ok (.slice (some ⟨w.heap.size,0,none⟩) (len+n) ncap) (w.drew.alloc (.cells c e))∧len+n≤ncap∧c.size=ncap*s∧
   ∃rest:List Value,c.toList=old++l++rest∧∀u∈rest,u.oneCell'=true:=by
 subst hx; subst hy
 obtain⟨i,hi,his⟩:=Option.map_eq_some_iff.1 H.hs
 obtain⟨i',hi',hib⟩:=Option.map_eq_some_iff.1 H.hby
 rw[hi] at hi'; cases hi'
 obtain⟨z,hz,hzl⟩:=H.hz
 obtain⟨zv,hzv,hzc,_,hz1⟩:=cD_zero hz (fun _=>none) w
 have hzi:i.zero=some zv:=by
  simp only[zeroValue,typeInfo] at hzv
  simp[hi] at hzv
  cases hq:i.zero with
  |none=>simp[hq] at hzv
  |some u=>simp[hq] at hzv; rw[hzv]
 have hzs:zv.cells.size=s:=by rw[←hzl,hzc]; simp
 have h63:¬(9223372036854775807<((len:Int)+(n:Int))):=by
  have:(len+n)≤(len+n)*by':=Nat.le_mul_of_pos_right _ hb0
  omega
 have hfit:=growslice_fits hc hb
 have h48:¬(281474976710656<Builtin.nextslicecap (len+n) cap*by'):=by omega
 have hdr:w.drew.heap=w.heap:=rfl
 have hcut:=grownCap w (len+n) cap e
 have hcap:len+n≤grownCap w (len+n) cap e:=by simp only[grownCap,Question.cut]; omega
 refine⟨(old.toArray++l.toArray++Builtin.zeroCells zv.cells (grownCap w (len+n) cap e-(len+n))),grownCap w (len+n) cap e, ?_,hcap, ?_, ?_⟩
 ·have hx2:=hx' w.drew hdr
  have hy2:=hy' w.drew hdr
  simp[Builtin.append_,run_underlying (und_of_sli H.ht),run_underlying (und_of_sli H.ht'),sizeOf,typeInfo,zeroValue,hi,hzi,his,hib,Builtin.lenOf,show ¬(len+n≤cap) by omega,h63,h48,Question.forced,hx2,hy2,newRow,grownCap]
  congr 2
  apply Array.ext'
  simp[List.append_assoc]
 ·simp only[Array.size_append,List.size_toArray,ho,hl,size_zeroCells,hzs]
  rw[←Nat.add_mul,←Nat.add_mul]; congr 1; omega
 ·exact⟨(Builtin.zeroCells zv.cells (grownCap w (len+n) cap e-(len+n))).toList,by simp,fun u hu=>hz1 u (zeroCells_mem hu)⟩
theorem any_rep {w:World}:∀rest:List Value,zf6 M w (List.replicate rest.length .any) rest
 |[]=>rfl
 |a::r=>⟨a,r,rfl,trivial,any_rep r⟩
theorem appB_new {t t' e:TypeId} {s by':Nat} (H:AppT P t t' e s by') {base:Option Addr} {len cap:Nat} {x y:Value} (hx:x= .slice base len cap) {o':Own} {ys:List (List D)} (ry:Rep M w (.slice o' ys) y)
  {olds:List D} {old:List Value} (hol:old.length=len*s) (hor:zf6 M w olds old) (ho1:∀u∈old,u.oneCell'=true) (hx':∀w':World,w'.heap=w.heap→(Builtin.firstCells s len x).run P w'= .ok old.toArray w')
  (hys:∀r∈ys,r.length=s) (hc:cap<len+ys.length) (hb0:0<by') (hb:(len+ys.length)*by'≤140737488355328) (hi:Inv M σ w) (ty:TypeId):
  ∃w' M' b ncap,(Builtin.append_ #[t,t'] ty #[x,y]).run P w= .ok (.slice (some ⟨b,0,none⟩) (len+ys.length) ncap) w'∧len+ys.length≤ncap∧¬σ.has b∧
   Inv M' (σ.set b (olds++ys.flatten++List.replicate ((ncap-(len+ys.length))*s) .any)) w'∧KeepF M σ w M' (σ.set b (olds++ys.flatten++List.replicate ((ncap-(len+ys.length))*s) .any)) w':=by
 obtain⟨nl,nl1,nl2,nl3,⟨base',cap',hy⟩,nl4⟩:=first_run (P:=P) ry hys
 obtain⟨c,ncap,hrun,g1,g2,rest,g3,g4⟩:=append_growZ H hx hy hc hb hb0 hol nl1 hx' nl4 ty
 obtain⟨hi1,hk1⟩:=drew_inv hi
 have hrl:rest.length=(ncap-(len+ys.length))*s:=by
  have h1:c.size=old.length+nl.length+rest.length:=by
   rw[←Array.length_toList,g3,List.length_append,List.length_append]
  rw[g2,hol,nl1] at h1
  have h2:ncap*s=(ncap-(len+ys.length))*s+(len+ys.length)*s:=by rw[←Nat.add_mul]; congr 1; omega
  rw[Nat.add_mul] at h2
  omega
 have hall:zf6 M w.drew (olds++ys.flatten++List.replicate ((ncap-(len+ys.length))*s) .any) c.toList:=by
  rw[g3,←hrl]
  exact(zf6.keep hk1.toKeep _ _ (hor.append nl2)).append (any_rep rest)
 obtain⟨hi2,hk2⟩:=hi1.addBox (c:=c) e hall fun u hu=>by
  rw[g3] at hu
  rcases List.mem_append.1 hu with hu|hu
  ·rcases List.mem_append.1 hu with hu|hu
   ·exact ho1 u hu
   ·exact nl3 u hu
  ·exact g4 u hu
 exact⟨_,_,w.heap.size,ncap,hrun,g1,hi.fresh,hi2,hk1.trans hi.dom hk2⟩
end
end Go.AL
namespace Go.AL
section
variable {P : Program} {N : Nat} {M : MMap} {T : Env} {σ : St} {a : Act} {w : World} {K : Env → St → Prop} {Q : XA → Env → St → Prop}
variable [DSt]
def Nx (N:Nat) (M:MMap) (σ:St) (w:World) (K:Env→St→Prop) (a':Act) (w':World):Prop:=
 ∃M' T' σ',AInv N M' T' σ' a' w'∧KeepF M σ w M' σ' w'∧K T' σ'
theorem putK_sound {M':MMap} {σ':St} {w':World} {dst:Option Nat} {d:D} {v:Value} (h:putK N dst d K T σ') (hi:AInv N M' T σ' a w') (hk:KeepF M σ w M' σ' w') (hr:Rep M' w' d v):
  Nx N M σ w K (a.put dst v) w':=by
 cases dst with
 |none=>exact⟨M',T,σ',hi,hk,h⟩
 |some t=>
  obtain⟨h1,h2⟩:=h
  exact⟨M',upd T t d,σ',hi.put (dst:=some t) (fun u hu=>(by cases hu; exact h1)) hr,hk,h2⟩
theorem eval_const (a:Act) (v:Value):a.eval (.const v)=v:=rfl
theorem wp_value {o:Oper} {v:Value} {w':World} {Qc:Exit→Act→World→Prop} {next:Act→World→Prop} (hrun:(execOp a.eval o).run P w= .ok (.value v) w') (h:next (a.put o.dst v) w'):o.wp P a w next Qc:=by
 unfold Oper.wp; rw[hrun,Oper.upon_value]; exact h
theorem join_has {s fr:St} (b:Nat):(St.join s fr).has b↔s.has b∨fr.has b:=by
 simp only[St.has,St.join]
 cases s.box b <;> cases s.buf b <;> cases s.mp b <;> cases fr.box b <;> cases fr.buf b <;> cases fr.mp b <;> simp
theorem split_inv {s fr:St} (hs:St.split σ s fr) (h:Inv M σ w):Inv M s w∧Inv M fr w:=by
 obtain⟨rfl,hap⟩:=hs
 refine⟨⟨fun b cs hb=>h.box b cs (by simp[St.join,hb]),fun b t n hb=>h.buf b t n (by simp[St.join,hb]),fun b o hb=>h.mp b o (by simp[St.join,hb]),h.dom⟩,⟨fun b cs hb=>h.box b cs ?_,fun b t n hb=>h.buf b t n ?_,fun b o hb=>h.mp b o ?_,h.dom⟩⟩
 ·have:s.box b=none:=by
   cases hc:s.box b with
   |none=>rfl
   |some c=>exact absurd (has_box hb) (hap b (has_box hc))
  simp[St.join,this,hb]
 ·have:s.buf b=none:=by
   cases hc:s.buf b with
   |none=>rfl
   |some c=>exact absurd (has_buf hb) (hap b (has_buf hc))
  simp[St.join,this,hb]
 ·have:s.mp b=none:=by
   cases hc:s.mp b with
   |none=>rfl
   |some c=>exact absurd (has_mp hb) (hap b (has_mp hc))
  simp[St.join,this,hb]
theorem join_inv {s fr s':St} {M':MMap} {w':World} (hs:St.split σ s fr) (h:Inv M σ w) (h':Inv M' s' w') (hk:KeepF M s w M' s' w'):
  Inv M' (St.join s' fr) w'∧KeepF M σ w M' (St.join s' fr) w'∧St.apart s' fr:=by
 obtain⟨i1,i2⟩:=split_inv hs h
 have hd:∀b,σ.has b↔s.has b∨fr.has b:=fun b=>by rw[hs.eq]; exact join_has b
 have hfr:∀b,fr.has b→M' b=M b∧w'.heap[b]? =w.heap[b]? :=fun b hb=>hk.frame b (i2.lt hb) fun hin=>hs.apart b hin hb
 have hap':St.apart s' fr:=fun b hb hb'=>by
  rcases hk.fresh b hb with h1|h1
  ·exact hs.apart b h1 hb'
  ·have:=i2.dom b (i2.lt hb'); omega
 refine⟨⟨fun b cs hb=> ?_,fun b t n hb=> ?_,fun b o hb=> ?_,h'.dom⟩,{hk.toKeep with frame:=fun b hM hb=>hk.frame b hM fun hin=>hb ((hd b).2 (.inl hin)),fresh:=fun b hb=> ?_},hap'⟩
 ·cases hc:s'.box b with
  |some c=>simp only[St.join,hc,Option.some_or] at hb; exact h'.box b cs (hc.trans hb)
  |none=>
   simp only[St.join,hc,Option.none_or] at hb
   exact(i2.box b cs hb).keep hk.toKeep (hfr _ (has_box hb)).1 (hfr _ (has_box hb)).2
 ·cases hc:s'.buf b with
  |some c=>simp only[St.join,hc,Option.some_or] at hb; exact h'.buf b t n (hc.trans hb)
  |none=>
   simp only[St.join,hc,Option.none_or] at hb
   exact(i2.buf b t n hb).keep (hfr _ (has_buf hb)).1 (hfr _ (has_buf hb)).2
 ·cases hc:s'.mp b with
  |some c=>simp only[St.join,hc,Option.some_or] at hb; exact h'.mp b o (hc.trans hb)
  |none=>
   simp only[St.join,hc,Option.none_or] at hb
   exact(i2.mp b o hb).keep hk.toKeep (hfr _ (has_mp hb)).1 (hfr _ (has_mp hb)).2
 ·rcases(join_has b).1 hb with hb|hb
  ·rcases hk.fresh b hb with h1|h1
   ·exact .inl ((hd b).2 (.inl h1))
   ·exact .inr h1
  ·exact .inl ((hd b).2 (.inr hb))
theorem panK_sound {d:D} {v:Value} {M':MMap} {σ':St} {w':World} (h:panK Q d σ') (hi:AInv N M' T σ' a w') (hk:KeepF M σ w M' σ' w') (hr:Rep M' w' d v):
  Post N M σ w Q (.panic [{v,recovered:=false}]) a w':=by
 obtain⟨s,hs,hq⟩:=h
 exact⟨M',fun _=> .any,s,.panic d,⟨v,rfl,hr⟩,hi.forget (fun _=> .inl rfl) hs,{hk.toKeep with frame:=hk.frame,fresh:=fun b hb=>hk.fresh b (hs.has hb)},hq⟩
theorem callFunc_run {f:FuncId} (h:Enters P f) (args:Array Value) (w:World):(callFunc f args).run P w= .ok (.enter f args) w:=by
 obtain⟨fn,hf,hn,hb⟩:=h
 have hn':fn.name≠ "runtime.NumGoroutine" :=by simpa using hn
 have hb':fn.body≠none:=fun h0=>by rw[h0] at hb; cases hb
 simp[callFunc,hf,hn',hb']
theorem callA_sound {o:Oper} {g:FuncId} {ds:List D} {vs:Array Value} (h:callA P N o.dst g ds K Q T σ) (hi:AInv N M T σ a w)
  (hr:zf6 M w ds vs.toList) (hrun:Enters P g→(execOp a.eval o).run P w= .ok (.enter g vs) w):o.wp P a w (Nx N M σ w K) (Post N M σ w Q):=by
 obtain⟨s,fr,R,hs,hc,hR⟩:=h
 obtain⟨i1,i2⟩:=split_inv hs hi.inv
 unfold Oper.wp
 rw[hrun hc.enters,Oper.upon_enter]
 refine(hc.run M w vs.toList i1 hr).mono fun e w' ⟨M',s',x,h1,h2,h3,h4⟩=> ?_
 obtain⟨j1,j2,j3⟩:=join_inv hs hi.inv h2 h3
 have hai:AInv N M' T (St.join s' fr) a w':=hi.keep j2.toKeep j1
 have:=hR x s' h4 j3 ⟨w'.heap.size,fun b hb hin=>by have:=h2.dom b (h2.lt hin); omega⟩
 cases x with
 |ret d=>
  obtain⟨v,rfl,hv⟩:=h1
  exact putK_sound this hai j2 hv
 |pan d=>
  obtain⟨v,rfl,hv⟩:=h1
  exact panK_sound this hai j2 hv
theorem box_at (hi:Inv M σ w) {b:Nat} {cs:List D} (h:σ.box b=some cs):∃c e,w.heap[b]? =some (.cells c e (0,0))∧zf6 M w cs c.toList∧∀u∈c.toList,u.oneCell'=true:=
 (hi.box _ _ h).2
theorem loadBox_rep (hi:Inv M σ w) {b off:Nat} {cs:List D} (h:σ.box b=some cs) {t:TypeId} {d:D} (hp:partD P t (cs.drop off) 0=some d):
  ∃v,(loadVar t ⟨b,off,none⟩).run P w= .ok v w∧Rep M w d v:=by
 obtain⟨c,e,hc,hr,h1⟩:=box_at hi h
 have hr':=hr.drop off
 unfold partD at hp
 split at hp
 ·rename_i n hg hs
  split at hp
  ·rename_i hle
   cases hp
   have hlen:n≤(cs.drop off).length:=by omega
   have hl:=run_loadCells_list (P:=P) w ⟨b,off,none⟩ ((c.toList.drop off).take n) (fun j v hv=>by
    rw[addr_add]
    refine cell_of hc ?_
    rw[List.getElem?_take] at hv
    split at hv
    ·rw[List.getElem?_drop] at hv; simpa using hv
    ·cases hv)
   have hln:((c.toList.drop off).take n).length=n:=by have:=hr'.length; rw[List.length_take]; omega
   rw[hln] at hl
   refine⟨_,by simp[loadVar,run_isAgg hg,run_sizeOf hs,hl]; rfl,_,rfl, ?_, ?_⟩
   ·simpa using hr'.take n
   ·intro u hu
    have hu':u∈(c.toList.drop off).take n:=by simpa using hu
    exact h1 u (List.mem_of_mem_drop (List.mem_of_mem_take hu'))
  ·cases hp
 ·rename_i n hg hs
  obtain⟨v,hv,hr2⟩:=hr'.get hp
  have hcell:w.cell? ⟨b,off,none⟩=some v:=cell_of hc (by rw[List.getElem?_drop] at hv; simpa using hv)
  exact⟨v,by simp[loadVar,run_isAgg hg,load,Sem.run,hcell],hr2⟩
 ·cases hp
theorem pureK_sound {o:Oper} (h:match pureD P o.op T with|some (side,d)=>side∧putK N o.dst d K T σ|none=>False) (hi:AInv N M T σ a w):o.wp P a w (Nx N M σ w K) (Post N M σ w Q):=by
 split at h
 ·rename_i side d hp
  obtain⟨v,h1,h2⟩:=pureD_sound hp h.1 hi
  exact wp_value h1 (putK_sound h.2 hi (KeepF.refl _ _ _) h2)
 ·exact h.elim
theorem nil_run {xt e:TypeId} (he:sliP P xt=some e) {o:Own} {es:List (List D)} {v:Value} (hr:Rep M w (.slice o es) v):∃r,(Op.equal xt v (.slice none 0 0)).run P w= .ok r w∧nilR o es r:=by
 have key:∀(b:Option Addr) (l c:Nat),(Op.equal xt (.slice b l c) (.slice none 0 0)).run P w= .ok b.isNone w:=fun b l c=>by
  show(Op.equalIn (9999+1) xt (.slice b l c) (.slice none 0 0)).run P w=_
  rw[Op.equalIn]
  cases b <;> simp[run_underlying (und_of_sli he)]
 cases o with
 |nil=>obtain⟨rfl,_⟩:=hr; exact⟨true,key _ _ _,rfl⟩
 |exact=>obtain⟨b,off,s,rfl,_⟩:=hr; exact⟨false,key _ _ _,rfl⟩
 |buf b s=>obtain⟨cap,_,_,_,rfl,_⟩:=hr; exact⟨false,key _ _ _,rfl⟩
 |no=>
  rcases hr with⟨rfl,rfl⟩|⟨b,off,cap,s,rfl,_⟩|⟨a,cap,rfl,rfl⟩
  ·exact⟨true,key _ _ _,fun h=>absurd rfl h⟩
  ·exact⟨false,key _ _ _,fun _=>rfl⟩
  ·exact⟨false,key _ _ _,fun _=>rfl⟩
theorem chunks_flat {s:Nat}:∀(n:Nat) (l:List D),l.length=n*s→(chunks s n l).flatten=l∧(∀r∈chunks s n l,r.length=s)∧(chunks s n l).length=n
 |0,l,h=>by
  have:l=[]:=List.eq_nil_of_length_eq_zero (by simpa using h)
  subst this; simp[chunks]
 |n+1,l,h=>by
  rw[Nat.add_mul] at h
  obtain⟨h1,h2,h3⟩:=chunks_flat (s:=s) n (l.drop s) (by simp; omega)
  refine⟨by simp[chunks,h1],fun r hr=> ?_,by simp[chunks,h3]⟩
  simp only[chunks,List.mem_cons] at hr
  rcases hr with rfl|hr
  ·simp; omega
  ·exact h2 r hr
theorem zeroCells_list (z:Array Value):∀n,(Builtin.zeroCells z n).toList=(List.replicate n z.toList).flatten
 |0=>by simp[Builtin.zeroCells]
 |n+1=>by
  have ih:=zeroCells_list z n
  simp only[Builtin.zeroCells,Array.toList_map,Array.toList_range] at ih ⊢
  rw[List.replicate_succ',List.flatten_append,←ih,Nat.add_mul,Nat.one_mul,List.range_add,List.map_append,List.map_map]
  congr 1
  simp only[List.flatten_cons,List.flatten_nil,List.append_nil]
  apply List.ext_getElem
  ·simp
  ·intro i h1 h2
   simp at h1
   simp[Nat.mul_add_mod',Nat.mod_eq_of_lt h1,h1,Nat.add_mod]
theorem replicate_rep {ds:List D} {vs:List Value} (h:zf6 M w ds vs):∀n,zf6 M w (List.replicate n ds).flatten (List.replicate n vs).flatten
 |0=>rfl
 |n+1=>by
  simp only[List.replicate_succ,List.flatten_cons]
  exact h.append (replicate_rep h n)
theorem fillD_length {place:Nat→Option (Nat×TypeId)} {fz:D→D}:∀(parts:List (Nat×Operand)) (cells out:List D),fillD place P T fz parts cells=some out→out.length=cells.length
 |[],cells,out,h=>by simp only[fillD,Option.some.injEq] at h; subst h; rfl
 |(i,x)::rest,cells,out,h=>by
  simp only[fillD] at h
  split at h
  ·cases h
  ·split at h
   ·split at h
    ·rename_i hle
     rw[fillD_length rest _ out h]
     simp only[layD,List.length_append,List.length_take,List.length_map,List.length_drop]
     omega
    ·cases h
   ·cases h
theorem wp_skip' {o:Oper} {w':World} {Qc:Exit→Act→World→Prop} {next:Act→World→Prop} (hrun:(execOp a.eval o).run P w= .ok .skip w') (h:next (a.put o.dst undef) w'):o.wp P a w next Qc:=by
 unfold Oper.wp; rw[hrun,Oper.upon_skip]; exact h
theorem appendA_sound {o:Oper} {t t' ty:TypeId} {dx dy:D} {x y:Value} (h:appendA P N o.dst t t' dx dy K T σ) (hi:AInv N M T σ a w) (rx:Rep M w dx x) (ry:Rep M w dy y)
  (hrun:∀v w',(Builtin.append_ #[t,t'] ty #[x,y]).run P w= .ok v w'→(execOp a.eval o).run P w= .ok (.value v) w'):o.wp P a w (Nx N M σ w K) (Post N M σ w Q):=by
 unfold appendA at h
 split at h
 ·rename_i ow xs ow' ys e e' he he'
  obtain⟨rfl,h⟩:=h
  split at h
  ·rename_i s by' z hs hb hz
   obtain⟨rfl,hpos,hb0,hys,hbound,h⟩:=h
   obtain⟨zl,hzl,hzlen⟩:=Option.map_eq_some_iff.1 hz
   have H:AppT P t t' e zl.length by':=⟨he,he',by rw[hzlen]; exact hs,by rw[hzlen]; exact hpos,hb,zl,hzl,rfl⟩
   rw[hzlen] at H
   have fin:∀{σ₀:St} {es:List (List D)},AppPost P M σ σ₀ w z t t' ty x y es→(∀b',¬σ₀.has b'→putK N o.dst (.slice (.buf b' z) es) K T (σ₀.setBuf b' z es.length))→o.wp P a w (Nx N M σ w K) (Post N M σ w Q):=by
    intro σ₀ es hp hk
    obtain⟨v,w',M',b,h1,h2,h3,h4,h5⟩:=hp
    exact wp_value (hrun _ _ h1) (putK_sound (hk b h3) (hi.keep h5.toKeep h4) h5 h2)
   have still:∀{base:Option Addr} {len cap:Nat},x= .slice base len cap→len≤cap→ys=[]→(Builtin.append_ #[t,t'] ty #[x,y]).run P w= .ok x w:=by
    intro base len cap hx hle hys0
    subst hys0
    obtain⟨l,l1,_,_,⟨b',c',hy⟩,l5⟩:=first_run (P:=P) ry (s:=z) (by simp)
    have:=l5 w rfl
    have hl:l=[]:=List.eq_nil_of_length_eq_zero (by simpa using l1)
    subst hl
    subst hx
    exact append_still H hle hy this ty
   split at h
   ·rename_i b s'
    obtain⟨rfl,hbuf,h⟩:=h
    refine fin (append_own H rx ry hys hb0 hbound hi.inv hbuf ty) fun b' hb'=> ?_
    rw[List.length_append]; exact h b' hb'
   ·obtain⟨rfl,rfl⟩:=rx
    by_cases hy0:ys=[]
    ·exact wp_value (hrun _ _ (still rfl (Nat.le_refl _) hy0)) (putK_sound (h.1 hy0) hi (KeepF.refl _ _ _) ⟨rfl,rfl⟩)
    ·have hl:0<ys.length:=by cases ys with|nil=>exact absurd rfl hy0|cons a l=>simp
     have:=append_new H rfl (o:= .nil) (xs:=[]) ⟨rfl,rfl⟩ ry rfl (by simp) hys (by omega) hb0 hbound hi.inv hi.inv (fun _ h=>h) ty
     simp only[List.nil_append] at this
     exact fin this (h.2 hy0)
   ·obtain⟨hxs,h⟩:=h
    obtain⟨b,off,size,hx,hrow⟩:=id rx
    by_cases hy0:ys=[]
    ·exact wp_value (hrun _ _ (still hx (Nat.le_refl _) hy0)) (putK_sound (h.1 hy0) hi (KeepF.refl _ _ _) rx)
    ·have hl:0<ys.length:=by cases ys with|nil=>exact absurd rfl hy0|cons a l=>simp
     refine fin (append_new H hx rx ry rfl hxs hys (by omega) hb0 hbound hi.inv hi.inv (fun _ h=>h) ty) fun b' hb'=> ?_
     rw[List.length_append]; exact h.2 hy0 b' hb'
   ·exact h.elim
  ·exact h.elim
 ·rename_i b s k xs ow' ys e e' he he'
  obtain⟨rfl,hs,hby,hz,hpos,hys,hk,hbuf,h⟩:=h
  obtain⟨by',hby⟩:=Option.isSome_iff_exists.1 hby
  obtain⟨zl,hzl,hzlen⟩:=Option.map_eq_some_iff.1 hz
  obtain⟨v,w',M',h1,h2,h3,h4⟩:=append_roomy ⟨he,he',hs,hpos,hby,zl,hzl,hzlen⟩ rx ry hys hk hi.inv hbuf ty
  exact wp_value (hrun _ _ h1) (putK_sound h (hi.keep h4.toKeep h3) h4 h2)
 ·exact h.elim
theorem appendB_sound {o:Oper} {t t' ty:TypeId} {dx dy:D} {x y:Value} (h:appendB P N o.dst t t' dx dy K T σ) (hi:AInv N M T σ a w) (rx:Rep M w dx x) (ry:Rep M w dy y)
  (hrun:∀v w',(Builtin.append_ #[t,t'] ty #[x,y]).run P w= .ok v w'→(execOp a.eval o).run P w= .ok (.value v) w'):o.wp P a w (Nx N M σ w K) (Post N M σ w Q):=by
 unfold appendB at h
 split at h
 ·rename_i ow' ys e e' he he'
  obtain⟨rfl,h⟩:=h
  split at h
  ·rename_i s by' z hs hb hz
   obtain⟨rfl,hpos,hb0,hys,h⟩:=h
   obtain⟨zl,hzl,hzlen⟩:=Option.map_eq_some_iff.1 hz
   have H:AppT P t t' e zl.length by':=⟨he,he',by rw[hzlen]; exact hs,by rw[hzlen]; exact hpos,hb,zl,hzl,rfl⟩
   rw[hzlen] at H
   split at h
   ·rename_i xs
    obtain⟨rfl,rfl⟩:=rx
    obtain⟨hne,hbd,h⟩:=h
    have hl:0<ys.length:=List.length_pos_iff.2 hne
    obtain⟨w',M',b,ncap,r1,r2,r3,r4,r5⟩:=appB_new (σ:=σ) H (len:=0) (cap:=0) (base:=none) rfl ry (olds:=[]) (old:=[]) (by simp) rfl (by simp) (fun w' _=>by simp[Builtin.firstCells]) hys (by omega) hb0 (by rw[Nat.zero_add]; exact hbd) hi.inv ty
    simp only[Nat.zero_add,List.nil_append] at r1 r2 r4 r5
    exact wp_value (hrun _ _ r1) (putK_sound (h b ncap r3 r2) (hi.keep r5.toKeep r4) r5 rfl)
   ·rename_i b len cap
    split at h
    ·rename_i cs hcs
     obtain⟨hle,hcl,hbd,hin,hout⟩:=h
     have hx:x= .slice (some ⟨b,0,none⟩) len cap:=rx
     obtain⟨cc,ce,hc,hrc,ho1⟩:=box_at hi.inv hcs
     have hlen:=hrc.length
     have hsz:cc.size=cap*z:=by simpa[hcl] using hlen.symm
     obtain⟨nl,nl1,nl2,nl3,⟨base',cap',hy⟩,nl4⟩:=first_run (P:=P) ry hys
     by_cases hroom:len+ys.length≤cap
     ·have hfit:(len+ys.length)*z≤cap*z:=Nat.mul_le_mul_right _ hroom
      rw[Nat.add_mul] at hfit
      obtain⟨c',r1,r3⟩:=append_room H (e₀:=ce) hc hy hroom hsz nl1 nl3 (nl4 w rfl) ty
      have hrep:zf6 M w (layD cs (len*z) ys.flatten) c'.toList:=by
       rw[r3]
       simp only[layD,nl2.length,nl1]
       exact((hrc.take _).append nl2).append (hrc.drop _)
      have hone:∀u∈c'.toList,u.oneCell'=true:=by
       rw[r3]
       intro u hu
       simp only[List.mem_append] at hu
       rcases hu with(hu|hu)|hu
       ·exact ho1 u (List.mem_of_mem_take hu)
       ·exact nl3 u hu
       ·exact ho1 u (List.mem_of_mem_drop hu)
      obtain⟨i1,i2⟩:=hi.inv.setBox hcs ⟨cc,hc⟩ hrep hone
      exact wp_value (hrun _ _ (by rw[hx]; exact r1)) (putK_sound (hin hroom) (hi.keep i2.toKeep i1) i2 rfl)
     ·have hfit:len*z≤cap*z:=Nat.mul_le_mul_right _ hle
      have hld:=run_loadCells_list (P:=P) w ⟨b,0,none⟩ (cc.toList.take (len*z)) (fun j v hv=>by
       rw[addr_add,Nat.zero_add]
       refine cell_of hc ?_
       rw[List.getElem?_take] at hv
       split at hv
       ·simpa using hv
       ·cases hv)
      have htl:(cc.toList.take (len*z)).length=len*z:=by rw[List.length_take,Array.length_toList,hsz]; exact Nat.min_eq_left hfit
      rw[htl] at hld
      obtain⟨w',M',b',ncap,r1,r2,r3,r4,r5⟩:=appB_new (σ:=σ) H hx ry (olds:=cs.take (len*z)) (old:=cc.toList.take (len*z)) htl (hrc.take _) (fun u hu=>ho1 u (List.mem_of_mem_take hu)) (fun w' hw=>by
       rw[hx]
       simp only[Builtin.firstCells]
       have:=run_loadCells_list (P:=P) w' ⟨b,0,none⟩ (cc.toList.take (len*z)) (fun j v hv=>by
        rw[cell_heap hw,addr_add,Nat.zero_add]
        refine cell_of hc ?_
        rw[List.getElem?_take] at hv
        split at hv
        ·simpa using hv
        ·cases hv)
       rw[htl] at this
       exact this) hys (by omega) hb0 hbd hi.inv ty
      exact wp_value (hrun _ _ r1) (putK_sound (hout (by omega) b' ncap r3 r2) (hi.keep r5.toKeep r4) r5 rfl)
    ·exact h.elim
   ·exact h.elim
  ·exact h.elim
 ·exact h.elim
theorem make_cells {o:Oper} {t e:TypeId} {l c:Operand} {k k':IntKind} {n:Int} {s by':Nat} {z:List D} (ho:o.op= .makeSlice t l c) (hi:AInv N M T σ a w) (hl:ev T l= .int k n) (hc:ev T c= .int k' n) (he:sliP P t=some e)
  (hsz:szP P e=some s) (hz:zf4 P e=some z) (hby:zd5 P e=some by') (hzl:z.length=s) (h0:0≤n) (h63:n≤9223372036854775807) (hb:(by':Int)*n≤140737488355328):
  ∃cells:Array Value,(execOp a.eval o).run P w= .ok (.value (.slice (some ⟨w.heap.size,0,none⟩) n.toNat n.toNat)) (w.alloc (.cells cells e))∧zf6 M w (List.replicate n.toNat z).flatten cells.toList∧∀u∈cells.toList,u.oneCell'=true:=by
 obtain⟨zv,g1,_,g3,g4⟩:=cD_zero hz M w
 simp only[szP,Option.map_eq_some_iff] at hsz
 obtain⟨i,hinfo,rfl⟩:=hsz
 have hiz:i.zero=some zv:=by
  cases hq:i.zero with
  |none=>simp[zeroValue,typeInfo,hinfo,hq] at g1
  |some q=>simp[zeroValue,typeInfo,hinfo,hq] at g1; rw[g1]
 have hbi:i.bytes=by':=by simpa[zd5,hinfo] using hby
 have rl:=ev_rep hi l
 rw[hl] at rl; simp only[Rep] at rl
 have rc:=ev_rep hi c
 rw[hc] at rc; simp only[Rep] at rc
 have hzs:zv.cells.size=i.size:=by have:=g3.length; simp at this; omega
 have hrun:=run_make (P:=P) w t e i zv (und_of_sli he) hinfo hiz k k' n n h0 (Int.le_refl _) (by rw[hbi]; omega) h63
 have hcl:(madeCells zv.cells (n.toNat*i.size)).toList=(List.replicate n.toNat zv.cells.toList).flatten:=by
  rw[←hzs]
  exact zeroCells_list zv.cells n.toNat
 refine⟨madeCells zv.cells (n.toNat*i.size),by simp[execOp,ho,rl,rc,hrun],by rw[hcl]; exact replicate_rep g3 _,fun u hu=> ?_⟩
 rw[hcl] at hu
 simp only[List.mem_flatten,List.mem_replicate] at hu
 obtain⟨l',⟨_,rfl⟩,hu⟩:=hu
 exact g4 u hu
theorem updA_sound {o:Oper} {t:TypeId} {m k v:Operand} (h:updA P N o.dst t (ev T m) (ev T k) (ev T v) K T σ) (hi:AInv N M T σ a w)
  (hrun:∀w',(Instr.mapUpdate t (a.eval m) (a.eval k) (a.eval v)).run P w= .ok () w'→(execOp a.eval o).run P w= .ok .skip w'):o.wp P a w (Nx N M σ w K) (Post N M σ w Q):=by
 unfold updA at h
 split at h
 ·rename_i b kt et hb hm
  have hx:=ev_rep hi m
  rw[hb] at hx
  simp only[Rep] at hx
  split at h
  ·rename_i kk k' kk' ks vs clock hkk hk hmp
   obtain⟨rfl,hkind,h⟩:=h
   have hy:=keyD_rep hk (ev_rep hi k)
   obtain⟨w',h1,h2,h3⟩:=upd_sound (P:=P) hi.inv hm hkk hmp hkind (ev_rep hi v)
   refine wp_skip' (hrun w' (by rw[hx,hy]; exact h1)) (putK_sound h (hi.keep h3.toKeep h2) h3 trivial)
  ·exact h.elim
 ·exact h.elim
theorem aop_sound [Mo] {o:Oper} (h:aop P N o.dst o.op K Q T σ) (hi:AInv N M T σ a w):o.wp P a w (Nx N M σ w K) (Post N M σ w Q):=by
 obtain⟨dst,op,type,pos,after,guard⟩:=o
 unfold aop at h
 simp only at h
 split at h
 ·
  rename_i t x
  have hr:=ev_rep hi x
  split at h
  ·rename_i b off hx
   rw[hx] at hr; simp only[Rep] at hr
   split at h
   ·rename_i cs hcs
    split at h
    ·rename_i d hd
     obtain⟨v,h1,h2⟩:=loadBox_rep (P:=P) hi.inv hcs hd
     exact wp_value (v:=v) (w':=w) (by simp[execOp,hr,Instr.loadAt,Instr.sureAddr,h1]) (putK_sound h hi (KeepF.refl _ _ _) h2)
    ·exact h.elim
   ·exact h.elim
  ·rename_i cs hx
   rw[hx] at hr
   obtain⟨b,off,hr,hc⟩:=hr
   split at h
   ·rename_i d hd
    obtain⟨v,h1,h2⟩:=load_rep hd hc
    exact wp_value (v:=v) (w':=w) (by simp[execOp,hr,Instr.loadAt,Instr.sureAddr,h1]) (putK_sound h hi (KeepF.refl _ _ _) h2)
   ·exact h.elim
  ·exact h.elim
 ·
  rename_i t x y
  have hr:=ev_rep hi x
  split at h
  ·rename_i b off hx
   rw[hx] at hr; simp only[Rep] at hr
   split at h
   ·rename_i cs vs hcs hvs
    obtain⟨hle,h⟩:=h
    obtain⟨c1,c2,c3⟩:=cellsD_rep hvs (ev_rep hi y)
    obtain⟨c,e,hc,hrc,h1⟩:=box_at hi.inv hcs
    have hlen:=hrc.length
    have hvl:=c1.length
    obtain⟨c',r1,r2⟩:=run_store_cells (P:=P) b off e (a.eval y).cells.toList 0 c w hc (by simp at hlen hvl ⊢; omega) c2
    have hrep:zf6 M w (layD cs off vs) c'.toList:=by
     rw[r2,Nat.add_zero,←hvl]
     exact((hrc.take _).append c1).append (hrc.drop _)
    have hone:∀u∈c'.toList,u.oneCell'=true:=by
     rw[r2]
     intro u hu
     simp only[List.mem_append] at hu
     rcases hu with(hu|hu)|hu
     ·exact h1 u (List.mem_of_mem_take hu)
     ·exact c2 u hu
     ·exact h1 u (List.mem_of_mem_drop hu)
    obtain⟨i1,i2⟩:=hi.inv.setBox hcs ⟨c,hc⟩ hrep hone
    refine wp_skip' (w':=setRow w b c' e) ?_ (putK_sound h (hi.keep i2.toKeep i1) i2 trivial)
    simp[execOp,hr,Instr.storeAt,Instr.sureAddr,storeVar,run_sizeOf c3,r1]
   ·exact h.elim
  ·exact h.elim
 ·
  rename_i t
  split at h
  ·rename_i z hz
   obtain⟨zv,h1,_,h3,h4⟩:=cD_zero hz M w
   obtain⟨i1,i2⟩:=hi.inv.addBox t h3 h4
   exact wp_value (v:= .pointer (some ⟨w.heap.size,0,none⟩)) (w':=w.alloc (.cells zv.cells t)) (by simp[execOp,Instr.alloc,h1,newVar,newRow]) (putK_sound (h _ hi.inv.fresh) (hi.keep i2.toKeep i1) i2 rfl)
  ·exact h.elim
 ·
  rename_i t x
  split at h
  ·rename_i z hz
   obtain⟨c1,c2,c3⟩:=cellsD_rep hz (ev_rep hi x)
   obtain⟨i1,i2⟩:=hi.inv.addBox t c1 c2
   exact wp_value (v:= .pointer (some ⟨w.heap.size,0,none⟩)) (w':=w.alloc (.cells (a.eval x).cells t)) (by simp[execOp,Instr.box,newVar,newRow]) (putK_sound (h _ hi.inv.fresh) (hi.keep i2.toKeep i1) i2 rfl)
  ·exact h.elim
 ·
  rename_i t len parts
  split at h
  ·rename_i e he
   split at h
   ·rename_i s z hs hz
    obtain⟨hzl,hmax,h⟩:=h
    split at h
    ·rename_i cs hcs
     obtain⟨zv,h1,_,h3,h4⟩:=cD_zero hz M w
     have hzs:zv.cells.size=s:=by have:=h3.length; simp at this; omega
     have hz':zf6 M w (List.replicate len z).flatten ((Array.range (len*s)).map (zv.cells[· % zv.cells.size]!)).toList∧∀u∈((Array.range (len*s)).map (zv.cells[· % zv.cells.size]!)).toList,u.oneCell'=true:=by
      have hcl:((Array.range (len*s)).map (zv.cells[· % zv.cells.size]!)).toList=(List.replicate len zv.cells.toList).flatten:=by
       have:=zeroCells_list zv.cells len
       simp only[Builtin.zeroCells,hzs] at this
       rw[hzs]; exact this
      rw[hcl]
      refine⟨replicate_rep h3 len,fun u hu=> ?_⟩
      simp only[List.mem_flatten,List.mem_replicate] at hu
      obtain⟨l,⟨_,rfl⟩,hu⟩:=hu
      exact h4 u hu
     obtain⟨res,g1,g2,g3⟩:=fill_sound (place:=fun i=>some (i*s,e)) (fz:=frz) (pl:=fun i=>some (i*s,s)) (fun _ _ h=>frz_rep h) (fun i off ty hp=>by
      simp only[Option.some.injEq,Prod.mk.injEq] at hp
      obtain⟨rfl,rfl⟩:=hp
      exact⟨s,rfl,hs⟩) hi parts.toList _ cs hcs _ hz'.1 hz'.2
     have hclen:cs.length=len*s:=by
      rw[fillD_length _ _ _ hcs]; simp[hzl]
     obtain⟨f1,f2,f3⟩:=chunks_flat len cs hclen
     obtain⟨i1,i2⟩:=hi.inv.addImm (.cells res e)
     refine wp_value (v:= .slice (some ⟨w.heap.size,0,none⟩) len len) (w':=w.alloc (.cells res e)) ?_ (putK_sound h (hi.keep i2.toKeep i1) i2 ?_)
     ·by_cases h0:len*s=0
      ·rw[h0] at g1
       have er:∀f:Nat→Value,Array.map f (Array.range 0)= #[]:=fun f=>by apply Array.ext'; simp
       rw[er] at g1
       simp[er,execOp,Instr.buildSlice,run_underlying (und_of_sli he),run_sizeOf hs,h0,newRow,g1]
      ·have h0':¬(len=0∨s=0):=fun h=>h0 (Nat.mul_eq_zero.2 h)
       simp only[List.map_map] at g1
       simp[execOp,Instr.buildSlice,run_underlying (und_of_sli he),run_sizeOf hs,show ¬(16777216<len*s) by omega,h0',newRow,h1,g1]
       exact fun h=>absurd h h0
     ·refine⟨w.heap.size,0,s,by rw[f3],rows_of f2 (by rw[f1]; exact zf6.keep i2.toKeep _ _ g2) fun j v hv=> ?_⟩
      refine⟨cell_of (heap_alloc_new _ _) (by simpa using hv),g3 v (List.mem_of_getElem? hv), ?_⟩
      simp only[ImmAt]
      cases hm:M w.heap.size with
      |none=>trivial
      |some m=>have:=hi.inv.dom w.heap.size (by simp[hm]); omega
    ·exact h.elim
   ·exact h.elim
  ·exact h.elim
 ·
  rename_i t l c
  split at h
  ·split at h
   ·rename_i side z f hm
    obtain⟨hs,h⟩:=h
    unfold makeB at hm
    split at hm
    ·rename_i k n k' m e hl hc he
     split at hm
     ·rename_i s z by' hsz hz hby
      simp only[Option.some.injEq,Prod.mk.injEq] at hm
      obtain⟨rfl,rfl,rfl⟩:=hm
      obtain⟨hzl,rfl,h0,h63,hb⟩:=hs
      obtain⟨cells,g1,g2,g3⟩:=make_cells (o:={dst,op:= .makeSlice t l c,type,pos,after,guard}) rfl hi hl hc he hsz hz hby hzl h0 h63 hb
      obtain⟨i1,i2⟩:=hi.inv.addBox e g2 g3
      exact wp_value g1 (putK_sound (h _ hi.inv.fresh) (hi.keep i2.toKeep i1) i2 rfl)
     ·cases hm
    ·cases hm
   ·exact h.elim
  split at h
  ·rename_i side d hm
   obtain⟨hs,h⟩:=h
   unfold makeA at hm
   split at hm
   ·rename_i k n k' m e hl hc he
    split at hm
    ·rename_i s z by' hsz hz hby
     simp only[Option.some.injEq,Prod.mk.injEq] at hm
     obtain⟨rfl,rfl⟩:=hm
     obtain⟨hzl,rfl,h0,h63,hb⟩:=hs
     obtain⟨cells,g1,g2,g3⟩:=make_cells (o:={dst,op:= .makeSlice t l c,type,pos,after,guard}) rfl hi hl hc he hsz hz hby hzl h0 h63 hb
     obtain⟨i1,i2⟩:=hi.inv.addImm (.cells cells e)
     refine wp_value g1 (putK_sound h (hi.keep i2.toKeep i1) i2 ?_)
     refine⟨w.heap.size,0,s,by simp,rows_of (fun r hr=>by rw[List.eq_of_mem_replicate hr]; exact hzl) (zf6.keep i2.toKeep _ _ g2) fun j v hv=> ?_⟩
     refine⟨cell_of (heap_alloc_new _ _) (by simpa using hv),g3 v (List.mem_of_getElem? hv), ?_⟩
     simp only[ImmAt]
     cases hm:M w.heap.size with
     |none=>trivial
     |some m=>have:=hi.inv.dom w.heap.size (by simp[hm]); omega
    ·cases hm
   ·cases hm
  ·exact h.elim
 ·
  rename_i t x i ok
  split at h
  ·rename_i d hd
   obtain⟨v,h1,h2⟩:=lookup_sound (P:=P) hi.inv hd (ev_rep hi x) (ev_rep hi i)
   exact wp_value (v:=v) (w':=w) (by simp[execOp,h1]) (putK_sound h hi (KeepF.refl _ _ _) h2)
  ·exact h.elim
 ·
  rename_i t m k v
  exact updA_sound (o:={dst,op:= .mapUpdate t m k v,type,pos,after,guard}) h hi fun w' hr=>by simp[execOp,hr]
 ·rename_i t m k v
  exact updA_sound (o:={dst,op:= .insert t m k v,type,pos,after,guard}) h hi fun w' hr=>by simp[execOp,hr]
 ·
  rename_i t
  unfold mkmA at h
  split at h
  ·rename_i kt et hm
   split at h
   ·rename_i kk hkk
    obtain⟨i1,i2⟩:=hi.inv.addMp (o:= .map kk [] [] 0) (x:= .map #[] 0) ⟨#[],rfl,rfl,rfl,rfl,List.nodup_nil,List.nodup_nil,fun p hp=>(by cases hp),fun p hp=>(by cases hp)⟩
    exact wp_value (v:= .map (some w.heap.size)) (w':=w.alloc (.map #[] 0)) (by simp[execOp,Instr.makeMap,newObj,Sem.run]) (putK_sound (h _ hi.inv.fresh) (hi.keep i2.toKeep i1) i2 rfl)
   ·exact h.elim
  ·exact h.elim
 ·
  rename_i t x
  have hx:=ev_rep hi x
  unfold rangeA at h
  split at h
  ·rename_i b p hb hm
   obtain⟨kt,et⟩:=p
   rw[hb] at hx
   simp only[Rep] at hx
   split at h
   ·rename_i kk ks vs clock hmp
    obtain⟨es,he,_⟩:=mp_at hi.inv hmp
    obtain⟨i1,i2⟩:=hi.inv.addMp (o:= .iter b clock []) (x:= .mapIter (some b) clock #[] clock) ⟨#[],rfl,rfl⟩
    exact wp_value (v:= .pointer (some ⟨w.heap.size,0,none⟩)) (w':=w.alloc (.mapIter (some b) clock #[] clock)) (by simp[execOp,hx,Instr.range,run_underlying (und_of_map hm),getObj,newObj,Sem.run,he]) (putK_sound (h _ hi.inv.fresh) (hi.keep i2.toKeep i1) i2 rfl)
   ·exact h.elim
  ·exact h.elim
 ·
  rename_i it
  have hx:=ev_rep hi it
  unfold nextA at h
  split at h
  ·rename_i r hr
   rw[hr] at hx
   simp only[Rep] at hx
   split at h
   ·rename_i m since seen hit
    split at h
    ·rename_i kk ks vs clock hmp
     obtain⟨hs,hdone,hstep⟩:=h
     rcases next_sound (P:=P) hi.inv (ty:=type) hit hmp hs with⟨hall,hrun⟩|⟨i,k,s,v,w',h1,h2,hrun,h3,h4,h5⟩
     ·exact wp_value (v:= .tuple #[.bool false]) (w':=w) (by simp[execOp,hx,hrun]) (putK_sound (hdone hall) hi (KeepF.refl _ _ _) ⟨_,rfl,_,_,rfl,rfl,rfl⟩)
     ·exact wp_value (v:= .tuple #[.bool true,k.v,v]) (w':=w') (by simp[execOp,hx,hrun]) (putK_sound (hstep i k s h1 h2) (hi.keep h5.toKeep h4) h5 ⟨_,rfl,_,_,rfl,rfl,_,_,rfl,Ky.d_rep k,_,_,rfl,h3,rfl⟩)
    ·exact h.elim
   ·exact h.elim
  ·exact h.elim
 ·
  rename_i it
  have hx:=ev_rep hi it
  unfold entryA at h
  split at h
  ·rename_i r hr
   rw[hr] at hx
   simp only[Rep] at hx
   split at h
   ·rename_i m since seen hit
    split at h
    ·rename_i kk ks vs clock s hmp hl
     obtain⟨hs,i,k,hk,h⟩:=h
     obtain⟨v,hrun,hrep⟩:=entry_sound (P:=P) hi.inv hit hmp hs hl hk
     exact wp_value (v:= .tuple #[k.v,v]) (w':=w) (by simp[execOp,hx,hrun]) (putK_sound h hi (KeepF.refl _ _ _) ⟨_,rfl,_,_,rfl,Ky.d_rep k,_,_,rfl,hrep,rfl⟩)
    ·exact h.elim
   ·exact h.elim
  ·exact h.elim
 ·
  rename_i args argTypes
  split at h
  ·rename_i x y t t' ha ht
   have ha':args= #[x,y]:=by rw[←Array.toList_inj]; simpa using ha
   have ht':argTypes= #[t,t']:=by rw[←Array.toList_inj]; simpa using ht
   subst ha'; subst ht'
   unfold delA at h
   split at h
   ·rename_i b kt et hb hm
    have hx:=ev_rep hi x
    rw[hb] at hx
    simp only[Rep] at hx
    split at h
    ·rename_i kk k kk' ks vs clock hkk hk hmp
     obtain⟨rfl,hkind,h⟩:=h
     have hy:=keyD_rep hk (ev_rep hi y)
     obtain⟨w',h1,h2,h3⟩:=del_sound (P:=P) hi.inv (t':=t') (ty:=type) hm hkk hmp hkind
     exact wp_value (v:= .tuple #[]) (w':=w') (by simp[execOp,resolve,invoke,builtin,hx,hy,h1]) (putK_sound h (hi.keep h3.toKeep h2) h3 ⟨_,rfl,rfl⟩)
    ·exact h.elim
   ·exact h.elim
  ·exact h.elim
 ·
  rename_i x
  split at h
  ·rename_i t d hx
   have hr:=ev_rep hi x
   rw[hx] at hr
   obtain⟨u,hu,hr'⟩:=id hr
   unfold Oper.wp
   have:(execOp a.eval {dst,op:= .panic x,type,pos,after,guard}).run P w= .halt (.panic (.iface t u)) w:=by
    simp[execOp,hu,Instr.panic,goPanic,Sem.run]
   rw[this,Oper.upon_panic]
   exact panK_sound h hi (KeepF.refl _ _ _) ⟨u,rfl,hr'⟩
  ·exact h.elim
 ·
  rename_i f args argTypes
  split at h
  ·rename_i g fi ca hf
   have hr:=ev_rep hi f
   rw[hf] at hr
   obtain⟨vf,vc,hv,r1,r2⟩:=hr
   refine callA_sound (vs:=vf++args.map a.eval++vc) h hi ?_ fun he=> ?_
   ·simp only[Array.toList_append,Array.toList_map]
    exact(r1.append (repAll_ops hi _)).append r2
   ·have:=callFunc_run he (vf++args.map a.eval++vc) w
    rw[Array.append_assoc] at this ⊢
    simp[execOp,resolve,hv,Deferred.ofValue,invoke,this]
  ·exact h.elim
 ·
  rename_i args argTypes
  split at h
  ·rename_i x y t t' ha ht
   have ha':args= #[x,y]:=by rw[←Array.toList_inj]; simpa using ha
   have ht':argTypes= #[t,t']:=by rw[←Array.toList_inj]; simpa using ht
   subst ha'; subst ht'
   split at h
   ·exact appendB_sound (ty:=type) h hi (ev_rep hi x) (ev_rep hi y) fun v w' hv=>by simp[execOp,resolve,invoke,builtin,hv]
   ·exact appendA_sound (ty:=type) h hi (ev_rep hi x) (ev_rep hi y) fun v w' hv=>by simp[execOp,resolve,invoke,builtin,hv]
  ·exact h.elim
 ·
  rename_i args argTypes
  split at h
  ·rename_i x y t t' ha ht
   have ha':args= #[x,y]:=by rw[←Array.toList_inj]; simpa using ha
   have ht':argTypes= #[t,t']:=by rw[←Array.toList_inj]; simpa using ht
   subst ha'; subst ht'
   unfold copyA at h
   split at h
   ·rename_i b o l c b' o' l' c' e hx hy he
    split at h
    ·rename_i cs cs' hsz hcs hcs'
     obtain⟨h1,h2,h⟩:=h
     have rx:=ev_rep hi x
     rw[hx] at rx; simp only[Rep] at rx
     have ry:=ev_rep hi y
     rw[hy] at ry; simp only[Rep] at ry
     obtain⟨cc,e1,hc,hrc,ho1⟩:=box_at hi.inv hcs
     obtain⟨cc',e1',hc',hrc',ho1'⟩:=box_at hi.inv hcs'
     have hlen:=hrc.length
     have hlen':=hrc'.length
     obtain⟨vals,hvals⟩:∃vals,vals=(cc'.toList.drop o').take (min l' l):=⟨_,rfl⟩
     have hvl:vals.length=min l' l:=by rw[hvals,List.length_take,List.length_drop]; simp at hlen' ⊢; omega
     have hrv:zf6 M w ((cs'.drop o').take (min l' l)) vals:=by rw[hvals]; exact(hrc'.drop _).take _
     have hov:∀u∈vals,u.oneCell'=true:=fun u hu=>by rw[hvals] at hu; exact ho1' u (List.mem_of_mem_drop (List.mem_of_mem_take hu))
     have hld:=run_loadCells_list (P:=P) w ⟨b',o',none⟩ vals (fun j v hv=>by
      rw[addr_add]
      refine cell_of hc' ?_
      rw[hvals,List.getElem?_take] at hv
      split at hv
      ·rw[List.getElem?_drop] at hv; simpa using hv
      ·cases hv)
     obtain⟨c2,r1,r2⟩:=run_store_cells (P:=P) b o e1 vals 0 cc w hc (by rw[hvl]; simp at hlen ⊢; omega) hov
     have hrep:zf6 M w (layD cs o ((cs'.drop o').take (min l' l))) c2.toList:=by
      rw[r2,Nat.add_zero]
      simp only[layD,hrv.length]
      exact((hrc.take _).append hrv).append (hrc.drop _)
     have hone:∀u∈c2.toList,u.oneCell'=true:=by
      rw[r2]
      intro u hu
      simp only[List.mem_append] at hu
      rcases hu with(hu|hu)|hu
      ·exact ho1 u (List.mem_of_mem_take hu)
      ·exact hov u hu
      ·exact ho1 u (List.mem_of_mem_drop hu)
     obtain⟨i1,i2⟩:=hi.inv.setBox hcs ⟨cc,hc⟩ hrep hone
     refine wp_value (v:= .int .i64 (min l' l:Nat)) (w':=setRow w b c2 e1) ?_ (putK_sound h (hi.keep i2.toKeep i1) i2 rfl)
     have hld':(loadCells ⟨b',o',none⟩ (Nat.min l' l)).run P w= .ok vals.toArray w:=by
      have e3:Nat.min l' l=vals.length:=hvl.symm
      rw[e3]; exact hld
     simp[execOp,resolve,invoke,builtin,rx,ry,Builtin.copy_,run_underlying (und_of_sli he),Builtin.lenOf,Builtin.firstCells,run_sizeOf hsz,hld',r1,goInt]
    ·exact h.elim
   ·exact h.elim
  ·exact h.elim
 ·
  rename_i args argTypes
  split at h
  ·rename_i x t ha ht
   have ha':args= #[x]:=by rw[←Array.toList_inj]; simpa using ha
   have ht':argTypes= #[t]:=by rw[←Array.toList_inj]; simpa using ht
   subst ha'; subst ht'
   split at h
   ·rename_i b hb
    obtain⟨_,h⟩:=h
    unfold mlenA at h
    split at h
    ·rename_i b' p heq hm
     cases heq
     have hx:=ev_rep hi x
     rw[hb] at hx
     simp only[Rep] at hx
     split at h
     ·rename_i kk ks vs clock hmp
      have h1:=mlen_sound (P:=P) hi.inv (ty:=type) hm hmp
      exact wp_value (v:= .int .i64 ks.length) (w':=w) (by simp[execOp,resolve,invoke,builtin,hx,h1]) (putK_sound h hi (KeepF.refl _ _ _) rfl)
     ·exact h.elim
    ·exact h.elim
   ·exact pureK_sound (o:={dst,op:= .call {callee:= .builtin .len,args:= #[x],argTypes:= #[t]},type,pos,after,guard}) h hi
  ·exact h.elim
 ·
  rename_i bop xt x y yt
  have nilv:nilOpnd y=true→a.eval y= .slice none 0 0:=by
   intro hn
   unfold nilOpnd at hn
   split at hn
   ·rfl
   ·cases hn
  unfold binA at h
  split at h
  ·rename_i ow es hn hx
   split at h
   ·rename_i e he
    have hr:=ev_rep hi x
    rw[hx] at hr
    obtain⟨r,h1,h2⟩:=nil_run (P:=P) he hr
    refine wp_value (v:= .bool r) (w':=w) ?_ (putK_sound (h r h2) hi (KeepF.refl _ _ _) rfl)
    rcases rows_of_slice hr with⟨hv,_⟩|⟨_,_,_,_,hv,_⟩|⟨_,_,hv,_⟩ <;> rw[hv] at h1 <;> simp[execOp,hv,nilv hn,eqGuard,binOp,h1]
   ·exact h.elim
  ·rename_i ow es hn hx
   split at h
   ·rename_i e he
    have hr:=ev_rep hi x
    rw[hx] at hr
    obtain⟨r,h1,h2⟩:=nil_run (P:=P) he hr
    refine wp_value (v:= .bool (!r)) (w':=w) ?_ (putK_sound (h r h2) hi (KeepF.refl _ _ _) rfl)
    rcases rows_of_slice hr with⟨hv,_⟩|⟨_,_,_,_,hv,_⟩|⟨_,_,hv,_⟩ <;> rw[hv] at h1 <;> simp[execOp,hv,nilv hn,eqGuard,binOp,h1]
   ·exact h.elim
  ·exact pureK_sound (o:={dst,op:= .binOp _ xt x y yt,type,pos,after,guard}) h hi
 ·exact pureK_sound h hi
end
end Go.AL
namespace Go.AL
section
variable {P : Program} {N : Nat} {M : MMap} {T : Env} {σ : St} {a : Act} {w : World} {K : Env → St → Prop} {Q : XA → Env → St → Prop}
variable [DSt] [Mo]
theorem guardA_sound {ops:Array Oper} {o:Oper} {g:Bool} (h:guardA ops.toList T o=some g) (hi:AInv N M T σ a w):Region.wanted o (yielded ops a.tmps)=g:=by
 unfold guardA at h
 unfold Region.wanted
 split at h
 ·rename_i hg
  rw[hg]; simp at h ⊢; exact h
 ·rename_i j want hg
  rw[hg]
  split at h
  ·rename_i t ht
   have hr:=hi.env t
   have hdst:(ops[j]?).bind (·.dst)=some t:=by simpa using ht
   cases hT:T t <;> rw[hT] at h hr <;> simp only[gq,reduceCtorEq,Option.some.injEq] at h
   ·rename_i b
    simp only[Rep] at hr
    have hy:yielded ops a.tmps j=some b:=by
     unfold yielded
     simp only[Option.bind_eq_some_iff] at hdst
     obtain⟨oj,ho,hd⟩:=hdst
     simp only[ho,Option.bind_some,hd]
     have hlt:t<a.tmps.size:=by
      rcases Nat.lt_or_ge t a.tmps.size with h1|h1
      ·exact h1
      ·simp[Array.getElem?_eq_none h1,undef] at hr
     simp[hlt] at hr
     simp[hlt,hr]
    show(yielded ops a.tmps j==some want)=g
    rw[hy,←h]
    rfl
   ·obtain⟨ar,hr,_⟩:=hr
    have hy:yielded ops a.tmps j=none:=by
     unfold yielded
     simp only[Option.bind_eq_some_iff] at hdst
     obtain⟨oj,ho,hd⟩:=hdst
     simp only[ho,Option.bind_some,hd]
     rcases Nat.lt_or_ge t a.tmps.size with h1|h1
     ·simp[h1] at hr
      simp[h1,hr]
     ·simp[Array.getElem?_eq_none h1]
    show(yielded ops a.tmps j==some want)=g
    rw[hy,←h]
    rfl
  ·cases h
theorem wp_exits {o:Oper} {next:Act→World→Prop} {Q₁ Q₂:Exit→Act→World→Prop} (h:o.wp P a w next Q₁) (hq:∀e a w,Q₁ e a w→Q₂ e a w):o.wp P a w next Q₂:=by
 unfold Oper.wp at *
 generalize (execOp a.eval o).run P w=r at *
 cases r with
 |ok n w'=>
  cases n <;> simp only[Oper.upon] at h ⊢ <;> first
   |exact h
   |exact Calls.mono h (fun e w'' he=>by
     cases e with
     |returned v=>exact he
     |panicked c=>exact hq _ _ _ he
     |outgrown=>obtain⟨a',w₁,h1⟩:=he; exact⟨a',w₁,hq _ _ _ h1⟩)
 |halt x w'=>cases x <;> simp only[Oper.upon] at h ⊢ <;> first|exact hq _ _ _ h|exact h
def resOne (P:Program) (T:Env) (σ:St):ResultVar→Option D
 | .tmp t=>some (T t)
 | .cell a t=>match T a with
  | .ptr b off=>match σ.box b with
   |some cs=>partD P t (cs.drop off) 0
   |none=>none
  |_=>none
def resMany (P:Program) (T:Env) (σ:St):List ResultVar→Option (List D)
 |[]=>some []
 |r::rs=>match resOne P T σ r,resMany P T σ rs with
  |some d,some ds=>some (d::ds)
  |_,_=>none
def resA (P:Program) (T:Env) (σ:St):List ResultVar→Option D
 |[r]=>resOne P T σ r
 |rs=>(resMany P T σ rs).map .tup
def DLe (d d':D):Prop:=∀M w v,Rep M w d v→Rep M w d' v
theorem DLe.refl (d:D):DLe d d:=fun _ _ _ h=>h
theorem DLe.slice (o:Own) (es:List (List D)):DLe (.slice o es) (.slice .no es):=fun _ _ _ h=>frz_rep (d:= .slice o es) h
inductive DLes:List D→List D→Prop
 |nil:DLes [] []
 |cons {d d':D} {ds ds':List D}:DLe d d'→DLes ds ds'→DLes (d::ds) (d'::ds')
theorem DLes.rep {M:MMap} {w:World} {ds ds':List D} (h:DLes ds ds'):∀{vs:List Value},zf6 M w ds vs→zf6 M w ds' vs:=by
 induction h with
 |nil=>exact fun h=>h
 |cons h1 _ ih=>intro vs hr; obtain⟨v,vs',rfl,r1,r2⟩:=hr; exact⟨v,vs',rfl,h1 _ _ _ r1,ih r2⟩
theorem DLes.refl:∀ds,DLes ds ds
 |[]=> .nil
 |d::ds=> .cons (.refl d) (DLes.refl ds)
theorem DLe.tup {ds ds':List D} (h:DLes ds ds'):DLe (.tup ds) (.tup ds'):=fun _ _ _ ⟨a,hv,hr⟩=>⟨a,hv,h.rep hr⟩
theorem DLe.agg {ds ds':List D} (h:DLes ds ds'):DLe (.agg ds) (.agg ds'):=fun _ _ _ ⟨a,hv,hr,h1⟩=>⟨a,hv,h.rep hr,h1⟩
def bodyA (P:Program) (rs:List ResultVar) (R:EA→St→Prop):XA→Env→St→Prop
 | .normal,T,σ| .ret,T,σ=>∃d d' s,resA P T σ rs=some d∧DLe d d'∧St.le s σ∧R (.ret d') s
 | .panic d,_,σ=>∃d' s,DLe d d'∧St.le s σ∧R (.pan d') s
 | .exit _,_,_| .goto _,_,_=>False
def envOf (ds:List D):Env:=fun t=>(ds[t]?).getD .any
def resV (a:Act):ResultVar→Sem Value
 | .tmp t=>pure (a.tmps.getD t undef)
 | .cell x t=>do loadVar t (←asAddr (a.tmps.getD x undef))
theorem resOne_sound {r:ResultVar} {d:D} (h:resOne P T σ r=some d) (hi:AInv N M T σ a w):
  ∃v,(resV a r).run P w= .ok v w∧Rep M w d v:=by
 cases r with
 |tmp t=>simp only[resOne,Option.some.injEq] at h; subst h; exact⟨_,rfl,hi.env t⟩
 |cell x t=>
  simp only[resOne] at h
  split at h
  ·rename_i b off hx
   split at h
   ·rename_i cs hcs
    obtain⟨v,h1,h2⟩:=loadBox_rep (P:=P) hi.inv hcs h
    have hr:=hi.env x
    rw[hx] at hr; simp only[Rep] at hr
    exact⟨v,by simp only[resV,hr,asAddr,Sem.run_bind]; simpa using h1,h2⟩
   ·cases h
  ·cases h
inductive All2 {α β:Type} (R:α→β→Prop):List α→List β→Prop
 |nil:All2 R [] []
 |cons {a:α} {b:β} {l:List α} {m:List β}:R a b→All2 R l m→All2 R (a::l) (b::m)
theorem All2.length_eq {α β:Type} {R:α→β→Prop} {l:List α} {m:List β} (h:All2 R l m):l.length=m.length:=by
 induction h with
 |nil=>rfl
 |cons _ _ ih=>simp[ih]
theorem run_mapM_ex {α β:Type} (f:α→Sem β) (R:α→β→Prop):∀(l:List α),(∀x∈l,∃y,(f x).run P w= .ok y w∧R x y)→∃ys:List β,(l.mapM f).run P w= .ok ys w∧All2 R l ys
 |[],_=>⟨[],by simp,.nil⟩
 |x::l,h=>by
  obtain⟨y,h1,h2⟩:=h x (by simp)
  obtain⟨ys,h3,h4⟩:=run_mapM_ex f R l fun z hz=>h z (by simp[hz])
  exact⟨y::ys,by simp[h1,h3],.cons h2 h4⟩
theorem resMany_some:∀{rs:List ResultVar} {ds:List D},resMany P T σ rs=some ds→∀r∈rs,∃d,resOne P T σ r=some d
 |[],_,_,r,hr=>by cases hr
 |x::rs,ds,h,r,hr=>by
  simp only[resMany] at h
  split at h
  ·rename_i d ds' h1 h2
   simp only[List.mem_cons] at hr
   rcases hr with rfl|hr
   ·exact⟨d,h1⟩
   ·exact resMany_some h2 r hr
  ·cases h
theorem resMany_rep:∀{rs:List ResultVar} {ds:List D},resMany P T σ rs=some ds→∀{vs:List Value},All2 (fun r v=>∀d,resOne P T σ r=some d→Rep M w d v) rs vs→zf6 M w ds vs
 |[],ds,h,vs,hf=>by
  simp only[resMany,Option.some.injEq] at h; subst h
  cases hf; rfl
 |x::rs,ds,h,vs,hf=>by
  simp only[resMany] at h
  split at h
  ·rename_i d ds' h1 h2
   cases h
   cases hf with
   |cons g1 g2=>exact⟨_,_,rfl,g1 d h1,resMany_rep h2 g2⟩
  ·cases h
theorem resA_sound {fn:Func} {d:D} (h:resA P T σ fn.results.toList=some d) (hi:AInv N M T σ a w):∃v,(results fn a.tmps).run P w= .ok v w∧Rep M w d v:=by
 have hmap:∀rs:List ResultVar,(∀r∈rs,∃d,resOne P T σ r=some d)→∃vs:List Value,
   (rs.mapM (resV a)).run P w= .ok vs w∧
   All2 (fun r v=>∀d,resOne P T σ r=some d→Rep M w d v) rs vs:=fun rs hrs=>run_mapM_ex _ _ rs fun r hr=>by
  obtain⟨d,hd⟩:=hrs r hr
  obtain⟨v,h1,h2⟩:=resOne_sound hd hi
  exact⟨v,h1,fun d' hd'=>by rw[hd] at hd'; cases hd'; exact h2⟩
 have hall:∀r∈fn.results.toList,∃d,resOne P T σ r=some d:=by
  unfold resA at h
  split at h
  ·rename_i r hr
   intro r' hr'
   rw[hr] at hr'
   simp at hr'; subst hr'
   exact⟨d,h⟩
  ·simp only[Option.map_eq_some_iff] at h
   obtain⟨ds,h1,_⟩:=h
   exact resMany_some h1
 obtain⟨vs,h1,h2⟩:=hmap _ hall
 have hrun:(results fn a.tmps).run P w= .ok (if h:vs.toArray.size=1 then vs.toArray[0] else .tuple vs.toArray) w:=by
  have hu:results fn a.tmps=(do let vs ←fn.results.mapM (resV a); pure (if h:vs.size=1 then vs[0] else .tuple vs)):=by
   unfold results
   congr 1
  rw[hu,Array.mapM_eq_mapM_toList]
  simp only[Sem.run_bind]
  have:(List.toArray <$> (fn.results.toList.mapM (resV a)):Sem (Array Value)).run P w= .ok vs.toArray w:=by
   simp only[Sem.run_map,h1]
   simp
  rw[this]
  simp
 refine⟨_,hrun, ?_⟩
 unfold resA at h
 split at h
 ·rename_i r hr
  rw[hr] at h2
  cases h2 with
  |cons g1 g2=>
   cases g2
   simpa using g1 d h
 ·rename_i hne
  simp only[Option.map_eq_some_iff] at h
  obtain⟨ds,h3,rfl⟩:=h
  have hlen:=h2.length_eq
  have hsz:¬(vs.toArray.size=1):=by
   intro h1'
   have:fn.results.toList.length=1:=by rw[hlen]; simpa using h1'
   obtain⟨r,hr⟩:=List.length_eq_one_iff.1 this
   exact hne r hr
  rw[dif_neg hsz]
  exact⟨vs.toArray,rfl,by simpa using resMany_rep h3 h2⟩
theorem envOf_rep {ds:List D} {vs:List Value} (h:zf6 M w ds vs) (n:Nat) (t:Nat):Rep M w (envOf ds t) ((vs.toArray++Array.replicate n undef).getD t undef):=by
 unfold envOf
 cases hd:ds[t]? with
 |none=>trivial
 |some d=>
  obtain⟨v,hv,hr⟩:=h.get hd
  have hlt:t<vs.length:=(List.getElem?_eq_some_iff.1 hv).1
  have:(vs.toArray++Array.replicate n undef).getD t undef=v:=by
   simp only[Array.getD_eq_getD_getElem?,Array.getElem?_append,List.size_toArray,hlt,if_true]
   simp[hv]
  rw[this]; exact hr
end
section
variable {P : Program} {N : Nat} {M : MMap} {T : Env} {σ : St} {a : Act} {w : World} {K : Env → St → Prop} {Q : XA → Env → St → Prop}
theorem acall_of_body {f:FuncId} {fn:Func} {c:Code} {ds:List D} {s:St} {R:EA→St→Prop} (hf:P.funcs[f]? =some fn) (hb:fn.body=some c) (hn:(fn.name== "runtime.NumGoroutine")=false)
  (hN:fn.ntmps=N) (hl:ds.length≤N) (h:awp P N c (bodyA P fn.results.toList R) (envOf ds) s):ACall P f ds s R:=by
 refine⟨⟨fn,hf,hn,by rw[hb]; rfl⟩,fun M w vs hi hv=>calls_of_wp hf hb ?_⟩
 have hlen:=hv.length
 have hai:AInv N M (envOf ds) s {tmps:=vs.toArray++Array.replicate (fn.ntmps-vs.toArray.size) undef,defers:=[]} w:=
  ⟨hi,by simp; omega,rfl,fun t=>envOf_rep hv _ t⟩
 refine wp_mono (h M _ w hai) fun e a' w' hp=> ?_
 obtain⟨M',T',σ',x,h1,h2,h3,h4⟩:=hp
 have fin:∀s':St,St.le s' σ'→Inv M' s' w'∧KeepF M s w M' s' w':=fun s' hs=>
  ⟨(h2.forget (E:=T') (fun _=> .inr rfl) hs).inv,{h3.toKeep with frame:=h3.frame,fresh:=fun b hb=>h3.fresh b (hs.has hb)}⟩
 cases x with
 |normal=>
  obtain rfl:=h1
  obtain⟨d,d',s',g1,g2,g3,g4⟩:=h4
  obtain⟨v,r1,r2⟩:=resA_sound g1 h2
  exact⟨h2.defers,v,r1,M',s',.ret d',⟨v,rfl,g2 _ _ _ r2⟩,(fin s' g3).1,(fin s' g3).2,g4⟩
 |ret=>
  obtain rfl:=h1
  obtain⟨d,d',s',g1,g2,g3,g4⟩:=h4
  obtain⟨v,r1,r2⟩:=resA_sound g1 h2
  exact⟨h2.defers,v,r1,M',s',.ret d',⟨v,rfl,g2 _ _ _ r2⟩,(fin s' g3).1,(fin s' g3).2,g4⟩
 |panic d=>
  obtain⟨v,rfl,hr⟩:=h1
  obtain⟨d',s',g2,g3,g4⟩:=h4
  exact⟨h2.defers,M',s',.pan d',⟨v,rfl,g2 _ _ _ hr⟩,(fin s' g3).1,(fin s' g3).2,g4⟩
 |exit id=>exact h4.elim
 |goto l=>exact h4.elim
end
section
variable {P : Program} {N : Nat} {M : MMap} {T : Env} {σ : St} {a : Act} {w : World} {K : Env → St → Prop} {Q : XA → Env → St → Prop}
variable [DSt] [Mo]
end
end Go.AL
namespace Go.AL
section
variable {P : Program} {N : Nat}
variable [DSt] [Mo]
def vc (P:Program) (N:Nat):Code→(XA→Env→St→Prop)→Env→St→Prop
 | .skip,Q,T,σ=>Q .normal T σ
 | .region id ops draw,Q,T,σ=>if draw=true then awp P N (.region id ops true) Q T σ else aops P N ops.toList ops.toList Q T σ
 | .seq a b,Q,T,σ=>vc P N a (thenA (vc P N b Q) Q) T σ
 | .cond c a b,Q,T,σ=>match ev T c with
  | .bool t=>br t (vc P N a Q T σ) (vc P N b Q T σ)
  |_=>False
 | .block id c,Q,T,σ=>vc P N c (blockA id Q) T σ
 | .exit id,Q,T,σ=>Q (.exit id) T σ
 | .ret,Q,T,σ=>Q .ret T σ
 | .loop c,Q,T,σ=>awp P N (.loop c) Q T σ
 | .rangeFunc f ps as body,Q,T,σ=>awp P N (.rangeFunc f ps as body) Q T σ
 | .scope c,Q,T,σ=>awp P N (.scope c) Q T σ
 | .label l,Q,T,σ=>awp P N (.label l) Q T σ
 | .goto l,Q,T,σ=>awp P N (.goto l) Q T σ
 | .refuse _,_,_,_=>False
end
section
variable {P : Program} {N : Nat}
end
section
variable {P : Program} {N : Nat}
variable [DSt] [Mo]
theorem upd_app (T:Env) (t:Nat) (d:D) (u:Nat):upd T t d u=if u=t then d else T u:=rfl
end
end Go.AL
namespace Go.AL
section
variable {P : Program} {N : Nat} {T : Env} {σ : St} {K K' : Env → St → Prop} {Q : XA → Env → St → Prop}
def opndsOf (op:Op):List Operand:=op.operands.toList
theorem upd_comm (T:Env) {t u:Nat} (h:t≠u) (x y:D):upd (upd T t x) u y=upd (upd T u y) t x:=by
 funext v
 simp only[upd]
 by_cases h1:v=u <;> by_cases h2:v=t <;> simp_all
theorem ev_upd {T:Env} {t:Nat} {d:D} {x:Operand} (h:x≠ .tmp t):ev (upd T t d) x=ev T x:=by
 cases x with
 |tmp u=>
  have:u≠t:=fun he=>h (by rw[he])
  simp[ev,upd,this]
 |_=>rfl
theorem ev_map {T:Env} {t:Nat} {d:D} {l:List Operand} (h:∀x∈l,x≠ .tmp t):l.map (ev (upd T t d))=l.map (ev T):=
 List.map_congr_left fun x hx=>ev_upd (h x hx)
theorem putK_env {t:Nat} {d v:D} {dst:Option Nat} (hd:dst≠some t):putK N dst v K (upd T t d) σ=putK N dst v (fun T' σ'=>K (upd T' t d) σ') T σ:=by
 cases dst with
 |none=>rfl
 |some u=>
  have:t≠u:=fun he=>hd (by rw[he])
  simp only[putK,upd_comm T this]
theorem fillD_env {place:Nat→Option (Nat×TypeId)} {fz:D→D} {t:Nat} {d:D}:∀(parts:List (Nat×Operand)) (cells:List D),(∀p∈parts,p.2≠ .tmp t)→fillD place P (upd T t d) fz parts cells=fillD place P T fz parts cells
 |[],_,_=>rfl
 |(i,x)::rest,cells,h=>by
  simp only[fillD,ev_upd (h (i,x) (by simp))]
  cases hp:place i with
  |none=>rfl
  |some p=>
   obtain⟨off,ty⟩:=p
   cases hc:cellsD P ty (ev T x) with
   |none=>simp[hc]
   |some cs=>
    simp only[hc]
    split
    ·exact fillD_env rest _ fun p hp=>h p (by simp[hp])
    ·rfl
theorem pureD_env {op:Op} {t:Nat} {d:D} (h:∀x∈opndsOf op,x≠ .tmp t):pureD P op (upd T t d)=pureD P op T:=by
 cases op <;> simp only[opndsOf,Op.operands] at h
 case build ty parts=>
  have hp:∀p∈parts.toList,p.2≠ .tmp t:=fun p hp=>h p.2 (by simp; exact⟨p.1,by simpa using hp⟩)
  simp only[pureD,fillD_env _ _ hp]
 case makeFunc fn first captured=>
  have h1:=ev_map (T:=T) (t:=t) (d:=d) (l:=first.toList) fun x hx=>h x (by simp only[Array.toList_append,List.mem_append]; exact .inl hx)
  have h2:=ev_map (T:=T) (t:=t) (d:=d) (l:=captured.toList) fun x hx=>h x (by simp only[Array.toList_append,List.mem_append]; exact .inr hx)
  simp only[pureD,h1,h2]
 case slice ty x lo hi mx=>
  have h0:=ev_upd (T:=T) (d:=d) (h x (by simp))
  have h1:∀l,lo=some l→ev (upd T t d) l=ev T l:=fun l hl=>ev_upd (h l (by simp[hl]))
  have h2:∀l,hi=some l→ev (upd T t d) l=ev T l:=fun l hl=>ev_upd (h l (by simp[hl]))
  cases mx with
  |some m=>simp only[pureD]
  |none=>cases lo <;> cases hi <;> simp only[pureD,h0] <;> simp_all
 case call c=>
  obtain⟨callee,args,argTypes⟩:=c
  cases callee with
  |value f=>simp only[pureD]
  |invoke r m=>simp only[pureD]
  |builtin b=>
   have ha:∀x∈args.toList,ev (upd T t d) x=ev T x:=fun x hx=>ev_upd (h x (by simp only[Call.operands,Array.toList_append,List.mem_append]; exact .inr hx))
   cases b <;> simp only[pureD] <;> (split <;> first|rfl|(rename_i hl; simp_all))
 all_goals first
  |(simp only[pureD]; done)
  |(simp at h; simp only[pureD]; simp_all[ev_upd])
theorem callA_env {t:Nat} {d:D} {dst:Option Nat} (hd:dst≠some t) {g:FuncId} {ds:List D}:callA P N dst g ds K Q (upd T t d) σ↔callA P N dst g ds (fun T' σ'=>K (upd T' t d) σ') Q T σ:=by
 simp only[callA,putK_env hd]
theorem appendA_env {t:Nat} {d:D} {dst:Option Nat} (hd:dst≠some t) {ty ty':TypeId} {x y:D}:appendA P N dst ty ty' x y K (upd T t d) σ↔appendA P N dst ty ty' x y (fun T' σ'=>K (upd T' t d) σ') T σ:=by
 simp only[appendA,putK_env hd]
theorem copyA_env {t:Nat} {d:D} {dst:Option Nat} (hd:dst≠some t) {ty:TypeId} {x y:D}:copyA P N dst ty x y K (upd T t d) σ↔copyA P N dst ty x y (fun T' σ'=>K (upd T' t d) σ') T σ:=by
 simp only[copyA,putK_env hd]
theorem updA_env {t:Nat} {d:D} {dst:Option Nat} (hd:dst≠some t) {ty:TypeId} {m k v:D}:updA P N dst ty m k v K (upd T t d) σ↔updA P N dst ty m k v (fun T' σ'=>K (upd T' t d) σ') T σ:=by
 simp only[updA,putK_env hd]
theorem delA_env {t:Nat} {d:D} {dst:Option Nat} (hd:dst≠some t) {ty:TypeId} {m k:D}:delA P N dst ty m k K (upd T t d) σ↔delA P N dst ty m k (fun T' σ'=>K (upd T' t d) σ') T σ:=by
 simp only[delA,putK_env hd]
theorem mlenA_env {t:Nat} {d:D} {dst:Option Nat} (hd:dst≠some t) {ty:TypeId} {m:D}:mlenA P N dst ty m K (upd T t d) σ↔mlenA P N dst ty m (fun T' σ'=>K (upd T' t d) σ') T σ:=by
 simp only[mlenA,putK_env hd]
theorem rangeA_env {t:Nat} {d:D} {dst:Option Nat} (hd:dst≠some t) {ty:TypeId} {m:D}:rangeA P N dst ty m K (upd T t d) σ↔rangeA P N dst ty m (fun T' σ'=>K (upd T' t d) σ') T σ:=by
 simp only[rangeA,putK_env hd]
theorem mkmA_env {t:Nat} {d:D} {dst:Option Nat} (hd:dst≠some t) {ty:TypeId}:mkmA P N dst ty K (upd T t d) σ↔mkmA P N dst ty (fun T' σ'=>K (upd T' t d) σ') T σ:=by
 simp only[mkmA,putK_env hd]
theorem nextA_env {t:Nat} {d:D} {dst:Option Nat} (hd:dst≠some t) {m:D}:nextA N dst m K (upd T t d) σ↔nextA N dst m (fun T' σ'=>K (upd T' t d) σ') T σ:=by
 simp only[nextA,putK_env hd]
theorem entryA_env {t:Nat} {d:D} {dst:Option Nat} (hd:dst≠some t) {m:D}:entryA N dst m K (upd T t d) σ↔entryA N dst m (fun T' σ'=>K (upd T' t d) σ') T σ:=by
 simp only[entryA,putK_env hd]
theorem appendB_env {t:Nat} {d:D} {dst:Option Nat} (hd:dst≠some t) {ty ty':TypeId} {x y:D}:appendB P N dst ty ty' x y K (upd T t d) σ↔appendB P N dst ty ty' x y (fun T' σ'=>K (upd T' t d) σ') T σ:=by
 simp only[appendB,putK_env hd]
theorem aop_env [Mo] {t:Nat} {d:D} {dst:Option Nat} {op:Op} (h:∀x∈opndsOf op,x≠ .tmp t) (hd:dst≠some t):
  aop P N dst op K Q (upd T t d) σ↔aop P N dst op (fun T' σ'=>K (upd T' t d) σ') Q T σ:=by
 have hp:=pureD_env (P:=P) (T:=T) (d:=d) h
 have hk:=fun v σ=>putK_env (N:=N) (T:=T) (σ:=σ) (K:=K) (d:=d) (v:=v) hd
 unfold aop
 cases op
 case call c=>
  obtain⟨callee,args,argTypes⟩:=c
  simp only[opndsOf,Op.operands,Call.operands] at h
  have ha:∀x∈args.toList,x≠ .tmp t:=fun x hx=>h x (by simp only[Array.toList_append,List.mem_append]; exact .inr hx)
  cases callee with
  |value f=>
   have hf:=ev_upd (T:=T) (d:=d) (h f (by simp))
   simp only[hf,ev_map ha,callA_env hd]
  |invoke r m=>simp only[hp,hk]
  |builtin b=>
   cases b
   case append=>
    simp only
    split
    ·rename_i x y t1 t2 hx hy
     rw[ev_upd (ha x (by simp[hx])),ev_upd (ha y (by simp[hx])),appendA_env hd,appendB_env hd]
    ·rfl
   case copy=>
    simp only
    split
    ·rename_i x y t1 t2 hx hy
     rw[ev_upd (ha x (by simp[hx])),ev_upd (ha y (by simp[hx])),copyA_env hd]
    ·rfl
   case delete=>
    simp only
    split
    ·rename_i x y t1 t2 hx hy
     rw[ev_upd (ha x (by simp[hx])),ev_upd (ha y (by simp[hx])),delA_env hd]
    ·rfl
   case len=>
    simp only
    split
    ·rename_i x t1 hx hy
     rw[ev_upd (ha x (by simp[hx]))]
     cases ev T x <;> simp only[mlenA_env hd,hp,hk]
    ·rfl
   all_goals simp only[hp,hk]
 case lookup ty x i ok=>
  simp only[opndsOf,Op.operands] at h
  have hx:=ev_upd (T:=T) (d:=d) (h x (by simp))
  have hi:=ev_upd (T:=T) (d:=d) (h i (by simp))
  simp only[hx,hi,hk]
 case mapUpdate ty m k v=>
  simp only[opndsOf,Op.operands] at h
  have h1:=ev_upd (T:=T) (d:=d) (h m (by simp))
  have h2:=ev_upd (T:=T) (d:=d) (h k (by simp))
  have h3:=ev_upd (T:=T) (d:=d) (h v (by simp))
  simp only[h1,h2,h3,updA_env hd]
 case insert ty m k v=>
  simp only[opndsOf,Op.operands] at h
  have h1:=ev_upd (T:=T) (d:=d) (h m (by simp))
  have h2:=ev_upd (T:=T) (d:=d) (h k (by simp))
  have h3:=ev_upd (T:=T) (d:=d) (h v (by simp))
  simp only[h1,h2,h3,updA_env hd]
 case makeMap ty r=>
  cases r with
  |none=>simp only[mkmA_env hd]
  |some x=>simp only[hp,hk]
 case range ty x=>
  simp only[opndsOf,Op.operands] at h
  have hx:=ev_upd (T:=T) (d:=d) (h x (by simp))
  simp only[hx,rangeA_env hd]
 case next x is=>
  simp only[opndsOf,Op.operands] at h
  have hx:=ev_upd (T:=T) (d:=d) (h x (by simp))
  cases is
  ·simp only[hx,nextA_env hd]
  ·simp only[hp,hk]
 case entry x=>
  simp only[opndsOf,Op.operands] at h
  have hx:=ev_upd (T:=T) (d:=d) (h x (by simp))
  simp only[hx,entryA_env hd]
 case makeSlice ty l c=>
  simp only[opndsOf,Op.operands] at h
  have hl:=ev_upd (T:=T) (d:=d) (h l (by simp))
  have hc:=ev_upd (T:=T) (d:=d) (h c (by simp))
  simp only[hl,hc,hk]
 case load ty x=>
  simp only[opndsOf,Op.operands] at h
  have hx:=ev_upd (T:=T) (d:=d) (h x (by simp))
  simp only[hx,hk]
 case store ty x y=>
  simp only[opndsOf,Op.operands] at h
  have hx:=ev_upd (T:=T) (d:=d) (h x (by simp))
  have hy:=ev_upd (T:=T) (d:=d) (h y (by simp))
  simp only[hx,hy,hk]
 case alloc ty=>simp only[hk]
 case box ty x=>
  simp only[opndsOf,Op.operands] at h
  have hx:=ev_upd (T:=T) (d:=d) (h x (by simp))
  simp only[hx,hk]
 case buildSlice ty len parts=>
  simp only[opndsOf,Op.operands] at h
  have hpp:∀p∈parts.toList,p.2≠ .tmp t:=fun p hp=>h p.2 (by simp; exact⟨p.1,by simpa using hp⟩)
  simp only[hk,fillD_env _ _ hpp]
 case panic x=>
  simp only[opndsOf,Op.operands] at h
  have hx:=ev_upd (T:=T) (d:=d) (h x (by simp))
  simp only[hx]
 case binOp bop xt x y yt=>
  simp only[opndsOf,Op.operands] at h
  have hx:=ev_upd (T:=T) (d:=d) (h x (by simp))
  have hy:=ev_upd (T:=T) (d:=d) (h y (by simp))
  simp only[binA,hx,hy,hk]
 all_goals simp only[hp,hk]
theorem putK_mono {dst:Option Nat} {v:D} (h:putK N dst v K T σ) (hk:K (aput T dst v) σ→K' (aput T dst v) σ):putK N dst v K' T σ:=by
 cases dst with
 |none=>exact hk h
 |some t=>exact⟨h.1,hk h.2⟩
end
end Go.AL
namespace Go.AL
section
variable {P : Program} {N : Nat} {T : Env} {σ : St} {K K' : Env → St → Prop} {Q : XA → Env → St → Prop} {B : List Nat}
abbrev Tr:=(Env→St→Prop)→Env→St→Prop
def good (B:List Nat) (σ:St):Prop:=σ.fin∧∀b∈B,σ.box b≠none
def sameAt (σ σ':St) (b:Nat):Prop:=σ'.box b=σ.box b∧σ'.mp b=σ.mp b
def keepB (B:List Nat) (σ σ':St):Prop:=∀b∈B,sameAt σ σ' b
def keepA (σ σ':St):Prop:=∀b,σ.has b→sameAt σ σ' b
theorem keepA.toB {σ σ':St} (h:keepA σ σ') (hg:good B σ):keepB B σ σ':=fun b hb=>h b (.inl (hg.2 b hb))
theorem keepB.good {σ σ':St} (h:keepB B σ σ') (hg:good B σ) (hf:σ'.fin):good B σ':=⟨hf,fun b hb=>by rw[(h b hb).1]; exact hg.2 b hb⟩
theorem fin_set {σ:St} (h:σ.fin) (b:Nat) (cs:List D):(σ.set b cs).fin:=by
 obtain⟨n,hn⟩:=h
 refine⟨n+b+1,fun x hx hin=>hn x (by omega) ?_⟩
 rcases hin with hin|hin
 ·simp only[St.set,show x≠b by omega,if_false] at hin; exact .inl hin
 ·exact .inr hin
theorem fin_setBuf {σ:St} (h:σ.fin) (b s n:Nat):(σ.setBuf b s n).fin:=by
 obtain⟨m,hn⟩:=h
 refine⟨m+b+1,fun x hx hin=>hn x (by omega) ?_⟩
 rcases hin with hin|hin
 ·exact .inl hin
 ·simp only[St.setBuf,show x≠b by omega,if_false] at hin; exact .inr hin
theorem fin_dropBuf {σ:St} (h:σ.fin) (b:Nat):(σ.dropBuf b).fin:=by
 obtain⟨m,hn⟩:=h
 exact⟨m,fun x hx hin=>hn x hx (dropBuf_has hin)⟩
theorem fin_join {s fr:St} (h:s.fin) (h':fr.fin):(St.join s fr).fin:=by
 obtain⟨m,hm⟩:=h
 obtain⟨n,hn⟩:=h'
 refine⟨m+n,fun x hx hin=> ?_⟩
 rcases(join_has x).1 hin with h1|h1
 ·exact hm x (by omega) h1
 ·exact hn x (by omega) h1
theorem fin_right {s fr:St} (h:(St.join s fr).fin):fr.fin:=by
 obtain⟨m,hm⟩:=h
 exact⟨m,fun x hx hin=>hm x hx ((join_has x).2 (.inr hin))⟩
theorem fin_fresh {σ:St} (h:σ.fin) (x:Nat):∃b,¬σ.has b∧b≠x:=by
 obtain⟨n,hn⟩:=h
 exact⟨n+x+1,hn _ (by omega),by omega⟩
def FrameT (f:Tr) (dst:Option Nat) (looks:List Nat):Prop:=
 ∀(K:Env→St→Prop) (T:Env) (σ:St) (t:Nat) (d:D),t∉looks→dst≠some t→(f K (upd T t d) σ↔f (fun T' σ'=>K (upd T' t d) σ') T σ)
def MonoT (keep:St→St→Prop) (B:List Nat) (f:Tr) (dst:Option Nat):Prop:=
 ∀(K K':Env→St→Prop) (T:Env) (σ:St),good B σ→f K T σ→(∀v σ',keep σ σ'→good B σ'→K (aput T dst v) σ'→K' (aput T dst v) σ')→f K' T σ
def ExT (keep:St→St→Prop) (kA:Prop) (B:List Nat) (f:Tr) (dst:Option Nat):Prop:=
 ∀(K:Env→St→Prop) (T:Env) (σ:St),good B σ→f K T σ→∀x,∃v σ',keep σ σ'∧(kA→sameAt σ σ' x)∧good B σ'∧K (aput T dst v) σ'
def DetT (N:Nat) (f:Tr) (dst:Option Nat) (looks:List Nat) (det:Env→Option (Prop×D)):Prop:=
 (∀K T σ,f K T σ↔match det T with|some (side,d)=>side∧putK N dst d K T σ|none=>False)∧∀T t d,t∉looks→det (upd T t d)=det T
def LoadT (N:Nat) (f:Tr) (dst:Option Nat) (looks:List Nat) (which:Env→Option Nat) (det:Env→St→Option D):Prop:=
 (∀K T σ,f K T σ↔match det T σ with|some d=>putK N dst d K T σ|none=>False)∧(∀T t d σ,t∉looks→det (upd T t d) σ=det T σ∧which (upd T t d)=which T)∧
 ∀T σ σ',(∀b,which T=some b→sameAt σ σ' b)→det T σ'=det T σ
def notIn (dst:Option Nat) (looks:List Nat):Prop:=∀t,dst=some t→t∉looks
theorem frame_aput {f:Tr} {dst:Option Nat} {looks:List Nat} (h:FrameT f dst looks) {dx:Option Nat} {d:D} (h1:notIn dx looks) (h2:∀t,dx=some t→dst≠some t):
  f K (aput T dx d) σ↔f (fun T' σ'=>K (aput T' dx d) σ') T σ:=by
 cases dx with
 |none=>exact Iff.rfl
 |some t=>exact h K T σ t d (h1 t rfl) (h2 t rfl)
theorem putK_aput {dst:Option Nat} {d:D}:putK N dst d K T σ↔(∀t,dst=some t→t<N)∧K (aput T dst d) σ:=by
 cases dst <;> simp[putK,aput]
theorem det_aput {f:Tr} {dst:Option Nat} {looks:List Nat} {det:Env→Option (Prop×D)} (h:DetT N f dst looks det) {dx:Option Nat} {d:D} (h1:notIn dx looks):det (aput T dx d)=det T:=by
 cases dx with
 |none=>rfl
 |some t=>exact h.2 T t d (h1 t rfl)
theorem load_aput {f:Tr} {dst:Option Nat} {looks:List Nat} {which:Env→Option Nat} {det:Env→St→Option D} (h:LoadT N f dst looks which det) {dx:Option Nat} {d:D} (h1:notIn dx looks):
  det (aput T dx d) σ=det T σ∧which (aput T dx d)=which T:=by
 cases dx with
 |none=>exact⟨rfl,rfl⟩
 |some t=>exact h.2.1 T t d σ (h1 t rfl)
structure ApartT (dx dy:Option Nat) (lx ly:List Nat):Prop where
 xy:notIn dx ly
 yx:notIn dy lx
 ne:∀t,dx=some t→dy≠some t
theorem ApartT.ne' {dx dy:Option Nat} {lx ly:List Nat} (h:ApartT dx dy lx ly):∀t,dy=some t→dx≠some t:=fun t hy hx=>h.ne t hx hy
theorem swap_det_any {f g:Tr} {dx dy:Option Nat} {lx ly:List Nat} {det:Env→Option (Prop×D)} (hap:ApartT dx dy lx ly) (hx:DetT N f dx lx det) (hfy:FrameT g dy ly) {keep:St→St→Prop} (hmy:MonoT keep B g dy)
  (hg:good B σ) (h:f (fun T' σ'=>good B σ'→g K T' σ') T σ):g (fun T' σ'=>good B σ'→f K T' σ') T σ:=by
 rw[hx.1] at h
 split at h
 ·rename_i side d hd
  obtain⟨hs,h⟩:=h
  obtain⟨hn,h⟩:=putK_aput.1 h
  have h1:=(frame_aput hfy hap.xy hap.ne).1 (h hg)
  refine hmy _ _ _ _ hg h1 fun v σ' _ hg' hk _=> ?_
  rw[hx.1,det_aput hx hap.yx,hd]
  exact⟨hs,putK_aput.2 ⟨hn,hk⟩⟩
 ·exact h.elim
theorem swap_any_det {f g:Tr} {dx dy:Option Nat} {lx ly:List Nat} {det:Env→Option (Prop×D)} (hap:ApartT dx dy lx ly) (hfx:FrameT f dx lx) {keep:St→St→Prop} {kA:Prop} (hmx:MonoT keep B f dx) (hex:ExT keep kA B f dx)
  (hy:DetT N g dy ly det) (hg:good B σ) (h:f (fun T' σ'=>good B σ'→g K T' σ') T σ):g (fun T' σ'=>good B σ'→f K T' σ') T σ:=by
 obtain⟨v,σ',_,_,hg',h1⟩:=hex _ _ _ hg h 0
 have h2:=h1 hg'
 rw[hy.1,det_aput hy hap.xy] at h2
 rw[hy.1]
 cases hd:det T with
 |none=>rw[hd] at h2; exact h2.elim
 |some p=>
  obtain⟨side,d⟩:=p
  rw[hd] at h2
  obtain⟨hs,h2⟩:=h2
  have hn:=(putK_aput.1 h2).1
  refine⟨hs,putK_aput.2 ⟨hn,fun _=> ?_⟩⟩
  refine(frame_aput hfx hap.yx hap.ne').2 (hmx _ _ _ _ hg h fun u σ₁ _ hg₁ hk=> ?_)
  have h3:=hk hg₁
  rw[hy.1,det_aput hy hap.xy,hd] at h3
  exact(putK_aput.1 h3.2).2
theorem swap_load_any {f g:Tr} {dx dy:Option Nat} {lx ly:List Nat} {which:Env→Option Nat} {det:Env→St→Option D} (hap:ApartT dx dy lx ly) (hx:LoadT N f dx lx which det) (hfy:FrameT g dy ly) {keep:St→St→Prop} (hmy:MonoT keep B g dy)
  (hkeep:∀σ',good B σ→f (fun _ _=>True) T σ→keep σ σ'→∀b,which T=some b→sameAt σ σ' b)
  (hg:good B σ) (h:f (fun T' σ'=>good B σ'→g K T' σ') T σ):g (fun T' σ'=>good B σ'→f K T' σ') T σ:=by
 have h':=h
 rw[hx.1] at h
 split at h
 ·rename_i d hd
  obtain⟨hn,h⟩:=putK_aput.1 h
  have htrue:f (fun _ _=>True) T σ:=by rw[hx.1,hd]; exact putK_aput.2 ⟨hn,trivial⟩
  have h1:=(frame_aput hfy hap.xy hap.ne).1 (h hg)
  refine hmy _ _ _ _ hg h1 fun v σ' hk hg' hK _=> ?_
  rw[hx.1,(load_aput hx hap.yx).1,hx.2.2 T σ σ' (hkeep σ' hg htrue hk),hd]
  exact putK_aput.2 ⟨hn,hK⟩
 ·exact h.elim
theorem swap_any_load {f g:Tr} {dx dy:Option Nat} {lx ly:List Nat} {which:Env→Option Nat} {det:Env→St→Option D} (hap:ApartT dx dy lx ly) (hfx:FrameT f dx lx) {keep:St→St→Prop} {kA:Prop} (hmx:MonoT keep B f dx) (hex:ExT keep kA B f dx)
  (hy:LoadT N g dy ly which det) (hout:∀σ' d,keep σ σ'→(kA→sameAt σ σ' ((which T).getD 0))→det T σ'=some d→∀b,which T=some b→sameAt σ σ' b)
  (hkeep:∀σ' d,keep σ σ'→det T σ=some d→∀b,which T=some b→sameAt σ σ' b)
  (hg:good B σ) (h:f (fun T' σ'=>good B σ'→g K T' σ') T σ):g (fun T' σ'=>good B σ'→f K T' σ') T σ:=by
 obtain⟨v,σ',hk,hbx,hg',h1⟩:=hex _ _ _ hg h ((which T).getD 0)
 have h2:=h1 hg'
 rw[hy.1,(load_aput hy hap.xy).1] at h2
 have heq:∀b,which T=some b→sameAt σ σ' b:=by
  cases hd:det T σ' with
  |none=>rw[hd] at h2; exact h2.elim
  |some d=>exact hout σ' d hk hbx hd
 rw[hy.2.2 T σ σ' heq] at h2
 rw[hy.1]
 cases hd:det T σ with
 |none=>rw[hd] at h2; exact h2.elim
 |some d=>
  rw[hd] at h2
  have hn:=(putK_aput.1 h2).1
  refine putK_aput.2 ⟨hn,fun _=> ?_⟩
  refine(frame_aput hfx hap.yx hap.ne').2 (hmx _ _ _ _ hg h fun u σ₁ hk₁ hg₁ hK=> ?_)
  have h3:=hK hg₁
  rw[hy.1,(load_aput hy hap.xy).1,hy.2.2 T σ σ₁ (hkeep σ₁ d hk₁ hd),hd] at h3
  exact(putK_aput.1 h3).2
end
end Go.AL
namespace Go.AL
structure AO where
 d:Option Nat
 op:Op
 g:Option (Nat×Bool)
inductive Kd where
 |F|L|A|C|X
 deriving DecidableEq
def kd [Mo]:Op→Kd
 | .load _ _| .lookup _ _ _ _=> .L
 | .alloc _| .box _ _=> .A
 | .store _ _ _=> .C
 | .call {callee:= .value _,..}=> .C
 | .call {callee:= .builtin .append,argTypes,..}=>if argTypes.toList.any Mo.aps=true then .X else .C
 | .call {callee:= .builtin .len,argTypes,..}=>if argTypes.toList.any Mo.mps=true then .X else .F
 | .makeSlice t _ _=>if Mo.mks t=true then .A else .F
 | .call {callee:= .builtin .min,..}| .call {callee:= .builtin .max,..}=> .F
 | .binOp _ _ _ y _=>if nilOpnd y then .X else .F
 | .move _| .assign _| .pick _ _ _| .unOp _ _ _| .convert _ _ _| .makeInterface _ _| .makeFunc _ _ _| .extract _ _| .field _ _ _| .fieldAddr _ _ _| .indexAddr _ _ _| .index _ _ _| .nilCheck _
 | .build _ _| .buildSlice _ _ _| .slice _ _ _ _ _=> .F
 |_=> .X
def tmpsOf (op:Op):List Nat:=(opndsOf op).filterMap fun| .tmp t=>some t|_=>none
def looksO (o:AO):List Nat:=(match o.g with|some (t,_)=>[t]|none=>[])++tmpsOf o.op
theorem tmpsOf_ne {op:Op} {t:Nat} (h:t∉tmpsOf op):∀x∈opndsOf op,x≠ .tmp t:=fun x hx he=>h (by
 subst he
 exact List.mem_filterMap.2 ⟨_,hx,rfl⟩)
section
variable {P : Program} {N : Nat} {T : Env} {σ : St} {K K' : Env → St → Prop} {Q : XA → Env → St → Prop} {B : List Nat}
def callB (P:Program) (N:Nat) (B:List Nat) (st:Bool) (dst:Option Nat) (g:FuncId) (ds:List D) (K:Env→St→Prop) (Q:XA→Env→St→Prop) (T:Env) (σ:St):Prop:=
 ∃s fr R,St.split σ s fr∧(∀b∈B,¬s.has b)∧ACall P g ds s R∧(st=true→(∃d s',R (.ret d) s'∧(∀b,s'.has b→s.has b)∧St.fin s')∧∀d s',¬R (.pan d) s')∧
  ∀x s',R x s'→St.apart s' fr→St.fin s'→match x with
   | .ret d=>putK N dst d K T (St.join s' fr)
   | .pan d=>panK Q d (St.join s' fr)
def dcore [Mo] (P:Program) (N:Nat) (B:List Nat) (fl st:Bool) (o:AO) (Q:XA→Env→St→Prop):Tr:=fun K T σ=>
 match o.op with
 | .load t x=>match ev T x with
  | .ptr b off=>(fl=true→b∈B)∧aop P N o.d (.load t x) K Q T σ
  |_=>aop P N o.d (.load t x) K Q T σ
 | .store t x v=>match ev T x with
  | .ptr b off=>b∉B∧aop P N o.d (.store t x v) K Q T σ
  |_=>False
 | .call {callee:= .value f,args,..}=>match ev T f with
  | .func (.func g) fi ca=>callB P N B st o.d g (fi++args.toList.map (ev T)++ca) K Q T σ
  |_=>False
 | .lookup t x i ok=>fl=false∧aop P N o.d (.lookup t x i ok) K Q T σ
 |op=>aop P N o.d op K Q T σ
def dop [Mo] (P:Program) (N:Nat) (B:List Nat) (fl st:Bool) (o:AO) (Q:XA→Env→St→Prop):Tr:=fun K T σ=>
 match o.g with
 |none=>dcore P N B fl st o Q K T σ
 |some (t,w)=>match gq (T t) w with
  |some c=>br c (dcore P N B fl st o Q K T σ) (putK N o.d (.tup []) K T σ)
  |none=>False
theorem callB_callA {st:Bool} {dst:Option Nat} {g:FuncId} {ds:List D} (h:callB P N B st dst g ds K Q T σ):callA P N dst g ds K Q T σ:=by
 obtain⟨s,fr,R,h1,_,h2,_,h3⟩:=h
 exact⟨s,fr,R,h1,h2,h3⟩
theorem dcore_aop [Mo] {fl st:Bool} {o:AO} (h:dcore P N B fl st o Q K T σ):aop P N o.d o.op K Q T σ:=by
 obtain⟨d,op,g⟩:=o
 unfold dcore at h
 simp only at h ⊢
 split at h
 ·split at h
  ·exact h.2
  ·exact h
 ·split at h
  ·exact h.2
  ·exact h.elim
 ·split at h
  ·rename_i hf
   simp only[aop,hf]
   exact callB_callA h
  ·exact h.elim
 ·exact h.2
 ·exact h
def detF (P:Program) (op:Op) (T:Env):Option (Prop×D):=
 match op with
 | .binOp bop xt x y _=>binD P bop xt (ev T x) (ev T y)
 | .buildSlice t len parts=>match sliP P t with
  |some e=>match szP P e,zf4 P e with
   |some s,some z=>match fillD (fun i=>some (i*s,e)) P T frz parts.toList (List.replicate len z).flatten with
    |some cs=>some (z.length=s∧len*s≤16777216,.slice .exact (chunks s len cs))
    |none=>none
   |_,_=>none
  |none=>none
 | .makeSlice t l c=>makeA P t (ev T l) (ev T c)
 |op=>pureD P op T
theorem detF_env {op:Op} {t:Nat} {d:D} (h:t∉tmpsOf op):detF P op (upd T t d)=detF P op T:=by
 have hne:=tmpsOf_ne h
 have hp:=pureD_env (P:=P) (T:=T) (d:=d) hne
 cases op <;> first
  |exact hp
  |skip
 case makeSlice ty l c=>
  simp only[opndsOf,Op.operands] at hne
  simp only[detF,ev_upd (hne l (by simp)),ev_upd (hne c (by simp))]
 case buildSlice ty len parts=>
  simp only[opndsOf,Op.operands] at hne
  have hpp:∀p∈parts.toList,p.2≠ .tmp t:=fun p hp=>hne p.2 (by simp; exact⟨p.1,by simpa using hp⟩)
  simp only[detF,fillD_env _ _ hpp]
theorem kdF_eq [Mo] {fl st:Bool} {o:AO} (h:kd o.op= .F):dcore P N B fl st o Q K T σ↔match detF P o.op T with|some (side,d)=>side∧putK N o.d d K T σ|none=>False:=by
 obtain⟨dst,op,g⟩:=o
 simp only at h
 cases op <;> simp only[kd,reduceCtorEq] at h <;> try exact Iff.rfl
 case binOp bop xt x y yt=>
  split at h
  ·cases h
  ·rename_i hn
   have hn':nilOpnd y=false:=by simpa using hn
   simp only[dcore,aop,binA,hn',detF] <;> exact Iff.rfl
 case makeSlice t l c=>
  split at h
  ·cases h
  rename_i hn
  simp only[dcore,aop,detF]
  rw[if_neg hn] <;> exact Iff.rfl
 case buildSlice t len parts=>
  simp only[dcore,aop,detF]
  cases sliP P t with
  |none=>exact Iff.rfl
  |some e=>
   simp only
   cases szP P e with
   |none=>exact Iff.rfl
   |some s=>
    cases zf4 P e with
    |none=>exact Iff.rfl
    |some z=>
     simp only
     cases fillD (fun i=>some (i*s,e)) P T frz parts.toList (List.replicate len z).flatten with
     |none=>simp
     |some cs=>simp only[and_assoc]
 case call c=>
  obtain⟨callee,args,argTypes⟩:=c
  cases callee with
  |value f=>simp only[kd] at h; cases h
  |invoke r m=>simp only[kd] at h; cases h
  |builtin b=>
   cases b
   case len=>
    simp only[kd] at h
    split at h
    ·cases h
    rename_i hn
    simp only[dcore,aop,detF,pureD]
    split
    ·rename_i x t hx ht
     have hf:Mo.mps t=false:=by simpa[ht] using hn
     cases hd:ev T x <;> try exact Iff.rfl
     simp[hf,lenD,hx,ht,hd]
    ·rename_i hno
     split
     ·rename_i hm
      split at hm
      ·rename_i x t hx ht; exact absurd ht (hno x t hx)
      ·cases hm
     ·exact Iff.rfl
   all_goals first
    |exact Iff.rfl
    |(simp only[kd] at h; cases h; done)
    |(simp only[kd] at h; split at h <;> cases h)
def detG (P:Program) (o:AO) (T:Env):Option (Prop×D):=
 match o.g with
 |none=>detF P o.op T
 |some (t,w)=>match gq (T t) w with
  |some c=>if c=true then detF P o.op T else some (True,.tup [])
  |none=>none
theorem looks_tmps {o:AO} {t:Nat} (h:t∉looksO o):t∉tmpsOf o.op:=fun h'=>h (List.mem_append.2 (.inr h'))
theorem looks_guard {o:AO} {t u:Nat} {w:Bool} (h:t∉looksO o) (hg:o.g=some (u,w)):u≠t:=fun he=>h (by simp[looksO,hg,he])
theorem det_dop [Mo] {fl st:Bool} {o:AO} (h:kd o.op= .F):DetT N (dop P N B fl st o Q) o.d (looksO o) (detG P o):=by
 refine⟨fun K T σ=> ?_,fun T t d ht=> ?_⟩
 ·unfold dop detG
  cases hg:o.g with
  |none=>exact kdF_eq h
  |some p=>
   obtain⟨t,w⟩:=p
   simp only
   cases hT:gq (T t) w <;> try exact Iff.rfl
   rename_i b
   simp only[br]
   by_cases hb:b=true
   ·rw[if_pos hb,if_pos hb]; exact kdF_eq h
   ·rw[if_neg hb,if_neg hb]; simp
 ·unfold detG
  cases hg:o.g with
  |none=>exact detF_env (looks_tmps ht)
  |some p=>
   obtain⟨u,w⟩:=p
   have hu:upd T t d u=T u:=by simp[upd,looks_guard ht hg]
   simp only[hu,detF_env (looks_tmps ht)]
theorem callB_env {t:Nat} {d:D} {dst:Option Nat} (hd:dst≠some t) {st:Bool} {g:FuncId} {ds:List D}:callB P N B st dst g ds K Q (upd T t d) σ↔callB P N B st dst g ds (fun T' σ'=>K (upd T' t d) σ') Q T σ:=by
 simp only[callB,putK_env hd]
theorem dcore_env [Mo] {fl st:Bool} {o:AO} {t:Nat} {d:D} (h:t∉tmpsOf o.op) (hd:o.d≠some t):dcore P N B fl st o Q K (upd T t d) σ↔dcore P N B fl st o Q (fun T' σ'=>K (upd T' t d) σ') T σ:=by
 obtain⟨dst,op,g⟩:=o
 have hne:=tmpsOf_ne h
 simp only at hd hne
 have ha:=aop_env (P:=P) (N:=N) (K:=K) (Q:=Q) (T:=T) (σ:=σ) (d:=d) hne hd
 cases op <;> try exact ha
 case load ty x=>
  simp only[opndsOf,Op.operands] at hne
  have hx:=ev_upd (T:=T) (d:=d) (hne x (by simp))
  simp only[dcore,hx,ha]
 case store ty x y=>
  simp only[opndsOf,Op.operands] at hne
  have hx:=ev_upd (T:=T) (d:=d) (hne x (by simp))
  simp only[dcore,hx,ha]
 case lookup ty x i ok=>simp only[dcore,ha]
 case call c=>
  obtain⟨callee,args,argTypes⟩:=c
  cases callee with
  |value f=>
   simp only[opndsOf,Op.operands,Call.operands] at hne
   have hf:=ev_upd (T:=T) (d:=d) (hne f (by simp))
   have har:∀x∈args.toList,x≠ .tmp t:=fun x hx=>hne x (by simp only[Array.toList_append,List.mem_append]; exact .inr hx)
   simp only[dcore,hf,ev_map har,callB_env hd]
  |invoke r m=>exact ha
  |builtin b=>exact ha
theorem frame_dop [Mo] {fl st:Bool} {o:AO}:FrameT (dop P N B fl st o Q) o.d (looksO o):=by
 intro K T σ t d ht hd
 unfold dop
 cases hg:o.g with
 |none=>exact dcore_env (looks_tmps ht) hd
 |some p=>
  obtain⟨u,w⟩:=p
  have hu:upd T t d u=T u:=by simp[upd,looks_guard ht hg]
  simp only[hu]
  cases gq (T u) w <;> try exact Iff.rfl
  simp only[br,dcore_env (looks_tmps ht) hd,putK_env hd]
end
end Go.AL
namespace Go.AL
section
variable {P : Program} {N : Nat} {T : Env} {σ : St} {K K' : Env → St → Prop} {Q : XA → Env → St → Prop} {B : List Nat}
def whO (T:Env):Op→Option Nat
 | .load _ x=>match ev T x with
  | .ptr b _=>some b
  |_=>none
 | .lookup _ x _ _=>match ev T x with
  | .map b=>some b
  |_=>none
 |_=>none
def loadO (P:Program) (fl:Bool) (B:List Nat) (T:Env) (σ:St):Op→Option D
 | .load t x=>match ev T x with
  | .ptr b off=>if fl=true→b∈B then match σ.box b with
   |some cs=>partD P t (cs.drop off) 0
   |none=>none
   else none
  | .eptr cs=>partD P t cs 0
  |_=>none
 | .lookup t x i ok=>if fl=true then none else lookD P t (ev T x) (ev T i) ok σ
 |_=>none
def whichL (o:AO) (T:Env):Option Nat:=match o.g with
 |none=>whO T o.op
 |some (t,want)=>match gq (T t) want with
  |some c=>if c=true then whO T o.op else none
  |none=>none
def detL (P:Program) (fl:Bool) (B:List Nat) (o:AO) (T:Env) (σ:St):Option D:=match o.g with
 |none=>loadO P fl B T σ o.op
 |some (t,want)=>match gq (T t) want with
  |some c=>if c=true then loadO P fl B T σ o.op else some (.tup [])
  |none=>none
theorem kd_L [Mo] {op:Op} (h:kd op= .L):(∃t x,op= .load t x)∨∃t x i ok,op= .lookup t x i ok:=by
 cases op <;> simp only[kd,reduceCtorEq] at h
 case load t x=>exact .inl ⟨t,x,rfl⟩
 case lookup t x i ok=>exact .inr ⟨t,x,i,ok,rfl⟩
 case binOp=>split at h <;> cases h
 case makeSlice=>split at h <;> cases h
 case call c=>
  obtain⟨callee,args,argTypes⟩:=c
  cases callee with
  |builtin b=>cases b <;> simp only[kd,reduceCtorEq] at h <;> (split at h <;> cases h)
  |_=>simp only[kd,reduceCtorEq] at h
theorem load_core [Mo] {fl st:Bool} {o:AO} (h:kd o.op= .L):dcore P N B fl st o Q K T σ↔match loadO P fl B T σ o.op with|some d=>putK N o.d d K T σ|none=>False:=by
 obtain⟨dst,op,g⟩:=o
 rcases kd_L h with⟨t,x,rfl⟩|⟨t,x,i,ok,rfl⟩
 ·simp only[dcore,aop,loadO]
  cases ev T x <;> try exact Iff.rfl
  rename_i b off
  simp only
  by_cases hb:fl=true→b∈B
  ·rw[if_pos hb]
   cases σ.box b with
   |none=>simp
   |some cs=>exact⟨fun h=>h.2,fun h=>⟨hb,h⟩⟩
  ·rw[if_neg hb]
   simp[hb]
 ·simp only[dcore,aop,loadO]
  cases fl
  ·simp only[Bool.false_eq_true,if_false,true_and] <;> exact Iff.rfl
  ·simp
theorem loadO_env {fl:Bool} {op:Op} {t:Nat} {d:D} (h:t∉tmpsOf op):loadO P fl B (upd T t d) σ op=loadO P fl B T σ op∧whO (upd T t d) op=whO T op:=by
 cases op <;> try exact⟨rfl,rfl⟩
 case load ty x=>
  have hx:ev (upd T t d) x=ev T x:=ev_upd (tmpsOf_ne h x (by simp[opndsOf,Op.operands]))
  simp only[loadO,whO,hx,and_self]
 case lookup ty x i ok=>
  have hx:ev (upd T t d) x=ev T x:=ev_upd (tmpsOf_ne h x (by simp[opndsOf,Op.operands]))
  have hi:ev (upd T t d) i=ev T i:=ev_upd (tmpsOf_ne h i (by simp[opndsOf,Op.operands]))
  simp only[loadO,whO,hx,hi,and_self]
theorem loadO_same {fl:Bool} {op:Op} {σ':St} (h:∀b,whO T op=some b→sameAt σ σ' b):loadO P fl B T σ' op=loadO P fl B T σ op:=by
 cases op <;> try rfl
 case load ty x=>
  simp only[loadO,whO] at h ⊢
  cases hx:ev T x <;> try rfl
  rename_i b off
  simp only[hx] at h
  simp only[(h b rfl).1]
 case lookup ty x i ok=>
  simp only[loadO,whO] at h ⊢
  cases fl
  ·simp only[lookD]
   cases hm:mapP P ty with
   |none=>cases ev T x <;> rfl
   |some p=>
    cases hx:ev T x <;> try rfl
    rename_i b
    rw[hx] at h
    simp only[(h b rfl).2]
  ·rfl
theorem loadO_some {fl:Bool} {op:Op} {d:D} (h:loadO P fl B T σ op=some d) {b:Nat} (hb:whO T op=some b):σ.has b∧(fl=true→b∈B):=by
 cases op <;> simp only[whO,reduceCtorEq] at hb
 case load ty x=>
  simp only[loadO] at h
  cases hx:ev T x <;> simp only[hx,reduceCtorEq,Option.some.injEq] at h hb
  subst hb
  split at h
  ·rename_i hf
   split at h
   ·rename_i hc; exact⟨has_box hc,hf⟩
   ·cases h
  ·cases h
 case lookup ty x i ok=>
  simp only[loadO] at h
  cases fl
  ·simp only[Bool.false_eq_true,if_false,lookD] at h
   cases hx:ev T x <;> simp only[hx,reduceCtorEq,Option.some.injEq] at h hb
   subst hb
   refine⟨?_,fun h=>by cases h⟩
   split at h
   ·rename_i heq hm
    cases heq
    split at h
    ·unfold lookO at h
     split at h
     ·rename_i hmp; exact has_mp hmp
     ·cases h
    ·cases h
   ·cases h
  ·cases h
theorem load_dop [Mo] {fl st:Bool} {o:AO} (h:kd o.op= .L):LoadT N (dop P N B fl st o Q) o.d (looksO o) (whichL o) (detL P fl B o):=by
 obtain⟨dst,op,g⟩:=o
 refine⟨fun K T σ=> ?_,fun T u d σ hu=> ?_,fun T σ σ' hs=> ?_⟩
 ·cases g with
  |none=>exact load_core (st:=st) h
  |some p=>
   obtain⟨u,w⟩:=p
   simp only[dop,detL]
   cases hT:gq (T u) w <;> try exact Iff.rfl
   rename_i b
   simp only[br]
   by_cases hb:b=true
   ·simp only[hb,if_true]; exact load_core (st:=st) h
   ·simp only[hb,if_false]; exact Iff.rfl
 ·obtain⟨h1,h2⟩:=loadO_env (P:=P) (T:=T) (σ:=σ) (B:=B) (fl:=fl) (d:=d) (looks_tmps hu)
  cases g with
  |none=>exact⟨h1,h2⟩
  |some p=>
   obtain⟨v,w⟩:=p
   have hv:upd T u d v=T v:=by simp[upd,looks_guard hu rfl]
   simp only[detL,whichL,hv]
   exact⟨by rw[h1],by rw[h2]⟩
 ·cases g with
  |none=>exact loadO_same hs
  |some p=>
   obtain⟨v,w⟩:=p
   simp only[detL,whichL] at hs ⊢
   cases hT:gq (T v) w <;> try rfl
   rename_i b
   simp only[hT] at hs ⊢
   by_cases hb:b=true
   ·simp only[hb,if_true] at hs ⊢
    exact loadO_same hs
   ·simp only[hb,if_false]; rfl
theorem which_some {fl:Bool} {o:AO} {d:D} (h:detL P fl B o T σ=some d):∀b,whichL o T=some b→σ.has b∧(fl=true→b∈B):=by
 intro b hb
 obtain⟨dst,op,g⟩:=o
 unfold detL at h
 unfold whichL at hb
 cases g with
 |none=>exact loadO_some h hb
 |some p=>
  obtain⟨v,w⟩:=p
  simp only at h hb
  cases hT:gq (T v) w <;> simp only[hT,reduceCtorEq] at h hb
  rename_i q
  by_cases hq:q=true
  ·simp only[hq,if_true] at h hb
   exact loadO_some h hb
  ·simp[hq] at hb
theorem putK_cases {dst:Option Nat} {v:D} {σ':St} (h:putK N dst v K T σ') (hk:K (aput T dst v) σ'→K' (aput T dst v) σ'):putK N dst v K' T σ':=putK_mono h hk
theorem keepB_set {b:Nat} {cs:List D} (hb:b∉B):keepB B σ (σ.set b cs):=fun x hx=>by
 refine⟨?_,rfl⟩
 simp only[St.set]
 rw[if_neg (fun he=>hb (by rw[←he]; exact hx))]
theorem keepA_set {b:Nat} {cs:List D} (hb:¬σ.has b):keepA σ (σ.set b cs):=fun x hx=>by
 refine⟨?_,rfl⟩
 simp only[St.set]
 rw[if_neg (fun he=>hb (by subst he; exact hx))]
theorem keepB_join {s s' fr:St} (hs:St.split σ s fr) (hB:∀b∈B,¬s.has b) (hg:good B σ) (hap:St.apart s' fr):keepB B σ (St.join s' fr):=fun b hb=>by
 have h1:=hg.2 b hb
 have h2:s.box b=none:=by
  cases hc:s.box b with
  |none=>rfl
  |some c=>exact absurd (has_box hc) (hB b hb)
 have h3:σ.box b=fr.box b:=by rw[hs.eq]; simp[St.join,h2]
 have h4:s'.box b=none:=by
  cases hc:s'.box b with
  |none=>rfl
  |some c=>exact absurd (.inl (by rw[←h3]; exact h1)) (hap b (has_box hc))
 have h5:s.mp b=none:=by
  cases hc:s.mp b with
  |none=>rfl
  |some c=>exact absurd (has_mp hc) (hB b hb)
 have h6:s'.mp b=none:=by
  cases hc:s'.mp b with
  |none=>rfl
  |some c=>exact absurd (.inl (by rw[←h3]; exact h1)) (hap b (has_mp hc))
 refine⟨by rw[h3]; simp[St.join,h4], ?_⟩
 rw[hs.eq]; simp[St.join,h5,h6]
theorem good_set {b:Nat} {cs:List D} (hg:good B σ) (hk:keepB B σ (σ.set b cs)):good B (σ.set b cs):=hk.good hg (fin_set hg.1 b cs)
theorem append_mono {t t':TypeId} {x y:D} {dst:Option Nat} (hg:good B σ) (h:appendA P N dst t t' x y K T σ) (hk:∀v σ',keepB B σ σ'→good B σ'→K (aput T dst v) σ'→K' (aput T dst v) σ'):appendA P N dst t t' x y K' T σ:=by
 have still:∀v,putK N dst v K T σ→putK N dst v K' T σ:=fun v hv=>putK_cases hv (hk v σ (fun _ _=>⟨rfl,rfl⟩) hg)
 have grown:∀v b s n,putK N dst v K T (σ.setBuf b s n)→putK N dst v K' T (σ.setBuf b s n):=fun v b s n hv=>
  putK_cases hv (hk v _ (fun _ _=>⟨rfl,rfl⟩) ⟨fin_setBuf hg.1 b s n,hg.2⟩)
 have moved:∀v a b s n,putK N dst v K T ((σ.dropBuf a).setBuf b s n)→putK N dst v K' T ((σ.dropBuf a).setBuf b s n):=fun v a b s n hv=>
  putK_cases hv (hk v _ (fun _ _=>⟨rfl,rfl⟩) ⟨fin_setBuf (fin_dropBuf hg.1 a) b s n,hg.2⟩)
 unfold appendA at h ⊢
 split at h
 ·rename_i ow xs ow' ys e e' he he'
  obtain⟨h0,h⟩:=h
  refine⟨h0, ?_⟩
  split at h
  ·obtain⟨h1,h2,h3,h4,h5,h⟩:=h
   refine⟨h1,h2,h3,h4,h5, ?_⟩
   cases ow with
   |buf b s'=>exact⟨h.1,h.2.1,fun b' hb'=>moved _ _ _ _ _ (h.2.2 b' hb')⟩
   |nil=>exact⟨fun hy=>still _ (h.1 hy),fun hy b' hb'=>grown _ _ _ _ (h.2 hy b' hb')⟩
   |exact=>exact⟨h.1,fun hy=>still _ (h.2.1 hy),fun hy b' hb'=>grown _ _ _ _ (h.2.2 hy b' hb')⟩
   |no=>exact h.elim
  ·exact h.elim
 ·obtain⟨h1,h2,h3,h4,h5,h6,h7,h8,h⟩:=h
  exact⟨h1,h2,h3,h4,h5,h6,h7,h8,moved _ _ _ _ _ h⟩
 ·exact h.elim
theorem append_ex {t t':TypeId} {x y:D} {dst:Option Nat} (hg:good B σ) (h:appendA P N dst t t' x y K T σ) (z:Nat):∃v σ',keepB B σ σ'∧sameAt σ σ' z∧good B σ'∧K (aput T dst v) σ':=by
 unfold appendA at h
 split at h
 ·rename_i ow xs ow' ys e e' he he'
  obtain⟨h0,h⟩:=h
  split at h
  ·obtain⟨h1,h2,h3,h4,h5,h⟩:=h
   cases ow with
   |buf b s'=>
    obtain⟨b',hb',_⟩:=fin_fresh (fin_dropBuf hg.1 b) 0
    exact⟨_,(σ.dropBuf b).setBuf b' _ _,(fun _ _=>⟨rfl,rfl⟩),⟨rfl,rfl⟩,⟨fin_setBuf (fin_dropBuf hg.1 b) _ _ _,hg.2⟩,(putK_aput.1 (h.2.2 b' hb')).2⟩
   |nil=>
    by_cases hy:ys=[]
    ·exact⟨_,_,(fun _ _=>⟨rfl,rfl⟩),⟨rfl,rfl⟩,hg,(putK_aput.1 (h.1 hy)).2⟩
    ·obtain⟨b',hb',_⟩:=fin_fresh hg.1 0
     exact⟨_,σ.setBuf b' _ _,(fun _ _=>⟨rfl,rfl⟩),⟨rfl,rfl⟩,⟨fin_setBuf hg.1 _ _ _,hg.2⟩,(putK_aput.1 (h.2 hy b' hb')).2⟩
   |exact=>
    by_cases hy:ys=[]
    ·exact⟨_,_,(fun _ _=>⟨rfl,rfl⟩),⟨rfl,rfl⟩,hg,(putK_aput.1 (h.2.1 hy)).2⟩
    ·obtain⟨b',hb',_⟩:=fin_fresh hg.1 0
     exact⟨_,σ.setBuf b' _ _,(fun _ _=>⟨rfl,rfl⟩),⟨rfl,rfl⟩,⟨fin_setBuf hg.1 _ _ _,hg.2⟩,(putK_aput.1 (h.2.2 hy b' hb')).2⟩
   |no=>exact h.elim
  ·exact h.elim
 ·obtain⟨h1,h2,h3,h4,h5,h6,h7,h8,h⟩:=h
  exact⟨_,(σ.dropBuf _).setBuf _ _ _,(fun _ _=>⟨rfl,rfl⟩),⟨rfl,rfl⟩,⟨fin_setBuf (fin_dropBuf hg.1 _) _ _ _,hg.2⟩,(putK_aput.1 h).2⟩
 ·exact h.elim
end
end Go.AL
namespace Go.AL
section
variable {P : Program} {N : Nat} {T : Env} {σ : St} {K K' : Env → St → Prop} {Q : XA → Env → St → Prop} {B : List Nat}
theorem set_has {b x:Nat} {cs:List D}:(σ.set b cs).has x↔x=b∨σ.has x:=by
 simp only[St.has,St.set]
 by_cases h:x=b <;> simp[h]
theorem setM_has {b x:Nat} {o:MO}:(σ.setM b o).has x↔x=b∨σ.has x:=by
 simp only[St.has,St.setM]
 by_cases h:x=b <;> simp[h]
theorem fin_setM {σ:St} (h:σ.fin) (b:Nat) (o:MO):(σ.setM b o).fin:=by
 obtain⟨n,hn⟩:=h
 refine⟨n+b+1,fun x hx hin=> ?_⟩
 rcases setM_has.1 hin with h|h
 ·omega
 ·exact hn x (by omega) h
def zOf (P:Program) (op:Op) (T:Env):Option (Prop×List D×(Nat→D)):=
 match op with
 | .alloc t=>(zf4 P t).map fun z=>(True,z,fun b=> .ptr b 0)
 | .box t x=>(cellsD P t (ev T x)).map fun z=>(True,z,fun b=> .ptr b 0)
 | .makeSlice t l c=>makeB P t (ev T l) (ev T c)
 |_=>none
theorem alloc_core [Mo] {fl st:Bool} {o:AO} (h:kd o.op= .A):dcore P N B fl st o Q K T σ↔match zOf P o.op T with
  |none=>False
  |some (side,z,f)=>side∧∀b,¬σ.has b→putK N o.d (f b) K T (σ.set b z):=by
 obtain⟨dst,op,g⟩:=o
 cases op <;> simp only[kd,reduceCtorEq] at h
 case alloc t=>simp only[dcore,aop,zOf]; cases zf4 P t <;> simp
 case box t x=>simp only[dcore,aop,zOf]; cases cellsD P t (ev T x) <;> simp
 case makeSlice t l c=>
  split at h
  ·rename_i hm
   simp only[dcore,aop,zOf]
   rw[if_pos hm]
   cases makeB P t (ev T l) (ev T c) <;> simp
  ·cases h
 case binOp=>split at h <;> cases h
 case call c=>
  obtain⟨callee,args,argTypes⟩:=c
  cases callee with
  |builtin b=>cases b <;> simp only[kd,reduceCtorEq] at h <;> (split at h <;> cases h)
  |_=>simp only[kd,reduceCtorEq] at h
def keepK (B:List Nat):Kd→St→St→Prop
 | .C=>keepB B
 | .A=>keepA
 | .X=>fun _ _=>True
 |_=>fun σ σ'=>σ'=σ
theorem mono_core [Mo] {fl st:Bool} {o:AO} (hg:good B σ) (h:dcore P N B fl st o Q K T σ) (hk:∀v σ',keepK B (kd o.op) σ σ'→good B σ'→K (aput T o.d v) σ'→K' (aput T o.d v) σ'):dcore P N B fl st o Q K' T σ:=by
 obtain⟨dst,op,g⟩:=o
 simp only at hk
 cases op
 case load t x=>
  rw[load_core rfl] at h ⊢
  split at h
  ·exact putK_cases h (hk _ σ rfl hg)
  ·exact h.elim
 case lookup t x i ok=>
  rw[load_core rfl] at h ⊢
  split at h
  ·exact putK_cases h (hk _ σ rfl hg)
  ·exact h.elim
 case makeSlice t l c=>
  by_cases hm:Mo.mks t=true
  ·have hA:kd (Op.makeSlice t l c)= .A:=by simp only[kd]; rw[if_pos hm]
   rw[alloc_core hA] at h ⊢
   rw[hA] at hk
   split at h
   ·exact h.elim
   ·exact⟨h.1,fun b hb=>putK_cases (h.2 b hb) (hk _ _ (keepA_set hb) (good_set hg ((keepA_set hb).toB hg)))⟩
  ·have hF:kd (Op.makeSlice t l c)= .F:=by simp only[kd]; rw[if_neg hm]
   rw[kdF_eq hF] at h ⊢
   rw[hF] at hk
   split at h
   ·exact⟨h.1,putK_cases h.2 (hk _ σ rfl hg)⟩
   ·exact h.elim
 case mapUpdate t m k v=>
  simp only[dcore,aop,updA] at h ⊢
  split at h
  ·split at h
   ·exact⟨h.1,h.2.1,putK_cases h.2.2 (hk _ _ trivial ⟨fin_setM hg.1 _ _,hg.2⟩)⟩
   ·exact h.elim
  ·exact h.elim
 case insert t m k v=>
  simp only[dcore,aop,updA] at h ⊢
  split at h
  ·split at h
   ·exact⟨h.1,h.2.1,putK_cases h.2.2 (hk _ _ trivial ⟨fin_setM hg.1 _ _,hg.2⟩)⟩
   ·exact h.elim
  ·exact h.elim
 case makeMap t r=>
  cases r with
  |some x=>exact(show False by simp[dcore,aop,pureD] at h).elim
  |none=>
   simp only[dcore,aop,mkmA] at h ⊢
   split at h
   ·split at h
    ·exact fun b hb=>putK_cases (h b hb) (hk _ _ trivial ⟨fin_setM hg.1 _ _,hg.2⟩)
    ·exact h.elim
   ·exact h.elim
 case range t x=>
  simp only[dcore,aop,rangeA] at h ⊢
  split at h
  ·split at h
   ·exact fun b hb=>putK_cases (h b hb) (hk _ _ trivial ⟨fin_setM hg.1 _ _,hg.2⟩)
   ·exact h.elim
  ·exact h.elim
 case next x is=>
  cases is
  ·simp only[dcore,aop,nextA] at h ⊢
   split at h
   ·split at h
    ·split at h
     ·exact⟨h.1,fun ha=>putK_cases (h.2.1 ha) (hk _ σ trivial hg),fun i k s h1 h2=>putK_cases (h.2.2 i k s h1 h2) (hk _ _ trivial ⟨fin_setM hg.1 _ _,hg.2⟩)⟩
     ·exact h.elim
    ·exact h.elim
   ·exact h.elim
  ·exact(show False by simp[dcore,aop,pureD] at h).elim
 case entry x=>
  simp only[dcore,aop,entryA] at h ⊢
  split at h
  ·split at h
   ·split at h
    ·obtain⟨h0,i,k,h1,h2⟩:=h
     exact⟨h0,i,k,h1,putK_cases h2 (hk _ σ trivial hg)⟩
    ·exact h.elim
   ·exact h.elim
  ·exact h.elim
 case store t x y=>
  simp only[dcore,aop] at h ⊢
  cases hx:ev T x <;> simp only[hx] at h ⊢
  rename_i b off
  obtain⟨hb,h⟩:=h
  refine⟨hb, ?_⟩
  split at h
  ·rename_i cs vs hcs hvs
   exact⟨h.1,putK_cases h.2 (hk _ _ (keepB_set hb) (good_set hg (keepB_set hb)))⟩
  ·exact h.elim
 case alloc t=>
  simp only[dcore,aop] at h ⊢
  split at h
  ·exact fun b hb=>putK_cases (h b hb) (hk _ _ (keepA_set hb) (good_set hg ((keepA_set hb).toB hg)))
  ·exact h.elim
 case box t x=>
  simp only[dcore,aop] at h ⊢
  split at h
  ·exact fun b hb=>putK_cases (h b hb) (hk _ _ (keepA_set hb) (good_set hg ((keepA_set hb).toB hg)))
  ·exact h.elim
 case buildSlice t len parts=>
  have hF:kd (Op.buildSlice t len parts)= .F:=rfl
  rw[kdF_eq hF] at h ⊢
  split at h
  ·exact⟨h.1,putK_cases h.2 (hk _ σ rfl hg)⟩
  ·exact h.elim
 case panic x=>exact h
 case binOp bop xt x y yt=>
  have hk':∀v,K (aput T dst v) σ→K' (aput T dst v) σ:=fun v=>hk v σ (by simp only[kd]; split <;> first|rfl|trivial) hg
  simp only[dcore,aop,binA] at h ⊢
  split at h
  ·split at h
   ·exact fun r hr=>putK_cases (h r hr) (hk' _)
   ·exact h.elim
  ·split at h
   ·exact fun r hr=>putK_cases (h r hr) (hk' _)
   ·exact h.elim
  ·split at h
   ·exact⟨h.1,putK_cases h.2 (hk' _)⟩
   ·exact h.elim
 case call c=>
  obtain⟨callee,args,argTypes⟩:=c
  cases callee with
  |value f=>
   simp only[dcore] at h ⊢
   split at h
   ·obtain⟨s,fr,R,h1,h2,h3,h4,h5⟩:=h
    refine⟨s,fr,R,h1,h2,h3,h4,fun x s' hR hap hf=> ?_⟩
    have:=h5 x s' hR hap hf
    cases x with
    |pan d=>exact this
    |ret d=>exact putK_cases this (hk _ _ (keepB_join h1 h2 hg hap) ((keepB_join h1 h2 hg hap).good hg (fin_join hf (fin_right (by rw[←h1.eq]; exact hg.1)))))
   ·exact h.elim
  |invoke r m=>exact(show False by simp[dcore,aop,pureD] at h).elim
  |builtin b=>
   cases b
   case append=>
    simp only[dcore,aop] at h ⊢
    split at h
    ·rename_i x y t t' hx ht
     by_cases hap:Mo.aps t=true
     ·have hX:kd (Op.call {callee:= .builtin .append,args,argTypes})= .X:=by
       simp only[kd]; rw[if_pos (by rw[ht]; simp[hap])]
      rw[hX] at hk
      rw[if_pos hap] at h ⊢
      have gs:∀b cs,good B (σ.set b cs):=fun b cs=>⟨fin_set hg.1 b cs,fun x hx=>by
       simp only[St.set]
       split
       ·simp
       ·exact hg.2 x hx⟩
      unfold appendB at h ⊢
      split at h
      ·refine⟨h.1, ?_⟩
       have h:=h.2
       split at h
       ·refine⟨h.1,h.2.1,h.2.2.1,h.2.2.2.1, ?_⟩
        have h:=h.2.2.2.2
        split at h
        ·exact⟨h.1,h.2.1,fun b cap h1 h2=>putK_cases (h.2.2 b cap h1 h2) (hk _ _ trivial (gs _ _))⟩
        ·split at h
         ·exact⟨h.1,h.2.1,h.2.2.1,fun h1=>putK_cases (h.2.2.2.1 h1) (hk _ _ trivial (gs _ _)),fun h1 b' cap' h2 h3=>putK_cases (h.2.2.2.2 h1 b' cap' h2 h3) (hk _ _ trivial (gs _ _))⟩
         ·exact h.elim
        ·exact h.elim
       ·exact h.elim
      ·exact h.elim
     ·rw[if_neg hap] at h ⊢
      refine append_mono hg h fun v σ' hb hg'=>hk v σ' ?_ hg'
      simp only[kd]
      split
      ·trivial
      ·exact hb
    ·exact h.elim
   case len=>
    have hk':∀v,K (aput T dst v) σ→K' (aput T dst v) σ:=fun v=>hk v σ (by simp only[kd]; split <;> first|rfl|trivial) hg
    simp only[dcore,aop] at h ⊢
    split at h
    ·split at h
     ·refine⟨h.1, ?_⟩
      have h:=h.2
      unfold mlenA at h ⊢
      split at h
      ·split at h
       ·exact putK_cases h (hk' _)
       ·exact h.elim
      ·exact h.elim
     ·split at h
      ·exact⟨h.1,putK_cases h.2 (hk' _)⟩
      ·exact h.elim
    ·exact h.elim
   case delete=>
    simp only[dcore,aop] at h ⊢
    split at h
    ·unfold delA at h ⊢
     split at h
     ·split at h
      ·exact⟨h.1,h.2.1,putK_cases h.2.2 (hk _ _ trivial ⟨fin_setM hg.1 _ _,hg.2⟩)⟩
      ·exact h.elim
     ·exact h.elim
    ·exact h.elim
   case min=>
    rw[kdF_eq rfl] at h ⊢
    split at h
    ·exact⟨h.1,putK_cases h.2 (hk _ σ rfl hg)⟩
    ·exact h.elim
   case max=>
    rw[kdF_eq rfl] at h ⊢
    split at h
    ·exact⟨h.1,putK_cases h.2 (hk _ σ rfl hg)⟩
    ·exact h.elim
   case copy=>
    simp only[dcore,aop] at h ⊢
    split at h
    ·unfold copyA at h ⊢
     split at h
     ·rename_i b o l c b' o' l' c' e hx hy he
      split at h
      ·rename_i cs cs' hsz hcs hcs'
       refine⟨h.1,h.2.1,putK_cases h.2.2 (hk _ _ trivial ⟨fin_set hg.1 b _,fun x hx=> ?_⟩)⟩
       simp only[St.set]
       split
       ·simp
       ·exact hg.2 x hx
      ·exact h.elim
     ·exact h.elim
    ·exact h.elim
   all_goals exact(show False by simp[dcore,aop,pureD] at h).elim
 all_goals first
  |(rw[kdF_eq rfl] at h ⊢
    split at h
    ·exact⟨h.1,putK_cases h.2 (hk _ σ rfl hg)⟩
    ·exact h.elim)
  |(simp[dcore,aop,pureD] at h; done)
theorem keepK_refl (k:Kd):keepK B k σ σ:=by
 cases k <;> first|rfl|exact fun _ _=>⟨rfl,rfl⟩|trivial
theorem mono_dop [Mo] {fl st:Bool} {o:AO}:MonoT (keepK B (kd o.op)) B (dop P N B fl st o Q) o.d:=by
 intro K K' T σ hg h hk
 unfold dop at h ⊢
 cases hgo:o.g with
 |none=>rw[hgo] at h; exact mono_core hg h hk
 |some p=>
  obtain⟨u,w⟩:=p
  rw[hgo] at h
  simp only at h ⊢
  cases hT:gq (T u) w <;> simp only[hT] at h ⊢
  rename_i b
  simp only[br] at h ⊢
  split at h
  ·rename_i hb; rw[if_pos hb]; exact mono_core hg h hk
  ·rename_i hb; rw[if_neg hb]; exact putK_cases h (hk _ σ (keepK_refl _) hg)
theorem kd_C [Mo] {op:Op} (h:kd op= .C):(∃t x v,op= .store t x v)∨(∃f args ts,op= .call {callee:= .value f,args,argTypes:=ts})∨∃args ts,op= .call {callee:= .builtin .append,args,argTypes:=ts}∧ts.toList.any Mo.aps=false:=by
 cases op <;> simp only[kd,reduceCtorEq] at h
 case call c=>
  obtain⟨callee,args,argTypes⟩:=c
  cases callee with
  |value f=>exact .inr (.inl ⟨f,args,argTypes,rfl⟩)
  |invoke r m=>simp only[kd,reduceCtorEq] at h
  |builtin b=>
   cases b <;> simp only[kd,reduceCtorEq] at h
   case append=>
    split at h
    ·cases h
    ·rename_i hn; exact .inr (.inr ⟨args,argTypes,rfl,by simpa using hn⟩)
   case len=>split at h <;> cases h
 case store t x v=>exact .inl ⟨t,x,v,rfl⟩
 case binOp=>split at h <;> cases h
 case makeSlice=>split at h <;> cases h
theorem set_box_ne {b z:Nat} {cs:List D} (h:b≠z):(σ.set b cs).box z=σ.box z:=by
 simp only[St.set]; rw[if_neg (Ne.symm h)]
theorem ex_core [Mo] {fl:Bool} {o:AO} (ho:kd o.op= .C∨kd o.op= .A) (hg:good B σ) (h:dcore P N B fl true o Q K T σ):∀z,(kd o.op= .C→z∈B∨σ.box z=none→True)→∃v σ',keepK B (kd o.op) σ σ'∧(kd o.op= .A→sameAt σ σ' z)∧good B σ'∧K (aput T o.d v) σ':=by
 intro z _
 rcases ho with hC|hA
 rotate_left
 ·rw[alloc_core hA] at h
  rw[hA]
  split at h
  ·exact h.elim
  ·obtain⟨b,hb,hbz⟩:=fin_fresh hg.1 z
   exact⟨_,_,keepA_set hb,fun _=>⟨set_box_ne hbz,rfl⟩,good_set hg ((keepA_set hb).toB hg),(putK_aput.1 (h.2 b hb)).2⟩
 obtain⟨dst,op,g⟩:=o
 simp only at hC ⊢
 rw[hC]
 rcases kd_C hC with⟨t,x,v,rfl⟩|⟨f,args,ts,rfl⟩|⟨args,ts,rfl,hna⟩
 ·simp only[dcore,aop] at h
  cases hx:ev T x <;> simp only[hx] at h
  rename_i b off
  obtain⟨hb,h⟩:=h
  split at h
  ·exact⟨_,_,keepB_set hb,fun hk=>(by cases hk),good_set hg (keepB_set hb),(putK_aput.1 h.2).2⟩
  ·exact h.elim
 ·simp only[dcore] at h
  split at h
  ·obtain⟨s,fr,R,h1,h2,h3,h4,h5⟩:=h
   obtain⟨⟨d,s',hR,hin,hf⟩,_⟩:=h4 rfl
   have hap:St.apart s' fr:=fun b hb=>h1.apart b (hin b hb)
   have hk:=keepB_join h1 h2 hg hap
   exact⟨_,_,hk,fun hk=>(by cases hk),hk.good hg (fin_join hf (fin_right (by rw[←h1.eq]; exact hg.1))),(putK_aput.1 (h5 (.ret d) s' hR hap hf)).2⟩
  ·exact h.elim
 ·simp only[dcore,aop] at h
  split at h
  ·rename_i x y t t' hx ht
   rw[if_neg (by rw[ht] at hna; simp at hna; simp[hna.1])] at h
   obtain⟨v,σ',h1,_,h2,h3⟩:=append_ex hg h z
   exact⟨v,σ',h1,fun hk=>(by cases hk),h2,h3⟩
  ·exact h.elim
theorem set_comm {a b:Nat} {cs ds:List D} (h:a≠b):(σ.set a cs).set b ds=(σ.set b ds).set a cs:=by
 ext x l
 ·simp only[St.set]
  by_cases h1:x=a <;> by_cases h2:x=b <;> simp_all
 ·rfl
 ·rfl
theorem setBuf_has {b x s n:Nat}:(σ.setBuf b s n).has x↔x=b∨σ.has x:=by
 simp only[St.has,St.setBuf]
 by_cases h:x=b <;> simp[h]
def AddT (B:List Nat) (f:Tr):Prop:=∀(K:Env→St→Prop) (T:Env) (σ:St) (b:Nat) (z:List D),good B σ→¬σ.has b→f (fun T' σ'=>¬σ'.has b→K T' (σ'.set b z)) T σ→f K T (σ.set b z)
theorem add_append {t t':TypeId} {x y:D} {dst:Option Nat} {b:Nat} {z:List D} (hb:¬σ.has b) (h:appendA P N dst t t' x y (fun T' σ'=>¬σ'.has b→K T' (σ'.set b z)) T σ):appendA P N dst t t' x y K T (σ.set b z):=by
 have put:∀{v:D} {σ₁ σ₂:St},putK N dst v (fun T' σ'=>¬σ'.has b→K T' (σ'.set b z)) T σ₁→¬σ₁.has b→σ₁.set b z=σ₂→putK N dst v K T σ₂:=by
  intro v σ₁ σ₂ h h1 h2
  subst h2
  obtain⟨h3,h4⟩:=putK_aput.1 h
  exact putK_aput.2 ⟨h3,h4 h1⟩
 unfold appendA at h ⊢
 split at h
 ·obtain⟨h0,h⟩:=h
  refine⟨h0, ?_⟩
  split at h
  ·obtain⟨h1,h2,h3,h4,h5,h⟩:=h
   refine⟨h1,h2,h3,h4,h5, ?_⟩
   rename_i ow xs ow' ys e e' he he' _ _ _ s by' zz _ _ _
   cases ow with
   |buf a s'=>
    refine⟨h.1,h.2.1,fun b' hb'=> ?_⟩
    have hne:b'≠b:=fun he=>hb' (by subst he; exact .inl (by simp[St.set,St.dropBuf]))
    refine put (h.2.2 b' ?_) ?_ ?_
    ·intro hin
     refine hb' ?_
     rcases hin with hin|hin
     ·refine .inl ?_; simp only[St.set,St.dropBuf] at hin ⊢; rw[if_neg hne]; exact hin
     ·exact .inr hin
    ·intro hin
     rcases setBuf_has.1 hin with h6|h6
     ·exact hne h6.symm
     ·exact hb (dropBuf_has h6)
    ·rfl
   |nil=>
    refine⟨fun hy=>put (h.1 hy) hb rfl,fun hy b' hb'=> ?_⟩
    have hne:b'≠b:=fun he=>hb' (set_has.2 (.inl he))
    refine put (h.2 hy b' fun hin=>hb' (set_has.2 (.inr hin))) ?_ rfl
    intro hin
    rcases setBuf_has.1 hin with h6|h6
    ·exact hne h6.symm
    ·exact hb h6
   |exact=>
    refine⟨h.1,fun hy=>put (h.2.1 hy) hb rfl,fun hy b' hb'=> ?_⟩
    have hne:b'≠b:=fun he=>hb' (set_has.2 (.inl he))
    refine put (h.2.2 hy b' fun hin=>hb' (set_has.2 (.inr hin))) ?_ rfl
    intro hin
    rcases setBuf_has.1 hin with h6|h6
    ·exact hne h6.symm
    ·exact hb h6
   |no=>exact h.elim
  ·exact h.elim
 ·obtain⟨h1,h2,h3,h4,h5,h6,h7,h8,h⟩:=h
  refine⟨h1,h2,h3,h4,h5,h6,h7,h8,put h ?_ rfl⟩
  intro hin
  rcases setBuf_has.1 hin with h9|h9
  ·subst h9; exact hb (has_buf h8)
  ·exact hb (dropBuf_has h9)
 ·exact h.elim
theorem add_core [Mo] {fl st:Bool} {o:AO} (ho:kd o.op= .C∨kd o.op= .A):AddT B (dcore P N B fl st o Q):=by
 intro K T σ b z hg hb h
 rcases ho with ho|hA
 rotate_left
 ·rw[alloc_core hA] at h ⊢
  split at h
  ·exact h.elim
  ·rename_i side zz f hz
   refine⟨h.1,fun c hc=> ?_⟩
   have hne:c≠b:=fun he=>hc (set_has.2 (.inl he))
   have hc':¬σ.has c:=fun hin=>hc (set_has.2 (.inr hin))
   obtain⟨h1,h2⟩:=putK_aput.1 (h.2 c hc')
   refine putK_aput.2 ⟨h1, ?_⟩
   rw[set_comm (Ne.symm hne)]
   exact h2 fun hin=>by
    rcases set_has.1 hin with h3|h3
    ·exact hne h3.symm
    ·exact hb h3
 obtain⟨dst,op,g⟩:=o
 simp only at ho
 rcases kd_C ho with⟨t,x,v,rfl⟩|⟨f,args,ts,rfl⟩|⟨args,ts,rfl,hna⟩
 ·simp only[dcore,aop] at h ⊢
  cases hx:ev T x <;> simp only[hx] at h ⊢
  rename_i c off
  obtain⟨hcB,h⟩:=h
  refine⟨hcB, ?_⟩
  split at h
  ·rename_i cs vs hcs hvs
   have hne:c≠b:=fun he=>hb (by subst he; exact has_box hcs)
   rw[set_box_ne (Ne.symm hne),hcs,hvs]
   refine⟨h.1, ?_⟩
   obtain⟨h1,h2⟩:=putK_aput.1 h.2
   refine putK_aput.2 ⟨h1, ?_⟩
   rw[set_comm (Ne.symm hne)]
   exact h2 fun hin=>by
    rcases set_has.1 hin with h3|h3
    ·exact hne h3.symm
    ·exact hb h3
  ·exact h.elim
 ·simp only[dcore] at h ⊢
  split at h
  ·rename_i gf fi ca hf
   obtain⟨s,fr,R,h1,h2,h3,h4,h5⟩:=h
   have hsb:¬s.has b:=fun hin=>hb (by rw[h1.eq]; exact(join_has b).2 (.inl hin))
   have hfb:¬fr.has b:=fun hin=>hb (by rw[h1.eq]; exact(join_has b).2 (.inr hin))
   have heq:∀s₁:St,¬s₁.has b→(St.join s₁ fr).set b z=St.join s₁ (fr.set b z):=fun s₁ hs₁=>by
    ext x l
    ·simp only[St.set,St.join]
     by_cases hx:x=b
     ·subst hx
      have:s₁.box x=none:=by
       cases hc:s₁.box x with
       |none=>rfl
       |some c=>exact absurd (has_box hc) hs₁
      simp[this]
     ·simp[hx]
    ·rfl
    ·rfl
   refine⟨s,fr.set b z,R,⟨by rw[h1.eq,heq s hsb],fun x hx hin=> ?_⟩,h2,h3,h4,fun x s' hR hap hf=> ?_⟩
   ·rcases set_has.1 hin with h6|h6
    ·subst h6; exact hsb hx
    ·exact h1.apart x hx h6
   ·have hap':St.apart s' fr:=fun y hy hin=>hap y hy (set_has.2 (.inr hin))
    have hs'b:¬s'.has b:=fun hin=>hap b hin (set_has.2 (.inl rfl))
    have:=h5 x s' hR hap' hf
    cases x with
    |ret d=>
     obtain⟨r1,r2⟩:=putK_aput.1 this
     refine putK_aput.2 ⟨r1, ?_⟩
     rw[←heq s' hs'b]
     exact r2 fun hin=>by
      rcases(join_has b).1 hin with h6|h6
      ·exact hs'b h6
      ·exact hfb h6
    |pan d=>
     obtain⟨s₁,r1,r2⟩:=this
     refine⟨s₁,r1.trans ?_,r2⟩
     rw[←heq s' hs'b]
     refine⟨fun y cs hy=> ?_,fun y p hy=>hy,fun y o hy=>hy⟩
     have hne:y≠b:=fun he=>by
      subst he
      rcases(join_has y).1 (has_box hy) with h6|h6
      ·exact hs'b h6
      ·exact hfb h6
     rw[set_box_ne (Ne.symm hne)]; exact hy
  ·exact h.elim
 ·simp only[dcore,aop] at h ⊢
  split at h
  ·rename_i x y t t' ha ht
   have hnt:¬Mo.aps t=true:=by rw[ht] at hna; simp at hna; simp[hna.1]
   rw[if_neg hnt] at h ⊢
   exact add_append hb h
  ·exact h.elim
end
end Go.AL
namespace Go.AL
def stripO (ops:List Oper) (o:Oper):AO:=⟨o.dst,o.op,match o.guard with|none=>none|some (j,w)=>some (((ops[j]?).bind (·.dst)).getD 1000000,w)⟩
structure DO where
 o:AO
 fl:Bool
 st:Bool
def apartO (x y:AO):Bool:=
 (match x.d with|some d=> !(looksO y).contains d&&y.d !=some d|none=>true)&&(match y.d with|some d=> !(looksO x).contains d|none=>true)
theorem apartO_spec {x y:AO} (h:apartO x y=true):ApartT x.d y.d (looksO x) (looksO y):=by
 unfold apartO at h
 simp only[Bool.and_eq_true] at h
 obtain⟨h1,h2⟩:=h
 refine⟨fun t ht=> ?_,fun t ht=> ?_,fun t ht=> ?_⟩
 ·rw[ht] at h1; simp at h1; exact h1.1
 ·rw[ht] at h2; simpa using h2
 ·rw[ht] at h1; simp at h1; exact h1.2
def swapOk [Mo] (x y:DO):Bool:=apartO x.o y.o&&match kd x.o.op,kd y.o.op with
 | .L,.C=>x.fl
 | .C,.F=>x.st
 | .C,.L=>y.fl&&x.st
 | .C,.A=>x.st
 | .F,_| .L,.F| .L,.L| .L,.A| .A,.F| .A,.L| .A,.A=>true
 |_,_=>false
section
variable {P : Program} {N : Nat} {T : Env} {σ : St} {K K' : Env → St → Prop} {Q : XA → Env → St → Prop} {B : List Nat}
variable [Mo]
def dO (P:Program) (N:Nat) (B:List Nat) (Q:XA→Env→St→Prop) (x:DO):Tr:=dop P N B x.fl x.st x.o Q
theorem ex_dop {fl:Bool} {o:AO} (ho:kd o.op= .C∨kd o.op= .A) (hg:good B σ) (h:dop P N B fl true o Q K T σ) (z:Nat):∃v σ',keepK B (kd o.op) σ σ'∧(kd o.op= .A→sameAt σ σ' z)∧good B σ'∧K (aput T o.d v) σ':=by
 unfold dop at h
 cases hgo:o.g with
 |none=>rw[hgo] at h; exact ex_core ho hg h z (fun _ _=>trivial)
 |some p=>
  obtain⟨u,w⟩:=p
  rw[hgo] at h
  simp only at h
  cases hT:gq (T u) w <;> simp only[hT] at h
  rename_i b
  simp only[br] at h
  split at h
  ·exact ex_core ho hg h z (fun _ _=>trivial)
  ·exact⟨_,_,keepK_refl _,fun _=>⟨rfl,rfl⟩,hg,(putK_aput.1 h).2⟩
theorem add_dop {fl st:Bool} {o:AO} (ho:kd o.op= .C∨kd o.op= .A):AddT B (dop P N B fl st o Q):=by
 intro K T σ b z hg hb h
 unfold dop at h ⊢
 cases hgo:o.g with
 |none=>rw[hgo] at h; exact add_core ho K T σ b z hg hb h
 |some p=>
  obtain⟨u,w⟩:=p
  rw[hgo] at h
  simp only at h ⊢
  cases hT:gq (T u) w <;> simp only[hT] at h ⊢
  rename_i c
  simp only[br] at h ⊢
  split at h
  ·rename_i hb'; rw[if_pos hb']; exact add_core ho K T σ b z hg hb h
  ·rename_i hb'; rw[if_neg hb']
   obtain⟨h1,h2⟩:=putK_aput.1 h
   exact putK_aput.2 ⟨h1,h2 hb⟩
theorem dop_alloc_st {fl st st':Bool} {o:AO} (ho:kd o.op= .A) (h:dop P N B fl st o Q K T σ):dop P N B fl st' o Q K T σ:=by
 have key:dcore P N B fl st o Q K T σ=dcore P N B fl st' o Q K T σ:=by
  rw[alloc_core ho,alloc_core ho]
 unfold dop at h ⊢
 rw[←key]; exact h
def allocZ (P:Program) (o:AO) (T:Env):Option (Option (Prop×List D×(Nat→D))):=
 match o.g with
 |none=>(zOf P o.op T).map some
 |some (t,want)=>match gq (T t) want with
  |some c=>if c=true then(zOf P o.op T).map some else some none
  |none=>none
theorem alloc_dop {fl st:Bool} {o:AO} (ho:kd o.op= .A):dop P N B fl st o Q K T σ↔match allocZ P o T with
  |none=>False
  |some none=>putK N o.d (.tup []) K T σ
  |some (some (side,z,f))=>side∧∀b,¬σ.has b→putK N o.d (f b) K T (σ.set b z):=by
 have key:=alloc_core (P:=P) (N:=N) (B:=B) (Q:=Q) (K:=K) (T:=T) (σ:=σ) (fl:=fl) (st:=st) ho
 unfold dop allocZ
 cases hg:o.g with
 |none=>
  simp only
  rw[key]
  generalize zOf P o.op T=z
  cases z <;> exact Iff.rfl
 |some p=>
  obtain⟨u,w⟩:=p
  simp only
  cases hT:gq (T u) w <;> try exact Iff.rfl
  rename_i b
  simp only[br]
  by_cases hb:b=true
  ·rw[if_pos hb,if_pos hb,key]
   generalize zOf P o.op T=z
   cases z <;> exact Iff.rfl
  ·rw[if_neg hb,if_neg hb]
theorem allocZ_aput {o:AO} {dx:Option Nat} {d:D} (h:notIn dx (looksO o)) (ho:kd o.op= .A):allocZ P o (aput T dx d)=allocZ P o T:=by
 cases dx with
 |none=>rfl
 |some t=>
  have ht:=h t rfl
  obtain⟨dd,op,g⟩:=o
  have hop:zOf P op (upd T t d)=zOf P op T:=by
   cases op <;> try rfl
   case box ty x=>simp only[zOf,ev_upd (tmpsOf_ne (looks_tmps ht) x (by simp[opndsOf,Op.operands]))]
   case makeSlice ty l c=>simp only[zOf,ev_upd (tmpsOf_ne (looks_tmps ht) l (by simp[opndsOf,Op.operands])),ev_upd (tmpsOf_ne (looks_tmps ht) c (by simp[opndsOf,Op.operands]))]
  unfold allocZ
  simp only[aput,hop]
  cases g with
  |none=>rfl
  |some p=>
   obtain⟨u,w⟩:=p
   have hu:upd T t d u=T u:=by simp[upd,looks_guard ht rfl]
   simp only[hu]
theorem swap_any_alloc {x y:DO} (hap:ApartT x.o.d y.o.d (looksO x.o) (looksO y.o)) (hx:kd x.o.op= .C∨kd x.o.op= .A) (hy:kd y.o.op= .A) (hz:∀z,keepK B (kd x.o.op) σ z→True) (hg:good B σ)
  (hex:∃v σ',good B σ'∧dO P N B Q y K (aput T x.o.d v) σ')
  (h:dO P N B Q x (fun T' σ'=>good B σ'→dO P N B Q y K T' σ') T σ):dO P N B Q y (fun T' σ'=>good B σ'→dO P N B Q x K T' σ') T σ:=by
 obtain⟨v,σ₁,hg₁,h1⟩:=hex
 unfold dO at h1 ⊢
 rw[alloc_dop hy,allocZ_aput hap.xy hy] at h1
 rw[alloc_dop hy]
 cases hza:allocZ P y.o T with
 |none=>rw[hza] at h1; exact h1.elim
 |some oz=>
  rw[hza] at h1
  cases oz with
  |none=>
   have hn:=(putK_aput.1 h1).1
   refine putK_aput.2 ⟨hn,fun _=> ?_⟩
   refine(frame_aput frame_dop hap.yx hap.ne').2 (mono_dop _ _ _ _ hg h fun u σ' _ hg' hK=> ?_)
   have h3:=hK hg'
   unfold dO at h3
   rw[alloc_dop hy,allocZ_aput hap.xy hy,hza] at h3
   exact(putK_aput.1 h3).2
  |some z=>
   obtain⟨side,z,f⟩:=z
   obtain⟨b₁,hb₁,_⟩:=fin_fresh hg₁.1 0
   have hn:=(putK_aput.1 (h1.2 b₁ hb₁)).1
   refine⟨h1.1,fun b hb=> ?_⟩
   refine putK_aput.2 ⟨hn,fun _=> ?_⟩
   refine(frame_aput frame_dop hap.yx hap.ne').2 ?_
   refine add_dop hx _ _ _ _ _ hg hb (mono_dop _ _ _ _ hg h fun u σ' _ hg' hK hbn=> ?_)
   have h3:=hK hg'
   unfold dO at h3
   rw[alloc_dop hy,allocZ_aput hap.xy hy,hza] at h3
   exact(putK_aput.1 (h3.2 b hbn)).2
theorem ex_C {x:DO} (hk:kd x.o.op= .C) (hst:x.st=true):ExT (keepK B .C) False B (dO P N B Q x) x.o.d:=fun K T σ hg h z=>by
 unfold dO at h
 rw[hst] at h
 obtain⟨v,σ',h1,_,h2,h3⟩:=ex_dop (.inl hk) hg h z
 rw[hk] at h1
 exact⟨v,σ',h1,fun h=>h.elim,h2,h3⟩
theorem ex_A {x:DO} (hk:kd x.o.op= .A):ExT (keepK B .A) True B (dO P N B Q x) x.o.d:=fun K T σ hg h z=>by
 unfold dO at h
 obtain⟨v,σ',h1,h0,h2,h3⟩:=ex_dop (.inr hk) hg (dop_alloc_st (st':=true) hk h) z
 rw[hk] at h1
 exact⟨v,σ',h1,fun _=>h0 hk,h2,h3⟩
theorem load_hyp {y:DO} (hky:kd y.o.op= .L):LoadT N (dO P N B Q y) y.o.d (looksO y.o) (whichL y.o) (detL P y.fl B y.o):=load_dop hky
theorem dop_swap {x y:DO} (hok:swapOk x y=true) (hg:good B σ) (h:dO P N B Q x (fun T' σ'=>good B σ'→dO P N B Q y K T' σ') T σ):dO P N B Q y (fun T' σ'=>good B σ'→dO P N B Q x K T' σ') T σ:=by
 simp only[swapOk,Bool.and_eq_true] at hok
 obtain⟨ha,hok⟩:=hok
 have hap:=apartO_spec ha
 have hm:MonoT (keepK B (kd x.o.op)) B (dO P N B Q x) x.o.d:=mono_dop
 cases hkx:kd x.o.op
 case F=>exact swap_det_any hap (det_dop hkx) frame_dop mono_dop hg h
 case L=>
  refine swap_load_any hap (load_hyp hkx) frame_dop mono_dop (fun σ' hg' ht hk b hb=> ?_) hg h
  have hd:∃d,detL P x.fl B x.o T σ=some d:=by
   rw[(load_hyp (P:=P) (N:=N) (B:=B) (Q:=Q) hkx).1] at ht
   cases hd:detL P x.fl B x.o T σ with
   |none=>rw[hd] at ht; exact ht.elim
   |some d=>exact⟨d,rfl⟩
  obtain⟨d,hd⟩:=hd
  obtain⟨h1,h2⟩:=which_some hd b hb
  cases hky:kd y.o.op <;> rw[hkx,hky] at hok <;> rw[hky] at hk <;> simp only[keepK] at hk <;> first
   |(cases hok; done)
   |(rw[hk]; exact⟨rfl,rfl⟩)
   |exact hk b h1
   |exact hk b (h2 hok)
 case C=>
  rw[hkx] at hm
  cases hky:kd y.o.op <;> rw[hkx,hky] at hok <;> try (cases hok; done)
  case F=>exact swap_any_det hap frame_dop hm (ex_C hkx hok) (det_dop hky) hg h
  case L=>
   simp only[Bool.and_eq_true] at hok
   refine swap_any_load hap frame_dop hm (ex_C hkx hok.2) (load_hyp hky) (fun σ' d hk _ hd b hb=> ?_) (fun σ' d hk hd b hb=> ?_) hg h
   ·exact hk b ((which_some hd b hb).2 hok.1)
   ·exact hk b ((which_some hd b hb).2 hok.1)
  case A=>
   obtain⟨v,σ',_,_,h2,h3⟩:=ex_C hkx hok _ _ _ hg h 0
   exact swap_any_alloc hap (.inl hkx) hky (fun _ _=>trivial) hg ⟨v,σ',h2,h3 h2⟩ h
 case A=>
  rw[hkx] at hm
  cases hky:kd y.o.op <;> rw[hkx,hky] at hok <;> try (cases hok; done)
  case F=>exact swap_any_det hap frame_dop hm (ex_A hkx) (det_dop hky) hg h
  case L=>
   refine swap_any_load hap frame_dop hm (ex_A hkx) (load_hyp hky) (fun σ' d hk hz hd b hb=> ?_) (fun σ' d hk hd b hb=>hk b (which_some hd b hb).1) hg h
   have:=hz trivial
   rw[hb] at this
   exact this
  case A=>
   obtain⟨v,σ',_,_,h2,h3⟩:=ex_A hkx _ _ _ hg h 0
   exact swap_any_alloc hap (.inr hkx) hky (fun _ _=>trivial) hg ⟨v,σ',h2,h3 h2⟩ h
 case X=>rw[hkx] at hok; cases hok
end
end Go.AL
namespace Go.AL
def bindE (e:Edge):Bool:=Region.binds .any e
def waitsOf (o:Oper):List Nat:=(o.after.toList.filter bindE).map (·.on)
def ancOk (ops:List Oper) (A:List Nat):Bool:=
 (List.range ops.length).all fun j=>match ops[j]? with
  |some o=>(waitsOf o).all (· < j)&&(List.range j).all fun i=> !(A.getD j 0).testBit i||(waitsOf o).any fun e=>e==i||(decide (i<e)&&(A.getD e 0).testBit i)
  |none=>true
def flagL (ks:List Kd) (A:List Nat) (i:Nat):Bool:=
 (List.range ks.length).any fun j=>ks.getD j .X== .C&&((i<j&& !(A.getD j 0).testBit i)||(j<i&& !(A.getD i 0).testBit j))
def flagC (ks:List Kd) (A:List Nat) (i:Nat):Bool:=(List.range ks.length).any fun j=>i<j&& !(A.getD j 0).testBit i
def dos [Mo] (ops:List Oper) (A:List Nat):List DO:=
 let ks:=ops.map (kd ·.op)
 ops.zipIdx.map fun(o,i)=>⟨stripO ops o,flagL ks A i,flagC ks A i⟩
def pairsOk [Mo] (l:List DO) (A:List Nat):Bool:=
 (List.range l.length).all fun j=>(List.range j).all fun i=>(A.getD j 0).testBit i||match l[i]?,l[j]? with
  |some x,some y=>swapOk x y
  |_,_=>true
section
variable {P : Program} {N : Nat} {T : Env} {σ : St} {K K' : Env → St → Prop} {Q : XA → Env → St → Prop} {B : List Nat}
variable [DSt] [Mo]
def aopsD (P:Program) (N:Nat) (B:List Nat):List DO→(XA→Env→St→Prop)→Env→St→Prop
 |[],Q,T,σ=>Q .normal T σ
 |x::rest,Q,T,σ=>dO P N B Q x (aopsD P N B rest Q) T σ
def doAt (P:Program) (N:Nat) (B:List Nat) (Q:XA→Env→St→Prop) (l:List DO) (i:Nat):Tr:=match l[i]? with
 |some x=>dO P N B Q x
 |none=>fun K T σ=>K T σ
def rdy (ops:List Oper) (U:List Nat) (i:Nat):Prop:=∀o,ops[i]? =some o→∀e∈waitsOf o,e∉U
def BU (m:Nat) (B U:List Nat):List Nat:=if U.any (fun i=>decide (i<m))=true then B else []
theorem BU_head {m i:Nat} {B r:List Nat} (h:i<m):BU m B (i::r)=B:=by simp[BU,h]
theorem BU_mem {m j:Nat} {B r:List Nat} (h:j<m) (hj:j∈r):BU m B r=B:=by
 have:r.any (fun i=>decide (i<m))=true:=List.any_eq_true.2 ⟨j,hj,by simpa using h⟩
 simp[BU,this]
theorem BU_late {m:Nat} {B r:List Nat} (h:∀x∈r,m≤x):BU m B r=[]:=by
 have:¬r.any (fun i=>decide (i<m))=true:=fun h'=>by
  obtain⟨x,hx,h2⟩:=List.any_eq_true.1 h'
  have:=h x hx
  simp at h2; omega
 simp[BU,this]
theorem good_sub {m:Nat} {B U V:List Nat} (hs:∀x∈V,x∈U) (h:good (BU m B U) σ):good (BU m B V) σ:=by
 by_cases hv:V.any (fun i=>decide (i<m))=true
 ·obtain⟨x,hx,h2⟩:=List.any_eq_true.1 hv
  rw[BU_mem (by simpa using h2) (hs x hx)] at h
  rw[BU_mem (by simpa using h2) hx]; exact h
 ·rw[show BU m B V=[] by simp only[BU,if_neg hv]]
  exact⟨h.1,fun b hb=>by cases hb⟩
def aU (P:Program) (N:Nat) (m:Nat) (B:List Nat) (Q:XA→Env→St→Prop) (ops:List Oper) (l:List DO):Nat→List Nat→Env→St→Prop
 |0,U,T,σ=>good (BU m B U) σ→Q .normal T σ
 |n+1,U,T,σ=>good (BU m B U) σ→∀i∈U,rdy ops U i→doAt P N (BU m B U) Q l i (aU P N m B Q ops l n (U.erase i)) T σ
def lateOk (A:List Nat) (m n:Nat):Bool:=(List.range n).all fun j=>decide (j<m)||(List.range m).all fun i=>(A.getD j 0).testBit i
def Closed (ops:List Oper) (U:List Nat):Prop:=∀k,k∉U→rdy ops U k
theorem anc_out {ops:List Oper} {A:List Nat} (hA:ancOk ops A=true) {U:List Nat} (hc:Closed ops U):∀j,j<ops.length→(j∉U∨rdy ops U j)→∀i,i<j→(A.getD j 0).testBit i=true→i∉U:=by
 intro j
 induction j using Nat.strongRecOn with
 |_ j ih=>
  intro hj hr i hi hb
  have hr':rdy ops U j:=hr.elim (hc j) id
  have h1:=List.all_eq_true.1 hA j (List.mem_range.2 hj)
  have ho:ops[j]? =some ops[j]:=by simp[hj]
  rw[ho] at h1
  simp only[Bool.and_eq_true] at h1
  have h2:=List.all_eq_true.1 h1.2 i (List.mem_range.2 hi)
  simp only[hb,Bool.not_true,Bool.false_or] at h2
  obtain⟨e,he,h3⟩:=List.any_eq_true.1 h2
  have heU:=hr' _ ho e he
  simp only[Bool.or_eq_true,beq_iff_eq] at h3
  rcases h3 with h3|h3
  ·subst h3; exact heU
  ·have hej:e<j:=by
    have:=List.all_eq_true.1 h1.1 e he
    simpa using this
   simp only[Bool.and_eq_true,decide_eq_true_eq] at h3
   exact ih e hej (by omega) (.inl heU) i h3.1 h3.2
theorem doAt_mono {l:List DO} {i:Nat} (hg:good B σ) (h:doAt P N B Q l i K T σ) (hk:∀T' σ',good B σ'→K T' σ'→K' T' σ'):doAt P N B Q l i K' T σ:=by
 unfold doAt at h ⊢
 cases hx:l[i]? with
 |some x=>rw[hx] at h; exact mono_dop _ _ _ _ hg h fun v σ' _ hg' hK=>hk _ _ hg' hK
 |none=>rw[hx] at h; exact hk _ _ hg h
theorem delay {ops:List Oper} {A:List Nat} (hA:ancOk ops A=true) {l:List DO} (hl:l.length=ops.length) (hp:pairsOk l A=true) {m:Nat} (hm:lateOk A m ops.length=true):
  ∀(n:Nat) (i:Nat) (rest:List Nat) (T:Env) (σ:St),(i::rest).Pairwise (· < ·)→(∀j∈i::rest,j<ops.length)→Closed ops (i::rest)→rdy ops (i::rest) i→rest.length=n→
   good (BU m B (i::rest)) σ→doAt P N (BU m B (i::rest)) Q l i (aU P N m B Q ops l n rest) T σ→aU P N m B Q ops l (n+1) (i::rest) T σ:=by
 intro n
 induction n with
 |zero=>
  intro i rest T σ hs hlt hc hr hn hg h _ j hj hrj
  have:rest=[]:=List.eq_nil_of_length_eq_zero hn
  subst this
  simp at hj; subst hj
  simpa using h
 |succ n ih=>
  intro i rest T σ hs hlt hc hr hn hg h _ j hj hrj
  by_cases hji:j=i
  ·subst hji; simpa using h
  ·have hjr:j∈rest:=by simpa[hji] using hj
   have hij:i<j:=(List.pairwise_cons.1 hs).1 j hjr
   have hjl:=hlt j hj
   have hnot:(A.getD j 0).testBit i=false:=by
    cases hb:(A.getD j 0).testBit i with
    |false=>rfl
    |true=>exact absurd (List.mem_cons_self) (anc_out hA hc j hjl (.inr hrj) i hij hb)
   have hjm:i<m→j<m:=fun him=>by
    have h1:=List.all_eq_true.1 hm j (List.mem_range.2 hjl)
    simp only[Bool.or_eq_true,decide_eq_true_eq] at h1
    rcases h1 with h1|h1
    ·exact h1
    ·have:=List.all_eq_true.1 h1 i (List.mem_range.2 him)
     rw[hnot] at this; cases this
   have hrest:BU m B rest=BU m B (i::rest)∧BU m B (i::rest.erase j)=BU m B (i::rest):=by
    by_cases him:i<m
    ·rw[BU_head him,BU_head him,BU_mem (hjm him) hjr]; exact⟨rfl,rfl⟩
    ·have hlate:∀x∈rest,m≤x:=fun x hx=>by have:=(List.pairwise_cons.1 hs).1 x hx; omega
     rw[BU_late hlate,BU_late (fun x hx=>by
      simp only[List.mem_cons] at hx
      rcases hx with rfl|hx
      ·omega
      ·exact hlate x hx),BU_late (fun x hx=>by
      simp only[List.mem_cons] at hx
      rcases hx with rfl|hx
      ·omega
      ·exact hlate x (List.mem_of_mem_erase hx))]
     exact⟨rfl,rfl⟩
   have hil:i<l.length:=by omega
   have hjl':j<l.length:=by omega
   have hok:swapOk l[i] l[j]=true:=by
    have h1:=List.all_eq_true.1 hp j (List.mem_range.2 hjl')
    have h2:=List.all_eq_true.1 h1 i (List.mem_range.2 hij)
    rw[hnot] at h2
    simpa[hil,hjl'] using h2
   have hrj':rdy ops rest j:=fun o ho e he hin=>hrj o ho e he (List.mem_cons_of_mem _ hin)
   have herase:(i::rest).erase j=i::rest.erase j:=by
    rw[List.erase_cons_tail]
    simpa using fun h=>hji h.symm
   rw[herase]
   generalize hBB:BU m B (i::rest)=BB at *
   have h1:dO P N BB Q l[i] (fun T' σ'=>good BB σ'→dO P N BB Q l[j] (aU P N m B Q ops l n (rest.erase j)) T' σ') T σ:=by
    have:doAt P N BB Q l i=dO P N BB Q l[i]:=by simp[doAt,hil]
    rw[this] at h
    refine mono_dop _ _ _ _ hg h fun v σ' _ hg' hK hg''=> ?_
    have:=hK (by rw[hrest.1]; exact hg') j hjr hrj'
    rw[hrest.1] at this
    simpa[doAt,hjl'] using this
   have h2:=dop_swap hok hg h1
   have h3:doAt P N BB Q l j (fun T' σ'=>good BB σ'→dO P N BB Q l[i] (aU P N m B Q ops l n (rest.erase j)) T' σ') T σ:=by
    simpa[doAt,hjl'] using h2
   refine doAt_mono hg h3 fun T' σ' hg' hK=> ?_
   have hsub:∀x∈rest.erase j,x∈rest:=fun x hx=>List.mem_of_mem_erase hx
   refine ih i (rest.erase j) T' σ' ?_ ?_ ?_ ?_ ?_ (by rw[hrest.2]; exact hg') ?_
   ·exact List.pairwise_cons.2 ⟨fun x hx=>(List.pairwise_cons.1 hs).1 x (hsub x hx),(List.pairwise_cons.1 hs).2.sublist List.erase_sublist⟩
   ·intro x hx
    simp only[List.mem_cons] at hx
    rcases hx with rfl|hx
    ·exact hlt _ List.mem_cons_self
    ·exact hlt x (List.mem_cons_of_mem _ (hsub x hx))
   ·intro k hk o ho e he hin
    have hin':e∈i::rest:=by
     simp only[List.mem_cons] at hin ⊢
     exact hin.imp id (hsub e)
    by_cases hkj:k=j
    ·subst hkj; exact hrj o ho e he hin'
    ·refine hc k (fun hk'=>hk ?_) o ho e he hin'
     simp only[List.mem_cons] at hk' ⊢
     exact hk'.imp id fun h=>(List.mem_erase_of_ne hkj).2 h
   ·exact fun o ho e he hin=>hr o ho e he (by
     simp only[List.mem_cons] at hin ⊢
     exact hin.imp id (hsub e))
   ·rw[List.length_erase_of_mem hjr]; omega
   ·rw[hrest.2]; simpa[doAt,hil] using hK hg'
def aopsX (P:Program) (N:Nat) (B:List Nat) (m:Nat):Nat→List DO→(XA→Env→St→Prop)→Env→St→Prop
 |_,[],Q,T,σ=>Q .normal T σ
 |k,x::rest,Q,T,σ=>dO P N (if k<m then B else []) Q x (aopsX P N B m (k+1) rest Q) T σ
theorem aU_of {ops:List Oper} {A:List Nat} (hA:ancOk ops A=true) {l:List DO} (hl:l.length=ops.length) (hp:pairsOk l A=true) {m:Nat} (hm:lateOk A m ops.length=true):∀(n k:Nat) (T:Env) (σ:St),k+n=ops.length→
  aopsX P N B m k (l.drop k) Q T σ→aU P N m B Q ops l n (List.range' k n) T σ
 |0,k,T,σ,hk,h=>fun _=>by
  have:l.drop k=[]:=List.drop_eq_nil_of_le (by omega)
  rw[this] at h
  exact h
 |n+1,k,T,σ,hk,h=>fun hg=>by
  have hkl:k<l.length:=by omega
  rw[List.drop_eq_getElem_cons hkl] at h
  have hbu:BU m B (List.range' k (n+1))=if k<m then B else []:=by
   by_cases hkm:k<m
   ·rw[if_pos hkm,List.range'_succ,BU_head hkm]
   ·rw[if_neg hkm]; exact BU_late fun x hx=>by rw[List.mem_range'_1] at hx; omega
  have h1:doAt P N (BU m B (List.range' k (n+1))) Q l k (aU P N m B Q ops l n (List.range' (k+1) n)) T σ:=by
   have:doAt P N (BU m B (List.range' k (n+1))) Q l k=dO P N (BU m B (List.range' k (n+1))) Q l[k]:=by simp[doAt,hkl]
   rw[this,hbu]
   rw[hbu] at hg
   exact mono_dop _ _ _ _ hg h fun v σ' _ hg' hK=>aU_of hA hl hp hm n (k+1) _ _ (by omega) hK
  have hw:∀j o,ops[j]? =some o→∀e∈waitsOf o,e<j:=fun j o ho e he=>by
   have hj:j<ops.length:=(List.getElem?_eq_some_iff.1 ho).1
   have h1:=List.all_eq_true.1 hA j (List.mem_range.2 hj)
   rw[ho] at h1
   simp only[Bool.and_eq_true] at h1
   simpa using List.all_eq_true.1 h1.1 e he
  have hmem:∀x,x∈k::List.range' (k+1) n↔k≤x∧x<k+n+1:=fun x=>by
   rw[←List.range'_succ,List.mem_range'_1]; omega
  rw[List.range'_succ] at h1 hg
  have:=delay (P:=P) (N:=N) (B:=B) (Q:=Q) hA hl hp hm n k (List.range' (k+1) n) T σ ?_ ?_ ?_ ?_ (by simp) hg h1
  ·rw[List.range'_succ]; exact this hg
  ·rw[←List.range'_succ]; exact List.pairwise_lt_range'
  ·intro j hj; have:=(hmem j).1 hj; omega
  ·intro j hj o ho e he hin
   have h2:=hw j o ho e he
   have h3:=(hmem e).1 hin
   have hjl:j<ops.length:=(List.getElem?_eq_some_iff.1 ho).1
   exact hj ((hmem j).2 (by omega))
  ·intro o ho e he hin
   have h2:=hw k o ho e he
   have h3:=(hmem e).1 hin
   omega
theorem dO_q {Q':XA→Env→St→Prop} (hq:∀d,Q' (.panic d)=Q (.panic d)) (x:DO):dO P N B Q' x K T σ=dO P N B Q x K T σ:=by
 have hp:∀d s,panK Q' d s=panK Q d s:=fun d s=>by simp only[panK,hq]
 have core:dcore P N B x.fl x.st x.o Q' K T σ=dcore P N B x.fl x.st x.o Q K T σ:=by
  obtain⟨⟨d,op,g⟩,fl,st⟩:=x
  cases op <;> try rfl
  case panic y=>simp only[dcore,aop,hp]
  case makeMap t r=>cases r <;> rfl
  case next y b=>cases b <;> rfl
  case call c=>
   obtain⟨callee,args,ts⟩:=c
   cases callee with
   |value f=>simp only[dcore,callB,hp]
   |invoke r m=>rfl
   |builtin b=>cases b <;> rfl
 unfold dO dop
 rw[core]
theorem aopsX_late {m:Nat}:∀(l:List DO) (k:Nat) (T:Env) (σ:St),good [] σ→m≤k→aopsD P N [] l Q T σ→aopsX P N B m k l Q T σ
 |[],k,T,σ,hg,hk,h=>h
 |x::l,k,T,σ,hg,hk,h=>by
  simp only[aopsX,if_neg (show ¬k<m by omega)]
  simp only[aopsD] at h
  exact mono_dop _ _ _ _ hg h fun v σ' _ hg' hK=>aopsX_late l (k+1) _ _ hg' (by omega) hK
theorem good_any {m:Nat} {U:List Nat} (h:good B σ):good (BU m B U) σ:=by
 unfold BU; split
 ·exact h
 ·exact⟨h.1,fun b hb=>by cases hb⟩
theorem aopsX_of {m:Nat}:∀(l:List DO) (k:Nat) (T:Env) (σ:St),good B σ→k≤m→m-k≤l.length→aopsD P N B (l.take (m-k)) (thenA (aopsD P N [] (l.drop (m-k)) Q) Q) T σ→aopsX P N B m k l Q T σ
 |l,k,T,σ,hg,hk,hl,h=>by
  by_cases hkm:k=m
  ·subst hkm
   simp only[Nat.sub_self,List.take_zero,List.drop_zero,aopsD,thenA] at h
   exact aopsX_late l k T σ ⟨hg.1,fun b hb=>by cases hb⟩ (Nat.le_refl _) h
  ·cases l with
   |nil=>simp at hl; omega
   |cons x l=>
    obtain⟨d,hd⟩:∃d,m-k=d+1:=⟨m-k-1,by omega⟩
    rw[hd] at h hl
    simp only[List.take_succ_cons,List.drop_succ_cons,aopsD] at h
    rw[dO_q (Q:=Q) (Q':=thenA (aopsD P N [] (l.drop d) Q) Q) (fun d=>rfl)] at h
    simp only[aopsX,if_pos (show k<m by omega)]
    refine mono_dop _ _ _ _ hg h fun v σ' _ hg' hK=> ?_
    exact aopsX_of l (k+1) _ _ hg' (by omega) (by simp at hl; omega) (by rw[show m-(k+1)=d by omega]; exact hK)
theorem stripO_sound {ops:Array Oper} {o:Oper} {M:MMap} {a:Act} {w:World} (hN:N≤1000000) (x:DO) (hx:x.o=stripO ops.toList o) (h:dO P N B Q x K T σ) (hi:AInv N M T σ a w) {M₀:MMap} {σ₀:St} {w₀:World}
  (hd:∀b,M₀ b≠none→b<w₀.heap.size) (hk:KeepF M₀ σ₀ w₀ M σ w) {next:Act→World→Prop}
  (hnext:∀{M' T' σ' a' w'},AInv N M' T' σ' a' w'→KeepF M₀ σ₀ w₀ M' σ' w'→K T' σ'→next a' w'):
  if Region.wanted o (yielded ops a.tmps) then o.wp P a w next (Post N M₀ σ₀ w₀ Q) else next (a.put o.dst undef) w:=by
 unfold dO dop at h
 have run:dcore P N B x.fl x.st x.o Q K T σ→o.wp P a w next (Post N M₀ σ₀ w₀ Q):=fun hc=>by
  have ha:=dcore_aop hc
  rw[hx] at ha
  have:=aop_sound (o:=o) ha hi
  have h1:o.wp P a w next (Post N M σ w Q):=Oper.wp_mono (fun a' w' ⟨M',T',σ',h1,h2,h3⟩=>hnext h1 (hk.trans hd h2) h3) this
  exact wp_exits h1 fun e a' w' hp=>hp.trans hd hk
 have skip:putK N x.o.d (.tup []) K T σ→next (a.put o.dst undef) w:=fun hp=>by
  have hdst:x.o.d=o.dst:=by rw[hx]; rfl
  rw[hdst] at hp
  obtain⟨M',T',σ',h1,h2,h3⟩:=putK_sound (M:=M) (σ:=σ) (w:=w) (v:=undef) hp hi (KeepF.refl _ _ _) ⟨#[],rfl,rfl⟩
  exact hnext h1 (hk.trans hd h2) h3
 have hg:x.o.g=(stripO ops.toList o).g:=by rw[hx]
 cases hgd:o.guard with
 |none=>
  have h0:x.o.g=none:=by rw[hg]; simp[stripO,hgd]
  rw[h0] at h
  have hw:Region.wanted o (yielded ops a.tmps)=true:=by simp[Region.wanted,hgd]
  rw[hw]
  simp only[if_true]
  exact run h
 |some p=>
  obtain⟨j,want⟩:=p
  have h0:x.o.g=some (((ops.toList[j]?).bind (·.dst)).getD 1000000,want):=by rw[hg]; simp[stripO,hgd]
  rw[h0] at h
  simp only at h
  have hga:∀c,gq (T (((ops.toList[j]?).bind (·.dst)).getD 1000000)) want=some c→Region.wanted o (yielded ops a.tmps)=c:=fun c hc=>by
   cases hdst:(ops.toList[j]?).bind (·.dst) with
   |none=>
    rw[hdst] at hc
    have hy:yielded ops a.tmps j=none:=by
     have:(ops[j]?).bind (·.dst)=none:=by simpa using hdst
     unfold yielded
     simp only[this,Option.bind_none]
    have hno:T 1000000= .any∨∃ds,T 1000000= .tup ds∨∃b,T 1000000= .bool b∨gq (T 1000000) want=none:=by
     cases hT:T 1000000 <;> simp_all[gq]
    have hr:=hi.env 1000000
    have hout:a.tmps.getD 1000000 undef=undef:=by
     have h9:a.tmps.size≤1000000:=by rw[hi.size]; exact hN
     simp[Array.getD_eq_getD_getElem?,Array.getElem?_eq_none h9]
    rw[hout] at hr
    simp only[Option.getD_none] at hc
    have hcf:c=false:=by
     cases hT:T 1000000 <;> rw[hT] at hc hr <;> simp only[gq,reduceCtorEq,Option.some.injEq] at hc
     ·simp only[Rep,undef,reduceCtorEq] at hr
     ·exact hc.symm
    simp only[Region.wanted,hgd,hy,hcf]
    rfl
   |some t=>
    rw[hdst] at hc
    refine guardA_sound (T:=T) (N:=N) (M:=M) (σ:=σ) (a:=a) (w:=w) ?_ hi
    unfold guardA
    rw[hgd]
    simp only[hdst]
    exact hc
  cases hT:gq (T (((ops.toList[j]?).bind (·.dst)).getD 1000000)) want <;> rw[hT] at h <;> simp only at h
  rename_i b
  rw[hga b hT]
  cases b
  ·rw[br_false] at h
   simp only[Bool.false_eq_true,if_false]
   exact skip h
  ·rw[br_true] at h
   simp only[if_true]
   exact run h
def Marks (n:Nat) (listed:Array Bool) (U:List Nat):Prop:=listed.size=n∧∀j,j<n→(listed.getD j true=false↔j∈U)
theorem aU_sound {ops:Array Oper} {l:List DO} {m:Nat} (hN:N≤1000000) (hl:∀(i:Nat) (o:Oper),ops[i]? =some o→∃x,l[i]? =some x∧x.o=stripO ops.toList o) (hw:∀(j:Nat) (o:Oper),ops[j]? =some o→∀e∈waitsOf o,e<j) {M₀:MMap} {σ₀:St} {w₀:World}
  (hd:∀b,M₀ b≠none→b<w₀.heap.size):∀(n:Nat) (U:List Nat) (listed:Array Bool) {M:MMap} {T:Env} {σ:St} {a:Act} {w:World},aU P N m B Q ops.toList l n U T σ→U.length=n→U.Nodup→(∀j∈U,j<ops.size)→Marks ops.size listed U→
   AInv N M T σ a w→KeepF M₀ σ₀ w₀ M σ w→good (BU m B U) σ→wpAny P .any ops (Post N M₀ σ₀ w₀ Q) n listed a w:=by
 have rdyU:∀{U:List Nat} {listed:Array Bool} {i:Nat},Marks ops.size listed U→(∀j∈U,j<ops.size)→(i∈Region.ready .any ops listed↔i∈U∧rdy ops.toList U i):=by
  intro U listed i hm hU
  rw[mem_ready]
  constructor
  ·rintro⟨h1,o,ho,h2⟩
   have hi:i<ops.size:=(Array.getElem?_eq_some_iff.1 ho).1
   refine⟨(hm.2 i hi).1 h1,fun o' ho' e he hin=> ?_⟩
   have:o'=o:=by
    have:ops.toList[i]? =some o:=by simpa using ho
    rw[this] at ho'; exact(Option.some.inj ho').symm
   subst this
   simp only[waitsOf,List.mem_map,List.mem_filter] at he
   obtain⟨ed,⟨hed,hb⟩,rfl⟩:=he
   have h3:=h2 ed (by simpa using hed) hb
   have h4:=(hm.2 ed.on (hU _ hin)).2 hin
   have hlt:ed.on<listed.size:=by rw[hm.1]; exact hU _ hin
   simp[hlt] at h3 h4
   rw[h3] at h4; cases h4
  ·rintro⟨h1,h2⟩
   have hi:=hU i h1
   have ho:ops[i]? =some ops[i]:=by simp[hi]
   refine⟨(hm.2 i hi).2 h1,ops[i],ho,fun ed hed hb=> ?_⟩
   have hon:ed.on∈waitsOf ops[i]:=by
    simp only[waitsOf,List.mem_map,List.mem_filter]
    exact⟨ed,⟨by simpa using hed,hb⟩,rfl⟩
   have hlt:ed.on<ops.size:=by have:=hw i _ ho _ hon; omega
   have hnU:=h2 ops[i] (by simp[hi]) ed.on hon
   have h3:¬(listed.getD ed.on true=false):=fun h=>hnU ((hm.2 ed.on hlt).1 h)
   have hlt':ed.on<listed.size:=by rw[hm.1]; exact hlt
   simp[hlt'] at h3 ⊢
   exact h3
 intro n
 induction n with
 |zero=>
  intro U listed M T σ a w h hlen hnd hU hm hi hk hg
  have:U=[]:=List.eq_nil_of_length_eq_zero hlen
  subst this
  refine⟨?_,M,T,σ,.normal,rfl,hi,hk,h hg⟩
  apply List.eq_nil_iff_forall_not_mem.2
  intro i hin
  have:=((rdyU hm hU).1 hin).1
  cases this
 |succ n ih=>
  intro U listed M T σ a w h hlen hnd hU hm hi hk hg
  refine⟨fun hemp=> ?_,fun i hin=> ?_⟩
  ·
   exfalso
   have hex:∃i,i∈U∧∀j∈U,i≤j:=by
    have hne:U≠[]:=by intro h0; rw[h0] at hlen; simp at hlen
    have key:∀(V:List Nat),V≠[]→∃i,i∈V∧∀j∈V,i≤j:=by
     intro V
     induction V with
     |nil=>intro h; exact absurd rfl h
     |cons v V ihV=>
      intro _
      by_cases hV:V=[]
      ·subst hV; exact⟨v,by simp,by simp⟩
      ·obtain⟨i,h1,h2⟩:=ihV hV
       by_cases hvi:v≤i
       ·refine⟨v,by simp,fun j hj=> ?_⟩
        simp only[List.mem_cons] at hj
        rcases hj with rfl|hj
        ·exact Nat.le_refl _
        ·exact Nat.le_trans hvi (h2 j hj)
       ·refine⟨i,by simp[h1],fun j hj=> ?_⟩
        simp only[List.mem_cons] at hj
        rcases hj with rfl|hj
        ·omega
        ·exact h2 j hj
    exact key U hne
   obtain⟨i,h1,h2⟩:=hex
   have:i∈Region.ready .any ops listed:=(rdyU hm hU).2 ⟨h1,fun o ho e he hin=>by
    have h3:=hw i o (by simpa using ho) e he
    have h4:=h2 e hin
    omega⟩
   rw[hemp] at this; cases this
  ·obtain⟨hiU,hri⟩:=(rdyU hm hU).1 hin
   have hil:=hU i hiU
   have ho:ops[i]? =some ops[i]:=by simp[hil]
   obtain⟨x,hx,hxo⟩:=hl i _ ho
   have h1:=h hg i hiU hri
   have h2:=doAt_mono (K':=fun T' σ'=>good (BU m B (U.erase i)) σ'∧aU P N m B Q ops.toList l n (U.erase i) T' σ') hg h1 fun T' σ' hg' hK=>⟨good_sub (fun x hx=>List.mem_of_mem_erase hx) hg',hK⟩
   simp only[doAt,hx] at h2
   unfold wpOp
   rw[ho]
   simp only
   have:=stripO_sound hN x hxo h2 hi hd hk (next:=wpAny P .any ops (Post N M₀ σ₀ w₀ Q) n (listed.setIfInBounds i true)) fun {M' T' σ' a' w'} hi' hk' hK=> ?_
   ·split
    ·rename_i hwn; rw[if_pos hwn] at this; exact .inl this
    ·rename_i hwn; rw[if_neg hwn] at this; exact this
   ·refine ih (U.erase i) _ hK.2 (by rw[List.length_erase_of_mem hiU]; omega) (hnd.erase i) (fun j hj=>hU j (List.mem_of_mem_erase hj)) ⟨by simp[hm.1],fun j hj=> ?_⟩ hi' hk' hK.1
    by_cases hji:i=j
    ·subst hji
     have hlt:i<listed.size:=by rw[hm.1]; exact hil
     simp only[hnd.mem_erase_iff,ne_eq,not_true_eq_false,false_and,iff_false]
     simp[hlt]
    ·rw[getD_set_ne true hji,hm.2 j hj,hnd.mem_erase_iff]
     exact⟨fun h=>⟨Ne.symm hji,h⟩,fun h=>h.2⟩
theorem awp_draw {id:Nat} {ops:Array Oper} {A:List Nat} {m:Nat} (hm:P.follows .mixedOrders=true) (hN:N≤1000000) (hA:ancOk ops.toList A=true) (hp:pairsOk (dos ops.toList A) A=true) (hl:lateOk A m ops.toList.length=true) (hml:m≤ops.toList.length) (hB:∀b∈B,σ.box b≠none)
  (h:aopsD P N B ((dos ops.toList A).take m) (thenA (aopsD P N [] ((dos ops.toList A).drop m) Q) Q) T σ):awp P N (.region id ops true) Q T σ:=by
 intro M a w hi
 refine wp_region_any hm ?_
 obtain⟨hi1,hk1⟩:=drew_inv hi.inv
 have hg:good B σ:=⟨⟨w.heap.size,fun b hb hin=>by have:=hi.inv.dom b (hi.inv.lt hin); omega⟩,hB⟩
 have hlen:(dos ops.toList A).length=ops.toList.length:=by simp[dos]
 have hU:=aU_of (P:=P) (N:=N) (B:=B) (Q:=Q) hA hlen hp hl ops.toList.length 0 T σ (by omega) (aopsX_of (dos ops.toList A) 0 T σ hg (Nat.zero_le _) (by omega) h)
 have hw:∀(j:Nat) (o:Oper),ops[j]? =some o→∀e∈waitsOf o,e<j:=fun j o ho e he=>by
  have hj:j<ops.toList.length:=by simpa using (Array.getElem?_eq_some_iff.1 ho).1
  have h1:=List.all_eq_true.1 hA j (List.mem_range.2 hj)
  have ho':ops.toList[j]? =some o:=by simpa using ho
  rw[ho'] at h1
  simp only[Bool.and_eq_true] at h1
  simpa using List.all_eq_true.1 h1.1 e he
 have hlen':ops.toList.length=ops.size:=by simp
 rw[hlen'] at hU
 refine aU_sound hN (fun i o ho=> ?_) hw hi.inv.dom ops.size (List.range' 0 ops.size) (Array.replicate ops.size false) hU (by simp) List.nodup_range' (fun j hj=>by
  rw[List.mem_range'_1] at hj; omega) ⟨by simp,fun j hj=>by simp[hj,List.mem_range'_1]⟩ (hi.keep hk1.toKeep hi1) hk1 (good_any hg)
 have ho':ops.toList[i]? =some o:=by simpa using ho
 exact⟨⟨stripO ops.toList o,flagL (ops.toList.map (kd ·.op)) A i,flagC (ops.toList.map (kd ·.op)) A i⟩,by simp[dos,List.getElem?_zipIdx,ho'],rfl⟩
end
end Go.AL
