import Derived.Test.YtjffaachihpjbaaGreatFb
import Derived.CheckFast
import Derived.Scope
set_option linter.unusedSectionVars false
set_option linter.unusedVariables false
set_option linter.unusedSimpArgs false
namespace Go.AL
inductive AC where
 |skip
 |reg (draw:Bool) (pr:List Nat) (l:List DO)
 |seq (a b:AC)
 |cond (c:Operand) (a b:AC)
 |block (id:Nat) (c:AC)
 |loop (c:AC)
 |exit (id:Nat)
 |ret
 |bad
 |scope (c:AC)
def plainO (ops:List Oper) (o:Oper):DO:=⟨stripO ops o,false,false⟩
def rootS (l:List DO):Nat→Nat→Nat
 |0,s=>s
 |n+1,s=>match l.find? fun x=>x.o.d==some s with
  |some x=>match x.o.op with
   | .fieldAddr _ (.tmp s') _=>rootS l n s'
   | .nilCheck (.tmp s')=>rootS l n s'
   | .move (.tmp s')=>rootS l n s'
   | .indexAddr _ (.tmp s') _=>rootS l n s'
   |_=>s
  |none=>s
def protS (l:List DO):List Nat:=(l.filterMap fun x=>match x.fl,x.o.op with
 |true,.load _ (.tmp s)=>some (rootS l l.length s)
 |_,_=>none).eraseDups
def boxesAt (T:Env):List Nat→List Nat
 |[]=>[]
 |t::r=>match T t with
  | .ptr b _=>b::boxesAt T r
  |_=>boxesAt T r
def isLoad:Op→Bool
 | .load _ _=>true
 |_=>false
def isStore:Op→Bool
 | .store _ _ _=>true
 |_=>false
def cutM (l:List DO) (A:List Nat):Nat:=
 let f:=(l.zipIdx.filterMap fun(x,i)=>if x.fl&&isLoad x.o.op then some (i+1) else none).foldl max 0
 if f==0 then l.length else((List.range l.length).find? fun m=>decide (f≤m)&&lateOk A m l.length&&(l.drop m).any fun x=>isStore x.o.op).getD l.length
def strip [Mo]:Code→AC
 | .skip=> .skip
 | .region _ ops draw=>match draw with
  |false=> .reg false [] (ops.toList.map (plainO ops.toList))
  |true=>
   let A:=(CheckFast.beforeF ops).toList
   let l:=dos ops.toList A
   let m:=cutM l A
   if ancOk ops.toList A&&pairsOk l A&&lateOk A m ops.toList.length&&decide (m≤ops.toList.length) then
    (if m==l.length then .reg true (protS l) l else .seq (.reg true (protS (l.take m)) (l.take m)) (.reg false [] (l.drop m)))
   else .bad
 | .seq a b=> .seq (strip a) (strip b)
 | .cond c a b=> .cond c (strip a) (strip b)
 | .block id c=> .block id (strip c)
 | .loop c=> .loop (strip c)
 | .exit id=> .exit id
 | .ret=> .ret
 | .scope c=> .scope (strip c)
 | .label _=> .skip
 |_=> .bad
def scopeA (Q:XA→Env→St→Prop):XA→Env→St→Prop
 | .goto _,_,_=>False
 | .normal,T,σ=>Q .normal T σ
 | .exit id,T,σ=>Q (.exit id) T σ
 | .ret,T,σ=>Q .ret T σ
 | .panic d,T,σ=>Q (.panic d) T σ
section
variable {P : Program} {N : Nat} {T : Env} {σ : St} {K : Env → St → Prop} {Q : XA → Env → St → Prop} {B : List Nat}
variable [DSt] [Mo]
theorem aopsD_plain {ops:Array Oper} {M:MMap} (hN:N≤1000000):∀(l:List Oper) {M:MMap} {T:Env} {σ:St} {a:Act} {w:World},aopsD P N [] (l.map (plainO ops.toList)) Q T σ→AInv N M T σ a w→∀{M₀:MMap} {σ₀:St} {w₀:World},(∀b,M₀ b≠none→b<w₀.heap.size)→KeepF M₀ σ₀ w₀ M σ w→
  wpList P ops (Post N M₀ σ₀ w₀ Q) l a w
 |[],M,T,σ,a,w,h,hi,M₀,σ₀,w₀,hd,hk=>⟨M,T,σ,.normal,rfl,hi,hk,h⟩
 |o::rest,M,T,σ,a,w,h,hi,M₀,σ₀,w₀,hd,hk=>by
  have:=stripO_sound (ops:=ops) hN (plainO ops.toList o) rfl h hi hd hk (next:=wpList P ops (Post N M₀ σ₀ w₀ Q) rest) fun hi' hk' hK=>aopsD_plain (M:=M) hN rest hK hi' hd hk'
  unfold wpList
  split
  ·rename_i hw; rw[if_pos hw] at this; exact .inl this
  ·rename_i hw; rw[if_neg hw] at this; exact this
def vcA (P:Program) (N:Nat):AC→(XA→Env→St→Prop)→Env→St→Prop
 | .skip,Q,T,σ=>Q .normal T σ
 | .reg false _ l,Q,T,σ=>aopsD P N [] l Q T σ
 | .reg true pr l,Q,T,σ=>(∀b∈boxesAt T pr,σ.box b≠none)∧aopsD P N (boxesAt T pr) l Q T σ
 | .seq a b,Q,T,σ=>vcA P N a (thenA (vcA P N b Q) Q) T σ
 | .cond c a b,Q,T,σ=>match ev T c with
  | .bool t=>br t (vcA P N a Q T σ) (vcA P N b Q T σ)
  |_=>False
 | .block id c,Q,T,σ=>vcA P N c (blockA id Q) T σ
 | .exit id,Q,T,σ=>Q (.exit id) T σ
 | .ret,Q,T,σ=>Q .ret T σ
 | .loop c,Q,T,σ=>∀code,strip code=c→awp P N (.loop code) Q T σ
 | .bad,_,_,_=>False
 | .scope c,Q,T,σ=>vcA P N c (scopeA Q) T σ
theorem awp_scope {c:Code} (h:awp P N c (scopeA Q) T σ):awp P N (.scope c) Q T σ:=fun M a w hi=>
 wp_scope_straight (wp_mono (h M a w hi) fun e a' w' ⟨M',T',σ',x,h1,h2,h3,h4⟩=>by
  cases x with
  |goto l=>exact h4.elim
  |normal=>obtain rfl:=h1; exact⟨M',T',σ',.normal,rfl,h2,h3,h4⟩
  |exit id=>obtain rfl:=h1; exact⟨M',T',σ',.exit id,rfl,h2,h3,h4⟩
  |ret=>obtain rfl:=h1; exact⟨M',T',σ',.ret,rfl,h2,h3,h4⟩
  |panic d=>obtain⟨v,rfl,hr⟩:=h1; exact⟨M',T',σ',.panic d,⟨v,rfl,hr⟩,h2,h3,h4⟩)
theorem awp_label {l:Nat} (h:Q .normal T σ):awp P N (.label l) Q T σ:=
 fun M a w hi=>wp_label ⟨M,T,σ,.normal,rfl,hi,KeepF.refl _ _ _,h⟩
theorem vcA_sound (hm:P.follows .mixedOrders=true) (hN:N≤1000000):∀(c:Code) {Q:XA→Env→St→Prop} {T:Env} {σ:St},vcA P N (strip c) Q T σ→awp P N c Q T σ
 | .skip,_,_,_,h=>awp_skip h
 | .region id ops draw,Q,T,σ,h=>by
  cases draw
  ·simp only[strip,vcA] at h
   exact fun M a w hi=>wp_region_list (aopsD_plain (M:=M) hN ops.toList h hi hi.inv.dom (KeepF.refl _ _ _))
  ·simp only[strip] at h
   split at h
   ·rename_i hc
    simp only[Bool.and_eq_true,decide_eq_true_eq] at hc
    obtain⟨⟨⟨h1,h2⟩,h3⟩,h4⟩:=hc
    split at h
    ·rename_i he
     obtain⟨hB,h⟩:=h
     have he:=eq_of_beq he
     refine awp_draw hm hN h1 h2 h3 h4 hB ?_
     rw[he,List.take_length,List.drop_length]
     have:thenA (aopsD P N [] [] Q) Q=Q:=by funext x T σ; cases x <;> rfl
     rw[this]; exact h
    ·simp only[vcA] at h
     obtain⟨hB,h⟩:=h
     exact awp_draw hm hN h1 h2 h3 h4 hB h
   ·exact h.elim
 | .seq a b,Q,_,_,h=>awp_seq (awp_mono (vcA_sound hm hN a h) fun x T σ hq=>by
   cases x with
   |normal=>exact vcA_sound hm hN b hq
   |_=>exact hq)
 | .cond c a b,_,_,_,h=>by
  simp only[strip,vcA] at h
  split at h
  ·rename_i t ht
   refine awp_cond ht ?_
   unfold br at h
   split at h
   ·rename_i hb; rw[if_pos hb]; exact vcA_sound hm hN a h
   ·rename_i hb; rw[if_neg hb]; exact vcA_sound hm hN b h
  ·exact h.elim
 | .block id c,_,_,_,h=>awp_block (vcA_sound hm hN c h)
 | .exit id,_,_,_,h=>awp_exit h
 | .ret,_,_,_,h=>awp_ret h
 | .loop c,_,_,_,h=>h c rfl
 | .rangeFunc _ _ _ _,_,_,_,h=>h.elim
 | .scope c,_,_,_,h=>awp_scope (vcA_sound hm hN c h)
 | .label _,_,_,_,h=>awp_label h
 | .goto _,_,_,_,h=>h.elim
 | .refuse _,_,_,_,h=>h.elim
def envL (l:List (Nat×D)):Env:=fun t=>(l.lookup t).getD .any
theorem lookup_mem {l:List (Nat×D)} {b:Nat} {x:D} (h:l.lookup b=some x):(b,x)∈l:=by
 induction l with
 |nil=>cases h
 |cons p l ih=>
  obtain⟨a,y⟩:=p
  simp only[List.lookup] at h
  split at h
  ·rename_i he; cases h; rw[eq_of_beq he]; exact List.mem_cons_self
  ·exact List.mem_cons_of_mem _ (ih h)
theorem envL_le {l:List (Nat×D)} (h:∀p∈l,T p.1=p.2):Env.le (envL l) T:=fun t=>by
 unfold envL
 cases hl:l.lookup t with
 |none=>exact .inl rfl
 |some d=>exact .inr (h _ (lookup_mem hl)).symm
structure Fun1 (P:Program) (f:FuncId) (N:Nat) (c:AC) (rs:List ResultVar):Prop where
 ex:∃fn code,P.funcs[f]? =some fn∧fn.body=some code∧(fn.name== "runtime.NumGoroutine")=false∧fn.ntmps=N∧fn.results.toList=rs∧strip code=c
 hm:P.follows .mixedOrders=true
 hN:decide (N≤1000000)=true
end
section
variable {P : Program} {N : Nat} {T : Env} {σ : St} {K : Env → St → Prop} {Q : XA → Env → St → Prop} {B : List Nat}
variable [Mo]
theorem Fun1.mk' {f:FuncId} {c:AC} {rs:List ResultVar} {fn:Func} {code:Code} (hm:P.follows .mixedOrders=true) (hf:P.funcs[f]? =some fn) (hb:fn.body=some code) (hn:(fn.name== "runtime.NumGoroutine")=false)
  (hN:fn.ntmps=N) (hr:fn.results.toList=rs) (hs:strip code=c) (hl:decide (N≤1000000)=true):Fun1 P f N c rs:=⟨⟨fn,code,hf,hb,hn,hN,hr,hs⟩,hm,hl⟩
end
section
variable {P : Program} {N : Nat} {T : Env} {σ : St} {K : Env → St → Prop} {Q : XA → Env → St → Prop} {B : List Nat}
variable [DSt] [Mo]
end
section
variable {P : Program} {N : Nat} {T : Env} {σ : St} {K : Env → St → Prop} {Q : XA → Env → St → Prop} {B : List Nat}
variable [Mo]
end
section
variable {P : Program} {N : Nat} {T : Env} {σ : St} {K : Env → St → Prop} {Q : XA → Env → St → Prop} {B : List Nat}
variable [DSt] [Mo]
end
section
variable {P : Program} {N : Nat} {T : Env} {σ : St} {K : Env → St → Prop} {Q : XA → Env → St → Prop} {B : List Nat}
variable [Mo]
end
section
variable {P : Program} {N : Nat} {T : Env} {σ : St} {K : Env → St → Prop} {Q : XA → Env → St → Prop} {B : List Nat}
variable [DSt] [Mo]
theorem fin_nil:({}:St).fin:=⟨0,fun b _ h=>St.not_has_nil b h⟩
theorem za3 {st:Bool} {dst:Option Nat} {g:FuncId} {ds:List D} {d:D} (h:PCall P g ds d) (hk:putK N dst d K T σ):callB P N B st dst g ds K Q T σ:=by
 refine⟨{},σ,_,St.split.pure σ,fun b _ hb=>St.not_has_nil b hb,h,fun _=>⟨⟨d,{},⟨rfl,rfl⟩,fun b hb=>hb,fin_nil⟩,fun d s' h=>by cases h.1⟩,fun x s' hR _ _=> ?_⟩
 obtain⟨rfl,rfl⟩:=hR
 rw[St.join_nil]; exact hk
section walk
variable {d : Option Nat} {g : Option (Nat × Bool)} {fl st : Bool} {rest : List DO}
theorem aopsD_nil:aopsD P N B [] Q T σ=Q .normal T σ:=rfl
theorem aopsD_n {op:Op}:aopsD P N B (⟨⟨d,op,none⟩,fl,st⟩::rest) Q T σ=dcore P N B fl st ⟨d,op,none⟩ Q (aopsD P N B rest Q) T σ:=rfl
theorem aopsD_g {op:Op} {t:Nat} {w:Bool}:aopsD P N B (⟨⟨d,op,some (t,w)⟩,fl,st⟩::rest) Q T σ=(match gq (T t) w with
  |some c=>br c (dcore P N B fl st ⟨d,op,some (t,w)⟩ Q (aopsD P N B rest Q) T σ) (putK N d (.tup []) (aopsD P N B rest Q) T σ)
  |none=>False):=rfl
theorem w_put {t:Nat} {v:D}:putK N (some t) v K T σ=(t<N∧K (upd T t v) σ):=rfl
theorem w_put0 {v:D}:putK N none v K T σ=K T σ:=rfl
theorem w_move {x:Operand}:dcore P N B fl st ⟨d,.move x,g⟩ Q K T σ=putK N d (ev T x) K T σ:=by simp only[dcore,aop,pureD,true_and]
theorem w_assign {x:Operand}:dcore P N B fl st ⟨d,.assign x,g⟩ Q K T σ=putK N d (ev T x) K T σ:=by simp only[dcore,aop,pureD,true_and]
def pickK (N:Nat) (d:Option Nat) (c x y:D) (K:Env→St→Prop) (T:Env) (σ:St):Prop:=match c with| .bool t=>putK N d (pickD t x y) K T σ|_=>False
theorem w_pick {c x y:Operand}:dcore P N B fl st ⟨d,.pick c x y,g⟩ Q K T σ=pickK N d (ev T c) (ev T x) (ev T y) K T σ:=by
 simp only[dcore,aop,pureD,pickK]; cases ev T c <;> simp
theorem w_pickK {t:Bool} {x y:D}:pickK N d (.bool t) x y K T σ=putK N d (pickD t x y) K T σ:=rfl
theorem w_bin {b:BinOp} {xt yt:TypeId} {x y:Operand}:dcore P N B fl st ⟨d,.binOp b xt x y yt,g⟩ Q K T σ=binA P N d b xt (ev T x) (ev T y) (nilOpnd y) K T σ:=by simp only[dcore,aop]
def sideK (N:Nat) (d:Option Nat) (o:Option (Prop×D)) (K:Env→St→Prop) (T:Env) (σ:St):Prop:=match o with|some (side,v)=>side∧putK N d v K T σ|none=>False
theorem w_side {p:Prop} {v:D}:sideK N d (some (p,v)) K T σ=(p∧putK N d v K T σ):=rfl
def optK (N:Nat) (d:Option Nat) (o:Option D) (K:Env→St→Prop) (T:Env) (σ:St):Prop:=match o with|some v=>putK N d v K T σ|none=>False
theorem w_opt {v:D}:optK N d (some v) K T σ=putK N d v K T σ:=rfl
theorem w_binA {b:BinOp} {xt:TypeId} {x y:D}:binA P N d b xt x y false K T σ=sideK N d (binD P b xt x y) K T σ:=by
 simp only[binA,sideK]
 rfl
theorem w_un {o:UnOp} {xt:TypeId} {x:Operand}:dcore P N B fl st ⟨d,.unOp o xt x,g⟩ Q K T σ=optK N d (unD o (ev T x)) K T σ:=by
 simp only[dcore,aop,pureD,optK]; cases unD o (ev T x) <;> simp
theorem w_conv {s t:TypeId} {x:Operand}:dcore P N B fl st ⟨d,.convert s t x,g⟩ Q K T σ=optK N d (convD P s t (ev T x)) K T σ:=by
 simp only[dcore,aop,pureD,optK]; cases convD P s t (ev T x) <;> simp
theorem w_func {f:Fn} {a b:Array Operand}:dcore P N B fl st ⟨d,.makeFunc f a b,g⟩ Q K T σ=putK N d (.func f (a.toList.map (ev T)) (b.toList.map (ev T))) K T σ:=by simp only[dcore,aop,pureD,true_and]
def extractD (x:D) (i:Nat):Option D:=match x with| .tup ds=>ds[i]? |_=>none
theorem w_extract {x:Operand} {i:Nat}:dcore P N B fl st ⟨d,.extract x i,g⟩ Q K T σ=optK N d (extractD (ev T x) i) K T σ:=by
 simp only[dcore,aop,pureD,optK,extractD]; cases ev T x <;> simp
 rename_i ds; cases ds[i]? <;> simp
def fieldD (P:Program) (x:D) (f:Option (Nat×TypeId)):Option D:=match x,f with| .agg cs,some (off,ft)=>partD P ft cs off|_,_=>none
def faddrD (x:D) (f:Option (Nat×TypeId)):Option D:=match x,f with
 | .ptr b off,some (o,_)=>some (.ptr b (off+o))
 | .eptr cs,some (o,_)=>some (.eptr (cs.drop o))
 |_,_=>none
theorem w_faddr {t:TypeId} {x:Operand} {f:Nat}:dcore P N B fl st ⟨d,.fieldAddr t x f,g⟩ Q K T σ=optK N d (faddrD (ev T x) (fldP P t f)) K T σ:=by
 simp only[dcore,aop,pureD,optK,faddrD]
 cases ev T x <;> cases fldP P t f <;> simp
def iaddrD (P:Program) (t:TypeId) (x i:D):Option (Prop×D):=match i with| .int _ n=>indexD P t x n|_=>none
theorem w_iaddr {t:TypeId} {x i:Operand}:dcore P N B fl st ⟨d,.indexAddr t x i,g⟩ Q K T σ=sideK N d (iaddrD P t (ev T x) (ev T i)) K T σ:=by
 simp only[dcore,aop,pureD,sideK,iaddrD]
 rfl
def idxD (P:Program) (t:TypeId) (x i:D):Option (Prop×D):=match i with
 | .int _ n=>match x with
  | .str s=>if strP P t=true then some (0≤n∧n<s.size,.int .u8 ((s.data.toList[n.toNat]?.getD 0).toNat)) else none
  | .agg cs=>match arrP P t with
   |some (k,e)=>match szP P e with
    |some m=>(partD P e cs (n.toNat*m)).map fun d=>(0≤n∧n<k,d)
    |none=>none
   |none=>none
  |_=>none
 |_=>none
theorem w_idx {t:TypeId} {x i:Operand}:dcore P N B fl st ⟨d,.index t x i,g⟩ Q K T σ=sideK N d (idxD P t (ev T x) (ev T i)) K T σ:=by
 simp only[dcore,aop,pureD,sideK,idxD]
 rfl
def nilcD (x:D):Option D:=match x with
 | .ptr b off=>some (.ptr b off)
 | .eptr cs=>some (.eptr cs)
 | .slice o es=>some (.slice o es)
 | .func (.func f) a b=>some (.func (.func f) a b)
 |_=>none
theorem w_nilc {x:Operand}:dcore P N B fl st ⟨d,.nilCheck x,g⟩ Q K T σ=optK N d (nilcD (ev T x)) K T σ:=by
 simp only[dcore,aop,pureD,optK,nilcD]
 cases hx:ev T x <;> simp
 rename_i fn a b; cases fn <;> simp
theorem w_build {t:TypeId} {ps:Array (Nat×Operand)}:dcore P N B fl st ⟨d,.build t ps,g⟩ Q K T σ=sideK N d (pureD P (.build t ps) T) K T σ:=by simp only[dcore,aop,sideK]; rfl
def bsK (N:Nat) (d:Option Nat) (len s:Nat) (z:List D) (o:Option (List D)) (K:Env→St→Prop) (T:Env) (σ:St):Prop:=match o with
 |some cs=>(z.length=s∧len*s≤16777216)∧putK N d (.slice .exact (chunks s len cs)) K T σ
 |none=>False
def bslK (P:Program) (N:Nat) (d:Option Nat) (t:TypeId) (len:Nat) (ps:List (Nat×Operand)) (K:Env→St→Prop) (T:Env) (σ:St):Prop:=match sliP P t with
 |some e=>match szP P e,zf4 P e with
  |some s,some z=>bsK N d len s z (fillD (fun i=>some (i*s,e)) P T frz ps (List.replicate len z).flatten) K T σ
  |_,_=>False
 |none=>False
theorem w_bs {t:TypeId} {n:Nat} {ps:Array (Nat×Operand)}:dcore P N B fl st ⟨d,.buildSlice t n ps,g⟩ Q K T σ=bslK P N d t n ps.toList K T σ:=by
 simp only[dcore,aop,bslK,bsK]
 cases sliP P t with
 |none=>rfl
 |some e=>
  simp only
  cases szP P e <;> cases zf4 P e <;> try rfl
  simp only
  split <;> rename_i heq <;> rw[heq] <;> simp[and_assoc]
theorem w_slice {t:TypeId} {x:Operand} {lo hi mx:Option Operand}:dcore P N B fl st ⟨d,.slice t x lo hi mx,g⟩ Q K T σ=sideK N d (pureD P (.slice t x lo hi mx) T) K T σ:=by simp only[dcore,aop,sideK]; rfl
def lenK (P:Program) (N:Nat) (d:Option Nat) (t:TypeId) (o:Option D) (x:D) (K:Env→St→Prop) (T:Env) (σ:St):Prop:=match o with
 |some v=>putK N d v K T σ
 |none=>match x with
  | .map b=>Mo.mps t=true∧mlenA P N d t (.map b) K T σ
  |_=>False
theorem lenK_some {t:TypeId} {v x:D}:lenK P N d t (some v) x K T σ=putK N d v K T σ:=rfl
theorem lenK_map {t:TypeId} {b:Nat}:lenK P N d t none (.map b) K T σ=(Mo.mps t=true∧mlenA P N d t (.map b) K T σ):=rfl
theorem lenD_map {t:TypeId} {b:Nat}:lenD P t (.map b)=none:=rfl
theorem w_len {x:Operand} {t:TypeId}:dcore P N B fl st ⟨d,.call {callee:= .builtin .len,args:= #[x],argTypes:= #[t]},g⟩ Q K T σ=lenK P N d t (lenD P t (ev T x)) (ev T x) K T σ:=by
 simp only[dcore,aop,pureD,lenK]
 cases hx:ev T x <;> simp only[] <;> first
  |(simp only[lenD]; done)
  |(generalize lenD P t _=o; cases o <;> simp)
def ldK (P:Program) (N:Nat) (B:List Nat) (fl:Bool) (d:Option Nat) (t:TypeId) (x:D) (K:Env→St→Prop) (T:Env) (σ:St):Prop:=match x with
 | .ptr b off=>(fl=true→b∈B)∧match σ.box b with
  |some cs=>optK N d (partD P t (cs.drop off) 0) K T σ
  |none=>False
 | .eptr cs=>optK N d (partD P t cs 0) K T σ
 |_=>False
theorem w_load {t:TypeId} {x:Operand}:dcore P N B fl st ⟨d,.load t x,g⟩ Q K T σ=ldK P N B fl d t (ev T x) K T σ:=by
 simp only[dcore,aop,ldK,optK]; cases ev T x <;> rfl
theorem w_ld_e {t:TypeId} {cs:List D}:ldK P N B fl d t (.eptr cs) K T σ=optK N d (partD P t cs 0) K T σ:=rfl
theorem w_ld_p {t:TypeId} {b off:Nat}:ldK P N B fl d t (.ptr b off) K T σ=((fl=true→b∈B)∧match σ.box b with
  |some cs=>optK N d (partD P t (cs.drop off) 0) K T σ
  |none=>False):=rfl
def stK (P:Program) (N:Nat) (B:List Nat) (d:Option Nat) (t:TypeId) (x v:D) (K:Env→St→Prop) (T:Env) (σ:St):Prop:=match x with
 | .ptr b off=>b∉B∧match σ.box b,cellsD P t v with
  |some cs,some vs=>off+vs.length≤cs.length∧putK N d .any K T (σ.set b (layD cs off vs))
  |_,_=>False
 |_=>False
theorem w_store {t:TypeId} {x v:Operand}:dcore P N B fl st ⟨d,.store t x v,g⟩ Q K T σ=stK P N B d t (ev T x) (ev T v) K T σ:=by
 simp only[dcore,aop,stK]; cases ev T x <;> rfl
theorem w_st_p {t:TypeId} {b off:Nat} {v:D}:stK P N B d t (.ptr b off) v K T σ=(b∉B∧match σ.box b,cellsD P t v with
  |some cs,some vs=>off+vs.length≤cs.length∧putK N d .any K T (σ.set b (layD cs off vs))
  |_,_=>False):=rfl
def boxK (N:Nat) (d:Option Nat) (z:Option (List D)) (K:Env→St→Prop) (T:Env) (σ:St):Prop:=match z with
 |some z=>∀b,¬σ.has b→putK N d (.ptr b 0) K T (σ.set b z)
 |none=>False
theorem w_boxK {z:List D}:boxK N d (some z) K T σ=∀b,¬σ.has b→putK N d (.ptr b 0) K T (σ.set b z):=rfl
theorem w_alloc {t:TypeId}:dcore P N B fl st ⟨d,.alloc t,g⟩ Q K T σ=boxK N d (zf4 P t) K T σ:=by simp only[dcore,aop,boxK]; rfl
theorem w_box {t:TypeId} {x:Operand}:dcore P N B fl st ⟨d,.box t x,g⟩ Q K T σ=boxK N d (cellsD P t (ev T x)) K T σ:=by simp only[dcore,aop,boxK]; rfl
def callK (P:Program) (N:Nat) (B:List Nat) (st:Bool) (d:Option Nat) (f:D) (as:List D) (K:Env→St→Prop) (Q:XA→Env→St→Prop) (T:Env) (σ:St):Prop:=match f with
 | .func (.func g) fi ca=>callB P N B st d g (fi++as++ca) K Q T σ
 |_=>False
theorem w_call {f:Operand} {as:Array Operand} {ts:Array TypeId}:dcore P N B fl st ⟨d,.call {callee:= .value f,args:=as,argTypes:=ts},g⟩ Q K T σ=callK P N B st d (ev T f) (as.toList.map (ev T)) K Q T σ:=by
 simp only[dcore,callK]
 rfl
theorem w_callK {f:FuncId} {fi ca as:List D}:callK P N B st d (.func (.func f) fi ca) as K Q T σ=callB P N B st d f (fi++as++ca) K Q T σ:=rfl
def apK (P:Program) (N:Nat) (d:Option Nat) (m:Bool) (t t':TypeId) (x y:D) (K:Env→St→Prop) (T:Env) (σ:St):Prop:=match m with
 |true=>appendB P N d t t' x y K T σ
 |false=>appendA P N d t t' x y K T σ
theorem apK_false {t t':TypeId} {x y:D}:apK P N d false t t' x y K T σ=appendA P N d t t' x y K T σ:=rfl
theorem apK_true {t t':TypeId} {x y:D}:apK P N d true t t' x y K T σ=appendB P N d t t' x y K T σ:=rfl
theorem aps0 {t:TypeId}:@Mo.aps mo0 t=false:=rfl
theorem w_append {x y:Operand} {t t':TypeId}:dcore P N B fl st ⟨d,.call {callee:= .builtin .append,args:= #[x,y],argTypes:= #[t,t']},g⟩ Q K T σ=apK P N d (Mo.aps t) t t' (ev T x) (ev T y) K T σ:=by
 simp only[dcore,aop,apK]
 cases Mo.aps t <;> rfl
def mkK (P:Program) (N:Nat) (d:Option Nat) (m:Bool) (t:TypeId) (x y:D) (K:Env→St→Prop) (T:Env) (σ:St):Prop:=match m with
 |true=>match makeB P t x y with
  |some (side,z,f)=>side∧∀b,¬σ.has b→putK N d (f b) K T (σ.set b z)
  |none=>False
 |false=>sideK N d (makeA P t x y) K T σ
theorem mkK_true {t:TypeId} {k k':IntKind} {n m:Int}:mkK P N d true t (.int k n) (.int k' m) K T σ=match (sliP P t).bind fun e=>(szP P e).bind fun s=>(zf4 P e).bind fun z=>(zd5 P e).map fun by'=>(s,z,by') with
  |some (s,z,by')=>(z.length=s∧n=m∧0≤n∧n≤9223372036854775807∧(by':Int)*n≤140737488355328)∧∀b,¬σ.has b→putK N d (.bsl b 0 n.toNat n.toNat) K T (σ.set b (List.replicate n.toNat z).flatten)
  |none=>False:=by
 simp only[mkK,makeB]
 cases sliP P t with
 |none=>rfl
 |some e=>simp only[Option.bind_some]; cases szP P e <;> cases zf4 P e <;> cases zd5 P e <;> rfl
theorem w_mk {t:TypeId} {l c:Operand}:dcore P N B fl st ⟨d,.makeSlice t l c,g⟩ Q K T σ=mkK P N d (Mo.mks t) t (ev T l) (ev T c) K T σ:=by
 simp only[dcore,aop,mkK,sideK]
 cases Mo.mks t <;> rfl
def lkK (N:Nat) (d:Option Nat) (o:Option D) (K:Env→St→Prop) (T:Env) (σ:St):Prop:=match o with
 |some v=>putK N d v K T σ
 |none=>False
theorem lkK_some {v:D}:lkK N d (some v) K T σ=putK N d v K T σ:=rfl
theorem w_lookup {t:TypeId} {x i:Operand} {ok:Bool}:dcore P N B fl st ⟨d,.lookup t x i ok,g⟩ Q K T σ=(fl=false∧lkK N d (lookD P t (ev T x) (ev T i) ok σ) K T σ):=rfl
theorem w_upd {t:TypeId} {m k v:Operand}:dcore P N B fl st ⟨d,.mapUpdate t m k v,g⟩ Q K T σ=updA P N d t (ev T m) (ev T k) (ev T v) K T σ:=rfl
theorem w_ins {t:TypeId} {m k v:Operand}:dcore P N B fl st ⟨d,.insert t m k v,g⟩ Q K T σ=updA P N d t (ev T m) (ev T k) (ev T v) K T σ:=rfl
theorem w_mkm {t:TypeId}:dcore P N B fl st ⟨d,.makeMap t none,g⟩ Q K T σ=mkmA P N d t K T σ:=rfl
theorem w_range {t:TypeId} {x:Operand}:dcore P N B fl st ⟨d,.range t x,g⟩ Q K T σ=rangeA P N d t (ev T x) K T σ:=rfl
theorem w_next {x:Operand}:dcore P N B fl st ⟨d,.next x false,g⟩ Q K T σ=nextA N d (ev T x) K T σ:=rfl
theorem w_entry {x:Operand}:dcore P N B fl st ⟨d,.entry x,g⟩ Q K T σ=entryA N d (ev T x) K T σ:=rfl
theorem w_del {x y:Operand} {t t':TypeId}:dcore P N B fl st ⟨d,.call {callee:= .builtin .delete,args:= #[x,y],argTypes:= #[t,t']},g⟩ Q K T σ=delA P N d t (ev T x) (ev T y) K T σ:=by
 simp only[dcore,aop]
theorem keyD_int {k:IntKind} {n:Int}:keyD (.int k n)=some (.int k n):=rfl
theorem lookD_map {t kt et:TypeId} {b:Nat} {i z:D} {ok:Bool} {kk:Option IntKind} {k:Ky} (h1:mapP P t=some (kt,et)) (h2:kkP P kt=some kk) (h3:keyD i=some k) (h4:zvalD P et=some z):
  lookD P t (.map b) i ok σ=lookO (σ.mp b) kk k z ok:=by simp only[lookD,h1,h2,h3,h4]
theorem lookO_map {kk:Option IntKind} {ks:List (Ky×Nat)} {vs:List D} {clock:Nat} {k:Ky} {z:D} {ok:Bool} (h:k.kind=kk):
  lookO (some (.map kk ks vs clock)) kk k z ok=some (match kfind ks k with|some j=>pairD ok ((vs[j]?).getD .any) true|none=>pairD ok z false):=if_pos ⟨rfl,h⟩
theorem updA_map {t kt et:TypeId} {b:Nat} {i v:D} {kk:Option IntKind} {k:Ky} {ks:List (Ky×Nat)} {vs:List D} {clock:Nat} (h1:mapP P t=some (kt,et)) (h2:kkP P kt=some kk) (h3:keyD i=some k) (h4:σ.mp b=some (.map kk ks vs clock)) (h5:k.kind=kk):
  updA P N d t (.map b) i v K T σ=putK N d .any K T (σ.setM b (mset kk ks vs clock k (frz v))):=by simp only[updA,h1,h2,h3,h4,h5,true_and]
theorem delA_map {t kt et:TypeId} {b:Nat} {i:D} {kk:Option IntKind} {k:Ky} {ks:List (Ky×Nat)} {vs:List D} {clock:Nat} (h1:mapP P t=some (kt,et)) (h2:kkP P kt=some kk) (h3:keyD i=some k) (h4:σ.mp b=some (.map kk ks vs clock)) (h5:k.kind=kk):
  delA P N d t (.map b) i K T σ=putK N d (.tup []) K T (σ.setM b (mdel kk ks vs clock k)):=by simp only[delA,h1,h2,h3,h4,h5,true_and]
theorem mlenA_map {t kt et:TypeId} {b:Nat} {kk:Option IntKind} {ks:List (Ky×Nat)} {vs:List D} {clock:Nat} (h1:mapP P t=some (kt,et)) (h4:σ.mp b=some (.map kk ks vs clock)):
  mlenA P N d t (.map b) K T σ=putK N d (.int .i64 ks.length) K T σ:=by simp only[mlenA,h1,h4]
theorem mkmA_map {t kt et:TypeId} {kk:Option IntKind} (h1:mapP P t=some (kt,et)) (h2:kkP P kt=some kk):
  mkmA P N d t K T σ=∀b,¬σ.has b→putK N d (.map b) K T (σ.setM b (.map kk [] [] 0)):=by simp only[mkmA,h1,h2]
theorem rangeA_map {t kt et:TypeId} {b:Nat} {kk:Option IntKind} {ks:List (Ky×Nat)} {vs:List D} {clock:Nat} (h1:mapP P t=some (kt,et)) (h4:σ.mp b=some (.map kk ks vs clock)):
  rangeA P N d t (.map b) K T σ=∀r,¬σ.has r→putK N d (.ptr r 0) K T (σ.setM r (.iter b clock [])):=by simp only[rangeA,h1,h4]
theorem setM_mp {b x:Nat} {o:MO}:(σ.setM b o).mp x=if x=b then some o else σ.mp x:=rfl
theorem setM_box {b:Nat} {o:MO}:(σ.setM b o).box=σ.box:=rfl
theorem setM_buf {b:Nat} {o:MO}:(σ.setM b o).buf=σ.buf:=rfl
theorem set_mp {b:Nat} {cs:List D}:(σ.set b cs).mp=σ.mp:=rfl
theorem setBuf_mp {b s n:Nat}:(σ.setBuf b s n).mp=σ.mp:=rfl
theorem w_copy {x y:Operand} {t t':TypeId}:dcore P N B fl st ⟨d,.call {callee:= .builtin .copy,args:= #[x,y],argTypes:= #[t,t']},g⟩ Q K T σ=copyA P N d t (ev T x) (ev T y) K T σ:=by
 simp only[dcore,aop]
theorem ev_t {t:Nat}:ev T (.tmp t)=T t:=rfl
theorem ev_c {v:Value}:ev T (.const v)=cD v:=rfl
theorem ev_f {f:FuncId}:ev T (.func f)= .func (.func f) [] []:=rfl
end walk
end
end Go.AL
