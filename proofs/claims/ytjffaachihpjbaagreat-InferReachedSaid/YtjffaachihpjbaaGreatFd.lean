import Derived.Test.YtjffaachihpjbaaGreatFc
set_option linter.unusedSectionVars false
set_option linter.unusedVariables false
set_option linter.unusedSimpArgs false
namespace Go.AL
section
variable {P : Program} {N : Nat} {T : Env} {σ : St} {K : Env → St → Prop} {Q : XA → Env → St → Prop} {B : List Nat}
variable [DSt] [Mo]
section ints
variable {t : TypeId} {k : IntKind} {a b : Int}
theorem binD_add:binD P .add t (.int k a) (.int k b)=some (True,.int k (k.wrap (a+b))):=by simp[binD,binI]
theorem binD_sub:binD P .sub t (.int k a) (.int k b)=some (True,.int k (k.wrap (a-b))):=by simp[binD,binI]
theorem binD_mul:binD P .mul t (.int k a) (.int k b)=some (True,.int k (k.wrap (a*b))):=by simp[binD,binI]
theorem binD_or:binD P .or t (.int k a) (.int k b)=some (True,.int k (k.wrap (BitVec.ofInt k.bits a|||BitVec.ofInt k.bits b).toNat)):=by simp[binD,binI]
theorem binD_eql:binD P .eql t (.int k a) (.int k b)=some (True,.bool (decide (a=b))):=by simp[binD,binI]
theorem binD_neq:binD P .neq t (.int k a) (.int k b)=some (True,.bool (!decide (a=b))):=by simp[binD,binI]
theorem binD_lss:binD P .lss t (.int k a) (.int k b)=some (True,.bool (decide (a<b))):=by simp[binD,binI]
theorem binD_leq:binD P .leq t (.int k a) (.int k b)=some (True,.bool (decide (a≤b))):=by simp[binD,binI]
theorem binD_gtr:binD P .gtr t (.int k a) (.int k b)=some (True,.bool (decide (b<a))):=by simp[binD,binI]
theorem binD_geq:binD P .geq t (.int k a) (.int k b)=some (True,.bool (decide (b≤a))):=by simp[binD,binI]
theorem binD_shl {k':IntKind}:binD P .shl t (.int k a) (.int k' b)=some (0≤b,.int k (k.wrap (a*2^(min b.toNat k.bits)))):=rfl
theorem binD_seql {s u:ByteArray}:binD P .eql t (.str s) (.str u)=some (True,.bool (decide (s=u))):=rfl
theorem binD_e1 {b o:Nat}:binD P .eql t (.ptr b o) .nilptr=(match ptrP P t with|true=>some (True,.bool false)|false=>none):=by simp only[binD,nilE]; cases ptrP P t <;> rfl
theorem binD_geql {xs ys:List D}:binD P .eql t (.agg xs) (.agg ys)=(match eqGP P t,eqV P 10 t (.agg xs) (.agg ys) with|true,some r=>some (True,.bool r)|_,_=>none):=by
 simp only[binD]; cases eqGP P t <;> cases eqV P 10 t (.agg xs) (.agg ys) <;> rfl
theorem binD_gneq {xs ys:List D}:binD P .neq t (.agg xs) (.agg ys)=(match eqGP P t,eqV P 10 t (.agg xs) (.agg ys) with|true,some r=>some (True,.bool (!r))|_,_=>none):=by
 simp only[binD]; cases eqGP P t <;> cases eqV P 10 t (.agg xs) (.agg ys) <;> rfl
theorem unD_not {x:Bool}:unD .not (.bool x)=some (.bool !x):=rfl
theorem convD_int {s d:TypeId}:convD P s d (.int k a)=(match ze5 P s,intP P d with|true,some k'=>some (.int k' (k'.wrap a))|_,_=>none):=rfl
theorem pickD_bool {c x y:Bool}:pickD c (.bool x) (.bool y)= .bool (if c=true then x else y):=rfl
theorem pickD_t {x y:D}:pickD true x y=x:=by unfold pickD; split <;> rfl
theorem pickD_f {x y:D}:pickD false x y=y:=by unfold pickD; split <;> rfl
theorem lenD_slice {o:Own} {es:List (List D)}:lenD P t (.slice o es)=(match sliP P t with|some _=>some (.int .i64 es.length)|none=>none):=rfl
theorem lenD_bsl {x off n c:Nat}:lenD P t (.bsl x off n c)=(match sliP P t with|some _=>some (.int .i64 n)|none=>none):=rfl
theorem lenD_str {s:ByteArray}:lenD P t (.str s)=(match strP P t with|true=>some (.int .i64 s.size)|false=>none):=by simp only[lenD]; cases strP P t <;> rfl
theorem iaddr_slice {o:Own} {es:List (List D)}:iaddrD P t (.slice o es) (.int k a)=(match sliP P t with|some e=>(match szP P e with|some n=>some ((0≤a∧a<es.length)∧(es[a.toNat]?.getD []).length=n,.eptr (es[a.toNat]?.getD []))|none=>none)|none=>none):=rfl
theorem iaddr_ptr {x off:Nat}:iaddrD P t (.ptr x off) (.int k a)=(match arrP P t with|some (m,e)=>(match szP P e with|some n=>some (0≤a∧a<m,.ptr x (off+a.toNat*n))|none=>none)|none=>none):=rfl
theorem iaddr_bsl {x off l c:Nat}:iaddrD P t (.bsl x off l c) (.int k a)=(match sliP P t with|some e=>(match szP P e with|some n=>some (0≤a∧a<l,.ptr x (off+a.toNat*n))|none=>none)|none=>none):=rfl
theorem idx_str {s:ByteArray}:idxD P t (.str s) (.int k a)=(match strP P t with|true=>some (0≤a∧a<s.size,.int .u8 ((s.data.toList[a.toNat]?.getD 0).toNat))|false=>none):=by simp only[idxD]; cases strP P t <;> rfl
theorem idx_agg {cs:List D}:idxD P t (.agg cs) (.int k a)=(match arrP P t with|some (m,e)=>(match szP P e with|some n=>(partD P e cs (a.toNat*n)).map fun d=>(0≤a∧a<m,d)|none=>none)|none=>none):=rfl
theorem faddr_ptr {x off o ft:Nat}:faddrD (.ptr x off) (some (o,ft))=some (.ptr x (off+o)):=rfl
theorem faddr_eptr {cs:List D} {o ft:Nat}:faddrD (.eptr cs) (some (o,ft))=some (.eptr (cs.drop o)):=rfl
theorem part_eq {cs:List D} {off:Nat}:partD P t cs off=(match aggP P t,szP P t with|some true,some n=>if off+n≤cs.length then some (.agg ((cs.drop off).take n)) else none|some false,some _=>cs[off]? |_,_=>none):=rfl
theorem cells_eq {d:D}:cellsD P t d=(match aggP P t,szP P t with|some true,some n=>(match d with| .agg cs=>if cs.length=n then some cs else none|_=>none)|some false,some 1=>if d.cellQ=true then some [d] else none|_,_=>none):=rfl
theorem extract_tup {ds:List D} {i:Nat}:extractD (.tup ds) i=ds[i]? :=rfl
theorem w_optn {d:Option Nat}:optK N d none K T σ=False:=rfl
end ints
section control
variable {x y : AC} {c : Operand} {id : Nat} {pr : List Nat} {l : List DO}
def condK (d:D) (A A':Prop):Prop:=match d with| .bool t=>br t A A'|_=>False
@[congr] theorem condK_congr {d d':D} {A A':Prop} (h:d=d'):condK d A A'=condK d' A A':=by subst h; rfl
theorem w_condK {t:Bool} {A A':Prop}:condK (.bool t) A A'=br t A A':=rfl
theorem vc_skip:vcA P N .skip Q T σ=Q .normal T σ:=rfl
theorem vc_reg:vcA P N (.reg false pr l) Q T σ=aopsD P N [] l Q T σ:=rfl
theorem vc_draw:vcA P N (.reg true pr l) Q T σ=((∀b∈boxesAt T pr,σ.box b≠none)∧aopsD P N (boxesAt T pr) l Q T σ):=rfl
def thenV (P:Program) (N:Nat) (y:AC) (Q:XA→Env→St→Prop):XA→Env→St→Prop:=thenA (vcA P N y Q) Q
theorem thenV_n:thenV P N y Q .normal T σ=vcA P N y Q T σ:=rfl
theorem thenV_r:thenV P N y Q .ret T σ=Q .ret T σ:=rfl
theorem thenV_e:thenV P N y Q (.exit id) T σ=Q (.exit id) T σ:=rfl
theorem vc_seq:vcA P N (.seq x y) Q T σ=vcA P N x (thenV P N y Q) T σ:=rfl
@[congr] theorem vcA_congr {c c':AC} {T T':Env} {σ σ':St} (hc:c=c') (hT:T=T') (hs:σ=σ'):vcA P N c Q T σ=vcA P N c' Q T' σ':=by subst hc; subst hT; subst hs; rfl
@[congr] theorem aopsD_congr {B B':List Nat} {T T':Env} {σ σ':St} (hB:B=B') (hT:T=T') (hs:σ=σ'):aopsD P N B l Q T σ=aopsD P N B' l Q T' σ':=by subst hB; subst hT; subst hs; rfl
@[congr] theorem callB_congr {B B':List Nat} {st:Bool} {d:Option Nat} {g:FuncId} {ds ds':List D} {K:Env→St→Prop} {T T':Env} {σ σ':St} (hB:B=B') (hd:ds=ds') (hT:T=T') (hs:σ=σ'):
  callB P N B st d g ds K Q T σ=callB P N B' st d g ds' K Q T' σ':=by subst hB; subst hd; subst hT; subst hs; rfl
theorem za2:vcA P N (.cond c x y) Q T σ=condK (ev T c) (vcA P N x Q T σ) (vcA P N y Q T σ):=rfl
attribute [go_sem] za2
theorem vc_block:vcA P N (.block id x) Q T σ=vcA P N x (blockA id Q) T σ:=rfl
theorem vc_exit:vcA P N (.exit id) Q T σ=Q (.exit id) T σ:=rfl
theorem vc_ret:vcA P N .ret Q T σ=Q .ret T σ:=rfl
variable {k : Env → St → Prop}
theorem then_n:thenA k Q .normal T σ=k T σ:=rfl
theorem then_r:thenA k Q .ret T σ=Q .ret T σ:=rfl
theorem then_e:thenA k Q (.exit id) T σ=Q (.exit id) T σ:=rfl
theorem block_n:blockA id Q .normal T σ=Q .normal T σ:=rfl
theorem block_r:blockA id Q .ret T σ=Q .ret T σ:=rfl
theorem block_e {j:Nat}:blockA id Q (.exit j) T σ=if j=id then Q .normal T σ else Q (.exit j) T σ:=rfl
def gbr (c:Bool) (A A':Env→St→Prop) (T:Env) (σ:St):Prop:=if c=true then A T σ else A' T σ
theorem gbr_t {A A':Env→St→Prop}:gbr true A A' T σ=A T σ:=by simp[gbr]
theorem gbr_f {A A':Env→St→Prop}:gbr false A A' T σ=A' T σ:=by simp[gbr]
theorem gbr_split {c:Bool} {A A':Env→St→Prop} (ha:c=true→A T σ) (hb:c=false→A' T σ):gbr c A A' T σ:=by
 cases c
 ·rw[gbr_f]; exact hb rfl
 ·rw[gbr_t]; exact ha rfl
def guardK (d:D) (w:Bool) (A A':Env→St→Prop) (T:Env) (σ:St):Prop:=match gq d w with|some c=>gbr c A A' T σ|none=>False
theorem w_guardK {t w:Bool} {A A':Env→St→Prop}:guardK (.bool t) w A A' T σ=gbr (t==w) A A' T σ:=rfl
theorem w_guardT {ds:List D} {w:Bool} {A A':Env→St→Prop}:guardK (.tup ds) w A A' T σ=A' T σ:=by simp[guardK,gq,gbr]
theorem aopsD_gd {op:Op} {d:Option Nat} {fl st:Bool} {rest:List DO} {t:Nat} {w:Bool}:aopsD P N B (⟨⟨d,op,some (t,w)⟩,fl,st⟩::rest) Q T σ=
  guardK (T t) w (dcore P N B fl st ⟨d,op,some (t,w)⟩ Q (aopsD P N B rest Q)) (putK N d (.tup []) (aopsD P N B rest Q)) T σ:=by
 rw[aopsD_g]; simp only[guardK,gbr,br]; rfl
end control
def leK (o:Option D) (d:D):Prop:=match o with|some d'=>DLe d' d|none=>False
def bodyP (P:Program) (rs:List ResultVar) (d:D):XA→Env→St→Prop
 | .normal,T,σ| .ret,T,σ=>leK (resA P T σ rs) d
 |_,_,_=>False
end
section
variable {P : Program} {N : Nat} {T : Env} {σ : St} {K : Env → St → Prop} {Q : XA → Env → St → Prop} {B : List Nat}
theorem Fun1.pcall' {f:FuncId} {c:AC} {rs:List ResultVar} {ds:List D} {d:D} (F:Fun1 P f N c rs) (hl:decide (ds.length≤N)=true) (h:∀T,(∀t,T t=envOf ds t)→vcA P N c (bodyP P rs d) T {}):PCall P f ds d:=by
 obtain⟨fn,code,h1,h2,h3,h4,rfl,rfl⟩:=F.ex
 refine acall_of_body h1 h2 h3 h4 (of_decide_eq_true hl) ?_
 refine awp_mono (vcA_sound F.hm (of_decide_eq_true F.hN) code (h _ fun _=>rfl)) fun x T σ hq=> ?_
 cases x with
 |normal=>
  simp only[bodyP,leK] at hq
  split at hq
  ·exact⟨_,_,{},by assumption,hq,St.le.nil _,rfl,rfl⟩
  ·exact hq.elim
 |ret=>
  simp only[bodyP,leK] at hq
  split at hq
  ·exact⟨_,_,{},by assumption,hq,St.le.nil _,rfl,rfl⟩
  ·exact hq.elim
 |_=>exact hq.elim
end
section
variable {P : Program} {N : Nat} {T : Env} {σ : St} {K : Env → St → Prop} {Q : XA → Env → St → Prop} {B : List Nat}
variable [DSt] [Mo]
theorem body_r {rs:List ResultVar} {d:D}:bodyP P rs d .ret T σ=leK (resA P T σ rs) d:=rfl
theorem le_some {d d':D}:leK (some d') d=DLe d' d:=rfl
theorem res_one {t:Nat}:resA P T σ [.tmp t]=some (T t):=rfl
theorem res_two {r r':ResultVar} {rs:List ResultVar}:resA P T σ (r::r'::rs)=(resMany P T σ (r::r'::rs)).map .tup:=rfl
theorem res_nil:resA P T σ []=some (.tup []):=rfl
theorem resM_nil:resMany P T σ []=some []:=rfl
theorem resM_cons {t:Nat} {rs:List ResultVar}:resMany P T σ (.tmp t::rs)=(resMany P T σ rs).map (T t:: ·):=by
 simp only[resMany,resOne]; cases resMany P T σ rs <;> rfl
theorem DLe_refl {d:D}:DLe d d=True:=eq_true (DLe.refl d)
theorem DLe_no {o:Own} {es:List (List D)}:DLe (.slice o es) (.slice .no es)=True:=eq_true (DLe.slice o es)
theorem PCall.args {f:FuncId} {ds ds':List D} {d:D} (h:PCall P f ds d) (hd:DLes ds' ds):PCall P f ds' d:=
 ⟨h.enters,fun M w vs hi hv=>h.run M w vs hi (hd.rep hv)⟩
theorem DLe.of_eq {d d':D} (h:d=d'):DLe d d':=h▸DLe.refl d
section slices
variable {d : Option Nat} {t t' : TypeId} {o : Own} {xs ys : List (List D)}
theorem bsl_eq {n:Nat} {ps:List (Nat×Operand)}:bslK P N d t n ps K T σ=(match sliP P t with
 |some e=>(match szP P e,zf4 P e with
  |some s,some z=>bsK N d n s z (fillD (fun i=>some (i*s,e)) P T frz ps (List.replicate n z).flatten) K T σ
  |_,_=>False)
 |none=>False):=rfl
theorem bsK_eq {n s:Nat} {z cs:List D}:bsK N d n s z (some cs) K T σ=((z.length=s∧n*s≤16777216)∧putK N d (.slice .exact (chunks s n cs)) K T σ):=rfl
theorem fill_nil {pl:Nat→Option (Nat×TypeId)} {fz:D→D} {cs:List D}:fillD pl P T fz [] cs=some cs:=rfl
def fillK (pl:Nat→Option (Nat×TypeId)) (P:Program) (T:Env) (fz:D→D) (rest:List (Nat×Operand)) (cells:List D) (off:Nat) (o:Option (List D)):Option (List D):=match o with
 |some cs=>if off+cs.length≤cells.length then fillD pl P T fz rest (layD cells off (cs.map fz)) else none
 |none=>none
theorem fill_cons {pl:Nat→Option (Nat×TypeId)} {fz:D→D} {cs:List D} {i:Nat} {x:Operand} {rest:List (Nat×Operand)}:fillD pl P T fz ((i,x)::rest) cs=(match pl i with
 |none=>none
 |some (off,t)=>fillK pl P T fz rest cs off (cellsD P t (ev T x))):=rfl
theorem fillK_some {pl:Nat→Option (Nat×TypeId)} {fz:D→D} {rest:List (Nat×Operand)} {cells cs:List D} {off:Nat}:fillK pl P T fz rest cells off (some cs)=if off+cs.length≤cells.length then fillD pl P T fz rest (layD cells off (cs.map fz)) else none:=rfl
theorem chunks_0 {s:Nat} {l:List D}:chunks s 0 l=[]:=rfl
theorem chunks_s {s n:Nat} {l:List D}:chunks s (n+1) l=l.take s::chunks s n (l.drop s):=rfl
theorem lay_eq {cells part:List D} {off:Nat}:layD cells off part=cells.take off++part++cells.drop (off+part.length):=rfl
theorem app_nil:appendA P N d t t' (.slice .nil xs) (.slice o ys) K T σ=(match sliP P t,sliP P t' with
 |some e,some e'=>e=e'∧(match szP P e,zd5 P e,(zf4 P e).map List.length with
  |some s,some by',some z=>z=s∧0<s∧0<by'∧(∀r∈ys,r.length=s)∧(xs.length+ys.length)*by'≤140737488355328∧
   (ys=[]→putK N d (.slice .nil []) K T σ)∧(ys≠[]→∀b',¬σ.has b'→putK N d (.slice (.buf b' s) ys) K T (σ.setBuf b' s ys.length))
  |_,_,_=>False)
 |_,_=>False):=by simp only[appendA]; cases sliP P t <;> cases sliP P t' <;> rfl
theorem app_buf {b s':Nat}:appendA P N d t t' (.slice (.buf b s') xs) (.slice o ys) K T σ=(match sliP P t,sliP P t' with
 |some e,some e'=>e=e'∧(match szP P e,zd5 P e,(zf4 P e).map List.length with
  |some s,some by',some z=>z=s∧0<s∧0<by'∧(∀r∈ys,r.length=s)∧(xs.length+ys.length)*by'≤140737488355328∧
   s'=s∧σ.buf b=some (s,xs.length)∧∀b',¬(σ.dropBuf b).has b'→putK N d (.slice (.buf b' s) (xs++ys)) K T ((σ.dropBuf b).setBuf b' s (xs.length+ys.length))
  |_,_,_=>False)
 |_,_=>False):=by simp only[appendA]; cases sliP P t <;> cases sliP P t' <;> rfl
end slices
def envOk:List (Nat×D)→Env→Prop
 |[],_=>True
 |(a,d)::l,T=>T a=d∧envOk l T
theorem envOk_le:∀{l:List (Nat×D)} {T:Env},envOk l T→∀p∈l,T p.1=p.2
 |(a,d)::l,T,h,p,hp=>by
  rcases List.mem_cons.1 hp with rfl|hp
  ·exact h.1
  ·exact envOk_le h.2 p hp
theorem envOk_nil:envOk [] T=True:=rfl
theorem envOk_cons {a:Nat} {d:D} {l:List (Nat×D)}:envOk ((a,d)::l) T=(T a=d∧envOk l T):=rfl
theorem envL_nil {t:Nat}:envL [] t= .any:=rfl
theorem envL_cons {a t:Nat} {d:D} {l:List (Nat×D)}:envL ((a,d)::l) t=if t=a then d else envL l t:=by
 unfold envL
 by_cases h:t=a
 ·subst h; simp
 ·have:(t==a)=false:=by simp[h]
  simp[List.lookup,this,h]
theorem loopL {c:AC} {f:Nat} {rs:List ResultVar} {c0:AC} (F:Fun1 P f N c0 rs) {α:Type} (E:α→List (Nat×D)) (S:α→St) (ok:α→Prop) (μ:α→Nat) (x₀:α) (h₀:ok x₀) (he:envOk (E x₀) T) (hs:St.le (S x₀) σ)
  (round:∀x,ok x→∀T:Env,(∀t,T t=envL (E x) t)→vcA P N c (thenA (fun T' σ'=>∃y,ok y∧μ y<μ x∧envOk (E y) T'∧St.le (S y) σ') Q) T (S x)):vcA P N (.loop c) Q T σ:=by
 intro code hcode
 subst hcode
 refine awp_loop (fun x=>envL (E x)) S ok μ x₀ h₀ (envL_le (envOk_le he)) hs fun x hx=> ?_
 refine awp_mono (vcA_sound F.hm (of_decide_eq_true F.hN) code (round x hx _ fun _=>rfl)) fun x' T' σ' h=> ?_
 cases x' with
 |normal=>obtain⟨y,h1,h2,h3,h4⟩:=h; exact⟨y,h1,h2,envL_le (envOk_le h3),h4⟩
 |_=>exact h
def resC (P:Program) (t:TypeId) (σ:St) (x:D):Option D:=match x with
 | .ptr b off=>match σ.box b with
  |some cs=>partD P t (cs.drop off) 0
  |none=>none
 |_=>none
theorem res_cell {a:Nat} {t:TypeId}:resA P T σ [.cell a t]=resC P t σ (T a):=by
 simp only[resA,resOne,resC]
 cases T a <;> rfl
theorem resC_ptr {t:TypeId} {b off:Nat}:resC P t σ (.ptr b off)=(match σ.box b with|some cs=>partD P t (cs.drop off) 0|none=>none):=rfl
theorem has_set {b x:Nat} {cs:List D}:(σ.set b cs).has x=(x=b∨b=x∨σ.has x):=by
 simp only[St.has,St.set]
 by_cases h:x=b
 ·simp[h]
 ·simp[h,Ne.symm h]
theorem has_setBuf {b x s n:Nat}:(σ.setBuf b s n).has x=(x=b∨b=x∨σ.has x):=by
 simp only[St.has,St.setBuf]
 by_cases h:x=b
 ·simp[h]
 ·simp[h,Ne.symm h]
theorem has_drop {b x:Nat}:(σ.dropBuf b).has x=(σ.box x≠none∨(x≠b∧σ.buf x≠none)∨σ.mp x≠none):=by
 simp only[St.has,St.dropBuf]
 by_cases h:x=b <;> simp[h]
theorem has_nil {x:Nat}:({}:St).has x=False:=eq_false (St.not_has_nil x)
theorem ite_some {α:Type} {p:Prop} [Decidable p] {a:α} {o:Option α}:((if p then some a else o)=none)=(¬p∧o=none):=by split <;> simp_all
theorem pure_build {t:TypeId} {ps:Array (Nat×Operand)}:pureD P (.build t ps) T=(match buildP P t,zf4 P t with
  |some none,some z=>(fillD (fldP P t) P T id ps.toList z).map fun cs=>(True,.agg cs)
  |some (some (e,n)),some z=>(fillD (fun i=>some (i*n,e)) P T id ps.toList z).map fun cs=>(True,.agg cs)
  |_,_=>none):=rfl
def loD (T:Env):Option Operand→Option Int
 |some l=>toInt? (ev T l)
 |none=>some 0
def hiD (T:Env) (n:Nat):Option Operand→Option Int
 |some h=>toInt? (ev T h)
 |none=>some (n:Int)
def sliceD (P:Program) (t:TypeId) (x:D) (lo:Option Int) (hi:Nat→Option Int):Option (Prop×D):=match x with
 | .slice _ es=>match sliP P t with
  |some e=>match szP P e with
   |some n=>match lo,hi es.length with
    |some l,some h=>some ((0≤l∧l≤h∧h≤es.length)∧∀e∈es,e.length=n,.slice .no ((es.take h.toNat).drop l.toNat))
    |_,_=>none
   |none=>none
  |none=>none
 | .str s=>match strP P t with
  |true=>match lo,hi s.size with
   |some l,some h=>some (0≤l∧l≤h∧h≤s.size,.str (s.extract l.toNat h.toNat))
   |_,_=>none
  |false=>none
 | .ptr b off=>match arrP P t with
  |some (n,_)=>match lo,hi n with
   |some l,some h=>bslD P t b off l h
   |_,_=>none
  |none=>none
 |_=>none
theorem pure_slice {t:TypeId} {x:Operand} {lo hi:Option Operand}:pureD P (.slice t x lo hi none) T=sliceD P t (ev T x) (loD T lo) (fun n=>hiD T n hi):=by
 simp only[pureD,sliceD]
 cases ev T x <;> try rfl
 ·rename_i s
  simp only[loD,hiD]
  cases strP P t
  ·rfl
  ·simp only[if_true]
   cases lo <;> cases hi <;> rfl
theorem sliceD_ptr {t:TypeId} {b off:Nat} {lo:Option Int} {hi:Nat→Option Int}:sliceD P t (.ptr b off) lo hi=(match arrP P t with
  |some (n,_)=>match lo,hi n with
   |some l,some h=>bslD P t b off l h
   |_,_=>none
  |none=>none):=rfl
theorem bsl_def {t:TypeId} {b off:Nat} {l h:Int}:bslD P t b off l h=(match arrP P t with
 |some (n,_e)=>match szP P _e with
  |some s=>some (0≤l∧l≤h∧h≤n,.bsl b (if n=l.toNat then off else off+l.toNat*s) (h.toNat-l.toNat) (n-l.toNat))
  |none=>none
 |none=>none):=rfl
theorem copyA_def {d:Option Nat} {t:TypeId} {b o l c b' o' l' c':Nat}:copyA P N d t (.bsl b o l c) (.bsl b' o' l' c') K T σ=(match sliP P t with
 |some e=>(match szP P e,σ.box b,σ.box b' with
  |some 1,some cs,some cs'=>o+min l' l≤cs.length∧o'+min l' l≤cs'.length∧putK N d (.int .i64 (min l' l:Nat)) K T (σ.set b (layD cs o ((cs'.drop o').take (min l' l))))
  |_,_,_=>False)
 |none=>False):=by simp only[copyA]; cases sliP P t <;> rfl
theorem lo_some {x:Operand}:loD T (some x)=toInt? (ev T x):=rfl
theorem lo_none:loD T none=some 0:=rfl
theorem hi_some {x:Operand} {n:Nat}:hiD T n (some x)=toInt? (ev T x):=rfl
theorem hi_none {n:Nat}:hiD T n none=some (n:Int):=rfl
theorem toInt_int {k:IntKind} {n:Int}:toInt? (.int k n)=some n:=rfl
theorem sliceD_slice {t:TypeId} {o:Own} {es:List (List D)} {lo:Option Int} {hi:Nat→Option Int}:sliceD P t (.slice o es) lo hi=(match sliP P t with
  |some e=>match szP P e with
   |some n=>match lo,hi es.length with
    |some l,some h=>some ((0≤l∧l≤h∧h≤es.length)∧∀e∈es,e.length=n,.slice .no ((es.take h.toNat).drop l.toNat))
    |_,_=>none
   |none=>none
  |none=>none):=rfl
theorem cellQ_int {k:IntKind} {n:Int}:(D.int k n).cellQ=true:=rfl
theorem cellQ_bool {b:Bool}:(D.bool b).cellQ=true:=rfl
theorem cellQ_str {s:ByteArray}:(D.str s).cellQ=true:=rfl
theorem cellQ_slice {o:Own} {es:List (List D)}:(D.slice o es).cellQ=true:=rfl
theorem cellQ_func {f:Fn} {a b:List D}:(D.func f a b).cellQ=true:=rfl
theorem cD_int {k:IntKind} {n:Int}:cD (.int k n)= .int k n:=rfl
theorem cD_bool {b:Bool}:cD (.bool b)= .bool b:=rfl
theorem cD_str {s:ByteArray}:cD (.string s)= .str s:=rfl
theorem cD_slice:cD (.slice none 0 0)= .slice .nil []:=rfl
theorem cD_ptr:cD (.pointer none)= .nilptr:=rfl
theorem cD_func:cD .nilFunc= .nilfunc:=rfl
theorem nil_t {t:Nat}:nilOpnd (.tmp t)=false:=rfl
theorem nil_i {k:IntKind} {n:Int}:nilOpnd (.const (.int k n))=false:=rfl
theorem St.set_box {b x:Nat} {cs:List D}:(σ.set b cs).box x=if x=b then some cs else σ.box x:=rfl
theorem St.setBuf_box {b s n x:Nat}:(σ.setBuf b s n).box x=σ.box x:=rfl
theorem St.dropBuf_box {b x:Nat}:(σ.dropBuf b).box x=σ.box x:=rfl
theorem St.set_buf {b x:Nat} {cs:List D}:(σ.set b cs).buf x=σ.buf x:=rfl
theorem St.setBuf_buf {b s n x:Nat}:(σ.setBuf b s n).buf x=if x=b then some (s,n) else σ.buf x:=rfl
theorem envOf_app {ds:List D} {t:Nat}:envOf ds t=(ds[t]?).getD .any:=rfl
theorem boxesAt_cons {t:Nat} {r:List Nat}:boxesAt T (t::r)=(match T t with| .ptr b _=>b::boxesAt T r|_=>boxesAt T r):=rfl
theorem boxesAt_nil:boxesAt T []=[]:=rfl
theorem zb7 {n:Int} (h: -9223372036854775808≤n) (h':n≤9223372036854775807):IntKind.wrap .i64 n=n:=by
 have e:IntKind.wrap .i64 n=if 9223372036854775808≤n%18446744073709551616 then n%18446744073709551616-18446744073709551616 else n%18446744073709551616:=by simp[IntKind.wrap,IntKind.bits,IntKind.signed]
 rw[e]; split <;> omega
theorem wrap_u8 {n:Int} (h:0≤n) (h':n<256):IntKind.wrap .u8 n=n:=by
 have e:IntKind.wrap .u8 n=n%256:=by simp[IntKind.wrap,IntKind.bits,IntKind.signed]
 rw[e]; omega
end
attribute [go_sem] apK_false apK_true aps0 lenK_some lenK_map lenD_map mkK_true lkK_some w_lookup w_upd w_ins w_mkm w_range w_next w_entry w_del keyD_int setM_box setM_buf set_mp setBuf_mp pure_build pure_slice lo_some lo_none hi_some hi_none toInt_int sliceD_slice sliceD_ptr bsl_def copyA_def w_mk w_copy res_cell resC_ptr has_set has_setBuf has_drop has_nil ite_some envOk_nil envOk_cons envL_nil envL_cons bsl_eq bsK_eq fill_nil fill_cons fillK_some chunks_0 chunks_s lay_eq app_nil app_buf body_r le_some res_one res_two res_nil resM_nil resM_cons DLe_refl DLe_no vc_skip vc_reg vc_draw vc_seq thenV_n thenV_r thenV_e vc_block vc_exit vc_ret then_n then_r then_e block_n block_r block_e cellQ_int cellQ_bool cellQ_str cellQ_slice cellQ_func aopsD_gd aopsD_nil aopsD_n w_put w_put0 w_move w_assign w_pick w_pickK w_bin w_side w_opt w_optn w_binA w_un w_conv w_func w_extract w_faddr w_iaddr w_idx w_nilc w_build w_bs w_slice w_len w_load w_ld_e w_ld_p w_store w_st_p w_boxK w_alloc w_box w_call w_callK w_append ev_t ev_c ev_f binD_add binD_sub binD_mul binD_or binD_eql binD_neq binD_lss binD_leq binD_gtr binD_geq binD_shl binD_e1 binD_seql binD_geql binD_gneq unD_not convD_int pickD_bool pickD_t pickD_f lenD_slice lenD_bsl lenD_str iaddr_slice iaddr_ptr iaddr_bsl idx_str idx_agg faddr_ptr faddr_eptr part_eq cells_eq extract_tup St.set_box St.setBuf_box St.dropBuf_box St.set_buf St.setBuf_buf envOf_app boxesAt_nil boxesAt_cons upd_app cD_int cD_bool cD_str cD_slice cD_ptr cD_func nil_t nil_i
attribute [go_sem ↓] br_true br_false gbr_t gbr_f
attribute [go_sem] w_condK w_guardK w_guardT Nat.succ_ne_self ne_eq not_true_eq_false not_false_eq_true true_and and_true true_implies implies_true List.toList_toArray List.map_cons List.map_nil List.getElem?_cons_zero List.getElem?_cons_succ List.getElem?_nil Option.getD_some Option.getD_none Option.map_some List.length_cons List.length_nil List.cons_append List.nil_append List.append_nil beq_true beq_false Bool.not_true Bool.not_false Bool.true_eq_false Bool.false_eq_true List.drop_zero List.drop_succ_cons Nat.zero_add Nat.add_zero forall_const Nat.zero_mul Nat.zero_le List.replicate_zero List.replicate_succ List.flatten_nil List.flatten_cons List.not_mem_nil false_implies List.take_zero List.take_succ_cons List.take_nil List.drop_nil and_self List.length_map not_or Classical.not_not and_imp or_false false_or List.forall_mem_cons List.mem_cons or_true true_or decide_true decide_false eq_self Int.toNat_natCast id_eq List.map_id_fun
end Go.AL
