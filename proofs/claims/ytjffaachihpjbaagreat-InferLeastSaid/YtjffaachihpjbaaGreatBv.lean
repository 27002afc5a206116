import Derived.Test.YtjffaachihpjbaaGreatBu
import Derived.Test.YtjffaachihpjbaaGreatBo
import Derived.Test.YtjffaachihpjbaaGreatBs
import Derived.Test.YtjffaachihpjbaaGreatBe
import Derived.Test.YtjffaachihpjbaaGreatBp
import Derived.Test.YtjffaachihpjbaaGreatBm
import Derived.Test.YtjffaachihpjbaaGreatBl
set_option linter.unusedSimpArgs false
set_option linter.unusedVariables false
set_option maxRecDepth 100000
set_option linter.defProp false
set_option maxHeartbeats 4000000
namespace Go.AL
open Go.Proofs
theorem next_mem {b:List Ty} {x y:Nat} (hd:(decF b x).2=0) (h:y∈nextN b x):(jumpsB (insA b x).op.val=true∧y=(insA b x).a.toNat∧0≤(insA b x).a)∨(endsB (insA b x).op.val=false∧y=x+szA b x):=by
 have hp:(insA b x).pos=x:=by
  have:=(decF_ok hd).2.1
  unfold insA; rw[this]; rfl
 unfold nextN onD at h
 simp only[List.mem_map] at h
 obtain⟨z,hz,rfl⟩:=h
 have hj0:=fun hj=>jumps_a hd hj
 unfold insA szA insA at *
 split at hz
 ·cases hz
 split at hz
 ·cases hz
 simp only[List.mem_append] at hz
 rcases hz with(hz|hz)|hz
 ·split at hz
  ·rename_i h; left; simp only[List.mem_singleton] at hz; subst hz; exact⟨h.1,rfl,hj0 h.1⟩
  ·cases hz
 ·split at hz
  ·rename_i h; right; simp only[List.mem_singleton] at hz; subst hz; exact⟨h,by omega⟩
  ·cases hz
 ·split at hz
  ·rename_i h; left; simp only[List.mem_singleton] at hz; subst hz; exact⟨h.1,rfl,hj0 h.1⟩
  ·cases hz
theorem findE_mem {l:List Ey} {a:Int} {x:Ey} (h:findE l a=some x):x∈l∧x.pos=a:=by
 unfold findE at h
 exact⟨List.mem_of_find?_eq_some h,by have:=List.find?_some h; simpa using this⟩
open Go.Proofs
theorem filterMap_if {α β:Type} {p:α→Bool} {g:α→β}:∀l:List α,(l.filterMap fun a=>if p a=true then some (g a) else none)=(l.filter p).map g
 |[]=>rfl
 |a::l=>by
  rw[List.filterMap_cons,List.filter_cons,filterMap_if l]
  cases p a <;> simp
def adrs (s:IS) (n:Nat):List Nat:=(List.range n).filter fun a=>(s.has[a]?).getD false
theorem ents_adrs (s:IS) (n:Nat):entsD s n=(adrs s n).map fun a:Nat=>(⟨(a:Int),false,(s.fr[a]?).getD (fr0 0)⟩:Ey):=by
 unfold entsD adrs
 rw[←filterMap_if]
theorem sort_sorted {l:List Int} (h:l.Pairwise (· ≤ ·)):sortZ l=l:=by
 unfold sortZ
 exact List.mergeSort_of_pairwise (h.imp fun h=>by simpa using h)
theorem keys_adrs {b:List Ty} {s:IS} {p:RS} {ks:List (Ky×Nat)} {vs:List D} {c:Nat} (hal:Alike b s p) (hm:MapR dF p.ff ks vs c) (hsz:s.sz (b.length+1)) (hend:(s.has[b.length]?).getD false=false):
  sortZ (ks.map fun p=>kyI p.1)=(adrs s b.length).map fun n:Nat=>(n:Int):=by
 have hmem:∀x:Nat,(s.has[x]?).getD false=true↔∃q∈ks,q.1=kyN x:=fun x=>by
  have hx:=hal.f x
  constructor
  ·intro hf
   rw[if_pos hf] at hx
   obtain⟨j,h1,_⟩:=hm.yes x _ hx
   obtain⟨t,ht⟩:=kf_some h1
   exact⟨_,List.mem_of_getElem? ht,rfl⟩
  ·rintro⟨q,hq,he⟩
   refine Classical.byContradiction fun hc=> ?_
   rw[if_neg hc] at hx
   exact kf_none (hm.no x hx) q hq he
 have hsorted:((adrs s b.length).map fun n:Nat=>(n:Int)).Pairwise (· ≤ ·):=by
  rw[List.pairwise_map]
  exact(List.Pairwise.filter _ List.pairwise_lt_range).imp fun h=>by omega
 rw[←sort_sorted hsorted]
 refine mergeSort_of_perm_i ((List.perm_ext_iff_of_nodup ?_ ?_).2 fun z=> ?_)
 ·have hn:=hm.nod
  have:ks.map (fun p=>kyI p.1)=(ks.map (·.1)).map kyI:=by rw[List.map_map]; rfl
  rw[this]
  refine List.pairwise_map.2 (List.Pairwise.imp_of_mem (R:=(· ≠ ·)) ?_ hn)
  intro x y hx hy hne he
  obtain⟨px,hpx,rfl⟩:=List.mem_map.1 hx
  obtain⟨py,hpy,rfl⟩:=List.mem_map.1 hy
  obtain⟨n,hn⟩:=hm.key px hpx
  obtain⟨m,hm⟩:=hm.key py hpy
  rw[hn,hm] at he hne
  simp only[kyN,kyI] at he
  exact hne (by simp only[kyN]; rw[he])
 ·refine List.pairwise_map.2 ((List.Pairwise.filter _ List.pairwise_lt_range).imp fun h he=>by omega)
 ·simp only[List.mem_map,adrs,List.mem_filter,List.mem_range]
  constructor
  ·rintro⟨q,hq,rfl⟩
   obtain⟨n,hn⟩:=hm.key q hq
   have hh:=(hmem n).2 ⟨q,hq,hn⟩
   have hlt:n<b.length:=by
    have h1:n<s.has.length:=Classical.byContradiction fun hc=>by rw[List.getElem?_eq_none (by omega)] at hh; cases hh
    rw[hsz.a] at h1
    have h2:n≠b.length:=fun he=>by rw[he,hend] at hh; cases hh
    omega
   exact⟨n,⟨hlt,hh⟩,by rw[hn]; rfl⟩
  ·rintro⟨n,⟨_,hh⟩,rfl⟩
   obtain⟨q,hq,he⟩:=(hmem n).1 hh
   exact⟨q,hq,by rw[he]; rfl⟩
theorem callB_new2 {P:Program} {N:Nat} {T:Env} {σ:St} {K:Env→St→Prop} {Q:XA→Env→St→Prop} {dst:Option Nat} {g:FuncId} {ds:List D} {R:D→St→Prop} (h:RCall P g ds {} R)
  (hk:∀d s',R d s'→∀τ,St.le s' τ→St.le σ τ→putK N dst d K T τ):callB P N [] false dst g ds K Q T σ:=by
 refine⟨{},σ,_,.pure σ,fun b hb=>(by cases hb),h,fun h=>(by cases h),fun x s' ⟨d,hx,hR⟩ hap _=> ?_⟩
 subst hx
 exact hk d s' hR _ ⟨fun x cs h=>by simp[St.join,h],fun x p h=>by simp[St.join,h],fun x o h=>by simp[St.join,h]⟩ (le_join hap)
open Go.Proofs
open Go.Proofs
open Go.Proofs
theorem ey_fr (x:Ey):((eEy x).drop 2).take 26=eFr x.fr:=by
 show(eFr x.fr).take 26=_
 exact za5 _
theorem ey_26 (x:Ey):(26≤((eEy x).drop 2).length)=True:=eq_true (by simp[eEy,eFr])
open Go.Proofs
open Go.Proofs
open Go.Proofs
open Go.Proofs
theorem eIn_0 (i:Ins):(eIn i)[0]? =some (.int .i64 i.pos):=rfl
theorem eIn_2 (i:Ins):(eIn i)[2]? =some (.int .i64 i.a):=rfl
open Go.Proofs
open Go.Proofs
open Go.Proofs
open Go.Proofs
open Go.Proofs
open Go.Proofs
open Go.Proofs
def putI:List Int→Int→List Int
 |[],n=>[n]
 |x::r,n=>if n≤x then(if n<x then n::x::r else x::r) else x::putI r n
theorem putI_mem {n x:Int}:∀{l:List Int},x∈putI l n↔x=n∨x∈l
 |[]=>by simp[putI]
 |y::r=>by
  rw[putI]
  split
  ·split
   ·simp[List.mem_cons]
   ·have:n=y:=by omega
    subst this
    simp[List.mem_cons]
  ·simp only[List.mem_cons,putI_mem (l:=r)]
   constructor
   ·rintro(h|h|h)
    ·exact .inr (.inl h)
    ·exact .inl h
    ·exact .inr (.inr h)
   ·rintro(h|h|h)
    ·exact .inr (.inl h)
    ·exact .inl h
    ·exact .inr (.inr h)
def placedB (i:Ins):Bool:=decide (0≤i.pos∧i.pos<4096)
def nextI (i:Ins):List Int:=
 if ze7 i.op.val=0∨placedB i=false then []
 else
  let l:=if endsB i.op.val=false then putI [] (i.pos+ze7 i.op.val) else []
  if jumpsB i.op.val=true then putI l i.a else l
theorem nextI_mem {b:List Ty} {x:Nat} (hd:(decF b x).2=0) (hb:b.length≤4096) {z:Int}:z∈nextI (insA b x)↔(endsB (insA b x).op.val=false∧z=x+szA b x)∨(jumpsB (insA b x).op.val=true∧z=(insA b x).a):=by
 obtain⟨d1,d2,d3,d4⟩:=decF_ok hd
 have hp:(insA b x).pos=x:=by unfold insA; rw[d2]; rfl
 have hz:¬(ze7 (insA b x).op.val=0∨placedB (insA b x)=false):=by
  rintro(h|h)
  ·have:1≤ze7 (insA b x).op.val:=d3
   omega
  ·unfold placedB at h
   rw[decide_eq_false_iff_not,hp] at h
   omega
 unfold nextI
 rw[if_neg hz,hp]
 simp only
 cases he:endsB (insA b x).op.val <;> cases hj:jumpsB (insA b x).op.val <;> simp[putI_mem]
 exact or_comm
def decI (b:List Ty) (z:Int):Ins×Nat:=if z<0 then(ins0,1) else decF b z.toNat
def goesI (e:En) (b:List Ty) (l:List Ey) (x:Ey):Bool:=
 decide ((decI b x.pos).2=0)&& !x.dead&&decide ((applyR e x.fr (decI b x.pos).1).2=0)&&
  (nextI (decI b x.pos).1).all fun z=>match findE l z with|some y=>subFr e.cs (applyR e x.fr (decI b x.pos).1).1 y.fr|none=>false
def fixedI (e:En) (loc:Int) (b:List Ty) (l:List Ey):Bool:=
 decide ((startF e.cs.length (psOf e) loc).2=0)&&(match findE l 0 with|some y=>subFr e.cs (startF e.cs.length (psOf e) loc).1 y.fr|none=>false)&&l.all (goesI e b l)
theorem fixed_least {e:En} {loc:Int} {b:List Ty} {r:IS} {l:List Ey} (hw:WideE e) (hb:b.length≤4096) (h:goneD e loc b=(r,0,0)) (hf:fixedI e loc b l=true):∀x,hasP r x→∃y,findE l x=some y∧SubF e.cs (frA r x) y.fr:=by
 unfold fixedI at hf
 rw[Bool.and_eq_true,Bool.and_eq_true,decide_eq_true_eq,List.all_eq_true] at hf
 obtain⟨⟨f1,f2⟩,f3⟩:=hf
 have hF:FamP e b (startF e.cs.length (psOf e) loc).1 fun x=>(findE l x).map Ey.fr:=by
  have h0:∃y,findE l 0=some y∧subFr e.cs (startF e.cs.length (psOf e) loc).1 y.fr=true:=by
   cases hy:findE l 0 with
   |none=>rw[hy] at f2; cases f2
   |some y=>rw[hy] at f2; exact⟨y,rfl,f2⟩
  obtain⟨y0,hy0,hs0⟩:=h0
  refine⟨⟨y0.fr,by show(findE l ((0:Nat):Int)).map Ey.fr=_; rw[Int.ofNat_zero,hy0]; rfl,subFr_iff.1 hs0⟩,fun x g hg=> ?_⟩
  ·have hg:(findE l x).map Ey.fr=some g:=hg
   cases hy:findE l x with
   |none=>rw[hy] at hg; cases hg
   |some y=>
    rw[hy] at hg
    obtain rfl:y.fr=g:=by simpa using hg
    obtain⟨m1,m2⟩:=findE_mem hy
    have hgo:=f3 y m1
    have hd:decI b y.pos=decF b x:=by unfold decI; rw[m2,if_neg (by omega),Int.toNat_natCast]
    unfold goesI at hgo
    simp only[hd] at hgo
    rw[Bool.and_eq_true,Bool.and_eq_true,Bool.and_eq_true,decide_eq_true_eq,decide_eq_true_eq,List.all_eq_true] at hgo
    obtain⟨⟨⟨k1,k2⟩,k3⟩,k4⟩:=hgo
    refine⟨k3,fun z hz=> ?_⟩
    have hzm:(z:Int)∈nextI (insA b x):=by
     rw[nextI_mem k1 hb]
     rcases next_mem k1 hz with⟨q1,rfl,q3⟩|⟨q1,rfl⟩
     ·exact .inr ⟨q1,Int.toNat_of_nonneg q3⟩
     ·exact .inl ⟨q1,by omega⟩
    have:=k4 _ hzm
    cases hz2:findE l (z:Int) with
    |none=>rw[hz2] at this; cases this
    |some y2=>
     rw[hz2] at this
     exact⟨y2.fr,rfl,subFr_iff.1 this⟩
 intro x hx
 obtain⟨g,hg,hs⟩:=gone_least hw hF h x hx
 have hg:(findE l x).map Ey.fr=some g:=hg
 cases hy:findE l x with
 |none=>rw[hy] at hg; cases hg
 |some y=>
  rw[hy] at hg
  obtain rfl:y.fr=g:=by simpa using hg
  exact⟨y,rfl,hs⟩
open Go.Proofs
instance moY:Mo:=⟨fun t=>t==99||t==109||t==57,fun t=>t==85||t==86||t==87,fun t=>t==57||t==30⟩
theorem apsY {t:TypeId}:@Mo.aps moY t=(t==57||t==30):=rfl
attribute [go_sem] apsY
abbrev Li:=Option (Nat×Nat)
def rD (o:Li) (n:Nat):D:=match o with
 |none=> .slice .nil []
 |some p=> .bsl p.1 0 n p.2
def rS (o:Li) (X:List D) (σ:St):St:=match o with
 |none=>σ
 |some p=>σ.set p.1 X
def rO (o:Li) (n:Nat) (X:List D) (σ:St):Prop:=match o with
 |none=>n=0
 |some p=>¬σ.has p.1∧n≤p.2∧X.length=p.2*28
def liX (o:Li) (es:List Ey):List D:=match o with
 |none=>[]
 |some p=>fl eEy es++List.replicate ((p.2-es.length)*28) .any
theorem liX_len {p:Nat×Nat} {es:List Ey} (h:es.length≤p.2):(liX (some p) es).length=p.2*28:=by
 simp only[liX,List.length_append,fl_len zf8,List.length_replicate]
 rw[←Nat.add_mul]; congr 1; omega
theorem rO_has {o:Li} {n:Nat} {X Y:List D} {σ σ':St} (h:rO o n X σ) (hs:∀x,σ'.has x→σ.has x) (hl:∀p,o=some p→Y.length=p.2*28):rO o n Y σ':=by
 cases o with
 |none=>exact h
 |some p=>exact⟨fun hx=>h.1 (hs _ hx),h.2.1,hl p rfl⟩
theorem rS_has {o:Li} {X:List D} {σ:St} {x:Nat}:(rS o X σ).has x↔(∃p,o=some p∧x=p.1)∨σ.has x:=by
 cases o with
 |none=>simp[rS]
 |some p=>
  simp only[rS,set_has]
  constructor
  ·rintro(h|h)
   ·exact .inl ⟨p,rfl,h⟩
   ·exact .inr h
  ·rintro(⟨q,hq,h⟩|h)
   ·cases hq; exact .inl h
   ·exact .inr h
section
variable {N : Nat} {d : Option Nat} {K : Env → St → Prop} {T : Env} {σ : St}
theorem le_new {σ:St} {b b':Nat} {X Y:List D} (h:¬σ.has b):St.le (σ.set b' Y) ((σ.set b X).set b' Y):=le_set (le_add h)
theorem li_app {o:Li} {es:List Ey} {x:Ey} (ho:rO o es.length (liX o es) σ) (hl:es.length≤100000)
  (hk:∀o' σ',(∃p,o'=some p)→rO o' (es++[x]).length (liX o' (es++[x])) σ→St.le (rS o' (liX o' (es++[x])) σ) σ'→putK N d (rD o' (es++[x]).length) K T σ'):
  apK Tryz.prog N d true 30 30 (rD o es.length) (.slice .exact [eEy x]) K T (rS o (liX o es) σ):=by
 show appendB Tryz.prog N d 30 30 (rD o es.length) (.slice .exact [eEy x]) K T (rS o (liX o es) σ)
 have hn:(es++[x]).length=es.length+1:=by simp
 have hf:[eEy x].flatten=eEy x:=by simp
 have he:∀r∈[eEy x],r.length=28:=fun r hr=>by rw[List.mem_singleton] at hr; rw[hr,zf8]
 have hfl:fl eEy (es++[x])=fl eEy es++eEy x:=by rw[fl_app]; simp[fl,rws]
 rw[hn] at hk
 cases o with
 |none=>
  have hes:es=[]:=List.eq_nil_of_length_eq_zero ho
  subst hes
  simp only[appendB,rD,rS,Tryz.sli30,Tryz.sz40,Tryz.by40,Tryz.zero40,Option.map_some,true_and]
  refine⟨by simp,by omega,by omega,he,by simp,by simp,fun b cap h1 h2=> ?_⟩
  have h3:1≤cap:=by simpa using h2
  refine hk (some (b,cap)) _ ⟨_,rfl⟩ ⟨h1,h3,liX_len (by simpa using h3)⟩ ?_
  simp only[rS,liX,hfl,hf]
  exact St.le.refl _
 |some p=>
  obtain⟨h1,h2,h3⟩:=ho
  obtain⟨b,cap⟩:=p
  simp only at h1 h2 h3
  have hbox:(rS (some (b,cap)) (liX (some (b,cap)) es) σ).box b=some (liX (some (b,cap)) es):=by simp[rS,St.set_box]
  simp only[appendB,rD,hbox,Tryz.sli30,Tryz.sz40,Tryz.by40,Tryz.zero40,Option.map_some,true_and]
  have hlen:(fl eEy es).length=es.length*28:=fl_len zf8 es
  refine⟨by simp,by omega,by omega,he,h2,h3,by simp; omega,fun h=> ?_,fun h b' cap' h4 h5=> ?_⟩
  ·simp only[List.length_cons,List.length_nil,Nat.zero_add] at h ⊢
   refine hk (some (b,cap)) _ ⟨_,rfl⟩ ⟨h1,h,liX_len (by simpa using h)⟩ ?_
   have hlay:layD (liX (some (b,cap)) es) (es.length*28) (eEy x)=liX (some (b,cap)) (es++[x]):=by
    simp only[layD,liX,hfl]
    rw[List.take_left' hlen,List.drop_append,List.drop_eq_nil_of_le (by rw[hlen]; omega),hlen,zf8,hn]
    simp only[List.nil_append,List.drop_replicate,List.append_assoc]
    congr 3
    omega
   rw[hf,hlay]
   simp only[rS]
   rw[za4]
   exact St.le.refl _
  ·simp only[List.length_cons,List.length_nil,Nat.zero_add] at h h5 ⊢
   refine hk (some (b',cap')) _ ⟨_,rfl⟩ ⟨fun hx=>h4 (rS_has.2 (.inr hx)),h5,liX_len (by simpa using h5)⟩ ?_
   have hlay:(liX (some (b,cap)) es).take (es.length*28)++[eEy x].flatten++List.replicate ((cap'-(es.length+1))*28) D.any=liX (some (b',cap')) (es++[x]):=by
    simp only[liX,hfl,hf,hn]
    rw[List.take_left' hlen]
   rw[hlay]
   simp only[rS]
   exact le_new h1
end
open Go.Proofs
def c10:CT (Tryz.f10.body.getD .skip):=⟨_,by conv=>lhs; cbv⟩
theorem F10:Fun1 Tryz.prog 10 51 c10.1 [.tmp 6,.tmp 7,.tmp 8]:=mkT Tryz.func10 rfl (by decide +kernel) Tryz.ntmps10 rfl c10.2 rfl
open Go.Proofs
theorem rS_le {o:Li} {X:List D} {s σ:St} (h:St.le s σ):St.le (rS o X s) (rS o X σ):=by
 cases o with
 |none=>exact h
 |some p=>exact le_set h
theorem rS_mp {o:Li} {X:List D} {σ:St} {x:Nat}:(rS o X σ).mp x=σ.mp x:=by
 cases o with
 |none=>rfl
 |some p=>exact congrFun set_mp x
theorem rS_box {o:Li} {n:Nat} {X:List D} {σ:St} {x:Nat} {cs:List D} (h:rO o n X σ) (hx:σ.box x=some cs):(rS o X σ).box x=some cs:=by
 cases o with
 |none=>exact hx
 |some p=>
  simp only[rS,St.set_box]
  rw[if_neg fun he=>h.1 (by rw[←he]; exact .inl (by rw[hx]; simp))]
  exact hx
def inferR (e:En) (loc:Int) (b:List Ty) (d:D) (s':St):Prop:=
 ∃o:Li,rO o (inferD e loc b).1.length (liX o (inferD e loc b).1) {}∧d= .tup [rD o (inferD e loc b).1.length,.int .i64 (inferD e loc b).2.1,.int .i64 (inferD e loc b).2.2]∧s'=rS o (liX o (inferD e loc b).1) {}
theorem infer41 (e:En) (loc:Int) (b:List Ty) (hw:WideE e) (hb:b.length≤140737488355328):
  RCall Tryz.prog 10 [.agg (eEn e),.int .i64 loc,.slice .no (rws eT b)] {} (inferR e loc b):=by
 have hg:goneD e loc b=goD e b (fuelD b.length) (is0 b.length (startF e.cs.length (psOf e) loc).1) 0:=rfl
 refine F10.rcall rfl fun T hT=> ?_
 simp -implicitDefEqProofs only[go_sem,c10,hT,zb3,zb4,zb0,za8,za6,za5,ze5,zd3,gdD,Nat.mul_one,Nat.add_zero,Nat.zero_add,nilc_p]
 intro b3
 refine callB_new2 (around79 e loc b hw hb) fun d s' hR τ hτ hτ3=> ?_
 unfold aroundR at hR
 by_cases g1:mayE e loc=0
 case neg=>
  have hI:inferD e loc b=([],0,mayE e loc):=by unfold inferD; rw[if_pos g1]
  rw[if_pos g1] at hR
  obtain⟨rfl,rfl⟩:=hR
  have g1':((mayE e loc:Int)=0)=False:=eq_false (by omega)
  simp -implicitDefEqProofs only[go_sem,hT,g1']
  refine⟨_,_,DLe.refl _,St.le.nil _,none, ?_, ?_, ?_⟩ <;> rw[hI] <;> rfl
 rw[if_neg (by omega)] at hR
 by_cases g2:4096<b.length
 ·have hI:inferD e loc b=([],0,4):=by unfold inferD; rw[if_neg (by omega),if_pos g2]
  rw[if_pos g2] at hR
  obtain⟨rfl,rfl⟩:=hR
  simp -implicitDefEqProofs only[go_sem,hT]
  refine⟨_,_,DLe.refl _,St.le.nil _,none, ?_, ?_, ?_⟩ <;> rw[hI] <;> rfl
 rw[if_neg g2] at hR
 by_cases g3:(goneD e loc b).2.2=0
 case neg=>
  have hI:inferD e loc b=([],(goneD e loc b).2.1,(goneD e loc b).2.2):=by unfold inferD; rw[if_neg (by omega),if_neg g2]; simp only; rw[←hg,if_pos g3]
  rw[if_pos g3] at hR
  obtain⟨rfl,rfl⟩:=hR
  have g3':(((goneD e loc b).2.2:Int)=0)=False:=eq_false (by omega)
  simp -implicitDefEqProofs only[go_sem,hT,g3']
  refine⟨_,_,DLe.refl _,St.le.nil _,none, ?_, ?_, ?_⟩ <;> rw[hI] <;> rfl
 have hI:inferD e loc b=(entsD (goneD e loc b).1 b.length,0,0):=by unfold inferD; rw[if_neg (by omega),if_neg g2]; simp only; rw[←hg,if_neg (by omega)]
 rw[if_neg (by omega)] at hR
 obtain⟨r,m,p,hne,hm,hal,hsz,rfl,rfl⟩:=hR
 have hend:=gone_end g3
 generalize (goneD e loc b).1=s at *
 have kq:τ.box r.q=some (eRn r e b p.wh):=hτ.box _ _ stR_q
 have kf:τ.mp r.f=some (.map (some .i64) m.kf m.vf m.cf):=hτ.mp _ _ (stR_f hne)
 have hkeys:=keys_adrs hal hm.f hsz hend
 have hAl:(adrs s b.length).length≤b.length:=by
  have:=List.length_filter_le (fun a=>(s.has[a]?).getD false) (List.range b.length)
  rw[List.length_range] at this; exact this
 have hkl:m.kf.length=(adrs s b.length).length:=by
  have:=congrArg List.length hkeys
  simpa[sortZ,List.length_mergeSort] using this
 have hk5:∀q∈m.kf,∃n,q.1=kyN n∧n≤5000:=fun q hq=>by
  obtain⟨n,hn⟩:=hm.f.key q hq
  refine⟨n,hn, ?_⟩
  have hmem:kyI q.1∈sortZ (m.kf.map fun p=>kyI p.1):=by
   unfold sortZ; rw[List.mem_mergeSort]; exact List.mem_map.2 ⟨q,hq,rfl⟩
  rw[hkeys,hn] at hmem
  obtain⟨x,hx,he⟩:=List.mem_map.1 hmem
  simp only[adrs,List.mem_filter,List.mem_range] at hx
  simp only[kyN,kyI] at he
  omega
 simp -implicitDefEqProofs only[go_sem,hT,zb3,zb4,zb0,za8,za6,za5,ze5,zd3,gdD,Nat.mul_one,Nat.add_zero,Nat.zero_add,nilc_p,eRn_0,eRn_3,eRn_4,eRn_5,eRn_6,eRn_7,eRn_len,kq]
 refine callB_all (keys81 r.f τ) fun d s' ⟨c,hc,hd,hs⟩=> ?_
 subst hd; subst hs
 simp -implicitDefEqProofs only[go_sem,hT]
 refine callB_all (sorted80 (τ.set c [.map r.f]) c r.f m.kf m.vf m.cf (by rw[St.set_box,if_pos rfl]) (by rw[set_mp]; exact kf) hk5 (by omega)) fun d s' ⟨hd,hs⟩=> ?_
 subst hd; subst hs
 rw[hkeys]
 have hA:((adrs s b.length).map fun n:Nat=>(n:Int)).map (fun z=>[eZ z])=rws eN (adrs s b.length):=by rw[List.map_map]; rfl
 rw[hA]
 have hents:=ents_adrs s b.length
 have hEl:(entsD s b.length).length=(adrs s b.length).length:=by rw[hents,List.length_map]
 simp -implicitDefEqProofs only[go_sem,hT]
 refine loopL F10 (fun x:Nat×Li=>[(9,.ptr r.q 0),(12,rD x.2 ((entsD s b.length).take x.1).length),(32,.slice .no (rws eN (adrs s b.length))),(33,.int .i64 (adrs s b.length).length),(34,.int .i64 x.1)])
  (fun x=>rS x.2 (liX x.2 ((entsD s b.length).take x.1)) τ) (fun x=>x.1≤(adrs s b.length).length∧rO x.2 ((entsD s b.length).take x.1).length (liX x.2 ((entsD s b.length).take x.1)) τ)
  (fun x=>(adrs s b.length).length-x.1) (0,none) ⟨Nat.zero_le _,by simp[rO]⟩ ?_ ?_ ?_
 ·simp -implicitDefEqProofs only[go_sem,hT,rD,List.take_zero]
  rfl
 ·exact le_add hc
 clear hT T
 rintro⟨i,o⟩ ⟨hi,ho⟩ T hT
 simp only at hi ho hT ⊢
 by_cases h:i<(adrs s b.length).length
 case neg=>
  have g5:((i:Int)<(adrs s b.length).length)=False:=eq_false (by omega)
  have htk:(entsD s b.length).take i=entsD s b.length:=List.take_of_length_le (by omega)
  rw[htk] at ho hT ⊢
  simp -implicitDefEqProofs only[go_sem,hT,g5]
  refine⟨_,rS o (liX o (entsD s b.length)) {},DLe.refl _, ?_,o, ?_, ?_, ?_⟩
  ·exact rS_le (St.le.nil _)
  ·rw[hI]; exact rO_has ho (fun x hx=>(St.not_has_nil x hx).elim) fun p hp=>by subst hp; exact ho.2.2
  ·rw[hI]; rfl
  ·rw[hI]
 have g5:((i:Int)<(adrs s b.length).length)=True:=eq_true (by omega)
 have hget:=rws_at (enc:=eN) h
 have hkq2:=rS_box ho kq
 have hkf2:(rS o (liX o ((entsD s b.length).take i)) τ).mp r.f=some (.map (some .i64) m.kf m.vf m.cf):=by rw[rS_mp]; exact kf
 have hlk:=look143 (ok:=false) (n:=(adrs s b.length)[i]) hm.f hkf2
 have hmemA:(adrs s b.length)[i]∈adrs s b.length:=List.getElem_mem h
 have hhas:(s.has[(adrs s b.length)[i]]?).getD false=true:=by
  have:=hmemA
  unfold adrs at this
  rw[List.mem_filter] at this
  exact this.2
 have hff:=hal.f (adrs s b.length)[i]
 rw[if_pos hhas] at hff
 rw[hff] at hlk
 have w1:IntKind.wrap .i64 ((i:Int)+1)=((i+1:Nat):Int):=by rw[zd2 (by omega) (by omega)]; simp
 have hnext:(entsD s b.length).take (i+1)=(entsD s b.length).take i++[⟨((adrs s b.length)[i]:Int),false,(s.fr[(adrs s b.length)[i]]?).getD (fr0 0)⟩]:=by
  rw[List.take_add_one,hents,List.getElem?_map,List.getElem?_eq_getElem h]; rfl
 simp -implicitDefEqProofs only[go_sem,hT,g5,hget,zb3,zb4,zb0,za8,za6,za5,ze5,zd3,gdD,Nat.mul_one,Nat.add_zero,Nat.zero_add,nilc_p,eRn_0,eRn_3,eRn_4,eRn_5,eRn_6,eRn_7,eRn_len,hkq2,hlk,lkV,pairD,dF,eN,frz,frz_fr2]
 refine⟨by omega,li_app (x:=⟨((adrs s b.length)[i]:Int),false,(s.fr[(adrs s b.length)[i]]?).getD (fr0 0)⟩) ho (by rw[List.length_take]; omega) fun o' σ' _ ho' hle=> ?_⟩
 simp -implicitDefEqProofs only[go_sem,hT,w1]
 rw[←hnext] at ho' hle ⊢
 exact⟨(i+1,o'),⟨by simp only; omega,ho'⟩,by simp only; omega,⟨rfl,rfl⟩,hle⟩
open Go.Proofs
instance moW:Mo:=⟨fun _=>false,fun _=>false,fun _=>false⟩
open Go.Proofs
def c43:CT (Tryz.f43.body.getD .skip):=⟨_,by conv=>lhs; cbv⟩
theorem F43:Fun1 Tryz.prog 43 41 c43.1 [.tmp 4]:=mkT Tryz.func43 rfl (by decide +kernel) Tryz.ntmps43 rfl c43.2 rfl
open Go.Proofs
theorem putI_len (l:List Int) (n:Int):(putI l n).length≤l.length+1:=by
 induction l with
 |nil=>simp[putI]
 |cons x r ih=>
  rw[putI]
  split
  ·split <;> simp
  ·simp only[List.length_cons]; omega
theorem put65 (l:List Int) (n:Int) (o:Own) (hl:l.length≤1000000):PCall Tryz.prog 43 [.slice o (rws eI l),.int .i64 n] (.slice .no (rws eI (putI l n))):=by
 have eIl:∀z:Int,(eI z).length=1:=fun z=>rfl
 have happ:∀(A:List Int) (z:Int),rws eI A++[[.int .i64 z]]=rws eI (A++[z]):=fun A z=>by simp[rws,eI]
 refine F43.pcallM rfl fun T hT=> ?_
 simp -implicitDefEqProofs only[go_sem,c43,hT]
 refine loopL F43 (fun x:Nat×Bool×List Int×Option Nat=>[(1,.int .i64 n),(5,grD 1 x.2.2.2 (rws eI x.2.2.1)),(6,.bool x.2.1),(9,.slice o (rws eI l)),(10,.int .i64 l.length),(11,.int .i64 x.1)]) (fun x=>grS 1 x.2.2.1.length x.2.2.2 {})
  (fun x=>x.1≤l.length∧(x.2.1=false→putI l n=x.2.2.1++putI (l.drop x.1) n)∧(x.2.1=true→putI l n=x.2.2.1++l.drop x.1)∧(x.2.1=false→x.2.2.1.length≤x.1)∧x.2.2.1.length≤x.1+1∧(x.2.2.2=none→x.2.2.1.length=0)) (fun x=>l.length-x.1) (0,false,[],none)
  ⟨Nat.zero_le _,fun _=>rfl,fun h=>(by cases h),fun _=>Nat.zero_le _,Nat.zero_le _,fun _=>rfl⟩ ?_ (St.le.refl _) ?_
 ·simp -implicitDefEqProofs only[go_sem,hT,Int.ofNat_zero]
  rfl
 clear hT T
 rintro⟨i,dn,out,ob⟩ ⟨hi,hf,ht,hl0,hlen,hok⟩ T hT
 simp only at hi hf ht hl0 hlen hok hT ⊢
 by_cases h:i<l.length
 case neg=>
  have g1:((i:Int)<l.length)=False:=eq_false (by omega)
  have hd:l.drop i=[]:=List.drop_eq_nil_of_le (by omega)
  rw[hd] at hf ht
  cases dn with
  |true=>
   rw[ht rfl,List.append_nil]
   simp -implicitDefEqProofs only[go_sem,hT,g1]
   exact grD_le
  |false=>
   rw[hf rfl]
   simp -implicitDefEqProofs only[go_sem,hT,g1,frz]
   refine app_gr' Tryz.sli57 Tryz.sz3 Tryz.by3 Tryz.zero3 rfl (n:=out.length) (m:=1) (base:={}) (by rw[za1]) rfl (St.le.refl _) grN_nil hok (by simp) (by omega) fun o' σ' hbox hle hn hno=> ?_
   simp -implicitDefEqProofs only[go_sem,hT,hbox]
   rw[happ]
   exact grD_le
 have g1:((i:Int)<l.length)=True:=eq_true (by omega)
 have g0:(0≤(i:Int))=True:=eq_true (by omega)
 have w1:IntKind.wrap .i64 ((i:Int)+1)=((i+1:Nat):Int):=by rw[zd2 (by omega) (by omega)]; simp
 have hR:(rws eI l)[i]?.getD []=eI l[i]:=rws_at h
 have hdr:l.drop i=l[i]::l.drop (i+1):=List.drop_eq_getElem_cons h
 rw[hdr] at hf ht
 generalize l[i]=x at *
 cases dn with
 |true=>
  simp -implicitDefEqProofs only[go_sem,hT,g1,g0,hR,eIl,eI,frz,Int.toNat_natCast]
  refine app_gr' Tryz.sli57 Tryz.sz3 Tryz.by3 Tryz.zero3 rfl (n:=out.length) (m:=1) (base:={}) (by rw[za1]) rfl (St.le.refl _) grN_nil hok (by simp) (by omega) fun o' σ' hbox hle hn hno=> ?_
  simp -implicitDefEqProofs only[go_sem,hT,hbox,w1]
  rw[happ]
  refine⟨(i+1,true,out++[x],o'),⟨by omega,fun h=>(by cases h),fun _=> ?_,fun h=>(by cases h),by simp only[List.length_append,List.length_cons,List.length_nil]; omega,fun h=>by simpa using hno h⟩,by omega, ?_,by simpa using hle⟩
  ·rw[ht rfl,List.append_assoc]; rfl
  ·trivial
 |false=>
  have hput:=hf rfl
  rw[putI] at hput
  by_cases h1:n≤x
  ·rw[if_pos h1] at hput
   have p1:(n≤x)=True:=eq_true h1
   by_cases h2:n<x
   ·rw[if_pos h2] at hput
    have p2:(n<x)=True:=eq_true h2
    simp -implicitDefEqProofs only[go_sem,hT,g1,g0,hR,eIl,eI,frz,Int.toNat_natCast,p1,p2]
    refine app_gr' Tryz.sli57 Tryz.sz3 Tryz.by3 Tryz.zero3 rfl (n:=out.length) (m:=1) (base:={}) (by rw[za1]) rfl (St.le.refl _) grN_nil hok (by simp) (by omega) fun o' σ' hbox hle hn hno=> ?_
    simp -implicitDefEqProofs only[go_sem,hT,hbox,frz]
    rw[happ]
    refine app_gr' Tryz.sli57 Tryz.sz3 Tryz.by3 Tryz.zero3 rfl (n:=out.length+1) (m:=1) (base:={}) (by rw[za1]; simp) rfl hle grN_nil (fun h=>by have:=hno h; omega) (by simp) (by omega) fun o2 σ2 hbox2 hle2 hn2 hno2=> ?_
    simp -implicitDefEqProofs only[go_sem,hT,hbox2,w1]
    rw[happ]
    refine⟨(i+1,true,out++[n]++[x],o2),⟨by omega,fun h=>(by cases h),fun _=> ?_,fun h=>(by cases h), ?_,fun h=>by have:=hno2 h; omega⟩,by omega, ?_,by simpa using hle2⟩
    ·rw[hput]; simp
    ·simp only[List.length_append,List.length_cons,List.length_nil]
     have:=hl0 rfl
     omega
    ·trivial
   ·rw[if_neg h2] at hput
    have p2:(n<x)=False:=eq_false h2
    simp -implicitDefEqProofs only[go_sem,hT,g1,g0,hR,eIl,eI,frz,Int.toNat_natCast,p1,p2]
    refine app_gr' Tryz.sli57 Tryz.sz3 Tryz.by3 Tryz.zero3 rfl (n:=out.length) (m:=1) (base:={}) (by rw[za1]) rfl (St.le.refl _) grN_nil hok (by simp) (by omega) fun o' σ' hbox hle hn hno=> ?_
    simp -implicitDefEqProofs only[go_sem,hT,hbox,w1]
    rw[happ]
    refine⟨(i+1,true,out++[x],o'),⟨by omega,fun h=>(by cases h),fun _=> ?_,fun h=>(by cases h),by simp only[List.length_append,List.length_cons,List.length_nil]; omega,fun h=>by simpa using hno h⟩,by omega, ?_,by simpa using hle⟩
    ·rw[hput]; simp
    ·trivial
  ·rw[if_neg h1] at hput
   have p1:(n≤x)=False:=eq_false h1
   simp -implicitDefEqProofs only[go_sem,hT,g1,g0,hR,eIl,eI,frz,Int.toNat_natCast,p1]
   refine app_gr' Tryz.sli57 Tryz.sz3 Tryz.by3 Tryz.zero3 rfl (n:=out.length) (m:=1) (base:={}) (by rw[za1]) rfl (St.le.refl _) grN_nil hok (by simp) (by omega) fun o' σ' hbox hle hn hno=> ?_
   simp -implicitDefEqProofs only[go_sem,hT,hbox,w1]
   rw[happ]
   refine⟨(i+1,false,out++[x],o'),⟨by omega,fun _=> ?_,fun h=>(by cases h),fun _=>by have:=hl0 rfl; simp only[List.length_append,List.length_cons,List.length_nil]; omega,by have:=hl0 rfl; simp only[List.length_append,List.length_cons,List.length_nil]; omega,fun h=>by simpa using hno h⟩,by omega, ?_,by simpa using hle⟩
   ·rw[hput]; simp
   ·trivial
open Go.Proofs
def c9:CT (Tryz.f9.body.getD .skip):=⟨_,by conv=>lhs; cbv⟩
theorem F9:Fun1 Tryz.prog 9 19 c9.1 [.tmp 2]:=mkT Tryz.func9 rfl (by decide +kernel) Tryz.ntmps9 rfl c9.2 rfl
def c11:CT (Tryz.f11.body.getD .skip):=⟨_,by conv=>lhs; cbv⟩
theorem F11:Fun1 Tryz.prog 11 113 c11.1 [.tmp 4]:=mkT Tryz.func11 rfl (by decide +kernel) Tryz.ntmps11 rfl c11.2 rfl
def c12:CT (Tryz.f12.body.getD .skip):=⟨_,by conv=>lhs; cbv⟩
theorem F12:Fun1 Tryz.prog 12 21 c12.1 [.cell 4 40,.tmp 5]:=mkT Tryz.func12 rfl (by decide +kernel) Tryz.ntmps12 rfl c12.2 rfl
def c37:CT (Tryz.f37.body.getD .skip):=⟨_,by conv=>lhs; cbv⟩
theorem F37:Fun1 Tryz.prog 37 33 c37.1 [.tmp 2]:=mkT Tryz.func37 rfl (by decide +kernel) Tryz.ntmps37 rfl c37.2 rfl
def c68:CT (Tryz.f68.body.getD .skip):=⟨_,by conv=>lhs; cbv⟩
theorem F68:Fun1 Tryz.prog 68 11 c68.1 [.tmp 2]:=mkT Tryz.func68 rfl (by decide +kernel) Tryz.ntmps68 rfl c68.2 rfl
open Go.Proofs
def eCo (e:En) (loc:Int) (b:List Ty):List D:=[.slice .no (rws eC e.cs),.slice .no (rws eSg e.sgs),.int .i64 e.fn,.int .i64 loc,.slice .no (rws eT b)]
theorem eCo_len (e:En) (loc:Int) (b:List Ty):(eCo e loc b).length=5:=rfl
theorem eCo_take (e:En) (loc:Int) (b:List Ty):(eCo e loc b).take 5=eCo e loc b:=rfl
theorem eCo_take3 (e:En) (loc:Int) (b:List Ty):(eCo e loc b).take 3=eEn e:=rfl
theorem eCo_3 (e:En) (loc:Int) (b:List Ty):(eCo e loc b)[3]? =some (.int .i64 loc):=rfl
theorem eCo_4 (e:En) (loc:Int) (b:List Ty):(eCo e loc b)[4]? =some (.slice .no (rws eT b)):=rfl
theorem eCo_0 (e:En) (loc:Int) (b:List Ty):(eCo e loc b)[0]? =some (.slice .no (rws eC e.cs)):=rfl
theorem eCo_1 (e:En) (loc:Int) (b:List Ty):(eCo e loc b)[1]? =some (.slice .no (rws eSg e.sgs)):=rfl
theorem eCo_2 (e:En) (loc:Int) (b:List Ty):(eCo e loc b)[2]? =some (.int .i64 e.fn):=rfl
theorem taken9 (e:En) (loc:Int) (b:List Ty) (hw:WideE e) (hb:b.length≤140737488355328):PCall Tryz.prog 9 [.agg (eCo e loc b)] (.bool (decide ((inferD e loc b).2.2=0))):=by
 have hinf:=infer26 e loc b .no hw hb
 generalize inferD e loc b=r at *
 refine F9.pcallM rfl fun T hT=> ?_
 simp -implicitDefEqProofs only[go_sem,c9,hT,eCo_len,eCo_take,eCo_take3,eCo_3,eCo_4,ze5,zd3,gdD,Nat.add_zero,anD]
 intro b1
 refine za3 hinf ?_
 simp -implicitDefEqProofs only[go_sem,hT,eCo_len,eCo_take,eCo_take3,eCo_3,eCo_4,ze5,zd3,gdD,Nat.add_zero,anD]
 exact ze8 (by rw[decide_eq_decide]; omega)
def entR (l:List Ey) (a:Int):Ey:=(findE l a).getD ey0
theorem findE_drop {l:List Ey} {a:Int} {i:Nat} (h:i<l.length):findE (l.drop i) a=if l[i].pos=a then some l[i] else findE (l.drop (i+1)) a:=by
 unfold findE
 rw[List.drop_eq_getElem_cons h]
 by_cases hx:l[i].pos=a
 ·rw[if_pos hx,List.find?_cons_of_pos (by simpa using hx)]
 ·rw[if_neg hx,List.find?_cons_of_neg (by simpa using hx)]
def bXiaB0:=aI @zf8 (aI @zf6 (aI @eEy_drop (aI @anD (aI @za4 (aI @ey_0 (aI @gdD (aI @za7 (aI @zb4 (aI @zb0 (aI @za8 @za6))))))))))
theorem entry12 (l:List Ey) (o:Own) (a:Int) (hl:l.length≤140737488355328):PCall Tryz.prog 12 [.slice o (rws eEy l),.int .i64 a] (.tup [.agg (eEy (entR l a)),.bool (findE l a).isSome]):=by
 have hz:(D.int .i64 0::D.bool false::zFr)=eEy ey0:=by rw[←fr_fr0]; rfl
 refine F12.pcallM rfl fun T hT=> ?_
 simp -implicitDefEqProofs only[go_sem,c12,hT,Nat.add_zero,hz,bXiaB0]
 intro b4
 refine loopL F12 (fun i:Nat=>[(1,.int .i64 a),(4,.ptr b4 0),(8,.slice o (rws eEy l)),(9,.int .i64 l.length),(10,.int .i64 i)]) (fun _=>({}:St).set b4 (eEy ey0)) (fun i=>i≤l.length∧findE (l.drop i) a=findE l a) (fun i=>l.length-i) 0 ⟨Nat.zero_le _,rfl⟩ ?_ (St.le.refl _) ?_
 ·simp -implicitDefEqProofs only[go_sem,hT,Int.ofNat_zero]
 clear hT T
 rintro i ⟨hi,hf⟩ T hT
 by_cases h:i<l.length
 case neg=>
  have g1:((i:Int)<l.length)=False:=eq_false (by omega)
  have hn:findE l a=none:=by rw[←hf,List.drop_eq_nil_of_le (by omega)]; rfl
  unfold entR
  rw[hn]
  simp -implicitDefEqProofs only[go_sem,hT,g1,Nat.add_zero,hz,bXiaB0]
  exact DLe.refl _
 have g1:((i:Int)<l.length)=True:=eq_true (by omega)
 have g0:(0≤(i:Int))=True:=eq_true (by omega)
 have w1:IntKind.wrap .i64 ((i:Int)+1)=((i+1:Nat):Int):=by rw[zd2 (by omega) (by omega)]; simp
 have hR:(rws eEy l)[i]?.getD []=eEy l[i]:=rws_at h
 rw[findE_drop h] at hf
 generalize l[i]=x at *
 simp -implicitDefEqProofs only[go_sem,hT,g1,g0,hR,zf8,zf6,eEy_drop,anD,za4,ey_0,gdD,Nat.add_zero,za7,zb4,zb0,za8,za6,Int.toNat_natCast]
 intro b7 n1 n2
 by_cases hx:x.pos=a
 ·have gx:(x.pos=a)=True:=eq_true hx
  rw[if_pos hx] at hf
  unfold entR
  rw[←hf]
  simp -implicitDefEqProofs only[go_sem,hT,Nat.add_zero,gx,n1,n2,bXiaB0]
  exact DLe.refl _
 ·have gx:(x.pos=a)=False:=eq_false hx
  rw[if_neg hx] at hf
  simp -implicitDefEqProofs only[go_sem,hT,Nat.add_zero,gx,n1,n2,w1,bXiaB0]
  exact⟨i+1,⟨by omega,hf⟩,by omega,rfl,le_add fun h=>(set_has.1 h).elim n1 (St.not_has_nil _)⟩
theorem placed68 (i:Ins):PCall Tryz.prog 68 [.agg (eIn i)] (.bool (placedB i)):=by
 refine F68.pcallM rfl fun T hT=> ?_
 simp -implicitDefEqProofs only[go_sem,mmB,c68,hT,zb5,zb1,eIn_0,anD,gdD,Nat.add_zero]
 refine ze8 ?_
 rw[Bool.eq_iff_iff]
 simp[placedB]
def bXiaB1:=aI @zb5 (aI @zb1 (aI @eIn_0 (aI @eIn_1 (aI @eIn_2 (aI @anD @gdD)))))
theorem next37 (i:Ins):PCall Tryz.prog 37 [.agg (eIn i)] (.slice .no (rws eI (nextI i))):=by
 refine F37.pcallM rfl fun T hT=> ?_
 simp -implicitDefEqProofs only[go_sem,c37,hT,Nat.add_zero,bXiaB1]
 intro b1
 refine za3 (refSize74 _) ?_
 by_cases hz:ze7 i.op.val=0
 ·have gz:((ze7 i.op.val:Int)=0)=True:=eq_true (by omega)
  rw[show nextI i=[] by unfold nextI; rw[if_pos (.inl hz)]]
  simp -implicitDefEqProofs only[go_sem,hT,Nat.add_zero,gz,bXiaB1]
  exact DLe.slice _ _
 have gz:((ze7 i.op.val:Int)=0)=False:=eq_false (by omega)
 simp -implicitDefEqProofs only[go_sem,hT,Nat.add_zero,gz,bXiaB1]
 refine za3 (placed68 i) ?_
 cases hp:placedB i with
 |false=>
  rw[show nextI i=[] by unfold nextI; rw[if_pos (.inr hp)]]
  simp -implicitDefEqProofs only[go_sem,hT,Nat.add_zero,bXiaB1]
  exact DLe.slice _ _
 |true=>
  have hpp:0≤i.pos∧i.pos<4096:=of_decide_eq_true hp
  have hs6:=sizeOp_le i.op.val
  have w1:IntKind.wrap .i64 (i.pos+(ze7 i.op.val:Int))=i.pos+ze7 i.op.val:=zd2 (by omega) (by omega)
  have hno:¬(ze7 i.op.val=0∨placedB i=false):=by
   rintro(h|h)
   ·exact hz h
   ·rw[hp] at h; cases h
  have hn:nextI i=(if jumpsB i.op.val=true then putI (if endsB i.op.val=false then putI [] (i.pos+ze7 i.op.val) else []) i.a else(if endsB i.op.val=false then putI [] (i.pos+ze7 i.op.val) else [])):=by
   unfold nextI; rw[if_neg hno]
  have pn:PCall Tryz.prog 43 [.slice .nil [],.int .i64 (i.pos+ze7 i.op.val)] (.slice .no (rws eI (putI [] (i.pos+ze7 i.op.val)))):=put65 [] _ .nil (by simp)
  have pj:PCall Tryz.prog 43 [.slice .nil [],.int .i64 i.a] (.slice .no (rws eI (putI [] i.a))):=put65 [] _ .nil (by simp)
  rw[hn]
  simp -implicitDefEqProofs only[go_sem,hT,Nat.add_zero,bXiaB1]
  refine za3 (refEnds41 _) ?_
  cases he:endsB i.op.val with
  |true=>
   simp -implicitDefEqProofs only[go_sem,hT,Nat.add_zero,bXiaB1]
   refine za3 (refJumps22 _) ?_
   cases hj:jumpsB i.op.val with
   |true=>
    simp -implicitDefEqProofs only[go_sem,hT,Nat.add_zero,bXiaB1]
    refine za3 pj ?_
    simp -implicitDefEqProofs only[go_sem,hT,Nat.add_zero,bXiaB1]
    done
   |false=>
    simp -implicitDefEqProofs only[go_sem,hT,Nat.add_zero,bXiaB1]
    exact DLe.slice _ _
  |false=>
   simp -implicitDefEqProofs only[go_sem,hT,Nat.add_zero,w1,bXiaB1]
   refine za3 pn ?_
   simp -implicitDefEqProofs only[go_sem,hT,Nat.add_zero,bXiaB1]
   refine za3 (refJumps22 _) ?_
   cases hj:jumpsB i.op.val with
   |true=>
    simp -implicitDefEqProofs only[go_sem,hT,Nat.add_zero,bXiaB1]
    refine za3 (put65 _ i.a .no (by simp[putI])) ?_
    simp -implicitDefEqProofs only[go_sem,hT,Nat.add_zero,bXiaB1]
    done
   |false=>
    simp -implicitDefEqProofs only[go_sem,hT,Nat.add_zero,bXiaB1]
open Go.Proofs
theorem infer10 (e:En) (loc:Int) (b:List Ty) (hw:WideE e) (hb:b.length≤140737488355328):
  PCall Tryz.prog 10 [.agg (eEn e),.int .i64 loc,.slice .no (rws eT b)] (.tup [.slice .no (rws eEy (inferD e loc b).1),.int .i64 (inferD e loc b).2.1,.int .i64 (inferD e loc b).2.2]):=by
 refine(infer41 e loc b hw hb).shut fun d s' ⟨o,ho,hd,hs⟩=> ?_
 generalize inferD e loc b=r at *
 subst hd
 cases o with
 |none=>
  have h0:r.1.length=0:=ho
  have h1:r.1=[]:=List.eq_nil_of_length_eq_zero h0
  refine .inl ⟨hs, ?_⟩
  rw[h1]
  exact DLe.tup (.cons (DLe.slice _ _) (.refl _))
 |some p=>
  obtain⟨_,h2,h3⟩:=ho
  refine .inr ⟨p.1,p.2,28,rws eEy r.1,List.replicate ((p.2-r.1.length)*28) .any,[.int .i64 r.2.1,.int .i64 r.2.2], ?_,hs,fun x hx=> ?_,by rw[za1]; exact h2,rfl⟩
  ·rw[za1]; rfl
  ·rw[rws,List.mem_map] at hx
   obtain⟨y,_,rfl⟩:=hx
   exact zf8 y
theorem all_take {α:Type} {p:α→Bool} {l:List α} {i:Nat} (hi:i<l.length) (h:p l[i]=false):l.all p=false:=by
 rw[List.all_eq_false]
 exact⟨l[i],List.getElem_mem hi,by simp[h]⟩
theorem all_done {α:Type} {p:α→Bool} {l:List α} (h:∀j (hj:j<l.length),p l[j]=true):l.all p=true:=by
 rw[List.all_eq_true]
 intro x hx
 obtain⟨j,hj,rfl⟩:=List.getElem_of_mem hx
 exact h j hj
def okI (e:En) (l:List Ey) (f:Fr) (z:Int):Bool:=match findE l z with|some y=>subFr e.cs f y.fr|none=>false
theorem goesI_eq (e:En) (b:List Ty) (l:List Ey) (x:Ey):goesI e b l x=(decide ((decI b x.pos).2=0)&& !x.dead&&decide ((applyR e x.fr (decI b x.pos).1).2=0)&&(nextI (decI b x.pos).1).all (okI e l (applyR e x.fr (decI b x.pos).1).1)):=rfl
theorem nextI_len (i:Ins):(nextI i).length≤2:=by
 unfold nextI
 split
 ·simp
 ·simp only
  split
  ·split
   ·exact Nat.le_trans (putI_len _ _) (by simp[putI])
   ·exact Nat.le_trans (putI_len _ _) (by simp)
  ·split
   ·simp[putI]
   ·simp
def bXiaC0:=aI @eCo_len (aI @eCo_take (aI @eCo_take3 (aI @eCo_0 (aI @eCo_1 (aI @eCo_2 (aI @eCo_3 (aI @eCo_4 (aI @ze5 (aI @zd3 (aI @gdD (aI @anD (aI @zf8 (aI @zf6 (aI @ey_0 (aI @ey_1 (aI @ey_fr (aI @ey_26 (aI @za6 (aI @za5 (aI @zb5 (aI @zb1 (aI @eSg_len @za4))))))))))))))))))))))
def bXiaC1:=aI @eCo_len (aI @eCo_take (aI @eCo_take3 (aI @eCo_0 (aI @eCo_1 (aI @eCo_2 (aI @eCo_3 (aI @eCo_4 (aI @ze5 (aI @zd3 (aI @gdD (aI @anD (aI @zf8 (aI @zf6 (aI @ey_0 (aI @ey_1 (aI @ey_fr (aI @ey_26 (aI @za6 (aI @za5 (aI @zb5 (aI @zb1 (aI @eSg_len (aI @za4 @Int.ofNat_zero)))))))))))))))))))))))
def bXiaC2:=aI @eCo_len (aI @eCo_take (aI @eCo_take3 (aI @eCo_0 (aI @eCo_1 (aI @eCo_2 (aI @eCo_3 (aI @eCo_4 (aI @ze5 (aI @zd3 (aI @gdD (aI @anD (aI @zf8 (aI @zf6 (aI @ey_0 (aI @ey_1 (aI @ey_fr (aI @ey_26 (aI @za6 (aI @za5 (aI @zb5 (aI @zb1 (aI @eSg_len (aI @za4 @Int.toNat_natCast)))))))))))))))))))))))
theorem fixed11 (e:En) (loc:Int) (b:List Ty) (l:List Ey) (hw:WideE e) (hm:mayE e loc=0) (hb:b.length≤140737488355328) (hl:l.length≤140737488355328):
  PCall Tryz.prog 11 [.agg (eCo e loc b),.slice .no (rws eEy l)] (.bool (fixedI e loc b l)):=by
 have hF:Falls e.cs e.cs.length:=can_falls hw (start_eq hm).1
 have hcs:=hw.1.1
 obtain⟨hc,hst0,hst1,hst2,hst⟩:=start_eq hm
 obtain⟨hfn,hf0,hps,hp8,_⟩:=can_sig hc
 refine F11.pcallM rfl fun T hT=> ?_
 simp -implicitDefEqProofs only[go_sem,c11,hT,Nat.add_zero,bXiaC0]
 intro b2
 have g0:(0≤e.fn)=True:=eq_true hf0
 have g1:(e.fn<e.sgs.length)=True:=eq_true (by omega)
 have hR:(rws eSg e.sgs)[e.fn.toNat]?.getD []=eSg e.sgs[e.fn.toNat]:=rws_at hfn
 have s0:(eSg e.sgs[e.fn.toNat])[0]? =some (.slice .no (rws eT (psOf e))):=by rw[hps]; rfl
 simp -implicitDefEqProofs only[go_sem,hT,Nat.add_zero,g0,g1,hR,s0,bXiaC0]
 refine za3 (refStart71 e.cs .no .no (psOf e) loc (by omega)) ?_
 rw[hst]
 obtain⟨f0,hf0e⟩:∃f0:Fr,f0=⟨loc,0,slOf (psOf e)⟩:=⟨_,rfl⟩
 rw[←hf0e]
 have hfix:fixedI e loc b l=(okI e l f0 0&&l.all (goesI e b l)):=by
  unfold fixedI; rw[hst,←hf0e]; rfl
 rw[hfix]
 clear hfix
 simp -implicitDefEqProofs only[go_sem,hT,Nat.add_zero,bXiaC1]
 intro b6 n1 n2
 refine za3 (entry12 l .no 0 hl) ?_
 simp -implicitDefEqProofs only[go_sem,hT,Nat.add_zero,n1,n2,bXiaC0]
 intro b8 n3 n4 n5 n6
 cases hfe:findE l 0 with
 |none=>
  have hok:okI e l f0 0=false:=by unfold okI; rw[hfe]
  rw[hok]
  simp -implicitDefEqProofs only[go_sem,hT,Nat.add_zero,n1,n2,n3,n4,n5,n6,hfe,Option.isSome_none,bXiaC0]
  exact DLe.refl _
 |some y0=>
  have he0:entR l 0=y0:=by unfold entR; rw[hfe]; rfl
  have hok:okI e l f0 0=subFr e.cs f0 y0.fr:=by unfold okI; rw[hfe]
  rw[hok,he0]
  simp -implicitDefEqProofs only[go_sem,hT,Nat.add_zero,n1,n2,n3,n4,n5,n6,Option.isSome_some,bXiaC0]
  refine za3 (refSub38 e.cs .no f0 y0.fr hF (by omega)) ?_
  cases hs0:subFr e.cs f0 y0.fr with
  |false=>
   simp -implicitDefEqProofs only[go_sem,hT,Nat.add_zero,n1,n2,n3,n4,n5,n6,bXiaC0]
   exact DLe.refl _
  |true=>
   simp -implicitDefEqProofs only[go_sem,hT,Nat.add_zero,n1,n2,n3,n4,n5,n6,bXiaC0]
   rw[Bool.true_and]
   have hb6:¬(({}:St).set b2 (eCo e loc b)).has b6:=fun h=>(set_has.1 h).elim n1 (St.not_has_nil _)
   have hb8:¬((({}:St).set b2 (eCo e loc b)).set b6 (eFr f0)).has b8:=fun h=>(set_has.1 h).elim n3 fun h=>(set_has.1 h).elim n5 (St.not_has_nil _)
   refine loopL F11 (fun i:Nat=>[(1,.slice .no (rws eEy l)),(2,.ptr b2 0),(5,.slice .no (rws eC e.cs)),(57,.slice .no (rws eEy l)),(58,.int .i64 l.length),(59,.int .i64 i)]) (fun _=>({}:St).set b2 (eCo e loc b)) (fun i=>i≤l.length∧∀j (hj:j<l.length),j<i→goesI e b l l[j]=true) (fun i=>l.length-i) 0 ⟨Nat.zero_le _,fun j _ h=>by omega⟩ ?_ ((le_add hb6).trans (le_add hb8)) ?_
   ·simp -implicitDefEqProofs only[go_sem,hT,Int.ofNat_zero]
   clear hT T
   rintro i ⟨hi,hdone⟩ T hT
   by_cases h:i<l.length
   case neg=>
    have g2:((i:Int)<l.length)=False:=eq_false (by omega)
    rw[all_done fun j hj=>hdone j hj (by omega)]
    simp -implicitDefEqProofs only[go_sem,hT,g2]
    done
   have g2:((i:Int)<l.length)=True:=eq_true (by omega)
   have g3:(0≤(i:Int))=True:=eq_true (by omega)
   have w1:IntKind.wrap .i64 ((i:Int)+1)=((i+1:Nat):Int):=by rw[zd2 (by omega) (by omega)]; simp
   have hRx:(rws eEy l)[i]?.getD []=eEy l[i]:=rws_at h
   have hbad:goesI e b l l[i]=false→l.all (goesI e b l)=false:=all_take h
   have hgood:goesI e b l l[i]=true→∀j (hj:j<l.length),j<i+1→goesI e b l l[j]=true:=fun hg j hj hlt=>by
    by_cases hji:j=i
    ·subst hji; exact hg
    ·exact hdone j hj (by omega)
   rw[goesI_eq] at hbad hgood
   generalize l[i]=x at *
   simp -implicitDefEqProofs only[go_sem,hT,g2,g3,hRx,Nat.add_zero,bXiaC2]
   intro b11 m1 m2
   simp -implicitDefEqProofs only[go_sem,hT,Nat.add_zero,m1,m2,bXiaC0]
   refine za3 (refDecodeI b .no x.pos hb) ?_
   have hdI:(if x.pos<0 then(ins0,1) else decF b x.pos.toNat)=decI b x.pos:=rfl
   rw[hdI]
   generalize decI b x.pos=q at *
   obtain⟨q,w⟩:=q
   simp only at hbad hgood ⊢
   simp -implicitDefEqProofs only[go_sem,hT,Nat.add_zero,m1,m2,bXiaC0]
   intro b12 m3 m4 m5 m6
   by_cases hw0:w=0
   case neg=>
    have gw:((w:Int)=0)=False:=eq_false (by omega)
    rw[hbad (by simp[hw0])]
    simp -implicitDefEqProofs only[go_sem,hT,Nat.add_zero,m1,m2,m3,m4,m5,m6,gw,bXiaC0]
    done
   subst hw0
   cases hxd:x.dead with
   |true=>
    rw[hbad (by simp[hxd])]
    simp -implicitDefEqProofs only[go_sem,hT,Nat.add_zero,m1,m2,m3,m4,m5,m6,hxd,bXiaC1]
    done
   |false=>
    simp -implicitDefEqProofs only[go_sem,hT,Nat.add_zero,m1,m2,m3,m4,m5,m6,hxd,bXiaC1]
    refine za3 (refApply37 e x.fr q hw) ?_
    rw[hxd] at hbad hgood
    generalize applyR e x.fr q=ap at *
    obtain⟨f,wa⟩:=ap
    simp only at hbad hgood ⊢
    simp -implicitDefEqProofs only[go_sem,hT,Nat.add_zero,m1,m2,m3,m4,m5,m6,bXiaC0]
    intro b14 k1 k2 k3 k4 k5 k6
    by_cases ha:wa=0
    case neg=>
     have gw:((wa:Int)=0)=False:=eq_false (by omega)
     rw[hbad (by simp[ha])]
     simp -implicitDefEqProofs only[go_sem,hT,Nat.add_zero,m1,m2,m3,m4,m5,m6,k1,k2,k3,k4,k5,k6,gw,bXiaC0]
     done
    subst ha
    simp only[decide_true,Bool.not_false,Bool.true_and] at hbad hgood
    have hnl:=nextI_len q
    simp -implicitDefEqProofs only[go_sem,hT,Nat.add_zero,m1,m2,m3,m4,m5,m6,k1,k2,k3,k4,k5,k6,bXiaC1]
    refine za3 (next37 q) ?_
    generalize nextI q=nx at *
    simp -implicitDefEqProofs only[go_sem,hT,Nat.add_zero,m1,m2,m3,m4,m5,m6,k1,k2,k3,k4,k5,k6,bXiaC0]
    have hb11:¬(({}:St).set b2 (eCo e loc b)).has b11:=fun h=>(set_has.1 h).elim m1 (St.not_has_nil _)
    have hb12:¬((({}:St).set b2 (eCo e loc b)).set b11 (eEy x)).has b12:=fun h=>(set_has.1 h).elim m3 fun h=>(set_has.1 h).elim m5 (St.not_has_nil _)
    have hb14:¬(((({}:St).set b2 (eCo e loc b)).set b11 (eEy x)).set b12 (eIn q)).has b14:=fun h=>(set_has.1 h).elim k1 fun h=>(set_has.1 h).elim k3 fun h=>(set_has.1 h).elim k5 (St.not_has_nil _)
    have hle:St.le ((({}:St).set b2 (eCo e loc b)).set b14 (eFr f)) ((((({}:St).set b2 (eCo e loc b)).set b11 (eEy x)).set b12 (eIn q)).set b14 (eFr f)):=le_set ((le_add hb11).trans (le_add hb12))
    refine loopL F11 (fun j:Nat=>[(1,.slice .no (rws eEy l)),(2,.ptr b2 0),(5,.slice .no (rws eC e.cs)),(57,.slice .no (rws eEy l)),(58,.int .i64 l.length),(59,.int .i64 i),(14,.ptr b14 0),(89,.slice .no (rws eI nx)),(90,.int .i64 nx.length),(91,.int .i64 j)]) (fun _=>(({}:St).set b2 (eCo e loc b)).set b14 (eFr f)) (fun j=>j≤nx.length∧∀k (hk:k<nx.length),k<j→okI e l f nx[k]=true) (fun j=>nx.length-j) 0 ⟨Nat.zero_le _,fun j _ h=>by omega⟩ ?_ hle ?_
    ·simp -implicitDefEqProofs only[go_sem,hT,Int.ofNat_zero]
    clear hT T
    rintro j ⟨hj,hjd⟩ T hT
    by_cases h':j<nx.length
    case neg=>
     have g4:((j:Int)<nx.length)=False:=eq_false (by omega)
     have:=hgood (all_done fun k hk=>hjd k hk (by omega))
     simp -implicitDefEqProofs only[go_sem,hT,g4,w1]
     exact⟨i+1,⟨by omega,fun k hk hlt=>this k hk hlt⟩,by omega,rfl,le_add fun h=>(set_has.1 h).elim k5 (St.not_has_nil _)⟩
    have g4:((j:Int)<nx.length)=True:=eq_true (by omega)
    have g5:(0≤(j:Int))=True:=eq_true (by omega)
    have w2:IntKind.wrap .i64 ((j:Int)+1)=((j+1:Nat):Int):=by rw[zd2 (by omega) (by omega)]; simp
    have hRz:(rws eI nx)[j]?.getD []=eI nx[j]:=rws_at h'
    have hbad2:okI e l f nx[j]=false→l.all (goesI e b l)=false:=fun hh=>hbad (all_take h' hh)
    have hgood2:okI e l f nx[j]=true→∀k (hk:k<nx.length),k<j+1→okI e l f nx[k]=true:=fun hg k hk hlt=>by
     by_cases hkj:k=j
     ·subst hkj; exact hg
     ·exact hjd k hk (by omega)
    generalize nx[j]=z at *
    have eIl:∀z:Int,(eI z).length=1:=fun z=>rfl
    simp -implicitDefEqProofs only[go_sem,hT,g4,g5,hRz,eIl,eI,Nat.add_zero,bXiaC2]
    refine za3 (entry12 l .no z hl) ?_
    simp -implicitDefEqProofs only[go_sem,hT,Nat.add_zero,k5,k6,bXiaC0]
    intro b17 r1 r2 r3 r4
    cases hfz:findE l z with
    |none=>
     rw[hbad2 (by unfold okI; rw[hfz])]
     simp -implicitDefEqProofs only[go_sem,hT,Nat.add_zero,k5,k6,r1,r2,r3,r4,Option.isSome_none,bXiaC0]
     done
    |some y=>
     have hez:entR l z=y:=by unfold entR; rw[hfz]; rfl
     have hokz:okI e l f z=subFr e.cs f y.fr:=by unfold okI; rw[hfz]
     rw[hokz] at hbad2 hgood2
     rw[hez]
     simp -implicitDefEqProofs only[go_sem,hT,Nat.add_zero,k5,k6,r1,r2,r3,r4,Option.isSome_some,bXiaC0]
     refine za3 (refSub38 e.cs .no f y.fr hF (by omega)) ?_
     cases hsz:subFr e.cs f y.fr with
     |false=>
      rw[hbad2 hsz]
      simp -implicitDefEqProofs only[go_sem,hT,Nat.add_zero,bXiaC0]
      done
     |true=>
      simp -implicitDefEqProofs only[go_sem,hT,Nat.add_zero,w2,bXiaC0]
      exact⟨j+1,⟨by omega,hgood2 hsz⟩,by omega,rfl,le_add fun h=>(set_has.1 h).elim r1 fun h=>(set_has.1 h).elim r3 (St.not_has_nil _)⟩
open Go.Proofs
def c4:CT (Tryz.f4.body.getD .skip):=⟨_,by conv=>lhs; cbv⟩
theorem F4:Fun1 Tryz.prog 4 64 c4.1 [.tmp 4]:=mkT Tryz.func4 rfl (by decide +kernel) Tryz.ntmps4 rfl c4.2 rfl
end Go.AL
