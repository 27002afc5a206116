import Derived.Test.YtobmoajkfbigkaaGreatPz
import Derived.Test.YtobmoajkfbigkaaGreatPe
import Derived.Test.YtobmoajkfbigkaaGreatPw
set_option linter.unusedSimpArgs false
set_option linter.unusedVariables false
set_option maxRecDepth 100000
set_option maxHeartbeats 4000000
set_option linter.defProp false
namespace Go.AL
open Go.Proofs
open Go.Proofs
open Go.Proofs
open Go.Proofs
instance moY:Mo:=⟨fun t=>t==123||t==124||t==29,fun t=>t==143||t==144||t==145,fun t=>t==29||t==50⟩
theorem apsY {t:TypeId}:@Mo.aps moY t=(t==29||t==50):=rfl
attribute [go_sem] apsY
abbrev Li:=Option (Nat×Nat)
def rD (o:Li) (n:Nat):D:=match o with
 |none=> .slice .nil []
 |some p=> .bsl p.1 0 n p.2
def rS (o:Li) (X:List D) (σ:St):St:=match o with
 |none=>σ
 |some p=>σ.set p.1 X
def rO (o:Li) (n:Nat) (X:List D) (σ:St):Prop:=match o with
 |none=>n=0
 |some p=>¬σ.has p.1∧n≤p.2∧X.length=p.2*28
def liX (o:Li) (es:List Ey):List D:=match o with
 |none=>[]
 |some p=>fl eEy es++List.replicate ((p.2-es.length)*28) .any
theorem liX_len {p:Nat×Nat} {es:List Ey} (h:es.length≤p.2):(liX (some p) es).length=p.2*28:=by
 simp only[liX,List.length_append,fl_len zb4,List.length_replicate]
 rw[←Nat.add_mul]; congr 1; omega
theorem rO_has {o:Li} {n:Nat} {X Y:List D} {σ σ':St} (h:rO o n X σ) (hs:∀x,σ'.has x→σ.has x) (hl:∀p,o=some p→Y.length=p.2*28):rO o n Y σ':=by
 cases o with
 |none=>exact h
 |some p=>exact⟨fun hx=>h.1 (hs _ hx),h.2.1,hl p rfl⟩
theorem rS_has {o:Li} {X:List D} {σ:St} {x:Nat}:(rS o X σ).has x↔(∃p,o=some p∧x=p.1)∨σ.has x:=by
 cases o with
 |none=>simp[rS]
 |some p=>
  simp only[rS,set_has]
  constructor
  ·rintro(h|h)
   ·exact .inl ⟨p,rfl,h⟩
   ·exact .inr h
  ·rintro(⟨q,hq,h⟩|h)
   ·cases hq; exact .inl h
   ·exact .inr h
section
variable {N : Nat} {d : Option Nat} {K : Env → St → Prop} {T : Env} {σ : St}
theorem le_new {σ:St} {b b':Nat} {X Y:List D} (h:¬σ.has b):St.le (σ.set b' Y) ((σ.set b X).set b' Y):=le_set (le_add h)
theorem li_app {o:Li} {es:List Ey} {x:Ey} (ho:rO o es.length (liX o es) σ) (hl:es.length≤100000)
  (hk:∀o' σ',(∃p,o'=some p)→rO o' (es++[x]).length (liX o' (es++[x])) σ→St.le (rS o' (liX o' (es++[x])) σ) σ'→putK N d (rD o' (es++[x]).length) K T σ'):
  apK Tryz.prog N d true 50 50 (rD o es.length) (.slice .exact [eEy x]) K T (rS o (liX o es) σ):=by
 show appendB Tryz.prog N d 50 50 (rD o es.length) (.slice .exact [eEy x]) K T (rS o (liX o es) σ)
 have hn:(es++[x]).length=es.length+1:=by simp
 have hf:[eEy x].flatten=eEy x:=by simp
 have he:∀r∈[eEy x],r.length=28:=fun r hr=>by rw[List.mem_singleton] at hr; rw[hr,zb4]
 have hfl:fl eEy (es++[x])=fl eEy es++eEy x:=by rw[fl_app]; simp[fl,rws]
 rw[hn] at hk
 cases o with
 |none=>
  have hes:es=[]:=List.eq_nil_of_length_eq_zero ho
  subst hes
  simp only[appendB,rD,rS,Tryz.sli50,Tryz.sz86,Tryz.by86,Tryz.zero86,Option.map_some,true_and]
  refine⟨by simp,by omega,by omega,he,by simp,by simp,fun b cap h1 h2=> ?_⟩
  have h3:1≤cap:=by simpa using h2
  refine hk (some (b,cap)) _ ⟨_,rfl⟩ ⟨h1,h3,liX_len (by simpa using h3)⟩ ?_
  simp only[rS,liX,hfl,hf]
  exact St.le.refl _
 |some p=>
  obtain⟨h1,h2,h3⟩:=ho
  obtain⟨b,cap⟩:=p
  simp only at h1 h2 h3
  have hbox:(rS (some (b,cap)) (liX (some (b,cap)) es) σ).box b=some (liX (some (b,cap)) es):=by simp[rS,St.set_box]
  simp only[appendB,rD,hbox,Tryz.sli50,Tryz.sz86,Tryz.by86,Tryz.zero86,Option.map_some,true_and]
  have hlen:(fl eEy es).length=es.length*28:=fl_len zb4 es
  refine⟨by simp,by omega,by omega,he,h2,h3,by simp; omega,fun h=> ?_,fun h b' cap' h4 h5=> ?_⟩
  ·simp only[List.length_cons,List.length_nil,Nat.zero_add] at h ⊢
   refine hk (some (b,cap)) _ ⟨_,rfl⟩ ⟨h1,h,liX_len (by simpa using h)⟩ ?_
   have hlay:layD (liX (some (b,cap)) es) (es.length*28) (eEy x)=liX (some (b,cap)) (es++[x]):=by
    simp only[layD,liX,hfl]
    rw[List.take_left' hlen,List.drop_append,List.drop_eq_nil_of_le (by rw[hlen]; omega),hlen,zb4,hn]
    simp only[List.nil_append,List.drop_replicate,List.append_assoc]
    congr 3
    omega
   rw[hf,hlay]
   simp only[rS]
   rw[za2]
   exact St.le.refl _
  ·simp only[List.length_cons,List.length_nil,Nat.zero_add] at h h5 ⊢
   refine hk (some (b',cap')) _ ⟨_,rfl⟩ ⟨fun hx=>h4 (rS_has.2 (.inr hx)),h5,liX_len (by simpa using h5)⟩ ?_
   have hlay:(liX (some (b,cap)) es).take (es.length*28)++[eEy x].flatten++List.replicate ((cap'-(es.length+1))*28) D.any=liX (some (b',cap')) (es++[x]):=by
    simp only[liX,hfl,hf,hn]
    rw[List.take_left' hlen]
   rw[hlay]
   simp only[rS]
   exact le_new h1
end
section
variable {P : Program} {N : Nat} {T : Env} {σ : St} {K : Env → St → Prop} {Q : XA → Env → St → Prop}
theorem rS_join {o:Li} {X:List D} (h:∀p,o=some p→¬σ.has p.1):St.join (rS o X {}) σ=rS o X σ:=by
 cases o with
 |none=>simp[rS,St.join]
 |some p=>exact join_new (h p rfl)
end
open Go.Proofs
def c41:CT (Tryz.f41.body.getD .skip):=⟨_,by conv=>lhs; cbv⟩
theorem F41:Fun1 Tryz.prog 41 51 c41.1 [.tmp 6,.tmp 7,.tmp 8]:=mkT Tryz.func41 rfl (by decide +kernel) Tryz.ntmps41 rfl c41.2 rfl
open Go.Proofs
theorem rS_le {o:Li} {X:List D} {s σ:St} (h:St.le s σ):St.le (rS o X s) (rS o X σ):=by
 cases o with
 |none=>exact h
 |some p=>exact le_set h
theorem rS_mp {o:Li} {X:List D} {σ:St} {x:Nat}:(rS o X σ).mp x=σ.mp x:=by
 cases o with
 |none=>rfl
 |some p=>exact congrFun set_mp x
theorem rS_box {o:Li} {n:Nat} {X:List D} {σ:St} {x:Nat} {cs:List D} (h:rO o n X σ) (hx:σ.box x=some cs):(rS o X σ).box x=some cs:=by
 cases o with
 |none=>exact hx
 |some p=>
  simp only[rS,St.set_box]
  rw[if_neg fun he=>h.1 (by rw[←he]; exact .inl (by rw[hx]; simp))]
  exact hx
def inferR (e:En) (loc:Int) (b:List Ty) (d:D) (s':St):Prop:=
 ∃o:Li,rO o (inferD e loc b).1.length (liX o (inferD e loc b).1) {}∧d= .tup [rD o (inferD e loc b).1.length,.int .i64 (inferD e loc b).2.1,.int .i64 (inferD e loc b).2.2]∧s'=rS o (liX o (inferD e loc b).1) {}
theorem infer41 (e:En) (loc:Int) (b:List Ty) (hw:WideE e) (hb:b.length≤140737488355328):
  RCall Tryz.prog 41 [.agg (eEn e),.int .i64 loc,.slice .no (rws eT b)] {} (inferR e loc b):=by
 have hg:goneD e loc b=goD e b (fuelD b.length) (is0 b.length (startF e.cs.length (psOf e) loc).1) 0:=rfl
 refine F41.rcall rfl fun T hT=> ?_
 simp -implicitDefEqProofs only[go_sem,c41,hT,zb9,zc0,zb5,zb3,za6,za4,zb6,za8,gdD,Nat.mul_one,Nat.add_zero,Nat.zero_add,zc2]
 intro b3
 refine callB_new2 (around79 e loc b hw hb) fun d s' hR τ hτ hτ3=> ?_
 unfold aroundR at hR
 by_cases g1:mayE e loc=0
 case neg=>
  have hI:inferD e loc b=([],0,mayE e loc):=by unfold inferD; rw[if_pos g1]
  rw[if_pos g1] at hR
  obtain⟨rfl,rfl⟩:=hR
  have g1':((mayE e loc:Int)=0)=False:=eq_false (by omega)
  simp -implicitDefEqProofs only[go_sem,hT,g1']
  refine⟨_,_,DLe.refl _,St.le.nil _,none, ?_, ?_, ?_⟩ <;> rw[hI] <;> rfl
 rw[if_neg (by omega)] at hR
 by_cases g2:4096<b.length
 ·have hI:inferD e loc b=([],0,4):=by unfold inferD; rw[if_neg (by omega),if_pos g2]
  rw[if_pos g2] at hR
  obtain⟨rfl,rfl⟩:=hR
  simp -implicitDefEqProofs only[go_sem,hT]
  refine⟨_,_,DLe.refl _,St.le.nil _,none, ?_, ?_, ?_⟩ <;> rw[hI] <;> rfl
 rw[if_neg g2] at hR
 by_cases g3:(goneD e loc b).2.2=0
 case neg=>
  have hI:inferD e loc b=([],(goneD e loc b).2.1,(goneD e loc b).2.2):=by unfold inferD; rw[if_neg (by omega),if_neg g2]; simp only; rw[←hg,if_pos g3]
  rw[if_pos g3] at hR
  obtain⟨rfl,rfl⟩:=hR
  have g3':(((goneD e loc b).2.2:Int)=0)=False:=eq_false (by omega)
  simp -implicitDefEqProofs only[go_sem,hT,g3']
  refine⟨_,_,DLe.refl _,St.le.nil _,none, ?_, ?_, ?_⟩ <;> rw[hI] <;> rfl
 have hI:inferD e loc b=(entsD (goneD e loc b).1 b.length,0,0):=by unfold inferD; rw[if_neg (by omega),if_neg g2]; simp only; rw[←hg,if_neg (by omega)]
 rw[if_neg (by omega)] at hR
 obtain⟨r,m,p,hne,hm,hal,hsz,rfl,rfl⟩:=hR
 have hend:=gone_end g3
 generalize (goneD e loc b).1=s at *
 have kq:τ.box r.q=some (eRn r e b p.wh):=hτ.box _ _ stR_q
 have kf:τ.mp r.f=some (.map (some .i64) m.kf m.vf m.cf):=hτ.mp _ _ (stR_f hne)
 have hkeys:=keys_adrs hal hm.f hsz hend
 have hAl:(adrs s b.length).length≤b.length:=by
  have:=List.length_filter_le (fun a=>(s.has[a]?).getD false) (List.range b.length)
  rw[List.length_range] at this; exact this
 have hkl:m.kf.length=(adrs s b.length).length:=by
  have:=congrArg List.length hkeys
  simpa[sortZ,List.length_mergeSort] using this
 have hk5:∀q∈m.kf,∃n,q.1=kyN n∧n≤5000:=fun q hq=>by
  obtain⟨n,hn⟩:=hm.f.key q hq
  refine⟨n,hn, ?_⟩
  have hmem:kyI q.1∈sortZ (m.kf.map fun p=>kyI p.1):=by
   unfold sortZ; rw[List.mem_mergeSort]; exact List.mem_map.2 ⟨q,hq,rfl⟩
  rw[hkeys,hn] at hmem
  obtain⟨x,hx,he⟩:=List.mem_map.1 hmem
  simp only[adrs,List.mem_filter,List.mem_range] at hx
  simp only[kyN,kyI] at he
  omega
 simp -implicitDefEqProofs only[go_sem,hT,zb9,zc0,zb5,zb3,za6,za4,zb6,za8,gdD,Nat.mul_one,Nat.add_zero,Nat.zero_add,zc2,eRn_0,eRn_3,eRn_4,eRn_5,eRn_6,eRn_7,eRn_len,kq]
 refine callB_all (keys81 r.f τ) fun d s' ⟨c,hc,hd,hs⟩=> ?_
 subst hd; subst hs
 simp -implicitDefEqProofs only[go_sem,hT]
 refine callB_all (sorted80 (τ.set c [.map r.f]) c r.f m.kf m.vf m.cf (by rw[St.set_box,if_pos rfl]) (by rw[set_mp]; exact kf) hk5 (by omega)) fun d s' ⟨hd,hs⟩=> ?_
 subst hd; subst hs
 rw[hkeys]
 have hA:((adrs s b.length).map fun n:Nat=>(n:Int)).map (fun z=>[eZ z])=rws eN (adrs s b.length):=by rw[List.map_map]; rfl
 rw[hA]
 have hents:=ents_adrs s b.length
 have hEl:(entsD s b.length).length=(adrs s b.length).length:=by rw[hents,List.length_map]
 simp -implicitDefEqProofs only[go_sem,hT]
 refine loopL F41 (fun x:Nat×Li=>[(9,.ptr r.q 0),(12,rD x.2 ((entsD s b.length).take x.1).length),(32,.slice .no (rws eN (adrs s b.length))),(33,.int .i64 (adrs s b.length).length),(34,.int .i64 x.1)])
  (fun x=>rS x.2 (liX x.2 ((entsD s b.length).take x.1)) τ) (fun x=>x.1≤(adrs s b.length).length∧rO x.2 ((entsD s b.length).take x.1).length (liX x.2 ((entsD s b.length).take x.1)) τ)
  (fun x=>(adrs s b.length).length-x.1) (0,none) ⟨Nat.zero_le _,by simp[rO]⟩ ?_ ?_ ?_
 ·simp -implicitDefEqProofs only[go_sem,hT,rD,List.take_zero]
  rfl
 ·exact le_add hc
 clear hT T
 rintro⟨i,o⟩ ⟨hi,ho⟩ T hT
 simp only at hi ho hT ⊢
 by_cases h:i<(adrs s b.length).length
 case neg=>
  have g5:((i:Int)<(adrs s b.length).length)=False:=eq_false (by omega)
  have htk:(entsD s b.length).take i=entsD s b.length:=List.take_of_length_le (by omega)
  rw[htk] at ho hT ⊢
  simp -implicitDefEqProofs only[go_sem,hT,g5]
  refine⟨_,rS o (liX o (entsD s b.length)) {},DLe.refl _, ?_,o, ?_, ?_, ?_⟩
  ·exact rS_le (St.le.nil _)
  ·rw[hI]; exact rO_has ho (fun x hx=>(St.not_has_nil x hx).elim) fun p hp=>by subst hp; exact ho.2.2
  ·rw[hI]; rfl
  ·rw[hI]
 have g5:((i:Int)<(adrs s b.length).length)=True:=eq_true (by omega)
 have hget:=rws_at (enc:=eN) h
 have hkq2:=rS_box ho kq
 have hkf2:(rS o (liX o ((entsD s b.length).take i)) τ).mp r.f=some (.map (some .i64) m.kf m.vf m.cf):=by rw[rS_mp]; exact kf
 have hlk:=look143 (ok:=false) (n:=(adrs s b.length)[i]) hm.f hkf2
 have hmemA:(adrs s b.length)[i]∈adrs s b.length:=List.getElem_mem h
 have hhas:(s.has[(adrs s b.length)[i]]?).getD false=true:=by
  have:=hmemA
  unfold adrs at this
  rw[List.mem_filter] at this
  exact this.2
 have hff:=hal.f (adrs s b.length)[i]
 rw[if_pos hhas] at hff
 rw[hff] at hlk
 have w1:IntKind.wrap .i64 ((i:Int)+1)=((i+1:Nat):Int):=by rw[zc1 (by omega) (by omega)]; simp
 have hnext:(entsD s b.length).take (i+1)=(entsD s b.length).take i++[⟨((adrs s b.length)[i]:Int),false,(s.fr[(adrs s b.length)[i]]?).getD (fr0 0)⟩]:=by
  rw[List.take_add_one,hents,List.getElem?_map,List.getElem?_eq_getElem h]; rfl
 simp -implicitDefEqProofs only[go_sem,hT,g5,hget,zb9,zc0,zb5,zb3,za6,za4,zb6,za8,gdD,Nat.mul_one,Nat.add_zero,Nat.zero_add,zc2,eRn_0,eRn_3,eRn_4,eRn_5,eRn_6,eRn_7,eRn_len,hkq2,hlk,lkV,pairD,dF,eN,frz,frz_fr2]
 refine⟨by omega,li_app (x:=⟨((adrs s b.length)[i]:Int),false,(s.fr[(adrs s b.length)[i]]?).getD (fr0 0)⟩) ho (by rw[List.length_take]; omega) fun o' σ' _ ho' hle=> ?_⟩
 simp -implicitDefEqProofs only[go_sem,hT,w1]
 rw[←hnext] at ho' hle ⊢
 exact⟨(i+1,o'),⟨by simp only; omega,ho'⟩,by simp only; omega,⟨rfl,rfl⟩,hle⟩
open Go.Proofs
def c13:CT (Tryz.f13.body.getD .skip):=⟨_,by conv=>lhs; cbv⟩
theorem F13:Fun1 Tryz.prog 13 119 c13.1 [.tmp 4]:=mkT Tryz.func13 rfl (by decide +kernel) Tryz.ntmps13 rfl c13.2 rfl
open Go.Proofs
open Go.Proofs
theorem callB_liB {P:Program} {N:Nat} {T:Env} {σ:St} {K:Env→St→Prop} {Q:XA→Env→St→Prop} {B:List Nat} {dst:Option Nat} {g:FuncId} {ds:List D} {R:D→St→Prop} (h:RCall P g ds {} R)
  (hk:∀d s',R d s'→∃o X,s'=rS o X {}∧((∀p,o=some p→¬σ.has p.1)→putK N dst d K T (rS o X σ))):callB P N B false dst g ds K Q T σ:=by
 refine⟨{},σ,_,.pure σ,fun b _ hb=>St.not_has_nil b hb,h,fun h=>(by cases h),fun x s' ⟨d,hx,hR⟩ hap _=> ?_⟩
 subst hx
 obtain⟨o,X,rfl,hp⟩:=hk d s' hR
 have hf:∀p,o=some p→¬σ.has p.1:=fun p hp=>hap p.1 (rS_has.2 (.inl ⟨p,hp,rfl⟩))
 show putK N dst d K T _
 rw[rS_join hf]; exact hp hf
def bYhqA0:=aI @zb6 (aI @za8 (aI @anD @gh_len))
theorem law13 (e:En) (c:Cd) (hw:WideE e) (hd:WideD c):PCall Tryz.prog 13 [.agg (eEn e),.agg (eCd c)] (.bool true):=by
 obtain⟨hb,hc⟩:=hd
 have hf:(checkD e c.n c.b c.c).1.2.length≤140737488351232:=Nat.le_trans (checkD_short _ _ _ _) (by omega)
 refine F13.pcallM rfl fun T hT=> ?_
 simp -implicitDefEqProofs only[go_sem,c13,hT,eCd,bYhqA0]
 intro b2 b3 n1 n2
 simp -implicitDefEqProofs only[go_sem,hT,eCd,n1,n2,bYhqA0]
 refine⟨by rintro b rfl; simp, ?_⟩
 refine za3 (env30 e hw) ?_
 simp -implicitDefEqProofs only[go_sem,hT,eCd,n1,n2,bYhqA0]
 refine za3 (clone17p c.b .no (by simp[nilOk]) (by omega)) ?_
 simp -implicitDefEqProofs only[go_sem,hT,eCd,n1,n2,bYhqA0]
 refine za3 (clone17p c.c .no (by simp[nilOk]) (by omega)) ?_
 simp -implicitDefEqProofs only[go_sem,hT,eCd,n1,n2,bYhqA0]
 have hcheck:=check15 e c.n c.b c.c .no .no hw (by omega) (by omega)
 have href:=refCheck18 e c.n c.b c.c .no .no hw (by omega) (by omega)
 have hhi:=@higher e c.n c.b c.c hw
 generalize checkD e c.n c.b c.c=r at *
 obtain⟨⟨cmp,fet⟩,a,w⟩:=r
 simp only at hhi hf hcheck href
 refine za3 hcheck ?_
 simp -implicitDefEqProofs only[go_sem,hT,eCd,n1,n2,bYhqA0]
 intro b5 p1 p1' p2 p2'
 simp -implicitDefEqProofs only[go_sem,hT,eCd,n1,n2,p1,p1',p2,p2',bYhqA0]
 refine za3 href ?_
 simp -implicitDefEqProofs only[go_sem,hT,eCd,n1,n2,p1,p1',p2,p2',bYhqA0]
 intro b8 q1 q1' q2 q2' q3 q3' q4 q4'
 have e0:((w:Int)=w)=True:=eq_true rfl
 by_cases hz:w=0
 rotate_left
 ·have z1:((w:Int)=0)=False:=eq_false (by omega)
  simp -implicitDefEqProofs only[go_sem,hT,zb6,za8,anD,gh_len,eCd,n1,n2,p1,p1',p2,p2',q1,q1',q2,q2',q3,q3',q4,q4',z1,e0,eGh_two]
  done
 subst hz
 obtain⟨r,hinf,hr0,hbn,hall⟩:=hhi rfl
 simp -implicitDefEqProofs only[go_sem,hT,zb6,za8,anD,gh_len,eCd,n1,n2,p1,p1',p2,p2',q1,q1',q2,q2',q3,q3',q4,q4',eGh_two,Int.ofNat_zero,za2]
 refine⟨by rintro b rfl; simp,za3 (env30 e hw) ?_⟩
 have hst:∀S:St,S=(((({}:St).set b2 (eEn e)).set b3 [.int .i64 c.n,.slice .no (rws eT c.b),.slice .no (rws eT c.c)]).set b5 [.slice .no (rws eN fet),.int .i64 cmp]).set b8 [.slice .no (rws eN fet),.int .i64 cmp]→S.box b2=some (eEn e)∧S.box b3=some [.int .i64 c.n,.slice .no (rws eT c.b),.slice .no (rws eT c.c)]:=by
  rintro S rfl
  simp[St.set,n1,n2,p1,p1',p2,p2',q1,q1',q2,q2',q3,q3',q4,q4']
 generalize hS:(((({}:St).set b2 (eEn e)).set b3 [.int .i64 c.n,.slice .no (rws eT c.b),.slice .no (rws eT c.c)]).set b5 [.slice .no (rws eN fet),.int .i64 cmp]).set b8 [.slice .no (rws eN fet),.int .i64 cmp]=S
 obtain⟨k2,k3⟩:=hst S hS.symm
 clear hst hS
 simp -implicitDefEqProofs only[go_sem,hT,eCd,k2,k3,bYhqA0]
 refine za3 (clone17p c.b .no (by simp[nilOk]) (by omega)) ?_
 simp -implicitDefEqProofs only[go_sem,hT,eCd,k2,k3,bYhqA0]
 refine callB_liB (infer41 e c.n c.b hw (by omega)) fun d s' ⟨o,ho,hd,hs⟩=>⟨o,_,hs,fun hf=> ?_⟩
 subst hd
 rw[hinf] at ho ⊢
 simp only at ho ⊢
 have hel:=ents_len r c.b.length
 obtain⟨hm0,hb4,-⟩:=infer_last (e:=e) (loc:=c.n) (b:=c.b) hw (by rw[hinf])
 have hF:Falls e.cs e.cs.length:=can_falls hw (start_eq hm0).1
 have hcs:=hw.1.1
 obtain⟨t,ht⟩:∃t,adrs r c.b.length=0::t:=by
  obtain⟨m,hm⟩:∃m,c.b.length=m+1:=⟨c.b.length-1,by omega⟩
  rw[hm]
  unfold adrs
  rw[List.range_succ_eq_map,List.filter_cons,if_pos (by exact hr0)]
  exact⟨_,rfl⟩
 have hpos:∀x∈entsD r c.b.length,∃a:Nat,a<c.b.length∧hasP r a∧x.pos=a∧x.fr=frA r a:=fun x hx=>by
  obtain⟨a,h1,h2,rfl⟩:=ents_mem.1 hx
  exact⟨a,h1,h2,rfl,rfl⟩
 obtain⟨x0,xs,hes,hx0⟩:∃x0 xs,entsD r c.b.length=x0::xs∧x0.pos=0:=⟨_,_,by rw[ents_adrs,ht]; rfl,rfl⟩
 generalize entsD r c.b.length=es at *
 have hlp:1≤es.length:=by rw[hes]; simp
 cases o with
 |none=>exfalso; have h0:es.length=0:=ho; omega
 |some p=>
  obtain⟨h1,h2,h3⟩:=ho
  have hfp:=hf p rfl
  have hfl:(fl eEy es).length=es.length*28:=fl_len zb4 es
  have hget:∀i (hi:i<es.length),((liX (some p) es).drop (i*28)).take 28=eEy es[i]:=fun i hi=>by
   unfold liX
   rw[List.drop_append_of_le_length (by rw[hfl]; omega),List.take_append_of_le_length (by rw[List.length_drop,hfl]; omega),fl_at zb4 hi]
  have hX0:(liX (some p) es)[0]? =some (.int .i64 0):=by
   unfold liX
   show(fl eEy es++List.replicate ((p.2-es.length)*28) .any)[0]? =_
   rw[hes,fl_cons,List.append_assoc,List.getElem?_append_left (by rw[zb4]; omega),ey_0,hx0]
  have hfa:∀i,i<es.length→(28≤((liX (some p) es).drop (i*28)).length)=True:=fun i hi=>eq_true (by rw[List.length_drop,h3]; omega)
  generalize liX (some p) es=X at *
  have kp:(rS (some p) X S).box p.1=some X:=by simp[rS,St.set_box]
  have hp2:b2≠p.1:=fun he=>hfp (.inl (by rw[←he,k2]; simp))
  have hp3:b3≠p.1:=fun he=>hfp (.inl (by rw[←he,k3]; simp))
  have kb2:(rS (some p) X S).box b2=some (eEn e):=by simp only[rS,St.set_box]; rw[if_neg hp2]; exact k2
  have kb3:(rS (some p) X S).box b3=some [.int .i64 c.n,.slice .no (rws eT c.b),.slice .no (rws eT c.c)]:=by simp only[rS,St.set_box]; rw[if_neg hp3]; exact k3
  generalize rS (some p) X S=S1 at *
  have l0:((es.length:Int)=0)=False:=eq_false (by omega)
  have l1:((0:Int)<es.length)=True:=eq_true (by omega)
  simp -implicitDefEqProofs only[go_sem,hT,zb6,za8,anD,gh_len,eCd,rD,Int.ofNat_zero,l0,l1,kp,hX0,kb3]
  refine za3 (refDecode31 c.c .no (by omega)) ?_
  simp -implicitDefEqProofs only[go_sem,hT,eCd,bYhqA0]
  intro b13 h13
  simp -implicitDefEqProofs only[go_sem,hT,zb6,za8,anD,gh_len,eCd,eCt_len,za2]
  have h132:b2≠b13:=fun he=>h13 (.inl (by rw[←he,kb2]; simp))
  have h13p:p.1≠b13:=fun he=>h13 (.inl (by rw[←he,kp]; simp))
  obtain⟨ys,hys⟩:∃ys,(decC c.c).1.es=ys:=⟨_,rfl⟩
  obtain⟨_,_,hyl,_⟩:=decC_rise c.c
  have m2:(S1.set b13 (eCt (decC c.c).1)).box b2=some (eEn e):=by rw[St.set_box,if_neg h132]; exact kb2
  have mp:(S1.set b13 (eCt (decC c.c).1)).box p.1=some X:=by rw[St.set_box,if_neg h13p]; exact kp
  have m13:(S1.set b13 (eCt (decC c.c).1)).box b13=some [.int .i64 (decC c.c).1.loc,.slice .no (rws eEy ys)]:=by rw[St.set_box,if_pos rfl,←hys]; rfl
  rw[hys] at hall hyl
  generalize S1.set b13 (eCt (decC c.c).1)=S2 at *
  refine loopL F13 (fun i:Nat=>[(2,.ptr b2 0),(13,.ptr b13 0),(85,.bsl p.1 0 es.length p.2),(86,.int .i64 es.length),(87,.int .i64 i)]) (fun _=>S2) (fun i=>i≤es.length) (fun i=>es.length-i) 0 (Nat.zero_le _) ?_ (St.le.refl _) ?_
  ·simp -implicitDefEqProofs only[go_sem,hT,Int.ofNat_zero]
  clear hT T
  rintro i hi T hT
  by_cases h:i<es.length
  case neg=>
   have g5:((i:Int)<es.length)=False:=eq_false (by omega)
   simp -implicitDefEqProofs only[go_sem,hT,g5]
  have g5:((i:Int)<es.length)=True:=eq_true (by omega)
  have w3:IntKind.wrap .i64 ((i:Int)+1)=((i+1:Nat):Int):=by rw[zc1 (by omega) (by omega)]; simp
  have hgi:=hget i h
  obtain⟨a1,ha1,ha2,ha3,ha4⟩:=hpos es[i] (List.getElem_mem h)
  generalize es[i]=x at *
  simp -implicitDefEqProofs only[go_sem,hT,g5,mp,hgi,hfa i h,zb4,za9,m13]
  refine⟨by omega,fun b17 h17=> ?_⟩
  have h172:b2≠b17:=fun he=>h17 (.inl (by rw[←he,m2]; simp))
  have h1713:b13≠b17:=fun he=>h17 (.inl (by rw[←he,m13]; simp))
  simp -implicitDefEqProofs only[go_sem,hT,za2,zb4,za9,h1713,Ne.symm h1713,m13]
  refine loopL F13 (fun j:Nat=>[(2,.ptr b2 0),(13,.ptr b13 0),(85,.bsl p.1 0 es.length p.2),(86,.int .i64 es.length),(87,.int .i64 i),(17,.ptr b17 0),(92,.slice .no (rws eEy ys)),(93,.int .i64 ys.length),(94,.int .i64 j)]) (fun _=>S2.set b17 (eEy x)) (fun j=>j≤ys.length) (fun j=>ys.length-j) 0 (Nat.zero_le _) ?_ (St.le.refl _) ?_
  ·simp -implicitDefEqProofs only[go_sem,hT,Int.ofNat_zero]
  clear hT T
  rintro j hj T hT
  by_cases h':j<ys.length
  case neg=>
   have g6:((j:Int)<ys.length)=False:=eq_false (by omega)
   simp -implicitDefEqProofs only[go_sem,hT,g6,w3]
   exact⟨i+1,by omega,by omega,rfl,le_add h17⟩
  have g6:((j:Int)<ys.length)=True:=eq_true (by omega)
  have w4:IntKind.wrap .i64 ((j:Int)+1)=((j+1:Nat):Int):=by rw[zc1 (by omega) (by omega)]; simp
  have hgj:=rws_at (enc:=eEy) h'
  have hmy:=List.getElem_mem h'
  generalize ys[j]=y at *
  have n2b:(S2.set b17 (eEy x)).box b2=some (eEn e):=by rw[St.set_box,if_neg h172]; exact m2
  have n17:(S2.set b17 (eEy x)).box b17=some (eEy x):=by rw[St.set_box,if_pos rfl]
  have en0:(eEn e)[0]? =some (.slice .no (rws eC e.cs)):=rfl
  simp -implicitDefEqProofs only[go_sem,hT,g6,hgj,zb4,za9]
  refine⟨by omega,fun b19 h1917' h19q h19'=> ?_⟩
  have h19:¬(S2.set b17 (eEy x)).has b19:=by
   simp only[has_set]
   rintro(h|h|h)
   ·exact h1917' h
   ·exact h19q h
   ·exact h19' h
  generalize hS3:S2.set b17 (eEy x)=S3 at *
  have h192:b2≠b19:=fun he=>h19 (.inl (by rw[←he,n2b]; simp))
  have h1917:b17≠b19:=fun he=>h19 (.inl (by rw[←he,n17]; simp))
  by_cases he:x.pos=y.pos
  ·have g7:(x.pos=y.pos)=True:=eq_true he
   obtain⟨q1,q2⟩:=hall a1 ha2 y hmy (by omega) ha1
   rw[←ha4] at q2
   have hs:=subFr_iff.2 q2
   simp -implicitDefEqProofs only[go_sem,mmB,hT,za2,zb4,za9,h1917,Ne.symm h1917,h192,Ne.symm h192,n17,n2b,ey_0,ey_1,ey_fr,ey_26,g7,q1,en0,gdD,Nat.add_zero]
   refine za3 (refSub38 e.cs .no _ _ hF (by omega)) ?_
   rw[hs]
   simp -implicitDefEqProofs only[go_sem,hT,w4]
   exact⟨j+1,by omega,by omega,rfl,le_add h19⟩
  ·have g7:(x.pos=y.pos)=False:=eq_false he
   simp -implicitDefEqProofs only[go_sem,mmB,hT,za2,zb4,za9,h1917,Ne.symm h1917,n17,ey_0,g7,w4]
   exact⟨j+1,by omega,by omega,rfl,le_add h19⟩
end Go.AL
