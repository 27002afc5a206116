import Derived.Test.YtjffaachihpjbaaGreatCw
import Derived.Test.YtjffaachihpjbaaGreatCq
set_option linter.unusedSimpArgs false
set_option linter.unusedVariables false
set_option maxRecDepth 100000
set_option maxHeartbeats 4000000
set_option linter.defProp false
namespace Go.AL
open Go.Proofs
def idxI (l:List Int) (a:Int):Int:=match l.findIdx? (fun x=>decide (x=a)) with|some i=>i|none=> -1
theorem index56 (l:List Int) (o:Own) (a:Int) (hl:l.length≤140737488355328):PCall Tryz.prog 56 [.slice o (rws eI l),.int .i64 a] (.int .i64 (idxI l a)):=by
 have eIl:∀z:Int,(eI z).length=1:=fun z=>rfl
 refine F56.pcallM rfl fun T hT=> ?_
 simp -implicitDefEqProofs only[go_sem,c56,hT]
 refine loopL F56 (fun i:Nat=>[(0,.slice o (rws eI l)),(1,.int .i64 a),(7,.int .i64 l.length),(8,.int .i64 i)]) (fun _=>{}) (fun i=>i≤l.length∧∀j (hj:j<l.length),j<i→l[j]≠a) (fun i=>l.length-i) 0 ⟨Nat.zero_le _,fun j _ h=>by omega⟩ ?_ (St.le.refl _) ?_
 ·simp -implicitDefEqProofs only[go_sem,hT,Int.ofNat_zero]
 clear hT T
 rintro i ⟨hi,hn⟩ T hT
 by_cases h:i<l.length
 case neg=>
  have g1:((i:Int)<l.length)=False:=eq_false (by omega)
  have hr:idxI l a= -1:=by
   unfold idxI
   rw[List.findIdx?_eq_none_iff.2]
   intro x hx
   obtain⟨j,hj,rfl⟩:=List.getElem_of_mem hx
   exact decide_eq_false (hn j hj (by omega))
  rw[hr]
  simp -implicitDefEqProofs only[go_sem,hT,g1]
  done
 have g1:((i:Int)<l.length)=True:=eq_true (by omega)
 have g0:(0≤(i:Int))=True:=eq_true (by omega)
 have w1:IntKind.wrap .i64 ((i:Int)+1)=((i+1:Nat):Int):=by rw[zb7 (by omega) (by omega)]; simp
 have hR:(rws eI l)[i]?.getD []=eI l[i]:=rws_at h
 by_cases hx:a=l[i]
 ·have hr:idxI l a=i:=by
   unfold idxI
   rw[List.findIdx?_eq_some_iff_getElem.2 ⟨h,decide_eq_true hx.symm,fun j hji=>by simpa using hn j (by omega) hji⟩]
  rw[hr]
  have gx:(a=l[i])=True:=eq_true hx
  generalize l[i]=x at *
  simp -implicitDefEqProofs only[go_sem,hT,g1,g0,hR,eIl,eI,gx,Int.toNat_natCast]
  done
 ·have gx:(a=l[i])=False:=eq_false hx
  have hn':∀j (hj:j<l.length),j<i+1→l[j]≠a:=fun j hj hlt=>by
   by_cases hji:j=i
   ·subst hji; exact fun h=>hx h.symm
   ·exact hn j hj (by omega)
  generalize l[i]=x at *
  simp -implicitDefEqProofs only[go_sem,hT,g1,g0,hR,eIl,eI,gx,Int.toNat_natCast,w1]
  exact⟨i+1,⟨by omega,hn'⟩,by omega,rfl,St.le.refl _⟩
theorem contains28 (l:List Int) (o:Own) (a:Int) (hl:l.length≤140737488355328):PCall Tryz.prog 28 [.slice o (rws eI l),.int .i64 a] (.bool (decide (a∈l))):=by
 refine F28.pcallM rfl fun T hT=> ?_
 simp -implicitDefEqProofs only[go_sem,c28,hT]
 refine za3 (index56 l o a hl) ?_
 simp -implicitDefEqProofs only[go_sem,hT]
 refine zf2 ?_
 rw[decide_eq_decide]
 unfold idxI
 cases hf:l.findIdx? (fun x=>decide (x=a)) with
 |none=>
  rw[List.findIdx?_eq_none_iff] at hf
  refine⟨fun h=>by have h:(0:Int)≤ -1:=h; omega,fun h=> ?_⟩
  have:=hf a h
  simp at this
 |some i=>
  obtain⟨h1,h2,_⟩:=List.findIdx?_eq_some_iff_getElem.1 hf
  refine⟨fun _=> ?_,fun _=>by simp only; omega⟩
  rw[←of_decide_eq_true h2]
  exact List.getElem_mem h1
theorem wants_snoc (b:List Ty) (x:Nat):∀L:List Nat,wantsL b (L++[x])=wantsL b L++(if jumpsB (insA b x).op.val=true then [(insA b x).a] else [])++(if endsB (insA b x).op.val=true then [(x:Int)+szA b x] else [])
 |[]=>by simp[wantsL]
 |y::r=>by simp only[List.cons_append,wantsL,wants_snoc b x r,List.append_assoc]
theorem jumps_snoc (b:List Ty) (L:List Nat) (x:Nat):jumpsN b (L++[x])=jumpsN b L+if jumpsB (insA b x).op.val=true then 1 else 0:=by
 unfold jumpsN
 rw[List.filter_append,List.length_append]
 cases hj:jumpsB (insA b x).op.val <;> simp[List.filter_cons,hj]
theorem ends_snoc (b:List Ty) (L:List Nat) (x:Nat):endsN b (L++[x])=endsN b L+if endsB (insA b x).op.val=true then 1 else 0:=by
 unfold endsN
 rw[List.filter_append,List.length_append]
 cases hj:endsB (insA b x).op.val <;> simp[List.filter_cons,hj]
theorem jumps_le (b:List Ty) (L:List Nat):jumpsN b L≤L.length∧endsN b L≤L.length:=⟨List.length_filter_le _ _,List.length_filter_le _ _⟩
theorem enc_len2 (loc:Int) (es:List Ey) (h:es.length≤4096):(encC loc es).1.length≤200000:=by
 unfold encC
 split
 ·simp
 ·have:=flat_len loc.toNat es
  simp only[encB,headB,List.length_append,List.length_cons,List.length_nil]; omega
def bXiaJ0:=aI @eCo_len (aI @zg0 (aI @zf7 (aI @eCo_3 (aI @eCo_4 (aI @zb8 (aI @zb2 (aI @gdD (aI @anD (aI @zf4 (aI @ze8 (aI @ey_0 (aI @zb5 (aI @za9 (aI @eIn_1 (aI @eIn_2 (aI @eCt_len @za4))))))))))))))))
def bXiaJ1:=aI @eCo_len (aI @zg0 (aI @zf7 (aI @eCo_3 (aI @eCo_4 (aI @zb8 (aI @zb2 (aI @gdD (aI @anD (aI @zf4 (aI @ze8 (aI @ey_0 (aI @zb5 (aI @za9 (aI @eIn_1 (aI @eIn_2 (aI @eCt_len (aI @za4 @Int.ofNat_zero)))))))))))))))))
def bXiaJ2:=aI @eCo_len (aI @zg0 (aI @zf7 (aI @eCo_3 (aI @eCo_4 (aI @zb8 (aI @zb2 (aI @gdD (aI @anD (aI @zf4 (aI @ze8 (aI @ey_0 (aI @zb5 (aI @za9 (aI @eIn_1 (aI @eIn_2 (aI @eCt_len (aI @za4 @Int.toNat_natCast)))))))))))))))))
theorem law7 (e:En) (loc:Int) (b:List Ty) (hw:WideE e) (hb:b.length≤140737488351232):PCall Tryz.prog 7 [.agg (eCo e loc b)] (.bool true):=by
 refine F7.pcallM rfl fun T hT=> ?_
 simp -implicitDefEqProofs only[go_sem,c7,hT,Nat.add_zero,bXiaJ0]
 intro b1
 refine za3 (taken9 e loc b hw (by omega)) ?_
 by_cases h:(inferD e loc b).2.2=0
 case neg=>
  rw[decide_eq_false h]
  simp -implicitDefEqProofs only[go_sem,hT,Nat.add_zero,bXiaJ0]
  done
 rw[decide_eq_true h]
 obtain⟨r,hg,hla,hi,hem,hb4,hm⟩:=emit_ok hw h
 have hcc:=cert_check hw hm hb4 hg hla
 have hemit:=emit43 e loc b hw (by omega)
 have hinf:=infer26 e loc b .no hw (by omega)
 rw[hem] at hemit
 rw[hi] at hinf
 obtain⟨n,hn,hdec⟩:=dec_enc hcc
 have hdj:=last_disj hw hg hla
 have hfl:=few_len b r
 have hwl:=wants_len b (adrs r b.length)
 have hfm:=@few_mem b r
 have hnil:certE b r=[]→(encC loc (certE b r)).1.length=6:=fun h0=>by rw[h0] at hcc ⊢; exact enc_nil hcc
 have hrefd:=refDecode31 (encC loc (certE b r)).1 .no (by have:=enc_len2 loc (certE b r) (by have:=cert_len b r; omega); omega)
 rw[hdec] at hrefd
 have hel:=ents_len r b.length
 simp -implicitDefEqProofs only[go_sem,hT,Nat.add_zero,bXiaJ0]
 refine za3 hemit ?_
 simp -implicitDefEqProofs only[go_sem,hT,Nat.add_zero,bXiaJ1]
 refine za3 hrefd ?_
 simp -implicitDefEqProofs only[go_sem,hT,Nat.add_zero,bXiaJ1]
 intro b6 n1 n2
 have en0:(eCt ⟨n,certE b r⟩)[0]? =some (.int .i64 (n:Int)):=rfl
 have en1:(eCt ⟨n,certE b r⟩)[1]? =some (.slice .no (rws eEy (certE b r))):=rfl
 have gn:((n:Int)=loc)=True:=eq_true hn.symm
 have gn':(loc=(n:Int))=True:=eq_true hn
 have hclen:=cert_len b r
 generalize hEC:(encC loc (certE b r)).1=EC at *
 generalize hC:certE b r=C at *
 simp -implicitDefEqProofs only[go_sem,hT,Nat.add_zero,n1,n2,en0,en1,gn,gn',bXiaJ0]
 refine za3 hinf ?_
 have hes:entsD r b.length=(adrs r b.length).map fun a:Nat=>(⟨(a:Int),false,frA r a⟩:Ey):=ents_adrs r b.length
 have hL:∀x∈adrs r b.length,x<b.length∧(decF b x).2=0:=fun x hx=>⟨(adrs_mem.1 hx).1,(hla.goes x (adrs_mem.1 hx).2).1⟩
 have hL0:0<(adrs r b.length).length:=List.length_pos_of_mem (adrs_mem.2 ⟨hla.lt 0 hla.start.1,hla.start.1⟩)
 have hLm:∀x∈adrs r b.length,hasP r x:=fun x hx=>(adrs_mem.1 hx).2
 have hpl:=few_plain hla hdj
 rw[hC] at hpl
 generalize adrs r b.length=L at *
 have hlen:(entsD r b.length).length=L.length:=by rw[hes,List.length_map]
 have hpos:∀i (hi:i<L.length) (hi':i<(entsD r b.length).length),(entsD r b.length)[i].pos=(L[i]:Int):=fun i hi hi'=>by simp only[hes,List.getElem_map]
 generalize entsD r b.length=es at *
 simp -implicitDefEqProofs only[go_sem,hT,Nat.add_zero,n1,n2,bXiaJ0]
 have k1:∀k o',(grS 1 k o' ((({}:St).set b1 (eCo e loc b)).set b6 (eCt ⟨n,C⟩))).box b1=some (eCo e loc b):=fun k o'=>by rw[grS_boxa]; simp[St.set_box,n2]
 have k6:∀k o',(grS 1 k o' ((({}:St).set b1 (eCo e loc b)).set b6 (eCt ⟨n,C⟩))).box b6=some (eCt ⟨n,C⟩):=fun k o'=>by rw[grS_boxa]; simp[St.set_box]
 generalize (({}:St).set b1 (eCo e loc b)).set b6 (eCt ⟨n,C⟩)=B at *
 refine loopL F7 (fun x:Nat×Option Nat=>[(1,.ptr b1 0),(3,.slice .no (rws eT EC)),(6,.ptr b6 0),(9,.slice .no (rws eEy es)),(12,grD 1 x.2 (rws eI (wantsL b (L.take x.1)))),(13,.int .i64 (endsN b (L.take x.1))),(14,.int .i64 (jumpsN b (L.take x.1))),(67,.slice .no (rws eEy es)),(68,.int .i64 es.length),(69,.int .i64 x.1)]) (fun x=>grS 1 (wantsL b (L.take x.1)).length x.2 B) (fun x=>x.1≤L.length∧(x.2=none→(wantsL b (L.take x.1)).length=0)∧grN x.2 B) (fun x=>L.length-x.1) (0,none) ⟨Nat.zero_le _,fun _=>rfl,grN_none⟩ ?_ (St.le.refl _) ?_
 ·simp -implicitDefEqProofs only[go_sem,hT,Int.ofNat_zero]
  exact⟨rfl,rfl,rfl⟩
 clear hT T
 rintro⟨i,ob⟩ ⟨hi',hok,hgr⟩ T hT
 simp only at hi' hok hgr hT ⊢
 by_cases h':i<L.length
 ·have g2:((i:Int)<es.length)=True:=eq_true (by omega)
  have g3:(0≤(i:Int))=True:=eq_true (by omega)
  have w1:IntKind.wrap .i64 ((i:Int)+1)=((i+1:Nat):Int):=by rw[zb7 (by omega) (by omega)]; simp
  have hRx:(rws eEy es)[i]?.getD []=eEy es[i]:=rws_at (by omega)
  have hp:=hpos i h' (by omega)
  obtain⟨hxb,hxd⟩:=hL L[i] (List.getElem_mem h')
  have htk:L.take (i+1)=L.take i++[L[i]]:=List.take_succ_eq_append_getElem h'
  have hws:=wants_snoc b L[i] (L.take i)
  have hjs:=jumps_snoc b (L.take i) L[i]
  have hns:=ends_snoc b (L.take i) L[i]
  rw[←htk] at hws hjs hns
  obtain⟨hjl,hnl⟩:=jumps_le b (L.take i)
  have hwlen:=wants_len b (L.take i)
  rw[List.length_take] at hjl hnl
  generalize es[i]=x at *
  generalize L[i]=a at *
  obtain⟨W1,hW1⟩:∃W1,wantsL b (L.take (i+1))=W1:=⟨_,rfl⟩
  obtain⟨J1,hJ1⟩:∃J1,jumpsN b (L.take (i+1))=J1:=⟨_,rfl⟩
  obtain⟨E1,hE1⟩:∃E1,endsN b (L.take (i+1))=E1:=⟨_,rfl⟩
  rw[hW1] at hws
  rw[hJ1] at hjs
  rw[hE1] at hns
  generalize wantsL b (L.take i)=W at *
  generalize jumpsN b (L.take i)=J at *
  generalize endsN b (L.take i)=E at *
  simp -implicitDefEqProofs only[go_sem,hT,g2,g3,hRx,Nat.add_zero,k1,k6,bXiaJ2]
  intro b16 m1
  have q1:¬b1=b16:=fun he=>m1 (.inl (by rw[←he,k1]; simp))
  have q6:¬b6=b16:=fun he=>m1 (.inl (by rw[←he,k6]; simp))
  have hI:(decF b a).1=insA b a:=rfl
  have hsz:szA b a=ze7 (insA b a).op.val:=rfl
  have h6:=sizeOp_le (insA b a).op.val
  simp -implicitDefEqProofs only[go_sem,hT,Nat.add_zero,k1,k6,q1,hp,bXiaJ0]
  refine za3 (refDecode19 b .no a (by omega) (by omega)) ?_
  rw[hI]
  rw[hsz] at hws
  generalize insA b a=q at *
  simp -implicitDefEqProofs only[go_sem,hT,Nat.add_zero,k1,k6,q1,hp,bXiaJ0]
  intro b17 m2 m3 m4
  have r1:¬b1=b17:=fun he=>m4 (.inl (by rw[←he,k1]; simp))
  have r6:¬b6=b17:=fun he=>m4 (.inl (by rw[←he,k6]; simp))
  refine⟨by rintro b rfl; simp[St.set_box,m3], ?_⟩
  simp -implicitDefEqProofs only[go_sem,hT,Nat.add_zero,k1,k6,q1,q6,r1,r6,m2,m3,hp,bXiaJ0]
  refine za3 (refSize74 _) ?_
  have w2:IntKind.wrap .i64 ((a:Int)+(ze7 q.op.val:Int))=(a:Int)+ze7 q.op.val:=zb7 (by omega) (by omega)
  have wJ:IntKind.wrap .i64 ((J:Int)+1)=((J+1:Nat):Int):=by rw[zb7 (by omega) (by omega)]; simp
  have wE:IntKind.wrap .i64 ((E:Int)+1)=((E+1:Nat):Int):=by rw[zb7 (by omega) (by omega)]; simp
  simp -implicitDefEqProofs only[go_sem,hT,Nat.add_zero,k1,k6,q1,q6,r1,r6,m2,m3,hp,w2,bXiaJ0]
  refine za3 (refJumps22 _) ?_
  have happ:∀(A:List Int) (z:Int),rws eI A++[[.int .i64 z]]=rws eI (A++[z]):=fun A z=>by simp[rws,eI]
  have hle0:St.le (grS 1 W.length ob B) (((grS 1 W.length ob B).set b16 (eEy x)).set b17 (eIn q)):=(le_add m1).trans (le_add fun h=>(set_has.1 h).elim m2 m4)
  cases hj:jumpsB q.op.val with
  |false=>
   rw[if_neg (by rw[hj]; simp)] at hws hjs
   simp -implicitDefEqProofs only[go_sem,hT,Nat.add_zero,k1,k6,q1,q6,r1,r6,m2,m3,hp,bXiaJ0]
   refine za3 (refEnds41 _) ?_
   cases he:endsB q.op.val with
   |false=>
    rw[if_neg (by rw[he]; simp)] at hws hns
    rw[List.append_nil,List.append_nil] at hws
    simp -implicitDefEqProofs only[go_sem,hT,Nat.add_zero,k1,k6,q1,q6,r1,r6,m2,m3,hp,w1,bXiaJ0]
    refine⟨(i+1,ob),⟨by simp only; omega,by simp only[hW1,hws]; exact hok,hgr⟩,by simp only; omega, ?_, ?_⟩
    ·simp only[hW1,hJ1,hE1,hws,hjs,hns]
     trivial
    ·simp only[hW1,hws]; exact hle0
   |true=>
    rw[if_pos he] at hws hns
    rw[List.append_nil] at hws
    simp -implicitDefEqProofs only[go_sem,hT,Nat.add_zero,k1,k6,q1,q6,r1,r6,m2,m3,hp,frz,bXiaJ0]
    refine app_gr' Tryz.sli57 Tryz.sz3 Tryz.by3 Tryz.zero3 rfl (n:=W.length) (m:=1) (base:=B) (by rw[za1]) rfl hle0 hgr hok (by simp) (by omega) fun o' σ' hbox hle hn' hno=> ?_
    simp -implicitDefEqProofs only[go_sem,hT,hbox,w1,wE]
    rw[happ]
    refine⟨(i+1,o'),⟨by simp only; omega,by simp only[hW1,hws,List.length_append,List.length_cons,List.length_nil]; exact hno,hn'⟩,by simp only; omega, ?_, ?_⟩
    ·simp only[hW1,hJ1,hE1,hws,hjs,hns]
     trivial
    ·simp only[hW1,hws,List.length_append,List.length_cons,List.length_nil]; exact hle
  |true=>
   rw[if_pos hj] at hws hjs
   simp -implicitDefEqProofs only[go_sem,hT,Nat.add_zero,k1,k6,q1,q6,r1,r6,m2,m3,hp,frz,bXiaJ0]
   refine app_gr' Tryz.sli57 Tryz.sz3 Tryz.by3 Tryz.zero3 rfl (n:=W.length) (m:=1) (base:=B) (by rw[za1]) rfl hle0 hgr hok (by simp) (by omega) fun o' σ' hbox hle hn' hno=> ?_
   simp -implicitDefEqProofs only[go_sem,hT,hbox,wJ,Nat.add_zero,k1,k6,q1,q6,r1,r6,m2,m3,hp,bXiaJ0]
   rw[happ]
   refine za3 (refEnds41 _) ?_
   cases he:endsB q.op.val with
   |false=>
    rw[if_neg (by rw[he]; simp)] at hws hns
    rw[List.append_nil] at hws
    simp -implicitDefEqProofs only[go_sem,hT,Nat.add_zero,k1,k6,q1,q6,r1,r6,m2,m3,hp,w1,bXiaJ0]
    refine⟨(i+1,o'),⟨by simp only; omega,by simp only[hW1,hws,List.length_append,List.length_cons,List.length_nil]; exact hno,hn'⟩,by simp only; omega, ?_, ?_⟩
    ·simp only[hW1,hJ1,hE1,hws,hjs,hns]
     trivial
    ·simp only[hW1,hws,List.length_append,List.length_cons,List.length_nil]; exact hle
   |true=>
    rw[if_pos he] at hws hns
    simp -implicitDefEqProofs only[go_sem,hT,Nat.add_zero,k1,k6,q1,q6,r1,r6,m2,m3,hp,frz,bXiaJ0]
    refine app_gr' Tryz.sli57 Tryz.sz3 Tryz.by3 Tryz.zero3 rfl (n:=W.length+1) (m:=1) (base:=B) (by rw[za1,List.length_append]; rfl) rfl hle hn' (fun h=>by have:=hno h; omega) (by simp) (by omega) fun o2 σ2 hbox2 hle2 hn2 hno2=> ?_
    simp -implicitDefEqProofs only[go_sem,hT,hbox2,w1,wE]
    rw[happ]
    refine⟨(i+1,o2),⟨by simp only; omega,by simp only[hW1,hws,List.length_append,List.length_cons,List.length_nil]; exact hno2,hn2⟩,by simp only; omega, ?_, ?_⟩
    ·simp only[hW1,hJ1,hE1,hws,hjs,hns]
     trivial
    ·simp only[hW1,hws,List.length_append,List.length_cons,List.length_nil]; exact hle2
 have g2:((i:Int)<es.length)=False:=eq_false (by omega)
 obtain rfl:i=L.length:=by omega
 rw[List.take_length] at hT hok
 rw[List.take_length]
 simp -implicitDefEqProofs only[go_sem,hT,g2,Nat.add_zero,k1,k6,en0,en1,bXiaJ0]
 have hwn:=jumps_le b L
 have hE57:(wantsL b L).length≤2*L.length:=by omega
 refine loopL F7 (fun j:Nat=>[(1,.ptr b1 0),(3,.slice .no (rws eT EC)),(6,.ptr b6 0),(9,.slice .no (rws eEy es)),(12,grD 1 ob (rws eI (wantsL b L))),(13,.int .i64 (endsN b L)),(14,.int .i64 (jumpsN b L)),(108,.slice .no (rws eEy C)),(109,.int .i64 C.length),(110,.int .i64 j)]) (fun _=>grS 1 (wantsL b L).length ob B) (fun j=>j≤C.length) (fun j=>C.length-j) 0 (Nat.zero_le _) ?_ (St.le.refl _) ?_
 ·simp -implicitDefEqProofs only[go_sem,hT,Int.ofNat_zero]
 clear hT T
 rintro j hj T hT
 by_cases h2:j<C.length
 ·have g4:((j:Int)<C.length)=True:=eq_true (by omega)
  have g5:(0≤(j:Int))=True:=eq_true (by omega)
  have w1:IntKind.wrap .i64 ((j:Int)+1)=((j+1:Nat):Int):=by rw[zb7 (by omega) (by omega)]; simp
  have hRx:(rws eEy C)[j]?.getD []=eEy C[j]:=rws_at h2
  have hmem:=hfm (List.getElem_mem h2)
  generalize C[j]=y at *
  simp -implicitDefEqProofs only[go_sem,hT,g4,g5,hRx,Nat.add_zero,bXiaJ2]
  intro b21 m1
  refine za3 ((contains28 (wantsL b L) .no y.pos (by omega)).args (.cons grD_le (.refl _))) ?_
  rw[decide_eq_true hmem]
  simp -implicitDefEqProofs only[go_sem,hT,w1]
  exact⟨j+1,by omega,by omega,rfl,le_add m1⟩
 have g4:((j:Int)<C.length)=False:=eq_false (by omega)
 have wJE:IntKind.wrap .i64 ((jumpsN b L:Int)+(endsN b L:Int))=((jumpsN b L+endsN b L:Nat):Int):=by rw[zb7 (by omega) (by omega)]; simp
 have gC:((C.length:Int)≤((jumpsN b L+endsN b L:Nat):Int))=True:=eq_true (by omega)
 have gl:((0:Int)<es.length)=True:=eq_true (by omega)
 have wl:IntKind.wrap .i64 ((es.length:Int)-1)=((es.length-1:Nat):Int):=by rw[zb7 (by omega) (by omega)]; omega
 have hb0:0<b.length:=hla.lt 0 hla.start.1
 have wb:IntKind.wrap .i64 ((b.length:Int)-1)=((b.length-1:Nat):Int):=by rw[zb7 (by omega) (by omega)]; omega
 have h0l:(0≤((es.length-1:Nat):Int))=True:=eq_true (by omega)
 have hll:(((es.length-1:Nat):Int)<es.length)=True:=eq_true (by omega)
 have hRl:(rws eEy es)[es.length-1]?.getD []=eEy es[es.length-1]:=rws_at (by omega)
 have hpl2:=hpos (L.length-1) (by omega) (by omega)
 have hidx:es[L.length-1]'(by omega)=es[es.length-1]'(by omega):=by simp only[hlen]
 rw[hidx] at hpl2
 have hlm:=hLm L[L.length-1] (List.getElem_mem (by omega))
 generalize es[es.length-1]=y at *
 generalize L[L.length-1]=a at *
 by_cases hJ:jumpsN b L=0
 case neg=>
  have gJ:((jumpsN b L:Int)=0)=False:=eq_false (by omega)
  simp -implicitDefEqProofs only[go_sem,hT,g4,gJ,Nat.add_zero,k1,k6,en0,en1,wJE,gC,bXiaJ0]
  done
 have gJ:((jumpsN b L:Int)=0)=True:=eq_true (by omega)
 by_cases hE1:endsN b L=1
 case neg=>
  have gE:((endsN b L:Int)=1)=False:=eq_false (by omega)
  simp -implicitDefEqProofs only[go_sem,hT,g4,gJ,gE,Nat.add_zero,k1,k6,en0,en1,wJE,gC,bXiaJ0]
  done
 have gE:((endsN b L:Int)=1)=True:=eq_true (by omega)
 by_cases hla2:a=b.length-1
 case neg=>
  have gla:(((a:Nat):Int)=((b.length-1:Nat):Int))=False:=eq_false (by omega)
  simp -implicitDefEqProofs only[go_sem,hT,g4,gJ,gE,gl,wl,wb,h0l,hll,hRl,hpl2,gla,Nat.add_zero,k1,k6,en0,en1,wJE,gC,bXiaJ2]
  done
 have gla:(((a:Nat):Int)=((b.length-1:Nat):Int))=True:=eq_true (by omega)
 have hC0:=hpl hJ hE1 (by rw[←hla2]; exact hlm) hb0
 have hEC6:EC.length=6:=hnil hC0
 have g6:((EC.length:Int)=6)=True:=eq_true (by omega)
 simp -implicitDefEqProofs only[go_sem,hT,g4,gJ,gE,gl,wl,wb,h0l,hll,hRl,hpl2,gla,Nat.add_zero,k1,k6,en0,en1,wJE,gC,g6,bXiaJ2]
end Go.AL
namespace Go.AL
open Go.Proofs Go.ChangeShapes Go.WideShapes Go.ChangeAt Go.RowKit
theorem wt26b {n:Nat} {ds:List D} (h:WT Tryz.prog (n+1) 26 ds):∃ts:List Ty,ds=[.slice .no (rws eT ts)]∧ts.length≤140737488351232:=by
 obtain⟨es,rfl,hl,hr⟩:=wt_slice Tryz.underlying26 h
 obtain⟨ts,rfl⟩:=rws_of (enc:=eT) (fun r hr'=>by
  obtain⟨z,rfl,hz⟩:=wt_int Tryz.underlying5 (hr r hr')
  obtain⟨t,rfl⟩:=wf_u8 hz
  exact⟨t,rfl⟩)
 have hb:Tryz.prog.bytesOf 5=1:=by kernel_rfl
 rw[hb,za1] at hl
 exact⟨ts,rfl,by rw[reach_eq] at hl; omega⟩
theorem wt28c {n:Nat} {ds:List D} (h:WT Tryz.prog (n+7) 28 ds):∃(e:En) (z:Int) (b:List Ty),ds=eCo e z b∧WideE e∧b.length≤140737488351232:=by
 obtain⟨d1,d2,rfl,h1,d3,d4,rfl,h2,d5,d6,rfl,h3,h4⟩:=wt_struct Tryz.underlying28 h
 obtain⟨e,rfl,he⟩:=wt57 h1
 obtain⟨z,rfl,hz⟩:=wt_int Tryz.underlying3 h2
 obtain⟨b,rfl,hb⟩:=wt26b h3
 obtain rfl:d6=[]:=h4
 exact⟨e,z,b,rfl,he,hb⟩
end Go.AL
