import Derived.Test.YtobmoajkfbigkaaGreatLs
import Derived.Test.YtobmoajkfbigkaaGreatLr
import Derived.Test.YtobmoajkfbigkaaGreatLe
import Derived.Test.YtobmoajkfbigkaaGreatLq
set_option linter.unusedSimpArgs false
set_option linter.unusedVariables false
set_option maxRecDepth 100000
set_option maxHeartbeats 4000000
set_option linter.defProp false
namespace Go.AL
open Go.Proofs
section
variable {P : Program} {N : Nat} {T : Env} {σ : St} {Q : XA → Env → St → Prop} {c : AC} {id : Nat}
theorem vc_scope [DSt] [Mo]:vcA P N (.scope c) Q T σ=vcA P N c (scopeA Q) T σ:=rfl
theorem scope_r:scopeA Q .ret T σ=Q .ret T σ:=rfl
attribute [go_sem] vc_scope scope_r
end
theorem callB_underM {P:Program} {N:Nat} {T:Env} {K:Env→St→Prop} {Q:XA→Env→St→Prop} {s:St} {dst:Option Nat} {g:FuncId} {ds:List D} {R:D→St→Prop} {b:Nat} {o:MO} (hb:¬s.has b) (h:RCall P g ds s R)
  (hk:∀d s',R d s'→putK N dst d K T (s'.setM b o)):callB P N [] false dst g ds K Q T (s.setM b o):=by
 have hj:∀s':St,¬s'.has b→St.join s' (({}:St).setM b o)=s'.setM b o:=fun s' hs=>by
  have hm:s'.mp b=none:=not_mp hs
  simp only[St.join,St.setM]
  congr 1
  ·funext x; cases s'.box x <;> rfl
  ·funext x; cases s'.buf x <;> rfl
  ·funext x
   by_cases he:x=b
   ·subst he; simp[hm]
   ·simp[he]
 have hh:∀x,(({}:St).setM b o).has x→x=b:=fun x hx=>by
  simp only[St.has,St.setM] at hx
  by_cases he:x=b
  ·exact he
  ·simp[he] at hx
 refine⟨s,({}:St).setM b o,_,⟨(hj s hb).symm,fun x hx hf=>hb (hh x hf▸hx)⟩,fun b hb=>(by cases hb),h,fun h=>(by cases h),fun x s' ⟨d,hx,hd⟩ hap _=> ?_⟩
 subst hx
 have hb':¬s'.has b:=fun hc=>hap b hc (.inr (.inr (by simp[St.setM])))
 rw[hj s' hb']
 exact hk d s' hd
theorem zero147:ze1 Tryz.prog 147=some [.slice .nil [],.slice .nil [],.int .i64 0,.slice .nil [],.any,.any,.any,.int .i64 0]:=by kernel_rfl
theorem setM_setM {σ:St} {b:Nat} {x y:MO}:(σ.setM b x).setM b y=σ.setM b y:=by
 simp only[St.setM]; congr 1; funext z; split <;> rfl
def goneD (e:En) (loc:Int) (b:List Ty):IS×Int×Nat:=goD e b (fuelD b.length) (is0 b.length (startF e.cs.length (psOf e) loc).1) 0
def aroundR (e:En) (loc:Int) (b:List Ty) (d:D) (s':St):Prop:=
 if mayE e loc≠0 then d= .tup [.nilptr,.int .i64 0,.int .i64 (mayE e loc)]∧s'={}
 else if 4096<b.length then d= .tup [.nilptr,.int .i64 0,.int .i64 4]∧s'={}
 else if(goneD e loc b).2.2≠0 then d= .tup [.nilptr,.int .i64 (goneD e loc b).2.1,.int .i64 (goneD e loc b).2.2]∧s'={}
 else ∃(r:RB) (m:RM) (p:RS),r.ne∧m.of p∧Alike b (goneD e loc b).1 p∧(goneD e loc b).1.sz (b.length+1)∧d= .tup [.ptr r.q 0,.int .i64 0,.int .i64 0]∧s'=stR r e b m p.wh
def bYheF0:=aI @zc1 (aI @zc2 (aI @zb4 (aI @zb3 (aI @za6 (aI @za4 (aI @zb2 (aI @za8 (aI @gdD @zb8))))))))
theorem around79 (e:En) (loc:Int) (b:List Ty) (hw:WideE e) (hb:b.length≤140737488355328):
  RCall Tryz.prog 79 [.agg (eEn e),.int .i64 loc,.slice .no (rws eT b)] {} (aroundR e loc b):=by
 have en1:(eEn e)[1]? =some (.slice .no (rws eSg e.sgs)):=rfl
 have en0:(eEn e)[0]? =some (.slice .no (rws eC e.cs)):=rfl
 have en2:(eEn e)[2]? =some (.int .i64 e.fn):=rfl
 refine F79.rcall rfl fun T hT=> ?_
 simp -implicitDefEqProofs only[go_sem,c79,hT,Nat.mul_one,Nat.add_zero,Nat.zero_add,bYheF0]
 intro b3
 refine za3 (may31 e loc hw) ?_
 by_cases g1:mayE e loc=0
 case neg=>
  have g1':((mayE e loc:Int)=0)=False:=eq_false (by omega)
  simp -implicitDefEqProofs only[go_sem,hT,g1']
  refine⟨_,{},DLe.refl _,St.le.nil _, ?_⟩
  unfold aroundR; rw[if_pos g1]; exact⟨rfl,rfl⟩
 have g1':((mayE e loc:Int)=0)=True:=eq_true (by omega)
 by_cases g2:4096<b.length
 ·have g2':((4096:Int)<b.length)=True:=eq_true (by omega)
  simp -implicitDefEqProofs only[go_sem,hT,g1',g2',Nat.mul_one,Nat.add_zero,Nat.zero_add,bYheF0]
  refine⟨_,{},DLe.refl _,St.le.nil _, ?_⟩
  unfold aroundR; rw[if_neg (by omega),if_pos g2]; exact⟨rfl,rfl⟩
 have g2':((4096:Int)<b.length)=False:=eq_false (by omega)
 have hno:¬(canB e=false∨loc<(psOf e).length∨16<loc):=fun h=>(may_can e loc).2 h g1
 have hcan:canB e=true:=by
  cases h:canB e with
  |true=>rfl
  |false=>exact absurd (.inl h) hno
 obtain⟨hs,h0,hps,hp8,hst⟩:=can_sig hcan
 obtain⟨n,hn⟩:∃n:Nat,e.fn=n:=⟨e.fn.toNat,by omega⟩
 have hn':e.fn.toNat=n:=by omega
 have hs':n<e.sgs.length:=by omega
 have hps2:psOf e=e.sgs[n].ps:=by rw[hps]; simp only[hn']
 have hsg:=rws_at (enc:=eSg) hs'
 have sg0:∀x:Sg,(eSg x)[0]? =some (.slice .no (rws eT x.ps)):=fun _=>rfl
 simp -implicitDefEqProofs only[go_sem,hT,g1',g2',Nat.mul_one,Nat.add_zero,Nat.zero_add,en0,en1,en2,hn,hsg,bYheF0]
 refine⟨⟨⟨by omega,by omega⟩,rfl⟩, ?_⟩
 simp -implicitDefEqProofs only[go_sem,hT,Nat.mul_one,Nat.add_zero,Nat.zero_add,en0,en1,en2,hn,hsg,sg0,bYheF0]
 refine za3 (start68 e.cs .no .no e.sgs[n].ps loc (by rw[←hps2]; omega)) ?_
 rw[←hps2]
 simp -implicitDefEqProofs only[go_sem,hT,Nat.mul_one,Nat.add_zero,Nat.zero_add,en0,en1,en2,bYheF0]
 intro b10 m1 m2
 simp -implicitDefEqProofs only[go_sem,hT,zc1,zc2,zb4,zb3,za6,za4,zb2,za8,gdD,Nat.mul_one,Nat.add_zero,Nat.zero_add,zb8,en0,en1,en2,m1,m2,za2,frz]
 obtain⟨f0,hf0⟩:∃f0,(startF e.cs.length (psOf e) loc).1=f0:=⟨_,rfl⟩
 rw[hf0]
 obtain⟨kf,vf,cf,q1,q2⟩:=(MapR.nil (enc:=dF)).set 0 f0
 obtain⟨kn,vn,cn,q3,q4⟩:=(MapR.nil (enc:=dU)).set 0 ()
 have q1':mset (some .i64) [] [] 0 (kyN 0) (.agg (eFr f0))= .map (some .i64) kf vf cf:=q1
 have q3':mset (some .i64) [] [] 0 (kyN 0) (.agg [])= .map (some .i64) kn vn cn:=q3
 rw[mkmA_map mp143 kk3]
 intro bf hbf
 simp only[set_has,not_or] at hbf
 obtain⟨u1,u2,u3⟩:=hbf
 simp -implicitDefEqProofs only[go_sem,hT,Nat.mul_one,Nat.add_zero,Nat.zero_add,m1,m2,u1,u2,Ne.symm u1,Ne.symm u2,bYheF0]
 rw[updA_map (k:=kyN 0) mp143 kk3 rfl (by rw[setM_mp,if_pos rfl]) rfl]
 simp -implicitDefEqProofs only[go_sem,hT,frz,q1']
 rw[mkmA_map mp144 kk3]
 intro bn hbn
 simp -implicitDefEqProofs only[go_sem,hT]
 rw[updA_map (k:=kyN 0) mp144 kk3 rfl (by rw[setM_mp,if_pos rfl]) rfl]
 simp -implicitDefEqProofs only[go_sem,hT,frz,q3']
 rw[mkmA_map mp145 kk3]
 intro bt hbt
 simp -implicitDefEqProofs only[go_sem,hT,zc1,zc2,zb4,zb3,za6,za4,zb2,za8,gdD,Nat.mul_one,Nat.add_zero,Nat.zero_add,zb8,frz,zero147,eEn]
 intro bq hbq
 have hbn':=hbn
 have hbt':=hbt
 have hbq':=hbq
 obtain⟨r,hr0⟩:∃r:RB,r=⟨bq,bf,bn,bt⟩:=⟨_,rfl⟩
 have hne:r.ne:=by
  rw[hr0]
  refine⟨fun h=> ?_,fun h=> ?_,fun h=> ?_,fun h=> ?_,fun h=> ?_,fun h=> ?_⟩
  ·exact hbq (.inr (.inr (by rw[show bq=bf from h]; simp only[setM_mp]; repeat' split <;> simp)))
  ·exact hbq (.inr (.inr (by rw[show bq=bn from h]; simp only[setM_mp]; repeat' split <;> simp)))
  ·exact hbq (.inr (.inr (by rw[show bq=bt from h]; simp[setM_mp])))
  ·exact hbn (.inr (.inr (by rw[←show bf=bn from h]; simp[setM_mp])))
  ·exact hbt (.inr (.inr (by rw[←show bf=bt from h]; simp only[setM_mp]; repeat' split <;> simp)))
  ·exact hbt (.inr (.inr (by rw[←show bn=bt from h]; simp[setM_mp])))
 obtain⟨m0,hm0⟩:∃m0:RM,m0=⟨kf,vf,cf,kn,vn,cn,[],[],0⟩:=⟨_,rfl⟩
 obtain⟨s0,hs0⟩:∃s0,s0=is0 b.length f0:=⟨_,rfl⟩
 obtain⟨RES,hRES⟩:∃x,goneD e loc b=x:=⟨_,rfl⟩
 have hgo0:goD e b (fuelD b.length) s0 0=RES:=by rw[←hRES,goneD,hf0,←hs0]
 have hF:Falls e.cs e.cs.length:=can_falls hw hcan
 refine loopL F79 (fun x:IS×RS×RM=>[(2,.slice .no (rws eT b)),(12,.ptr r.q 0),(13,.int .i64 0)]) (fun x=>stR r e b x.2.2 x.2.1.wh)
  (fun x=>x.1.sz (b.length+1)∧FH x.1∧Alike b x.1 x.2.1∧x.2.2.of x.2.1∧∃k,muS e.cs x.1 (b.length+1)<k∧goD e b k x.1 (leastD x.1.fresh)=RES)
  (fun x=>muS e.cs x.1 (b.length+1)) (s0,⟨fun x=>if x=0 then some f0 else none,fun x=>if x=0 then some () else none,fun _=>none,0⟩,m0) ?_ ?_ ?_ ?_
 ·have hl0:leastD s0.fresh=((0:Nat):Int):=by
   rw[hs0]; exact least_at (by simp[is0]) (by simp[is0]) (fun j hj=>by omega)
  refine⟨by rw[hs0]; exact⟨by simp[is0],by simp[is0],by simp[is0],by simp[is0]⟩,by rw[hs0]; exact fun x hx=>hx,⟨fun x=> ?_,fun x=> ?_,fun y x=> ?_,fun x hx=> ?_⟩,by rw[hm0]; exact⟨q2,q4,MapR.nil⟩,fuelD b.length, ?_,by rw[hl0]; exact hgo0⟩
  ·simp only[hs0,is0]
   rw[set_at (by simp),set_at (by simp)]
   by_cases hx:x=0
   ·rw[if_pos hx,if_pos hx,if_pos hx]; simp
   ·rw[if_neg hx,if_neg hx,List.getElem?_replicate]; split <;> simp
  ·simp only[hs0,is0]
   rw[set_at (by simp)]
   by_cases hx:x=0
   ·rw[if_pos hx,if_pos hx]; simp
   ·rw[if_neg hx,if_neg hx,List.getElem?_replicate]; split <;> simp
  ·simp only[hs0,is0,List.getElem?_replicate]
   constructor
   ·intro h; cases h
   ·rintro⟨h1,h2⟩; split at h2 <;> simp at h2 <;> omega
  ·exfalso; apply hx
   simp only[hs0,is0,List.getElem?_replicate]; split <;> rfl
  ·have:=muS_le (l:=e.cs) (s:=s0) (m:=b.length+1)
   show muS e.cs s0 (b.length+1)<fuelD b.length
   unfold fuelD
   rw[show b.length+1+1=b.length+2 from rfl] at this
   generalize (b.length+1)*6145*(b.length+2)=P at *
   omega
 ·simp -implicitDefEqProofs only[go_sem,hT,hr0]
 ·have x1:=hne.qf; have x2:=hne.qn; have x3:=hne.qt; have x4:=hne.fn; have x5:=hne.ft; have x6:=hne.nt
  rw[hr0] at x1 x2 x3 x4 x5 x6 ⊢
  simp only at x1 x2 x3 x4 x5 x6
  refine le_stR ?_ ?_ ?_ ?_
  ·rw[St.set_box,if_pos rfl]; rfl
  ·rw[hm0]; simp[set_mp,setM_mp,x4,x5]
  ·rw[hm0]; simp[set_mp,setM_mp,x6]
  ·rw[hm0]; simp[set_mp,setM_mp]
 clear hT T
 rintro⟨s,p,m⟩ ⟨hsz,hFH,hal,hm,k,hk,hgo⟩ T hT
 simp only at hsz hFH hal hm hk hgo hT ⊢
 have kq:=stR_q (r:=r) (e:=e) (b:=b) (m:=m) (wh:=p.wh)
 have kn':=stR_n (e:=e) (b:=b) (m:=m) (wh:=p.wh) hne
 simp -implicitDefEqProofs only[go_sem,hT,zc1,zc2,zb4,zb3,za6,za4,zb2,za8,gdD,Nat.mul_one,Nat.add_zero,Nat.zero_add,zb8,eRn_0,eRn_3,eRn_4,eRn_5,eRn_6,eRn_7,eRn_len,kq]
 rw[mlenA_map mp144 kn']
 obtain⟨k,rfl⟩:∃k',k=k'+1:=⟨k-1,by omega⟩
 by_cases h0:0<m.kn.length
 case neg=>
  have g3:((0:Int)<m.kn.length)=False:=eq_false (by omega)
  have hnone:∀x:Nat,(s.fresh[x]?).getD false=false:=fun x=>by
   cases hf:(s.fresh[x]?).getD false with
   |false=>rfl
   |true=>
    have:=hal.n x
    rw[if_pos hf] at this
    exact absurd (hm.n.more.2 ⟨x,(),this⟩) h0
  rw[least_no (fun j _=>hnone j),goD,if_pos (by omega)] at hgo
  simp -implicitDefEqProofs only[go_sem,hT,g3]
  refine⟨_,_,DLe.refl _,St.le.refl _, ?_⟩
  unfold aroundR
  rw[if_neg (by omega),if_neg g2,hRES,←hgo,if_neg (by simp)]
  exact⟨r,m,p,hne,hm,hal,hsz,rfl,rfl⟩
 have g3:((0:Int)<m.kn.length)=True:=eq_true (by omega)
 simp -implicitDefEqProofs only[go_sem,hT,g3,zc1,zc2,zb4,zb3,za6,za4,zb2,za8,gdD,Nat.mul_one,Nat.add_zero,Nat.zero_add,zb8,eRn_0,eRn_3,eRn_4,eRn_5,eRn_6,eRn_7,eRn_len,kq]
 rw[rangeA_map mp144 kn']
 intro bi hbi
 simp -implicitDefEqProofs only[go_sem,hT]
 obtain⟨i1,i2,i3,i4⟩:=stR_ne hne hbi
 refine loopL F79 (fun x:Nat×List Nat=>[(2,.slice .no (rws eT b)),(12,.ptr r.q 0),(13,.int .i64 0),(14,.int .i64 x.1),(62,.ptr bi 0)]) (fun x=>(stR r e b m p.wh).setM bi (.iter r.n m.cn x.2))
  (fun x=>SeenI m.kn b.length x.2 x.1) (fun x=>unseen m.kn x.2) (b.length,[]) seen_nil ?_ (St.le.refl _) ?_
 ·simp -implicitDefEqProofs only[go_sem,hT]
 clear hT T
 rintro⟨v,seen⟩ hseen T hT
 simp only at hseen hT ⊢
 have hmpi:((stR r e b m p.wh).setM bi (.iter r.n m.cn seen)).mp bi=some (.iter r.n m.cn seen):=by rw[setM_mp,if_pos rfl]
 have hmpn:((stR r e b m p.wh).setM bi (.iter r.n m.cn seen)).mp r.n=some (.map (some .i64) m.kn m.vn m.cn):=by rw[setM_mp,if_neg (Ne.symm i3)]; exact kn'
 simp -implicitDefEqProofs only[go_sem,hT]
 simp only[nextA,hmpi,hmpn]
 refine⟨trivial,fun hall=> ?_,fun i k' st hi hst=> ?_⟩
 ·obtain⟨e1,e2,e3⟩:=seen_end hseen hm.n hal hsz hall h0
  simp -implicitDefEqProofs only[go_sem,hT,zb8,eRn_5,eRn_len,setM_box,kq,gdD]
  obtain⟨kn2,vn2,d1,d2⟩:=hm.n.del v
  have hvF:=hFH v e3
  have hfa:p.ff v=some ((s.fr[v]?).getD (fr0 0)):=by rw[hal.f v,if_pos hvF]
  rw[delA_map (k:=kyN v) mp144 kk3 rfl hmpn rfl,d1]
  have hstate:((stR r e b m p.wh).setM bi (.iter r.n m.cn seen)).setM r.n (.map (some .i64) kn2 vn2 m.cn)=(stR r e b ⟨m.kf,m.vf,m.cf,kn2,vn2,m.cn,m.kt,m.vt,m.ct⟩ p.wh).setM bi (.iter r.n m.cn seen):=by
   simp only[stR,St.setM]
   congr 1
   funext x
   by_cases h1:x=r.n
   ·subst h1; simp[Ne.symm i3,hne.nt]
   ·simp[h1]
  rw[hstate]
  have hm2:RM.of ⟨m.kf,m.vf,m.cf,kn2,vn2,m.cn,m.kt,m.vt,m.ct⟩ ⟨p.ff,fun x=>if x=v then none else p.nn x,p.tt,p.wh⟩:=⟨hm.f,d2,hm.t⟩
  have hal2:Alike b ⟨s.has,s.fr,s.fresh.set v false,s.tk⟩ ⟨p.ff,fun x=>if x=v then none else p.nn x,p.tt,p.wh⟩:=by
   refine⟨hal.f,fun x=> ?_,hal.t,hal.z⟩
   simp only
   rw[set_at (by rw[hsz.c]; omega)]
   by_cases he:x=v
   ·rw[if_pos he,if_pos he]; simp
   ·rw[if_neg he,if_neg he]; exact hal.n x
  simp -implicitDefEqProofs only[go_sem,hT]
  refine callB_underM (stR_off hne hbi) (visit123 r hne e b _ _ hm2 v _ hfa (by omega) (by omega) hw (by have:=hw.1.1; omega)) fun d s' hR=> ?_
  obtain⟨rfl,m3,hm3,rfl⟩:=hR
  obtain⟨v1,v2,v3⟩:=visit_alike (e:=e) (fa:=(s.fr[v]?).getD (fr0 0)) hal2 hsz e2 rfl
  generalize hVP:visitP e b ⟨p.ff,fun x=>if x=v then none else p.nn x,p.tt,p.wh⟩ v ((s.fr[v]?).getD (fr0 0))=VP at hm3 v1 v2 v3 ⊢
  rw[e1,goD,if_neg (by omega),Int.toNat_natCast] at hgo
  have kq3:=stR_q (r:=r) (e:=e) (b:=b) (m:=m3) (wh:=VP.1.wh)
  have hfin:St.le (stR r e b m3 VP.1.wh) ((stR r e b m3 VP.1.wh).setM bi (.iter r.n m.cn seen)):=le_stR (by rw[setM_box]; exact kq3) (by rw[setM_mp,if_neg (Ne.symm i2)]; exact stR_f hne) (by rw[setM_mp,if_neg (Ne.symm i3)]; exact stR_n hne) (by rw[setM_mp,if_neg (Ne.symm i4)]; exact stR_t)
  by_cases g6:VP.2=0
  ·have g6':((VP.2:Int)=0)=True:=eq_true (by omega)
   rw[if_neg (by omega)] at hgo
   have hfall:=round_falls (e:=e) hsz e2 e3
   obtain⟨_,_,_,_,_,_,r6,_,_⟩:=round_shape (e:=e) hsz e2
   simp -implicitDefEqProofs only[go_sem,hT,g6']
   refine⟨((roundD e b s v).1,VP.1,m3),⟨r6,round_FH hFH hsz e2,v3 g6,hm3,k,Nat.lt_of_lt_of_le hfall (Nat.le_of_lt_succ hk),hgo⟩,hfall, ?_,hfin⟩
   rw[g6]; rfl
  ·have g6':((VP.2:Int)=0)=False:=eq_false (by omega)
   rw[if_pos (by omega)] at hgo
   simp -implicitDefEqProofs only[go_sem,hT,g6',zb8,eRn_7,eRn_len,setM_box,kq3,gdD]
   refine⟨_,{},DLe.refl _,St.le.nil _, ?_⟩
   unfold aroundR
   rw[if_neg (by omega),if_neg g2,hRES,←hgo,if_pos (by omega),v1,v2 g6]
   exact⟨rfl,rfl⟩
 ·obtain⟨x,u,rfl,hx,hvx⟩:=hm.n.at hi
  have hlt:=unseen_lt (seen:=seen) hi hst
  rw[setM_setM]
  simp -implicitDefEqProofs only[go_sem,hT]
  have hmpi':((stR r e b m p.wh).setM bi (.iter r.n m.cn (seen++[st]))).mp bi=some (.iter r.n m.cn (seen++[st])):=by rw[setM_mp,if_pos rfl]
  have hmpn':((stR r e b m p.wh).setM bi (.iter r.n m.cn (seen++[st]))).mp r.n=some (.map (some .i64) m.kn m.vn m.cn):=by rw[setM_mp,if_neg (Ne.symm i3)]; exact kn'
  simp only[entryA,hmpi',hmpn',List.getLast?_append,List.getLast?_singleton,Option.some_or]
  refine⟨trivial,i,kyN x,hi, ?_⟩
  simp -implicitDefEqProofs only[go_sem,hT,kyN,Ky.d]
  refine⟨(min v x,seen++[st]),seen_step hseen hm.n.stm hi,hlt, ?_,St.le.refl _⟩
  simp only
  congr 1
  omega
open Go.Proofs
def c81:CT (Tryz.f81.body.getD .skip):=⟨_,by conv=>lhs; cbv⟩
theorem F81:Fun1 Tryz.prog 81 4 c81.1 [.tmp 2]:=mkT Tryz.func81 rfl (by decide +kernel) Tryz.ntmps81 rfl c81.2 rfl
open Go.Proofs
theorem below_keep {M:MMap} {σ:St} {w w':World} (hi:Inv M σ w) (hb:Go.RowKit.Below w.heap.size w w'):Inv M σ w'∧KeepF M σ w M σ w':=by
 have hk:Keep M w M w':=⟨hb.os,hb.tape,hb.output,hb.size,fun b h1 h2=>⟨h2,hb.block b h1⟩,fun b lim c e f h1 h2=>by
  have hl:b<w.heap.size:=hi.dom b (by rw[h1]; simp)
  exact⟨⟨c,by rw[hb.block b hl]; exact h2,rfl,fun _ _=>rfl⟩,.inr ⟨lim,Nat.le_refl _,h1⟩⟩⟩
 have hlt:∀b,σ.has b→w'.heap[b]? =w.heap[b]? :=fun b h=>hb.block b (hi.dom b (hi.lt h))
 refine⟨⟨fun b cs h=>(hi.box b cs h).keep hk rfl (hlt b (.inl (by simp[h]))),fun b s n h=> ?_,fun b o h=>(hi.mp b o h).keep hk rfl (hlt b (.inr (.inr (by simp[h])))),fun b h=>Nat.lt_of_lt_of_le (hi.dom b h) hb.size⟩,⟨hk,fun b h1 _=>⟨rfl,hb.block b (hi.dom b h1)⟩,fun b h=> .inl h⟩⟩
 obtain⟨h1,c,e,cap,h2,h3,h4⟩:=hi.buf b s n h
 exact⟨h1,c,e,cap,by rw[hlt b (.inr (.inl (by simp[h])))]; exact h2,h3,h4⟩
theorem keys81 (b:Nat) (σ:St):RCall Tryz.prog 81 [.map b] σ fun d s'=>∃c,¬σ.has c∧d= .func (.func 126) [] [.ptr c 0]∧s'=σ.set c [.map b]:=by
 refine F81.rcall rfl fun T hT=> ?_
 simp -implicitDefEqProofs only[go_sem,c81,hT,frz]
 intro c hc
 exact⟨_,_,DLe.refl _,St.le.refl _,c,hc,rfl,rfl⟩
end Go.AL
namespace Go.AL
open Go.Proofs Go.RowKit Go.Maps
theorem under3:Tryz.prog.underlying 3=some (.int .i64):=by kernel_rfl
theorem sortsK (m:Nat):AnyZI.SortsIn Tryz.prog Tryz.sortedA_ren Fence.wide m:=
 ⟨fun blk off cap ss W hH hblk hsz=>callsIn_wide.2 (AnyM.slices_Sort_int Tryz.sortA blk off cap ss W hH hblk hsz),
  fun p cap W=>callsIn_wide.2 (AnyM.slices_Sort_int_none Tryz.sortA p cap W)⟩
theorem sortedK {H:Type} (c b nn:Nat) (D0:DataW H) (R:Value→Option (DataW H×List MemPlace)) (w:World) (hc:w.cell? ⟨c,0,none⟩=some (.map (some b))) (hcl:c<w.heap.size) (hown:w.ownsMap Tryz.prog 3 R b nn D0) (hmax:Maps.size D0≤maxLen) (hbytes:Maps.size D0*8≤140737488355328):
  Calls Tryz.prog 80 #[.func (.func 126) #[] #[.pointer (some ⟨c,0,none⟩)]] w fun e w'=>∃(v:Value) (ss:List Int),e= .returned v∧ss.Perm (intKeys D0)∧
   w'.ownsRow w.heap.size 3 1 v ss.length ((ss.mergeSort (fun x y=>decide (x≤y))).map encZ)∧(v= .slice none 0 0↔ss=[])∧Below w.heap.size w w':=by
 have hseq:SeqGives Fence.wide 2 Tryz.prog 126 #[.pointer (some ⟨c,0,none⟩)] encZ (fun ss=>ss.Perm (intKeys D0)) (Maps.size D0) w:=
  AnyZI.keys_gives (ρ:=Tryz.keysA_ren) {Tryz.keysA with} Fence.wide _ trivial rfl (by omega) c b nn D0 w hcl hc hown
 have cS:=AnyZI.sorted_in Tryz.sortedA Fence.wide 5 trivial trivial trivial trivial rfl (by omega) (sortsK _) (enters_of Tryz.func125 (by kernel_rfl) rfl) 126 #[.pointer (some ⟨c,0,none⟩)] trivial (enters_of Tryz.func126 (by kernel_rfl) rfl) _ _ hmax hbytes w hseq
 exact callsIn_wide.1 cS
end Go.AL
namespace Go.AL
open Go.Proofs Go.RowKit Go.Maps Go.WideElems Go.MapKept
def kyI:Ky→Int
 | .int _ n=>n
 | .str _=>0
def rdU (_:Value):Option (DataW Unit×List MemPlace):=some (.nil,[])
theorem ky_inj:∀{a b:Ky},a.v=b.v→a=b
 | .int k n,.int k' n',h=>by simp only[Ky.v,Value.int.injEq] at h; obtain⟨rfl,rfl⟩:=h; rfl
 | .str s,.str s',h=>by simp only[Ky.v,Value.string.injEq] at h; rw[h]
 | .int _ _,.str _,h=>by simp[Ky.v] at h
 | .str _,.int _ _,h=>by simp[Ky.v] at h
theorem own_map {M:MMap} {w:World} {b:Nat} {ks:List (Ky×Nat)} {vs:List D} {clock:Nat} (h:MpAt M w b (.map (some .i64) ks vs clock)) (hk:∀p∈ks,∃n,p.1=kyN n∧n≤5000) (hl:ks.length≤5000):
  ∃D0:DataW Unit,w.ownsMap Tryz.prog 3 rdU b 5000 D0∧Maps.size D0=ks.length∧(intKeys D0).Perm (ks.map fun p=>kyI p.1):=by
 obtain⟨_,x,hx,es,rfl,h1,h2,h3,h4,h5,h6,h7⟩:=h
 have hlen:es.toList.length=ks.length:=by have:=congrArg List.length h1; simpa using this
 have key:∀y∈es.toList,∃n:Nat,n≤5000∧y.key= .int .i64 (n:Int):=fun y hy=>by
  have:y.key∈ks.map (·.1.v):=by rw[←h1]; exact List.mem_map.2 ⟨y,hy,rfl⟩
  obtain⟨p,hp,he⟩:=List.mem_map.1 this
  obtain⟨n,hn,hle⟩:=hk p hp
  exact⟨n,hle,by rw[←he,hn]; rfl⟩
 have hrd:∀y∈es.toList,∃n:Nat,y.key= .int .i64 (n:Int)∧rd Tryz.prog 3 rdU y=some (.int .i64 (n:Int),.nil):=fun y hy=>by
  obtain⟨n,hn,he⟩:=key y hy
  refine⟨n,he, ?_⟩
  have hko:keyOf Tryz.prog 3 y.key=some (.int .i64 (n:Int)):=by
   rw[he]
   exact keyOf_int_mk under3 (by
    have e1:IntKind.min .i64= -9223372036854775808:=by decide
    have e2:IntKind.max .i64=9223372036854775807:=by decide
    simp only[Lit.wf,e1,e2,Bool.and_eq_true,decide_eq_true_eq]; omega)
  simp[rd,hko,rdU]
 have hmax:maxLen=9223372036854775807∨5000≤maxLen:= .inr (by decide)
 have hsz:es.size=ks.length:=by simpa using hlen
 refine⟨.map ((es.toList.map (WideElems.rg Tryz.prog 3 rdU)).foldr DataW.insert []),⟨es,clock,hx,⟨?_, ?_,fun y hy=> ?_⟩,by omega,rfl⟩, ?_, ?_⟩
 ·rw[hsz]; rcases hmax with h|h <;> omega
 ·rw[stamped_iff]
  refine⟨fun y hy=> ?_,by rw[h2]; exact h5, ?_⟩
  ·have:y.born∈ks.map (·.2):=by rw[←h2]; exact List.mem_map.2 ⟨y,hy,rfl⟩
   obtain⟨p,hp,he⟩:=List.mem_map.1 this
   rw[←he]; exact h6 p hp
  ·have:(es.toList.map (·.key)).Pairwise (· ≠ ·):=by
    rw[h1,List.pairwise_map]
    have hn:(ks.map (·.1)).Pairwise (· ≠ ·):=h4
    rw[List.pairwise_map] at hn
    exact hn.imp fun hne he=>hne (ky_inj he)
   rwa[List.pairwise_map] at this
 ·obtain⟨n,_,h⟩:=hrd y hy; exact⟨_,h⟩
 ·show List.length _=_
  rw[length_sorted,List.length_map,hlen]
 ·show(List.map (fun p:Lit×DataW Unit=>intOf p.1) _).Perm _
  refine((WideShapes.sorted_perm _).map _).trans ?_
  rw[List.map_map]
  have e1:es.toList.map ((fun p:Lit×DataW Unit=>intOf p.1)∘WideElems.rg Tryz.prog 3 rdU)=(es.toList.map (·.key)).map fun v=>match v with| .int _ n=>n|_=>0:=by
   rw[List.map_map]
   refine List.map_congr_left fun y hy=> ?_
   obtain⟨n,hn,hr⟩:=hrd y hy
   simp only[Function.comp,rg_of hr,hn,intOf]
  rw[e1,h1,List.map_map]
  refine List.Perm.of_eq (List.map_congr_left fun p hp=> ?_)
  obtain⟨n,hn,_⟩:=hk p hp
  simp[Function.comp,hn,kyN,Ky.v,kyI]
theorem sorted80 (s:St) (c b:Nat) (ks:List (Ky×Nat)) (vs:List D) (clock:Nat) (hc:s.box c=some [.map b]) (hb:s.mp b=some (.map (some .i64) ks vs clock)) (hk:∀p∈ks,∃n,p.1=kyN n∧n≤5000) (hl:ks.length≤5000):
  RCall Tryz.prog 80 [.func (.func 126) [] [.ptr c 0]] s fun d s'=>d= .slice .no ((sortZ (ks.map fun p=>kyI p.1)).map fun z=>[eZ z])∧s'=s:=by
 refine⟨⟨_,Tryz.func80,by kernel_rfl,rfl⟩,fun M w vs' hi hv=> ?_⟩
 obtain⟨v,vs2,rfl,⟨vf,vc,rfl,hf,hcap⟩,hv2⟩:=hv
 obtain rfl:vs2=[]:=hv2
 have hf:vf.toList=[]:=hf
 obtain⟨pv,pr,hp1,hp2,hp3⟩:=hcap
 obtain rfl:pr=[]:=hp3
 have hp2:pv= .pointer (some ⟨c,0,none⟩):=hp2
 obtain rfl:vf= #[]:=by simpa using hf
 obtain rfl:vc= #[.pointer (some ⟨c,0,none⟩)]:=by
  apply Array.toList_inj.1; rw[hp1,hp2]
 obtain⟨hM,cc,e,hheap,hrep,hone⟩:=hi.box c _ hc
 obtain⟨v1,r1,hr1,hr2,hr3⟩:=hrep
 obtain rfl:r1=[]:=hr3
 have hr2:v1= .map (some b):=hr2
 have hcell:w.cell? ⟨c,0,none⟩=some (.map (some b)):=by
  refine cell_of hheap ?_
  rw[←Array.getElem?_toList,hr1,hr2]; rfl
 obtain⟨D0,o1,o2,o3⟩:=own_map (hi.mp b _ hb) hk hl
 have hmax:5000≤maxLen:=by decide
 refine(sortedK c b 5000 D0 rdU w hcell (heap_lt hheap) o1 (by omega) (by omega)).mono fun ev w' ⟨v,ss,he,hp,hown,hnil,hbel⟩=> ?_
 subst he
 obtain⟨k1,k2⟩:=below_keep hi hbel
 refine⟨M,s,.ret _,⟨v,rfl, ?_⟩,k1,k2,_,rfl,rfl,rfl⟩
 have hss:ss.mergeSort (fun x y=>decide (x≤y))=sortZ (ks.map fun p=>kyI p.1):=mergeSort_of_perm_i (hp.trans o3)
 rw[hss] at hown
 have hlen:(sortZ (ks.map fun p=>kyI p.1)).length=ss.length:=by rw[←hss,List.length_mergeSort]
 generalize sortZ (ks.map fun p=>kyI p.1)=zs at hown hlen
 obtain⟨ho1,ho2⟩:=hown
 rcases ho2 with⟨rfl,h0⟩|⟨g,cap,cur,rfl,hg,hcur,hle,hcm,hcs,htake⟩
 ·refine .inl ⟨rfl, ?_⟩
  rw[h0] at hlen
  rw[List.eq_nil_of_length_eq_zero hlen]; rfl
 ·refine .inr (.inl ⟨g,0,cap,1,by simp[hlen],by simpa[hlen] using hle, ?_⟩)
  have hMg:M g=none:=by
   cases hm:M g with
   |none=>rfl
   |some x=>have:=hi.dom g (by rw[hm]; simp); omega
  refine RepRows.mk fun i r hr=> ?_
  rw[List.getElem?_map] at hr
  cases hz:zs[i]? with
  |none=>rw[hz] at hr; simp at hr
  |some z=>
   rw[hz] at hr
   simp only[Option.map_some,Option.some.injEq] at hr
   subst hr
   refine⟨rfl,RepCells.mk fun j d hd=> ?_⟩
   cases j with
   |succ j=>simp at hd
   |zero=>
    simp only[List.getElem?_cons_zero,Option.some.injEq] at hd
    subst hd
    refine⟨encZ z, ?_,rfl,by simp[ImmAt,hMg],rfl⟩
    have h1:(cur.toList.take (ss.length*1))[i]? =some (encZ z):=by rw[htake,List.getElem?_map,hz]; rfl
    rw[List.getElem?_take] at h1
    split at h1
    ·refine cell_of hcur ?_
     rw[←Array.getElem?_toList]
     simpa using h1
    ·cases h1
open Go.Proofs
theorem least_neg {l:List Bool} (h:leastD l<0) (x:Nat):(l[x]?).getD false=false:=by
 unfold leastD at h
 split at h
 ·omega
 ·rename_i hn
  rw[List.findIdx?_eq_none_iff] at hn
  cases hx:l[x]? with
  |none=>rfl
  |some v=>exact hn v (List.mem_of_getElem? hx)
theorem goD_ind {e:En} {b:List Ty} {I:IS→Prop} (hI:∀(s:IS) (a:Nat),s.sz (b.length+1)→FH s→I s→a≤b.length→(s.fresh[a]?).getD false=true→leastD s.fresh=a→(roundD e b s a).2.2=0→I (roundD e b s a).1):
  ∀(k:Nat) (s:IS),s.sz (b.length+1)→FH s→muS e.cs s (b.length+1)<k→I s→(goD e b k s (leastD s.fresh)).2.2=0→
   ∃r:IS,goD e b k s (leastD s.fresh)=(r,0,0)∧r.sz (b.length+1)∧FH r∧I r∧∀x:Nat,(r.fresh[x]?).getD false=false
 |0,s,_,_,hk,_,_=>absurd hk (Nat.not_lt_zero _)
 |k+1,s,hs,hf,hk,hi,h=>by
  rw[goD] at h ⊢
  by_cases h0:leastD s.fresh<0
  ·rw[if_pos h0]
   exact⟨s,rfl,hs,hf,hi,least_neg h0⟩
  ·rw[if_neg h0] at h ⊢
   obtain⟨a,ha⟩:∃a:Nat,leastD s.fresh=a:=⟨_,(Int.toNat_of_nonneg (by omega)).symm⟩
   obtain⟨h1,h2⟩:=least_in ha (by omega)
   rw[Int.toNat_natCast] at h1 h2
   rw[hs.c] at h1
   rw[ha,Int.toNat_natCast] at h ⊢
   have hal:a≤b.length:=by omega
   by_cases hr:(roundD e b s a).2.2=0
   ·have hr':¬(roundD e b s a).2.2≠0:=fun h=>h hr
    rw[if_neg hr'] at h ⊢
    obtain⟨_,_,_,_,_,_,r6,_,_⟩:=round_shape (e:=e) hs hal
    exact goD_ind hI k _ r6 (round_FH hf hs hal) (Nat.lt_of_lt_of_le (round_falls (e:=e) hs hal h2) (Nat.le_of_lt_succ hk)) (hI s a hs hf hi hal h2 ha hr) h
   ·rw[if_pos hr] at h; exact absurd h hr
theorem is0_sz {n:Nat} {f:Fr}:(is0 n f).sz (n+1):=⟨by simp[is0],by simp[is0],by simp[is0],by simp[is0]⟩
theorem is0_FH {n:Nat} {f:Fr}:FH (is0 n f):=fun x hx=>hx
theorem is0_has {n:Nat} {f:Fr} {x:Nat}:((is0 n f).has[x]?).getD false=decide (x=0):=by
 simp only[is0]
 rw[set_at (by simp)]
 by_cases hx:x=0
 ·rw[if_pos hx]; simp[hx]
 ·rw[if_neg hx,List.getElem?_replicate]; split <;> simp[hx]
theorem is0_least {n:Nat} {f:Fr}:leastD (is0 n f).fresh=((0:Nat):Int):=least_at (by simp[is0]) (by simp[is0]) (fun j hj=>by omega)
theorem is0_mu {l:List Cl} {n:Nat} {f:Fr}:muS l (is0 n f) (n+1)<fuelD n:=by
 have:=muS_le (l:=l) (s:=is0 n f) (m:=n+1)
 unfold fuelD
 rw[show n+1+1=n+2 from rfl] at this
 generalize (n+1)*6145*(n+2)=P at *
 omega
theorem gone_ind {e:En} {loc:Int} {b:List Ty} {I:IS→Prop} (hI:∀(s:IS) (a:Nat),s.sz (b.length+1)→FH s→I s→a≤b.length→(s.fresh[a]?).getD false=true→leastD s.fresh=a→(roundD e b s a).2.2=0→I (roundD e b s a).1)
  (h0:I (is0 b.length (startF e.cs.length (psOf e) loc).1)) (h:(goneD e loc b).2.2=0):
  ∃r:IS,goneD e loc b=(r,0,0)∧r.sz (b.length+1)∧FH r∧I r∧∀x:Nat,(r.fresh[x]?).getD false=false:=by
 have hl:(0:Int)=leastD (is0 b.length (startF e.cs.length (psOf e) loc).1).fresh:=is0_least.symm
 unfold goneD at h ⊢
 rw[hl] at h ⊢
 exact goD_ind hI _ _ is0_sz is0_FH is0_mu h0 h
def EndI (n:Nat) (s:IS):Prop:=(s.has[n]?).getD false=true→(s.fresh[n]?).getD false=true
theorem hand_end {l:List Cl} {s:IS} {m a n:Nat} {g:Fr} (h:EndI n s) (hs:s.sz m) (ha:a<m):EndI n (handD l s a g).1:=by
 unfold handD
 split
 ·intro hx
  simp only at hx ⊢
  rw[set_at (by rw[hs.c]; omega)]
  rw[set_at (by rw[hs.a]; omega)] at hx
  by_cases he:n=a
  ·rw[if_pos he]
  ·rw[if_neg he] at hx ⊢; exact h hx
 split
 ·exact h
 split
 ·intro hx
  simp only at hx ⊢
  rw[set_at (by rw[hs.c]; omega)]
  by_cases he:n=a
  ·rw[if_pos he]
  ·rw[if_neg he]; exact h hx
 ·exact h
theorem hands_end {l:List Cl} {m n:Nat} {g:Fr}:∀{to:List Int} {s:IS},EndI n s→s.sz m→(∀x∈to,0≤x∧x<m)→EndI n (handsD l g to s).1
 |[],s,h,_,_=>h
 |a::r,s,h,hs,ht=>by
  have h1:=hand_end (l:=l) (g:=g) h hs (show a.toNat<m by have:=ht a (List.mem_cons_self ..); omega)
  rw[handsD]
  split
  ·exact h1
  ·exact hands_end h1 (hand_sz hs) fun x hx=>ht x (List.mem_cons_of_mem _ hx)
theorem round_ok {e:En} {b:List Ty} {s:IS} {a:Nat} (h:(roundD e b s a).2.2=0):
  a≠b.length∧(decF b a).2=0∧overB s.tk a (zf4 (decF b a).1.op.val)=false∧(applyR e ((s.fr[a]?).getD (fr0 0)) (decF b a).1).2=0∧(onD (decF b a).1 b.length).2=0∧
   roundD e b s a=handsD e.cs (applyR e ((s.fr[a]?).getD (fr0 0)) (decF b a).1).1 (onD (decF b a).1 b.length).1 ⟨s.has,s.fr,s.fresh.set a false,s.tk.set a (zf4 (decF b a).1.op.val)⟩:=by
 by_cases g1:a=b.length
 ·unfold roundD at h; rw[if_pos g1] at h; cases h
 by_cases g2:(decF b a).2=0
 case neg=>unfold roundD at h; rw[if_neg g1,if_pos g2] at h; exact absurd h g2
 have q2:¬(decF b a).2≠0:=fun h=>h g2
 cases g3:overB s.tk a (zf4 (decF b a).1.op.val)
 case true=>unfold roundD at h; rw[if_neg g1,if_neg q2,if_pos g3] at h; cases h
 have q3:¬overB s.tk a (zf4 (decF b a).1.op.val)=true:=by rw[g3]; simp
 by_cases g4:(applyR e ((s.fr[a]?).getD (fr0 0)) (decF b a).1).2=0
 case neg=>unfold roundD at h; rw[if_neg g1,if_neg q2,if_neg q3] at h; simp only at h; rw[if_pos g4] at h; exact absurd h g4
 have q4:¬(applyR e ((s.fr[a]?).getD (fr0 0)) (decF b a).1).2≠0:=fun h=>h g4
 by_cases g5:(onD (decF b a).1 b.length).2=0
 case neg=>unfold roundD at h; rw[if_neg g1,if_neg q2,if_neg q3] at h; simp only at h; rw[if_neg q4,if_pos g5] at h; exact absurd h g5
 have q5:¬(onD (decF b a).1 b.length).2≠0:=fun h=>h g5
 refine⟨g1,g2,rfl,g4,g5, ?_⟩
 unfold roundD; rw[if_neg g1,if_neg q2,if_neg q3]; simp only; rw[if_neg q4,if_neg q5]
theorem round_end {e:En} {b:List Ty} {s:IS} {a:Nat} (hi:EndI b.length s) (hs:s.sz (b.length+1)) (ha:a≤b.length) (h:(roundD e b s a).2.2=0):EndI b.length (roundD e b s a).1:=by
 obtain⟨h1,h2,h3,h4,h5,h6⟩:=round_ok h
 rw[h6]
 refine hands_end (m:=b.length+1) ?_ ⟨hs.a,hs.b,by simpa using hs.c,by simpa using hs.d⟩ fun x hx=>by have:=on_in h2 hx; omega
 intro hx
 simp only
 rw[set_at (by rw[hs.c]; omega),if_neg (Ne.symm h1)]
 exact hi hx
theorem gone_end {e:En} {loc:Int} {b:List Ty} (h:(goneD e loc b).2.2=0):((goneD e loc b).1.has[b.length]?).getD false=false:=by
 obtain⟨r,h1,h2,h3,h4,h5⟩:=gone_ind (I:=EndI b.length) (fun s a hs hf hi ha _ _ hr=>round_end hi hs ha hr) (fun hx=>by
  have h0:=hx; rw[is0_has] at h0; simp only[decide_eq_true_eq] at h0
  simp[is0,h0]) h
 rw[h1]
 cases hx:(r.has[b.length]?).getD false with
 |false=>rfl
 |true=>have:=h4 hx; rw[h5] at this; cases this
open Go.Proofs
instance moY:Mo:=⟨fun t=>t==123||t==124||t==29,fun t=>t==143||t==144||t==145,fun t=>t==29||t==50⟩
theorem apsY {t:TypeId}:@Mo.aps moY t=(t==29||t==50):=rfl
attribute [go_sem] apsY
abbrev Li:=Option (Nat×Nat)
def rD (o:Li) (n:Nat):D:=match o with
 |none=> .slice .nil []
 |some p=> .bsl p.1 0 n p.2
def rS (o:Li) (X:List D) (σ:St):St:=match o with
 |none=>σ
 |some p=>σ.set p.1 X
def rO (o:Li) (n:Nat) (X:List D) (σ:St):Prop:=match o with
 |none=>n=0
 |some p=>¬σ.has p.1∧n≤p.2∧X.length=p.2*28
def liX (o:Li) (es:List Ey):List D:=match o with
 |none=>[]
 |some p=>fl eEy es++List.replicate ((p.2-es.length)*28) .any
theorem liX_len {p:Nat×Nat} {es:List Ey} (h:es.length≤p.2):(liX (some p) es).length=p.2*28:=by
 simp only[liX,List.length_append,fl_len zb5,List.length_replicate]
 rw[←Nat.add_mul]; congr 1; omega
theorem rO_has {o:Li} {n:Nat} {X Y:List D} {σ σ':St} (h:rO o n X σ) (hs:∀x,σ'.has x→σ.has x) (hl:∀p,o=some p→Y.length=p.2*28):rO o n Y σ':=by
 cases o with
 |none=>exact h
 |some p=>exact⟨fun hx=>h.1 (hs _ hx),h.2.1,hl p rfl⟩
theorem rS_has {o:Li} {X:List D} {σ:St} {x:Nat}:(rS o X σ).has x↔(∃p,o=some p∧x=p.1)∨σ.has x:=by
 cases o with
 |none=>simp[rS]
 |some p=>
  simp only[rS,set_has]
  constructor
  ·rintro(h|h)
   ·exact .inl ⟨p,rfl,h⟩
   ·exact .inr h
  ·rintro(⟨q,hq,h⟩|h)
   ·cases hq; exact .inl h
   ·exact .inr h
section
variable {N : Nat} {d : Option Nat} {K : Env → St → Prop} {T : Env} {σ : St}
theorem le_new {σ:St} {b b':Nat} {X Y:List D} (h:¬σ.has b):St.le (σ.set b' Y) ((σ.set b X).set b' Y):=le_set (le_add h)
theorem li_app {o:Li} {es:List Ey} {x:Ey} (ho:rO o es.length (liX o es) σ) (hl:es.length≤100000)
  (hk:∀o' σ',(∃p,o'=some p)→rO o' (es++[x]).length (liX o' (es++[x])) σ→St.le (rS o' (liX o' (es++[x])) σ) σ'→putK N d (rD o' (es++[x]).length) K T σ'):
  apK Tryz.prog N d true 50 50 (rD o es.length) (.slice .exact [eEy x]) K T (rS o (liX o es) σ):=by
 show appendB Tryz.prog N d 50 50 (rD o es.length) (.slice .exact [eEy x]) K T (rS o (liX o es) σ)
 have hn:(es++[x]).length=es.length+1:=by simp
 have hf:[eEy x].flatten=eEy x:=by simp
 have he:∀r∈[eEy x],r.length=28:=fun r hr=>by rw[List.mem_singleton] at hr; rw[hr,zb5]
 have hfl:fl eEy (es++[x])=fl eEy es++eEy x:=by rw[fl_app]; simp[fl,rws]
 rw[hn] at hk
 cases o with
 |none=>
  have hes:es=[]:=List.eq_nil_of_length_eq_zero ho
  subst hes
  simp only[appendB,rD,rS,Tryz.sli50,Tryz.sz86,Tryz.by86,Tryz.zero86,Option.map_some,true_and]
  refine⟨by simp,by omega,by omega,he,by simp,by simp,fun b cap h1 h2=> ?_⟩
  have h3:1≤cap:=by simpa using h2
  refine hk (some (b,cap)) _ ⟨_,rfl⟩ ⟨h1,h3,liX_len (by simpa using h3)⟩ ?_
  simp only[rS,liX,hfl,hf]
  exact St.le.refl _
 |some p=>
  obtain⟨h1,h2,h3⟩:=ho
  obtain⟨b,cap⟩:=p
  simp only at h1 h2 h3
  have hbox:(rS (some (b,cap)) (liX (some (b,cap)) es) σ).box b=some (liX (some (b,cap)) es):=by simp[rS,St.set_box]
  simp only[appendB,rD,hbox,Tryz.sli50,Tryz.sz86,Tryz.by86,Tryz.zero86,Option.map_some,true_and]
  have hlen:(fl eEy es).length=es.length*28:=fl_len zb5 es
  refine⟨by simp,by omega,by omega,he,h2,h3,by simp; omega,fun h=> ?_,fun h b' cap' h4 h5=> ?_⟩
  ·simp only[List.length_cons,List.length_nil,Nat.zero_add] at h ⊢
   refine hk (some (b,cap)) _ ⟨_,rfl⟩ ⟨h1,h,liX_len (by simpa using h)⟩ ?_
   have hlay:layD (liX (some (b,cap)) es) (es.length*28) (eEy x)=liX (some (b,cap)) (es++[x]):=by
    simp only[layD,liX,hfl]
    rw[List.take_left' hlen,List.drop_append,List.drop_eq_nil_of_le (by rw[hlen]; omega),hlen,zb5,hn]
    simp only[List.nil_append,List.drop_replicate,List.append_assoc]
    congr 3
    omega
   rw[hf,hlay]
   simp only[rS]
   rw[za2]
   exact St.le.refl _
  ·simp only[List.length_cons,List.length_nil,Nat.zero_add] at h h5 ⊢
   refine hk (some (b',cap')) _ ⟨_,rfl⟩ ⟨fun hx=>h4 (rS_has.2 (.inr hx)),h5,liX_len (by simpa using h5)⟩ ?_
   have hlay:(liX (some (b,cap)) es).take (es.length*28)++[eEy x].flatten++List.replicate ((cap'-(es.length+1))*28) D.any=liX (some (b',cap')) (es++[x]):=by
    simp only[liX,hfl,hf,hn]
    rw[List.take_left' hlen]
   rw[hlay]
   simp only[rS]
   exact le_new h1
theorem r_app {o:Li} {n:Nat} {X r:List D} (hr:r.length=28) (ho:rO o n X σ) (hl:n≤100000)
  (hk:∀o' X' σ',rO o' (n+1) X' σ→St.le (rS o' X' σ) σ'→putK N d (rD o' (n+1)) K T σ'):
  apK Tryz.prog N d true 50 50 (rD o n) (.slice .exact [r]) K T (rS o X σ):=by
 show appendB Tryz.prog N d 50 50 (rD o n) (.slice .exact [r]) K T (rS o X σ)
 have hf:[r].flatten=r:=by simp
 have he:∀q∈[r],q.length=28:=fun q hq=>by rw[List.mem_singleton] at hq; rw[hq,hr]
 cases o with
 |none=>
  have h0:n=0:=ho
  subst h0
  simp only[appendB,rD,rS,Tryz.sli50,Tryz.sz86,Tryz.by86,Tryz.zero86,Option.map_some,true_and]
  refine⟨by simp,by omega,by omega,he,by simp,by simp,fun b cap h1 h2=> ?_⟩
  have h3:1≤cap:=by simpa using h2
  refine hk (some (b,cap)) _ _ ⟨h1,h3, ?_⟩ (St.le.refl _)
  simp only[hf,List.length_append,hr,List.length_replicate,List.length_cons,List.length_nil]; omega
 |some p=>
  obtain⟨h1,h2,h3⟩:=ho
  obtain⟨b,cap⟩:=p
  simp only at h1 h2 h3
  have hbox:(rS (some (b,cap)) X σ).box b=some X:=by simp[rS,St.set_box]
  simp only[appendB,rD,hbox,Tryz.sli50,Tryz.sz86,Tryz.by86,Tryz.zero86,Option.map_some,true_and]
  refine⟨by simp,by omega,by omega,he,h2,h3,by simp; omega,fun h=> ?_,fun h b' cap' h4 h5=> ?_⟩
  ·simp only[List.length_cons,List.length_nil,Nat.zero_add] at h ⊢
   refine hk (some (b,cap)) (layD X (n*28) [r].flatten) _ ⟨h1,h, ?_⟩ ?_
   ·simp only[layD,hf,List.length_append,List.length_take,List.length_drop,hr,h3]; omega
   ·simp only[rS]; rw[za2]; exact St.le.refl _
  ·simp only[List.length_cons,List.length_nil,Nat.zero_add] at h h5 ⊢
   refine hk (some (b',cap')) _ _ ⟨fun hx=>h4 (rS_has.2 (.inr hx)),h5, ?_⟩ (by simp only[rS]; exact le_new h1)
   simp only[hf,List.length_append,List.length_take,hr,List.length_replicate,h3]; omega
end
section
variable {P : Program} {N : Nat} {T : Env} {σ : St} {K : Env → St → Prop} {Q : XA → Env → St → Prop}
theorem rS_join {o:Li} {X:List D} (h:∀p,o=some p→¬σ.has p.1):St.join (rS o X {}) σ=rS o X σ:=by
 cases o with
 |none=>simp[rS,St.join]
 |some p=>exact join_new (h p rfl)
theorem callB_li {dst:Option Nat} {g:FuncId} {ds:List D} {R:D→St→Prop} (h:RCall P g ds {} R)
  (hk:∀d s',R d s'→∃o X,s'=rS o X {}∧((∀p,o=some p→¬σ.has p.1)→putK N dst d K T (rS o X σ))):callB P N [] false dst g ds K Q T σ:=by
 refine⟨{},σ,_,.pure σ,fun b hb=>(by cases hb),h,fun h=>(by cases h),fun x s' ⟨d,hx,hR⟩ hap _=> ?_⟩
 subst hx
 obtain⟨o,X,rfl,hp⟩:=hk d s' hR
 have hf:∀p,o=some p→¬σ.has p.1:=fun p hp=>hap p.1 (rS_has.2 (.inl ⟨p,hp,rfl⟩))
 show putK N dst d K T _
 rw[rS_join hf]; exact hp hf
theorem callB_look {dst:Option Nat} {g:FuncId} {ds:List D} {o:Li} {X:List D} {d:D} (ho:∀p,o=some p→¬σ.has p.1) (h:RCall P g ds (rS o X {}) fun d' s'=>d'=d∧s'=rS o X {}) (hk:putK N dst d K T (rS o X σ)):callB P N [] false dst g ds K Q T (rS o X σ):=by
 refine⟨rS o X {},σ,_,⟨(rS_join ho).symm,fun b hb hs=> ?_⟩,fun b hb=>(by cases hb),h,fun h=>(by cases h),fun x s' ⟨d',hx,hR,hs⟩ hap _=> ?_⟩
 ·rcases rS_has.1 hb with⟨p,hp,rfl⟩|hb
  ·exact ho p hp hs
  ·exact St.not_has_nil _ hb
 ·subst hx; subst hs; subst hR
  show putK N dst d' K T _
  rw[rS_join ho]; exact hk
end
open Go.Proofs
def c10:CT (Tryz.f10.body.getD .skip):=⟨_,by conv=>lhs; cbv⟩
theorem F10:Fun1 Tryz.prog 10 95 c10.1 [.tmp 6]:=mkT Tryz.func10 rfl (by decide +kernel) Tryz.ntmps10 rfl c10.2 rfl
def c41:CT (Tryz.f41.body.getD .skip):=⟨_,by conv=>lhs; cbv⟩
theorem F41:Fun1 Tryz.prog 41 51 c41.1 [.tmp 6,.tmp 7,.tmp 8]:=mkT Tryz.func41 rfl (by decide +kernel) Tryz.ntmps41 rfl c41.2 rfl
def c42:CT (Tryz.f42.body.getD .skip):=⟨_,by conv=>lhs; cbv⟩
theorem F42:Fun1 Tryz.prog 42 26 c42.1 [.tmp 4]:=mkT Tryz.func42 rfl (by decide +kernel) Tryz.ntmps42 rfl c42.2 rfl
open Go.Proofs
theorem filterMap_if {α β:Type} {p:α→Bool} {g:α→β}:∀l:List α,(l.filterMap fun a=>if p a=true then some (g a) else none)=(l.filter p).map g
 |[]=>rfl
 |a::l=>by
  rw[List.filterMap_cons,List.filter_cons,filterMap_if l]
  cases p a <;> simp
def adrs (s:IS) (n:Nat):List Nat:=(List.range n).filter fun a=>(s.has[a]?).getD false
theorem ents_adrs (s:IS) (n:Nat):entsD s n=(adrs s n).map fun a:Nat=>(⟨(a:Int),false,(s.fr[a]?).getD (fr0 0)⟩:Ey):=by
 unfold entsD adrs
 rw[←filterMap_if]
theorem sort_sorted {l:List Int} (h:l.Pairwise (· ≤ ·)):sortZ l=l:=by
 unfold sortZ
 exact List.mergeSort_of_pairwise (h.imp fun h=>by simpa using h)
theorem keys_adrs {b:List Ty} {s:IS} {p:RS} {ks:List (Ky×Nat)} {vs:List D} {c:Nat} (hal:Alike b s p) (hm:MapR dF p.ff ks vs c) (hsz:s.sz (b.length+1)) (hend:(s.has[b.length]?).getD false=false):
  sortZ (ks.map fun p=>kyI p.1)=(adrs s b.length).map fun n:Nat=>(n:Int):=by
 have hmem:∀x:Nat,(s.has[x]?).getD false=true↔∃q∈ks,q.1=kyN x:=fun x=>by
  have hx:=hal.f x
  constructor
  ·intro hf
   rw[if_pos hf] at hx
   obtain⟨j,h1,_⟩:=hm.yes x _ hx
   obtain⟨t,ht⟩:=kf_some h1
   exact⟨_,List.mem_of_getElem? ht,rfl⟩
  ·rintro⟨q,hq,he⟩
   refine Classical.byContradiction fun hc=> ?_
   rw[if_neg hc] at hx
   exact kf_none (hm.no x hx) q hq he
 have hsorted:((adrs s b.length).map fun n:Nat=>(n:Int)).Pairwise (· ≤ ·):=by
  rw[List.pairwise_map]
  exact(List.Pairwise.filter _ List.pairwise_lt_range).imp fun h=>by omega
 rw[←sort_sorted hsorted]
 refine mergeSort_of_perm_i ((List.perm_ext_iff_of_nodup ?_ ?_).2 fun z=> ?_)
 ·have hn:=hm.nod
  have:ks.map (fun p=>kyI p.1)=(ks.map (·.1)).map kyI:=by rw[List.map_map]; rfl
  rw[this]
  refine List.pairwise_map.2 (List.Pairwise.imp_of_mem (R:=(· ≠ ·)) ?_ hn)
  intro x y hx hy hne he
  obtain⟨px,hpx,rfl⟩:=List.mem_map.1 hx
  obtain⟨py,hpy,rfl⟩:=List.mem_map.1 hy
  obtain⟨n,hn⟩:=hm.key px hpx
  obtain⟨m,hm⟩:=hm.key py hpy
  rw[hn,hm] at he hne
  simp only[kyN,kyI] at he
  exact hne (by simp only[kyN]; rw[he])
 ·refine List.pairwise_map.2 ((List.Pairwise.filter _ List.pairwise_lt_range).imp fun h he=>by omega)
 ·simp only[List.mem_map,adrs,List.mem_filter,List.mem_range]
  constructor
  ·rintro⟨q,hq,rfl⟩
   obtain⟨n,hn⟩:=hm.key q hq
   have hh:=(hmem n).2 ⟨q,hq,hn⟩
   have hlt:n<b.length:=by
    have h1:n<s.has.length:=Classical.byContradiction fun hc=>by rw[List.getElem?_eq_none (by omega)] at hh; cases hh
    rw[hsz.a] at h1
    have h2:n≠b.length:=fun he=>by rw[he,hend] at hh; cases hh
    omega
   exact⟨n,⟨hlt,hh⟩,by rw[hn]; rfl⟩
  ·rintro⟨n,⟨_,hh⟩,rfl⟩
   obtain⟨q,hq,he⟩:=(hmem n).1 hh
   exact⟨q,hq,by rw[he]; rfl⟩
theorem callB_new2 {P:Program} {N:Nat} {T:Env} {σ:St} {K:Env→St→Prop} {Q:XA→Env→St→Prop} {dst:Option Nat} {g:FuncId} {ds:List D} {R:D→St→Prop} (h:RCall P g ds {} R)
  (hk:∀d s',R d s'→∀τ,St.le s' τ→St.le σ τ→putK N dst d K T τ):callB P N [] false dst g ds K Q T σ:=by
 refine⟨{},σ,_,.pure σ,fun b hb=>(by cases hb),h,fun h=>(by cases h),fun x s' ⟨d,hx,hR⟩ hap _=> ?_⟩
 subst hx
 exact hk d s' hR _ ⟨fun x cs h=>by simp[St.join,h],fun x p h=>by simp[St.join,h],fun x o h=>by simp[St.join,h]⟩ (le_join hap)
theorem rS_le {o:Li} {X:List D} {s σ:St} (h:St.le s σ):St.le (rS o X s) (rS o X σ):=by
 cases o with
 |none=>exact h
 |some p=>exact le_set h
theorem rS_mp {o:Li} {X:List D} {σ:St} {x:Nat}:(rS o X σ).mp x=σ.mp x:=by
 cases o with
 |none=>rfl
 |some p=>exact congrFun set_mp x
theorem rS_box {o:Li} {n:Nat} {X:List D} {σ:St} {x:Nat} {cs:List D} (h:rO o n X σ) (hx:σ.box x=some cs):(rS o X σ).box x=some cs:=by
 cases o with
 |none=>exact hx
 |some p=>
  simp only[rS,St.set_box]
  rw[if_neg fun he=>h.1 (by rw[←he]; exact .inl (by rw[hx]; simp))]
  exact hx
def inferR (e:En) (loc:Int) (b:List Ty) (d:D) (s':St):Prop:=
 ∃o:Li,rO o (inferD e loc b).1.length (liX o (inferD e loc b).1) {}∧d= .tup [rD o (inferD e loc b).1.length,.int .i64 (inferD e loc b).2.1,.int .i64 (inferD e loc b).2.2]∧s'=rS o (liX o (inferD e loc b).1) {}
theorem infer41 (e:En) (loc:Int) (b:List Ty) (hw:WideE e) (hb:b.length≤140737488355328):
  RCall Tryz.prog 41 [.agg (eEn e),.int .i64 loc,.slice .no (rws eT b)] {} (inferR e loc b):=by
 have hg:goneD e loc b=goD e b (fuelD b.length) (is0 b.length (startF e.cs.length (psOf e) loc).1) 0:=rfl
 refine F41.rcall rfl fun T hT=> ?_
 simp -implicitDefEqProofs only[go_sem,c41,hT,zc1,zc2,zb4,zb3,za6,za4,zb2,za8,gdD,Nat.mul_one,Nat.add_zero,Nat.zero_add,zb8]
 intro b3
 refine callB_new2 (around79 e loc b hw hb) fun d s' hR τ hτ hτ3=> ?_
 unfold aroundR at hR
 by_cases g1:mayE e loc=0
 case neg=>
  have hI:inferD e loc b=([],0,mayE e loc):=by unfold inferD; rw[if_pos g1]
  rw[if_pos g1] at hR
  obtain⟨rfl,rfl⟩:=hR
  have g1':((mayE e loc:Int)=0)=False:=eq_false (by omega)
  simp -implicitDefEqProofs only[go_sem,hT,g1']
  refine⟨_,_,DLe.refl _,St.le.nil _,none, ?_, ?_, ?_⟩ <;> rw[hI] <;> rfl
 rw[if_neg (by omega)] at hR
 by_cases g2:4096<b.length
 ·have hI:inferD e loc b=([],0,4):=by unfold inferD; rw[if_neg (by omega),if_pos g2]
  rw[if_pos g2] at hR
  obtain⟨rfl,rfl⟩:=hR
  simp -implicitDefEqProofs only[go_sem,hT]
  refine⟨_,_,DLe.refl _,St.le.nil _,none, ?_, ?_, ?_⟩ <;> rw[hI] <;> rfl
 rw[if_neg g2] at hR
 by_cases g3:(goneD e loc b).2.2=0
 case neg=>
  have hI:inferD e loc b=([],(goneD e loc b).2.1,(goneD e loc b).2.2):=by unfold inferD; rw[if_neg (by omega),if_neg g2]; simp only; rw[←hg,if_pos g3]
  rw[if_pos g3] at hR
  obtain⟨rfl,rfl⟩:=hR
  have g3':(((goneD e loc b).2.2:Int)=0)=False:=eq_false (by omega)
  simp -implicitDefEqProofs only[go_sem,hT,g3']
  refine⟨_,_,DLe.refl _,St.le.nil _,none, ?_, ?_, ?_⟩ <;> rw[hI] <;> rfl
 have hI:inferD e loc b=(entsD (goneD e loc b).1 b.length,0,0):=by unfold inferD; rw[if_neg (by omega),if_neg g2]; simp only; rw[←hg,if_neg (by omega)]
 rw[if_neg (by omega)] at hR
 obtain⟨r,m,p,hne,hm,hal,hsz,rfl,rfl⟩:=hR
 have hend:=gone_end g3
 generalize (goneD e loc b).1=s at *
 have kq:τ.box r.q=some (eRn r e b p.wh):=hτ.box _ _ stR_q
 have kf:τ.mp r.f=some (.map (some .i64) m.kf m.vf m.cf):=hτ.mp _ _ (stR_f hne)
 have hkeys:=keys_adrs hal hm.f hsz hend
 have hAl:(adrs s b.length).length≤b.length:=by
  have:=List.length_filter_le (fun a=>(s.has[a]?).getD false) (List.range b.length)
  rw[List.length_range] at this; exact this
 have hkl:m.kf.length=(adrs s b.length).length:=by
  have:=congrArg List.length hkeys
  simpa[sortZ,List.length_mergeSort] using this
 have hk5:∀q∈m.kf,∃n,q.1=kyN n∧n≤5000:=fun q hq=>by
  obtain⟨n,hn⟩:=hm.f.key q hq
  refine⟨n,hn, ?_⟩
  have hmem:kyI q.1∈sortZ (m.kf.map fun p=>kyI p.1):=by
   unfold sortZ; rw[List.mem_mergeSort]; exact List.mem_map.2 ⟨q,hq,rfl⟩
  rw[hkeys,hn] at hmem
  obtain⟨x,hx,he⟩:=List.mem_map.1 hmem
  simp only[adrs,List.mem_filter,List.mem_range] at hx
  simp only[kyN,kyI] at he
  omega
 simp -implicitDefEqProofs only[go_sem,hT,zc1,zc2,zb4,zb3,za6,za4,zb2,za8,gdD,Nat.mul_one,Nat.add_zero,Nat.zero_add,zb8,eRn_0,eRn_3,eRn_4,eRn_5,eRn_6,eRn_7,eRn_len,kq]
 refine callB_all (keys81 r.f τ) fun d s' ⟨c,hc,hd,hs⟩=> ?_
 subst hd; subst hs
 simp -implicitDefEqProofs only[go_sem,hT]
 refine callB_all (sorted80 (τ.set c [.map r.f]) c r.f m.kf m.vf m.cf (by rw[St.set_box,if_pos rfl]) (by rw[set_mp]; exact kf) hk5 (by omega)) fun d s' ⟨hd,hs⟩=> ?_
 subst hd; subst hs
 rw[hkeys]
 have hA:((adrs s b.length).map fun n:Nat=>(n:Int)).map (fun z=>[eZ z])=rws eN (adrs s b.length):=by rw[List.map_map]; rfl
 rw[hA]
 have hents:=ents_adrs s b.length
 have hEl:(entsD s b.length).length=(adrs s b.length).length:=by rw[hents,List.length_map]
 simp -implicitDefEqProofs only[go_sem,hT]
 refine loopL F41 (fun x:Nat×Li=>[(9,.ptr r.q 0),(12,rD x.2 ((entsD s b.length).take x.1).length),(32,.slice .no (rws eN (adrs s b.length))),(33,.int .i64 (adrs s b.length).length),(34,.int .i64 x.1)])
  (fun x=>rS x.2 (liX x.2 ((entsD s b.length).take x.1)) τ) (fun x=>x.1≤(adrs s b.length).length∧rO x.2 ((entsD s b.length).take x.1).length (liX x.2 ((entsD s b.length).take x.1)) τ)
  (fun x=>(adrs s b.length).length-x.1) (0,none) ⟨Nat.zero_le _,by simp[rO]⟩ ?_ ?_ ?_
 ·simp -implicitDefEqProofs only[go_sem,hT,rD,List.take_zero]
  rfl
 ·exact le_add hc
 clear hT T
 rintro⟨i,o⟩ ⟨hi,ho⟩ T hT
 simp only at hi ho hT ⊢
 by_cases h:i<(adrs s b.length).length
 case neg=>
  have g5:((i:Int)<(adrs s b.length).length)=False:=eq_false (by omega)
  have htk:(entsD s b.length).take i=entsD s b.length:=List.take_of_length_le (by omega)
  rw[htk] at ho hT ⊢
  simp -implicitDefEqProofs only[go_sem,hT,g5]
  refine⟨_,rS o (liX o (entsD s b.length)) {},DLe.refl _, ?_,o, ?_, ?_, ?_⟩
  ·exact rS_le (St.le.nil _)
  ·rw[hI]; exact rO_has ho (fun x hx=>(St.not_has_nil x hx).elim) fun p hp=>by subst hp; exact ho.2.2
  ·rw[hI]; rfl
  ·rw[hI]
 have g5:((i:Int)<(adrs s b.length).length)=True:=eq_true (by omega)
 have hget:=rws_at (enc:=eN) h
 have hkq2:=rS_box ho kq
 have hkf2:(rS o (liX o ((entsD s b.length).take i)) τ).mp r.f=some (.map (some .i64) m.kf m.vf m.cf):=by rw[rS_mp]; exact kf
 have hlk:=look143 (ok:=false) (n:=(adrs s b.length)[i]) hm.f hkf2
 have hmemA:(adrs s b.length)[i]∈adrs s b.length:=List.getElem_mem h
 have hhas:(s.has[(adrs s b.length)[i]]?).getD false=true:=by
  have:=hmemA
  unfold adrs at this
  rw[List.mem_filter] at this
  exact this.2
 have hff:=hal.f (adrs s b.length)[i]
 rw[if_pos hhas] at hff
 rw[hff] at hlk
 have w1:IntKind.wrap .i64 ((i:Int)+1)=((i+1:Nat):Int):=by rw[zc3 (by omega) (by omega)]; simp
 have hnext:(entsD s b.length).take (i+1)=(entsD s b.length).take i++[⟨((adrs s b.length)[i]:Int),false,(s.fr[(adrs s b.length)[i]]?).getD (fr0 0)⟩]:=by
  rw[List.take_add_one,hents,List.getElem?_map,List.getElem?_eq_getElem h]; rfl
 simp -implicitDefEqProofs only[go_sem,hT,g5,hget,zc1,zc2,zb4,zb3,za6,za4,zb2,za8,gdD,Nat.mul_one,Nat.add_zero,Nat.zero_add,zb8,eRn_0,eRn_3,eRn_4,eRn_5,eRn_6,eRn_7,eRn_len,hkq2,hlk,lkV,pairD,dF,eN,frz,frz_fr2]
 refine⟨by omega,li_app (x:=⟨((adrs s b.length)[i]:Int),false,(s.fr[(adrs s b.length)[i]]?).getD (fr0 0)⟩) ho (by rw[List.length_take]; omega) fun o' σ' _ ho' hle=> ?_⟩
 simp -implicitDefEqProofs only[go_sem,hT,w1]
 rw[←hnext] at ho' hle ⊢
 exact⟨(i+1,o'),⟨by simp only; omega,ho'⟩,by simp only; omega,⟨rfl,rfl⟩,hle⟩
end Go.AL
