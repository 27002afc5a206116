import Derived.Test.YtjffaachihpjbaaGreatFt
import Derived.Test.YtjffaachihpjbaaGreatFs
import Derived.Test.YtjffaachihpjbaaGreatFn
import Derived.Test.YtjffaachihpjbaaGreatFp
import Derived.Test.YtjffaachihpjbaaGreatFo
set_option linter.unusedSimpArgs false
set_option linter.unusedVariables false
set_option maxRecDepth 100000
set_option maxHeartbeats 4000000
set_option linter.defProp false
namespace Go.AL
open Go.Proofs
structure SeenI (ks:List (Ky×Nat)) (n0:Nat) (seen:List Nat) (v:Nat):Prop where
 is:v=n0∨∃p∈ks,p.1=kyN v
 le:v≤n0
 all:∀p∈ks,p.2∈seen→∀n,p.1=kyN n→v≤n
theorem seen_nil {ks:List (Ky×Nat)} {n0:Nat}:SeenI ks n0 [] n0:=⟨.inl rfl,Nat.le_refl _,fun _ _ h=>by cases h⟩
theorem seen_step {ks:List (Ky×Nat)} {n0 v n s i:Nat} {seen:List Nat} (h:SeenI ks n0 seen v) (hn:(ks.map (·.2)).Nodup) (hi:ks[i]? =some (kyN n,s)):SeenI ks n0 (seen++[s]) (min v n):=by
 have hm:=List.mem_of_getElem? hi
 refine⟨?_,by have:=h.le; omega,fun p hp hs x hx=> ?_⟩
 ·by_cases hc:v≤n
  ·rw[Nat.min_eq_left hc]; exact h.is
  ·rw[Nat.min_eq_right (by omega)]; exact .inr ⟨_,hm,rfl⟩
 ·rcases List.mem_append.1 hs with hs|hs
  ·have:=h.all p hp hs x hx; omega
  ·have hps:p.2=s:=by simpa using hs
   obtain⟨j,hj⟩:=List.mem_iff_getElem?.1 hp
   have:i=j:=nodup_at hn (b:=s) (by rw[List.getElem?_map,hi]; rfl) (by rw[List.getElem?_map,hj,←hps]; rfl)
   subst this
   rw[hi] at hj
   cases hj
   have:=kyN_inj.1 hx
   omega
def unseen (ks:List (Ky×Nat)) (seen:List Nat):Nat:=(ks.filter fun p=>decide (p.2∉seen)).length
theorem unseen_lt {ks:List (Ky×Nat)} {seen:List Nat} {i s:Nat} {k:Ky} (hi:ks[i]? =some (k,s)) (hs:s∉seen):unseen ks (seen++[s])<unseen ks seen:=
 filter_lt (fun p _ hp=>by
  rw[decide_eq_true_eq] at hp ⊢
  exact fun h=>hp (List.mem_append_left _ h)) ⟨_,List.mem_of_getElem? hi,by simp,by simpa using hs⟩
theorem seen_end {b:List Ty} {s:IS} {p:RS} {ks:List (Ky×Nat)} {vs:List D} {c n0 v:Nat} {seen:List Nat} (h:SeenI ks n0 seen v) (hm:MapR dU p.nn ks vs c) (ha:Alike b s p) (hs:s.sz (n0+1)) (hall:∀p∈ks,p.2∈seen) (hne:0<ks.length):
  leastD s.fresh=v∧v≤n0∧(s.fresh[v]?).getD false=true:=by
 have key:∀x,(s.fresh[x]?).getD false=true↔∃q∈ks,q.1=kyN x:=fun x=>by
  have hx:=ha.n x
  constructor
  ·intro hf
   rw[if_pos hf] at hx
   obtain⟨j,h1,_⟩:=hm.yes x () hx
   obtain⟨t,ht⟩:=kf_some h1
   exact⟨_,List.mem_of_getElem? ht,rfl⟩
  ·rintro⟨q,hq,he⟩
   refine Classical.byContradiction fun hc=> ?_
   rw[if_neg hc] at hx
   exact kf_none (hm.no x hx) q hq he
 have hv:(s.fresh[v]?).getD false=true:=by
  rcases h.is with h1|h1
  ·obtain⟨q,hq⟩:∃q,ks[0]? =some q:=⟨_,List.getElem?_eq_getElem hne⟩
   have hmem:=List.mem_of_getElem? hq
   obtain⟨x,hx⟩:=hm.key q hmem
   have hle:=h.all q hmem (hall q hmem) x hx
   have hfx:=(key x).2 ⟨q,hmem,hx⟩
   have hxl:x<s.fresh.length:=Classical.byContradiction fun hc=>by rw[List.getElem?_eq_none (by omega)] at hfx; cases hfx
   rw[hs.c] at hxl
   rw[show v=x by omega]; exact hfx
  ·exact(key v).2 h1
 refine⟨least_at (by rw[hs.c]; have:=h.le; omega) hv fun j hj=> ?_,h.le,hv⟩
 cases hf:(s.fresh[j]?).getD false with
 |false=>rfl
 |true=>
  obtain⟨q,hq,he⟩:=(key j).1 hf
  have:=h.all q hq (hall q hq) j he
  omega
open Go.Proofs
section
variable {P : Program} {N : Nat} {T : Env} {σ : St} {Q : XA → Env → St → Prop} {c : AC} {id : Nat}
theorem vc_scope [DSt] [Mo]:vcA P N (.scope c) Q T σ=vcA P N c (scopeA Q) T σ:=rfl
theorem scope_r:scopeA Q .ret T σ=Q .ret T σ:=rfl
attribute [go_sem] vc_scope scope_r
end
theorem callB_underM {P:Program} {N:Nat} {T:Env} {K:Env→St→Prop} {Q:XA→Env→St→Prop} {s:St} {dst:Option Nat} {g:FuncId} {ds:List D} {R:D→St→Prop} {b:Nat} {o:MO} (hb:¬s.has b) (h:RCall P g ds s R)
  (hk:∀d s',R d s'→putK N dst d K T (s'.setM b o)):callB P N [] false dst g ds K Q T (s.setM b o):=by
 have hj:∀s':St,¬s'.has b→St.join s' (({}:St).setM b o)=s'.setM b o:=fun s' hs=>by
  have hm:s'.mp b=none:=not_mp hs
  simp only[St.join,St.setM]
  congr 1
  ·funext x; cases s'.box x <;> rfl
  ·funext x; cases s'.buf x <;> rfl
  ·funext x
   by_cases he:x=b
   ·subst he; simp[hm]
   ·simp[he]
 have hh:∀x,(({}:St).setM b o).has x→x=b:=fun x hx=>by
  simp only[St.has,St.setM] at hx
  by_cases he:x=b
  ·exact he
  ·simp[he] at hx
 refine⟨s,({}:St).setM b o,_,⟨(hj s hb).symm,fun x hx hf=>hb (hh x hf▸hx)⟩,fun b hb=>(by cases hb),h,fun h=>(by cases h),fun x s' ⟨d,hx,hd⟩ hap _=> ?_⟩
 subst hx
 have hb':¬s'.has b:=fun hc=>hap b hc (.inr (.inr (by simp[St.setM])))
 rw[hj s' hb']
 exact hk d s' hd
theorem zero147:zf4 Tryz.prog 89=some [.slice .nil [],.slice .nil [],.int .i64 0,.slice .nil [],.any,.any,.any,.int .i64 0]:=by kernel_rfl
theorem setM_setM {σ:St} {b:Nat} {x y:MO}:(σ.setM b x).setM b y=σ.setM b y:=by
 simp only[St.setM]; congr 1; funext z; split <;> rfl
def goneD (e:En) (loc:Int) (b:List Ty):IS×Int×Nat:=goD e b (fuelD b.length) (is0 b.length (startF e.cs.length (psOf e) loc).1) 0
def aroundR (e:En) (loc:Int) (b:List Ty) (d:D) (s':St):Prop:=
 if mayE e loc≠0 then d= .tup [.nilptr,.int .i64 0,.int .i64 (mayE e loc)]∧s'={}
 else if 4096<b.length then d= .tup [.nilptr,.int .i64 0,.int .i64 4]∧s'={}
 else if(goneD e loc b).2.2≠0 then d= .tup [.nilptr,.int .i64 (goneD e loc b).2.1,.int .i64 (goneD e loc b).2.2]∧s'={}
 else ∃(r:RB) (m:RM) (p:RS),r.ne∧m.of p∧Alike b (goneD e loc b).1 p∧(goneD e loc b).1.sz (b.length+1)∧d= .tup [.ptr r.q 0,.int .i64 0,.int .i64 0]∧s'=stR r e b m p.wh
def bXheF0:=aI @zb4 (aI @zb5 (aI @za9 (aI @za8 (aI @za6 (aI @za5 (aI @zb8 (aI @zb2 (aI @gdD @nilc_p))))))))
theorem around79 (e:En) (loc:Int) (b:List Ty) (hw:WideE e) (hb:b.length≤140737488355328):
  RCall Tryz.prog 32 [.agg (eEn e),.int .i64 loc,.slice .no (rws eT b)] {} (aroundR e loc b):=by
 have en1:(eEn e)[1]? =some (.slice .no (rws eSg e.sgs)):=rfl
 have en0:(eEn e)[0]? =some (.slice .no (rws eC e.cs)):=rfl
 have en2:(eEn e)[2]? =some (.int .i64 e.fn):=rfl
 refine F32.rcall rfl fun T hT=> ?_
 simp -implicitDefEqProofs only[go_sem,c32,hT,Nat.mul_one,Nat.add_zero,Nat.zero_add,bXheF0]
 intro b3
 refine za3 (may31 e loc hw) ?_
 by_cases g1:mayE e loc=0
 case neg=>
  have g1':((mayE e loc:Int)=0)=False:=eq_false (by omega)
  simp -implicitDefEqProofs only[go_sem,hT,g1']
  refine⟨_,{},DLe.refl _,St.le.nil _, ?_⟩
  unfold aroundR; rw[if_pos g1]; exact⟨rfl,rfl⟩
 have g1':((mayE e loc:Int)=0)=True:=eq_true (by omega)
 by_cases g2:4096<b.length
 ·have g2':((4096:Int)<b.length)=True:=eq_true (by omega)
  simp -implicitDefEqProofs only[go_sem,hT,g1',g2',Nat.mul_one,Nat.add_zero,Nat.zero_add,bXheF0]
  refine⟨_,{},DLe.refl _,St.le.nil _, ?_⟩
  unfold aroundR; rw[if_neg (by omega),if_pos g2]; exact⟨rfl,rfl⟩
 have g2':((4096:Int)<b.length)=False:=eq_false (by omega)
 have hno:¬(canB e=false∨loc<(psOf e).length∨16<loc):=fun h=>(may_can e loc).2 h g1
 have hcan:canB e=true:=by
  cases h:canB e with
  |true=>rfl
  |false=>exact absurd (.inl h) hno
 obtain⟨hs,h0,hps,hp8,hst⟩:=can_sig hcan
 obtain⟨n,hn⟩:∃n:Nat,e.fn=n:=⟨e.fn.toNat,by omega⟩
 have hn':e.fn.toNat=n:=by omega
 have hs':n<e.sgs.length:=by omega
 have hps2:psOf e=e.sgs[n].ps:=by rw[hps]; simp only[hn']
 have hsg:=rws_at (enc:=eSg) hs'
 have sg0:∀x:Sg,(eSg x)[0]? =some (.slice .no (rws eT x.ps)):=fun _=>rfl
 simp -implicitDefEqProofs only[go_sem,hT,g1',g2',Nat.mul_one,Nat.add_zero,Nat.zero_add,en0,en1,en2,hn,hsg,bXheF0]
 refine⟨⟨⟨by omega,by omega⟩,rfl⟩, ?_⟩
 simp -implicitDefEqProofs only[go_sem,hT,Nat.mul_one,Nat.add_zero,Nat.zero_add,en0,en1,en2,hn,hsg,sg0,bXheF0]
 refine za3 (start68 e.cs .no .no e.sgs[n].ps loc (by rw[←hps2]; omega)) ?_
 rw[←hps2]
 simp -implicitDefEqProofs only[go_sem,hT,Nat.mul_one,Nat.add_zero,Nat.zero_add,en0,en1,en2,bXheF0]
 intro b10 m1 m2
 simp -implicitDefEqProofs only[go_sem,hT,zb4,zb5,za9,za8,za6,za5,zb8,zb2,gdD,Nat.mul_one,Nat.add_zero,Nat.zero_add,nilc_p,en0,en1,en2,m1,m2,za4,frz]
 obtain⟨f0,hf0⟩:∃f0,(startF e.cs.length (psOf e) loc).1=f0:=⟨_,rfl⟩
 rw[hf0]
 obtain⟨kf,vf,cf,q1,q2⟩:=(MapR.nil (enc:=dF)).set 0 f0
 obtain⟨kn,vn,cn,q3,q4⟩:=(MapR.nil (enc:=dU)).set 0 ()
 have q1':mset (some .i64) [] [] 0 (kyN 0) (.agg (eFr f0))= .map (some .i64) kf vf cf:=q1
 have q3':mset (some .i64) [] [] 0 (kyN 0) (.agg [])= .map (some .i64) kn vn cn:=q3
 rw[mkmA_map mp143 kk3]
 intro bf hbf
 simp only[set_has,not_or] at hbf
 obtain⟨u1,u2,u3⟩:=hbf
 simp -implicitDefEqProofs only[go_sem,hT,Nat.mul_one,Nat.add_zero,Nat.zero_add,m1,m2,u1,u2,Ne.symm u1,Ne.symm u2,bXheF0]
 rw[updA_map (k:=kyN 0) mp143 kk3 rfl (by rw[setM_mp,if_pos rfl]) rfl]
 simp -implicitDefEqProofs only[go_sem,hT,frz,q1']
 rw[mkmA_map mp144 kk3]
 intro bn hbn
 simp -implicitDefEqProofs only[go_sem,hT]
 rw[updA_map (k:=kyN 0) mp144 kk3 rfl (by rw[setM_mp,if_pos rfl]) rfl]
 simp -implicitDefEqProofs only[go_sem,hT,frz,q3']
 rw[mkmA_map mp145 kk3]
 intro bt hbt
 simp -implicitDefEqProofs only[go_sem,hT,zb4,zb5,za9,za8,za6,za5,zb8,zb2,gdD,Nat.mul_one,Nat.add_zero,Nat.zero_add,nilc_p,frz,zero147,eEn]
 intro bq hbq
 have hbn':=hbn
 have hbt':=hbt
 have hbq':=hbq
 obtain⟨r,hr0⟩:∃r:RB,r=⟨bq,bf,bn,bt⟩:=⟨_,rfl⟩
 have hne:r.ne:=by
  rw[hr0]
  refine⟨fun h=> ?_,fun h=> ?_,fun h=> ?_,fun h=> ?_,fun h=> ?_,fun h=> ?_⟩
  ·exact hbq (.inr (.inr (by rw[show bq=bf from h]; simp only[setM_mp]; repeat' split <;> simp)))
  ·exact hbq (.inr (.inr (by rw[show bq=bn from h]; simp only[setM_mp]; repeat' split <;> simp)))
  ·exact hbq (.inr (.inr (by rw[show bq=bt from h]; simp[setM_mp])))
  ·exact hbn (.inr (.inr (by rw[←show bf=bn from h]; simp[setM_mp])))
  ·exact hbt (.inr (.inr (by rw[←show bf=bt from h]; simp only[setM_mp]; repeat' split <;> simp)))
  ·exact hbt (.inr (.inr (by rw[←show bn=bt from h]; simp[setM_mp])))
 obtain⟨m0,hm0⟩:∃m0:RM,m0=⟨kf,vf,cf,kn,vn,cn,[],[],0⟩:=⟨_,rfl⟩
 obtain⟨s0,hs0⟩:∃s0,s0=is0 b.length f0:=⟨_,rfl⟩
 obtain⟨RES,hRES⟩:∃x,goneD e loc b=x:=⟨_,rfl⟩
 have hgo0:goD e b (fuelD b.length) s0 0=RES:=by rw[←hRES,goneD,hf0,←hs0]
 have hF:Falls e.cs e.cs.length:=can_falls hw hcan
 refine loopL F32 (fun x:IS×RS×RM=>[(2,.slice .no (rws eT b)),(12,.ptr r.q 0),(13,.int .i64 0)]) (fun x=>stR r e b x.2.2 x.2.1.wh)
  (fun x=>x.1.sz (b.length+1)∧FH x.1∧Alike b x.1 x.2.1∧x.2.2.of x.2.1∧∃k,muS e.cs x.1 (b.length+1)<k∧goD e b k x.1 (leastD x.1.fresh)=RES)
  (fun x=>muS e.cs x.1 (b.length+1)) (s0,⟨fun x=>if x=0 then some f0 else none,fun x=>if x=0 then some () else none,fun _=>none,0⟩,m0) ?_ ?_ ?_ ?_
 ·have hl0:leastD s0.fresh=((0:Nat):Int):=by
   rw[hs0]; exact least_at (by simp[is0]) (by simp[is0]) (fun j hj=>by omega)
  refine⟨by rw[hs0]; exact⟨by simp[is0],by simp[is0],by simp[is0],by simp[is0]⟩,by rw[hs0]; exact fun x hx=>hx,⟨fun x=> ?_,fun x=> ?_,fun y x=> ?_,fun x hx=> ?_⟩,by rw[hm0]; exact⟨q2,q4,MapR.nil⟩,fuelD b.length, ?_,by rw[hl0]; exact hgo0⟩
  ·simp only[hs0,is0]
   rw[set_at (by simp),set_at (by simp)]
   by_cases hx:x=0
   ·rw[if_pos hx,if_pos hx,if_pos hx]; simp
   ·rw[if_neg hx,if_neg hx,List.getElem?_replicate]; split <;> simp
  ·simp only[hs0,is0]
   rw[set_at (by simp)]
   by_cases hx:x=0
   ·rw[if_pos hx,if_pos hx]; simp
   ·rw[if_neg hx,if_neg hx,List.getElem?_replicate]; split <;> simp
  ·simp only[hs0,is0,List.getElem?_replicate]
   constructor
   ·intro h; cases h
   ·rintro⟨h1,h2⟩; split at h2 <;> simp at h2 <;> omega
  ·exfalso; apply hx
   simp only[hs0,is0,List.getElem?_replicate]; split <;> rfl
  ·have:=muS_le (l:=e.cs) (s:=s0) (m:=b.length+1)
   show muS e.cs s0 (b.length+1)<fuelD b.length
   unfold fuelD
   rw[show b.length+1+1=b.length+2 from rfl] at this
   generalize (b.length+1)*6145*(b.length+2)=P at *
   omega
 ·simp -implicitDefEqProofs only[go_sem,hT,hr0]
 ·have x1:=hne.qf; have x2:=hne.qn; have x3:=hne.qt; have x4:=hne.fn; have x5:=hne.ft; have x6:=hne.nt
  rw[hr0] at x1 x2 x3 x4 x5 x6 ⊢
  simp only at x1 x2 x3 x4 x5 x6
  refine le_stR ?_ ?_ ?_ ?_
  ·rw[St.set_box,if_pos rfl]; rfl
  ·rw[hm0]; simp[set_mp,setM_mp,x4,x5]
  ·rw[hm0]; simp[set_mp,setM_mp,x6]
  ·rw[hm0]; simp[set_mp,setM_mp]
 clear hT T
 rintro⟨s,p,m⟩ ⟨hsz,hFH,hal,hm,k,hk,hgo⟩ T hT
 simp only at hsz hFH hal hm hk hgo hT ⊢
 have kq:=stR_q (r:=r) (e:=e) (b:=b) (m:=m) (wh:=p.wh)
 have kn':=stR_n (e:=e) (b:=b) (m:=m) (wh:=p.wh) hne
 simp -implicitDefEqProofs only[go_sem,hT,zb4,zb5,za9,za8,za6,za5,zb8,zb2,gdD,Nat.mul_one,Nat.add_zero,Nat.zero_add,nilc_p,eRn_0,eRn_3,eRn_4,eRn_5,eRn_6,eRn_7,eRn_len,kq]
 rw[mlenA_map mp144 kn']
 obtain⟨k,rfl⟩:∃k',k=k'+1:=⟨k-1,by omega⟩
 by_cases h0:0<m.kn.length
 case neg=>
  have g3:((0:Int)<m.kn.length)=False:=eq_false (by omega)
  have hnone:∀x:Nat,(s.fresh[x]?).getD false=false:=fun x=>by
   cases hf:(s.fresh[x]?).getD false with
   |false=>rfl
   |true=>
    have:=hal.n x
    rw[if_pos hf] at this
    exact absurd (hm.n.more.2 ⟨x,(),this⟩) h0
  rw[least_no (fun j _=>hnone j),goD,if_pos (by omega)] at hgo
  simp -implicitDefEqProofs only[go_sem,hT,g3]
  refine⟨_,_,DLe.refl _,St.le.refl _, ?_⟩
  unfold aroundR
  rw[if_neg (by omega),if_neg g2,hRES,←hgo,if_neg (by simp)]
  exact⟨r,m,p,hne,hm,hal,hsz,rfl,rfl⟩
 have g3:((0:Int)<m.kn.length)=True:=eq_true (by omega)
 simp -implicitDefEqProofs only[go_sem,hT,g3,zb4,zb5,za9,za8,za6,za5,zb8,zb2,gdD,Nat.mul_one,Nat.add_zero,Nat.zero_add,nilc_p,eRn_0,eRn_3,eRn_4,eRn_5,eRn_6,eRn_7,eRn_len,kq]
 rw[rangeA_map mp144 kn']
 intro bi hbi
 simp -implicitDefEqProofs only[go_sem,hT]
 obtain⟨i1,i2,i3,i4⟩:=stR_ne hne hbi
 refine loopL F32 (fun x:Nat×List Nat=>[(2,.slice .no (rws eT b)),(12,.ptr r.q 0),(13,.int .i64 0),(14,.int .i64 x.1),(62,.ptr bi 0)]) (fun x=>(stR r e b m p.wh).setM bi (.iter r.n m.cn x.2))
  (fun x=>SeenI m.kn b.length x.2 x.1) (fun x=>unseen m.kn x.2) (b.length,[]) seen_nil ?_ (St.le.refl _) ?_
 ·simp -implicitDefEqProofs only[go_sem,hT]
 clear hT T
 rintro⟨v,seen⟩ hseen T hT
 simp only at hseen hT ⊢
 have hmpi:((stR r e b m p.wh).setM bi (.iter r.n m.cn seen)).mp bi=some (.iter r.n m.cn seen):=by rw[setM_mp,if_pos rfl]
 have hmpn:((stR r e b m p.wh).setM bi (.iter r.n m.cn seen)).mp r.n=some (.map (some .i64) m.kn m.vn m.cn):=by rw[setM_mp,if_neg (Ne.symm i3)]; exact kn'
 simp -implicitDefEqProofs only[go_sem,hT]
 simp only[nextA,hmpi,hmpn]
 refine⟨trivial,fun hall=> ?_,fun i k' st hi hst=> ?_⟩
 ·obtain⟨e1,e2,e3⟩:=seen_end hseen hm.n hal hsz hall h0
  simp -implicitDefEqProofs only[go_sem,hT,nilc_p,eRn_5,eRn_len,setM_box,kq,gdD]
  obtain⟨kn2,vn2,d1,d2⟩:=hm.n.del v
  have hvF:=hFH v e3
  have hfa:p.ff v=some ((s.fr[v]?).getD (fr0 0)):=by rw[hal.f v,if_pos hvF]
  rw[delA_map (k:=kyN v) mp144 kk3 rfl hmpn rfl,d1]
  have hstate:((stR r e b m p.wh).setM bi (.iter r.n m.cn seen)).setM r.n (.map (some .i64) kn2 vn2 m.cn)=(stR r e b ⟨m.kf,m.vf,m.cf,kn2,vn2,m.cn,m.kt,m.vt,m.ct⟩ p.wh).setM bi (.iter r.n m.cn seen):=by
   simp only[stR,St.setM]
   congr 1
   funext x
   by_cases h1:x=r.n
   ·subst h1; simp[Ne.symm i3,hne.nt]
   ·simp[h1]
  rw[hstate]
  have hm2:RM.of ⟨m.kf,m.vf,m.cf,kn2,vn2,m.cn,m.kt,m.vt,m.ct⟩ ⟨p.ff,fun x=>if x=v then none else p.nn x,p.tt,p.wh⟩:=⟨hm.f,d2,hm.t⟩
  have hal2:Alike b ⟨s.has,s.fr,s.fresh.set v false,s.tk⟩ ⟨p.ff,fun x=>if x=v then none else p.nn x,p.tt,p.wh⟩:=by
   refine⟨hal.f,fun x=> ?_,hal.t,hal.z⟩
   simp only
   rw[set_at (by rw[hsz.c]; omega)]
   by_cases he:x=v
   ·rw[if_pos he,if_pos he]; simp
   ·rw[if_neg he,if_neg he]; exact hal.n x
  simp -implicitDefEqProofs only[go_sem,hT]
  refine callB_underM (stR_off hne hbi) (visit123 r hne e b _ _ hm2 v _ hfa (by omega) (by omega) hw (by have:=hw.1.1; omega)) fun d s' hR=> ?_
  obtain⟨rfl,m3,hm3,rfl⟩:=hR
  obtain⟨v1,v2,v3⟩:=visit_alike (e:=e) (fa:=(s.fr[v]?).getD (fr0 0)) hal2 hsz e2 rfl
  generalize hVP:visitP e b ⟨p.ff,fun x=>if x=v then none else p.nn x,p.tt,p.wh⟩ v ((s.fr[v]?).getD (fr0 0))=VP at hm3 v1 v2 v3 ⊢
  rw[e1,goD,if_neg (by omega),Int.toNat_natCast] at hgo
  have kq3:=stR_q (r:=r) (e:=e) (b:=b) (m:=m3) (wh:=VP.1.wh)
  have hfin:St.le (stR r e b m3 VP.1.wh) ((stR r e b m3 VP.1.wh).setM bi (.iter r.n m.cn seen)):=le_stR (by rw[setM_box]; exact kq3) (by rw[setM_mp,if_neg (Ne.symm i2)]; exact stR_f hne) (by rw[setM_mp,if_neg (Ne.symm i3)]; exact stR_n hne) (by rw[setM_mp,if_neg (Ne.symm i4)]; exact stR_t)
  by_cases g6:VP.2=0
  ·have g6':((VP.2:Int)=0)=True:=eq_true (by omega)
   rw[if_neg (by omega)] at hgo
   have hfall:=round_falls (e:=e) hsz e2 e3
   obtain⟨_,_,_,_,_,_,r6,_,_⟩:=round_shape (e:=e) hsz e2
   simp -implicitDefEqProofs only[go_sem,hT,g6']
   refine⟨((roundD e b s v).1,VP.1,m3),⟨r6,round_FH hFH hsz e2,v3 g6,hm3,k,Nat.lt_of_lt_of_le hfall (Nat.le_of_lt_succ hk),hgo⟩,hfall, ?_,hfin⟩
   rw[g6]; rfl
  ·have g6':((VP.2:Int)=0)=False:=eq_false (by omega)
   rw[if_pos (by omega)] at hgo
   simp -implicitDefEqProofs only[go_sem,hT,g6',nilc_p,eRn_7,eRn_len,setM_box,kq3,gdD]
   refine⟨_,{},DLe.refl _,St.le.nil _, ?_⟩
   unfold aroundR
   rw[if_neg (by omega),if_neg g2,hRES,←hgo,if_pos (by omega),v1,v2 g6]
   exact⟨rfl,rfl⟩
 ·obtain⟨x,u,rfl,hx,hvx⟩:=hm.n.at hi
  have hlt:=unseen_lt (seen:=seen) hi hst
  rw[setM_setM]
  simp -implicitDefEqProofs only[go_sem,hT]
  have hmpi':((stR r e b m p.wh).setM bi (.iter r.n m.cn (seen++[st]))).mp bi=some (.iter r.n m.cn (seen++[st])):=by rw[setM_mp,if_pos rfl]
  have hmpn':((stR r e b m p.wh).setM bi (.iter r.n m.cn (seen++[st]))).mp r.n=some (.map (some .i64) m.kn m.vn m.cn):=by rw[setM_mp,if_neg (Ne.symm i3)]; exact kn'
  simp only[entryA,hmpi',hmpn',List.getLast?_append,List.getLast?_singleton,Option.some_or]
  refine⟨trivial,i,kyN x,hi, ?_⟩
  simp -implicitDefEqProofs only[go_sem,hT,kyN,Ky.d]
  refine⟨(min v x,seen++[st]),seen_step hseen hm.n.stm hi,hlt, ?_,St.le.refl _⟩
  simp only
  congr 1
  omega
open Go.Proofs
def c34:CT (Tryz.f34.body.getD .skip):=⟨_,by conv=>lhs; cbv⟩
theorem F34:Fun1 Tryz.prog 34 4 c34.1 [.tmp 2]:=mkT Tryz.func34 rfl (by decide +kernel) Tryz.ntmps34 rfl c34.2 rfl
open Go.Proofs
theorem below_keep {M:MMap} {σ:St} {w w':World} (hi:Inv M σ w) (hb:Go.RowKit.Below w.heap.size w w'):Inv M σ w'∧KeepF M σ w M σ w':=by
 have hk:Keep M w M w':=⟨hb.os,hb.tape,hb.output,hb.size,fun b h1 h2=>⟨h2,hb.block b h1⟩,fun b lim c e f h1 h2=>by
  have hl:b<w.heap.size:=hi.dom b (by rw[h1]; simp)
  exact⟨⟨c,by rw[hb.block b hl]; exact h2,rfl,fun _ _=>rfl⟩,.inr ⟨lim,Nat.le_refl _,h1⟩⟩⟩
 have hlt:∀b,σ.has b→w'.heap[b]? =w.heap[b]? :=fun b h=>hb.block b (hi.dom b (hi.lt h))
 refine⟨⟨fun b cs h=>(hi.box b cs h).keep hk rfl (hlt b (.inl (by simp[h]))),fun b s n h=> ?_,fun b o h=>(hi.mp b o h).keep hk rfl (hlt b (.inr (.inr (by simp[h])))),fun b h=>Nat.lt_of_lt_of_le (hi.dom b h) hb.size⟩,⟨hk,fun b h1 _=>⟨rfl,hb.block b (hi.dom b h1)⟩,fun b h=> .inl h⟩⟩
 obtain⟨h1,c,e,cap,h2,h3,h4⟩:=hi.buf b s n h
 exact⟨h1,c,e,cap,by rw[hlt b (.inr (.inl (by simp[h])))]; exact h2,h3,h4⟩
theorem keys81 (b:Nat) (σ:St):RCall Tryz.prog 34 [.map b] σ fun d s'=>∃c,¬σ.has c∧d= .func (.func 62) [] [.ptr c 0]∧s'=σ.set c [.map b]:=by
 refine F34.rcall rfl fun T hT=> ?_
 simp -implicitDefEqProofs only[go_sem,c34,hT,frz]
 intro c hc
 exact⟨_,_,DLe.refl _,St.le.refl _,c,hc,rfl,rfl⟩
end Go.AL
namespace Go.AL
open Go.Proofs Go.RowKit Go.Maps
theorem under3:Tryz.prog.underlying 3=some (.int .i64):=by kernel_rfl
theorem sortsK (m:Nat):AnyZI.SortsIn Tryz.prog Tryz.sortedA_ren Fence.wide m:=
 ⟨fun blk off cap ss W hH hblk hsz=>callsIn_wide.2 (AnyM.slices_Sort_int Tryz.sortA blk off cap ss W hH hblk hsz),
  fun p cap W=>callsIn_wide.2 (AnyM.slices_Sort_int_none Tryz.sortA p cap W)⟩
theorem sortedK {H:Type} (c b nn:Nat) (D0:DataW H) (R:Value→Option (DataW H×List MemPlace)) (w:World) (hc:w.cell? ⟨c,0,none⟩=some (.map (some b))) (hcl:c<w.heap.size) (hown:w.ownsMap Tryz.prog 3 R b nn D0) (hmax:Maps.size D0≤maxLen) (hbytes:Maps.size D0*8≤140737488355328):
  Calls Tryz.prog 33 #[.func (.func 62) #[] #[.pointer (some ⟨c,0,none⟩)]] w fun e w'=>∃(v:Value) (ss:List Int),e= .returned v∧ss.Perm (intKeys D0)∧
   w'.ownsRow w.heap.size 3 1 v ss.length ((ss.mergeSort (fun x y=>decide (x≤y))).map encZ)∧(v= .slice none 0 0↔ss=[])∧Below w.heap.size w w':=by
 have hseq:SeqGives Fence.wide 2 Tryz.prog 62 #[.pointer (some ⟨c,0,none⟩)] encZ (fun ss=>ss.Perm (intKeys D0)) (Maps.size D0) w:=
  AnyZI.keys_gives (ρ:=Tryz.keysA_ren) {Tryz.keysA with} Fence.wide _ trivial rfl (by omega) c b nn D0 w hcl hc hown
 have cS:=AnyZI.sorted_in Tryz.sortedA Fence.wide 5 trivial trivial trivial trivial rfl (by omega) (sortsK _) (enters_of Tryz.func61 (by kernel_rfl) rfl) 62 #[.pointer (some ⟨c,0,none⟩)] trivial (enters_of Tryz.func62 (by kernel_rfl) rfl) _ _ hmax hbytes w hseq
 exact callsIn_wide.1 cS
end Go.AL
namespace Go.AL
open Go.Proofs Go.RowKit Go.Maps Go.WideElems Go.MapKept
def kyI:Ky→Int
 | .int _ n=>n
 | .str _=>0
def rdU (_:Value):Option (DataW Unit×List MemPlace):=some (.nil,[])
theorem ky_inj:∀{a b:Ky},a.v=b.v→a=b
 | .int k n,.int k' n',h=>by simp only[Ky.v,Value.int.injEq] at h; obtain⟨rfl,rfl⟩:=h; rfl
 | .str s,.str s',h=>by simp only[Ky.v,Value.string.injEq] at h; rw[h]
 | .int _ _,.str _,h=>by simp[Ky.v] at h
 | .str _,.int _ _,h=>by simp[Ky.v] at h
theorem own_map {M:MMap} {w:World} {b:Nat} {ks:List (Ky×Nat)} {vs:List D} {clock:Nat} (h:MpAt M w b (.map (some .i64) ks vs clock)) (hk:∀p∈ks,∃n,p.1=kyN n∧n≤5000) (hl:ks.length≤5000):
  ∃D0:DataW Unit,w.ownsMap Tryz.prog 3 rdU b 5000 D0∧Maps.size D0=ks.length∧(intKeys D0).Perm (ks.map fun p=>kyI p.1):=by
 obtain⟨_,x,hx,es,rfl,h1,h2,h3,h4,h5,h6,h7⟩:=h
 have hlen:es.toList.length=ks.length:=by have:=congrArg List.length h1; simpa using this
 have key:∀y∈es.toList,∃n:Nat,n≤5000∧y.key= .int .i64 (n:Int):=fun y hy=>by
  have:y.key∈ks.map (·.1.v):=by rw[←h1]; exact List.mem_map.2 ⟨y,hy,rfl⟩
  obtain⟨p,hp,he⟩:=List.mem_map.1 this
  obtain⟨n,hn,hle⟩:=hk p hp
  exact⟨n,hle,by rw[←he,hn]; rfl⟩
 have hrd:∀y∈es.toList,∃n:Nat,y.key= .int .i64 (n:Int)∧rd Tryz.prog 3 rdU y=some (.int .i64 (n:Int),.nil):=fun y hy=>by
  obtain⟨n,hn,he⟩:=key y hy
  refine⟨n,he, ?_⟩
  have hko:keyOf Tryz.prog 3 y.key=some (.int .i64 (n:Int)):=by
   rw[he]
   exact keyOf_int_mk under3 (by
    have e1:IntKind.min .i64= -9223372036854775808:=by decide
    have e2:IntKind.max .i64=9223372036854775807:=by decide
    simp only[Lit.wf,e1,e2,Bool.and_eq_true,decide_eq_true_eq]; omega)
  simp[rd,hko,rdU]
 have hmax:maxLen=9223372036854775807∨5000≤maxLen:= .inr (by decide)
 have hsz:es.size=ks.length:=by simpa using hlen
 refine⟨.map ((es.toList.map (WideElems.rg Tryz.prog 3 rdU)).foldr DataW.insert []),⟨es,clock,hx,⟨?_, ?_,fun y hy=> ?_⟩,by omega,rfl⟩, ?_, ?_⟩
 ·rw[hsz]; rcases hmax with h|h <;> omega
 ·rw[stamped_iff]
  refine⟨fun y hy=> ?_,by rw[h2]; exact h5, ?_⟩
  ·have:y.born∈ks.map (·.2):=by rw[←h2]; exact List.mem_map.2 ⟨y,hy,rfl⟩
   obtain⟨p,hp,he⟩:=List.mem_map.1 this
   rw[←he]; exact h6 p hp
  ·have:(es.toList.map (·.key)).Pairwise (· ≠ ·):=by
    rw[h1,List.pairwise_map]
    have hn:(ks.map (·.1)).Pairwise (· ≠ ·):=h4
    rw[List.pairwise_map] at hn
    exact hn.imp fun hne he=>hne (ky_inj he)
   rwa[List.pairwise_map] at this
 ·obtain⟨n,_,h⟩:=hrd y hy; exact⟨_,h⟩
 ·show List.length _=_
  rw[length_sorted,List.length_map,hlen]
 ·show(List.map (fun p:Lit×DataW Unit=>intOf p.1) _).Perm _
  refine((WideShapes.sorted_perm _).map _).trans ?_
  rw[List.map_map]
  have e1:es.toList.map ((fun p:Lit×DataW Unit=>intOf p.1)∘WideElems.rg Tryz.prog 3 rdU)=(es.toList.map (·.key)).map fun v=>match v with| .int _ n=>n|_=>0:=by
   rw[List.map_map]
   refine List.map_congr_left fun y hy=> ?_
   obtain⟨n,hn,hr⟩:=hrd y hy
   simp only[Function.comp,rg_of hr,hn,intOf]
  rw[e1,h1,List.map_map]
  refine List.Perm.of_eq (List.map_congr_left fun p hp=> ?_)
  obtain⟨n,hn,_⟩:=hk p hp
  simp[Function.comp,hn,kyN,Ky.v,kyI]
theorem sorted80 (s:St) (c b:Nat) (ks:List (Ky×Nat)) (vs:List D) (clock:Nat) (hc:s.box c=some [.map b]) (hb:s.mp b=some (.map (some .i64) ks vs clock)) (hk:∀p∈ks,∃n,p.1=kyN n∧n≤5000) (hl:ks.length≤5000):
  RCall Tryz.prog 33 [.func (.func 62) [] [.ptr c 0]] s fun d s'=>d= .slice .no ((sortZ (ks.map fun p=>kyI p.1)).map fun z=>[eZ z])∧s'=s:=by
 refine⟨⟨_,Tryz.func33,by kernel_rfl,rfl⟩,fun M w vs' hi hv=> ?_⟩
 obtain⟨v,vs2,rfl,⟨vf,vc,rfl,hf,hcap⟩,hv2⟩:=hv
 obtain rfl:vs2=[]:=hv2
 have hf:vf.toList=[]:=hf
 obtain⟨pv,pr,hp1,hp2,hp3⟩:=hcap
 obtain rfl:pr=[]:=hp3
 have hp2:pv= .pointer (some ⟨c,0,none⟩):=hp2
 obtain rfl:vf= #[]:=by simpa using hf
 obtain rfl:vc= #[.pointer (some ⟨c,0,none⟩)]:=by
  apply Array.toList_inj.1; rw[hp1,hp2]
 obtain⟨hM,cc,e,hheap,hrep,hone⟩:=hi.box c _ hc
 obtain⟨v1,r1,hr1,hr2,hr3⟩:=hrep
 obtain rfl:r1=[]:=hr3
 have hr2:v1= .map (some b):=hr2
 have hcell:w.cell? ⟨c,0,none⟩=some (.map (some b)):=by
  refine cell_of hheap ?_
  rw[←Array.getElem?_toList,hr1,hr2]; rfl
 obtain⟨D0,o1,o2,o3⟩:=own_map (hi.mp b _ hb) hk hl
 have hmax:5000≤maxLen:=by decide
 refine(sortedK c b 5000 D0 rdU w hcell (heap_lt hheap) o1 (by omega) (by omega)).mono fun ev w' ⟨v,ss,he,hp,hown,hnil,hbel⟩=> ?_
 subst he
 obtain⟨k1,k2⟩:=below_keep hi hbel
 refine⟨M,s,.ret _,⟨v,rfl, ?_⟩,k1,k2,_,rfl,rfl,rfl⟩
 have hss:ss.mergeSort (fun x y=>decide (x≤y))=sortZ (ks.map fun p=>kyI p.1):=mergeSort_of_perm_i (hp.trans o3)
 rw[hss] at hown
 have hlen:(sortZ (ks.map fun p=>kyI p.1)).length=ss.length:=by rw[←hss,List.length_mergeSort]
 generalize sortZ (ks.map fun p=>kyI p.1)=zs at hown hlen
 obtain⟨ho1,ho2⟩:=hown
 rcases ho2 with⟨rfl,h0⟩|⟨g,cap,cur,rfl,hg,hcur,hle,hcm,hcs,htake⟩
 ·refine .inl ⟨rfl, ?_⟩
  rw[h0] at hlen
  rw[List.eq_nil_of_length_eq_zero hlen]; rfl
 ·refine .inr (.inl ⟨g,0,cap,1,by simp[hlen],by simpa[hlen] using hle, ?_⟩)
  have hMg:M g=none:=by
   cases hm:M g with
   |none=>rfl
   |some x=>have:=hi.dom g (by rw[hm]; simp); omega
  refine RepRows.mk fun i r hr=> ?_
  rw[List.getElem?_map] at hr
  cases hz:zs[i]? with
  |none=>rw[hz] at hr; simp at hr
  |some z=>
   rw[hz] at hr
   simp only[Option.map_some,Option.some.injEq] at hr
   subst hr
   refine⟨rfl,RepCells.mk fun j d hd=> ?_⟩
   cases j with
   |succ j=>simp at hd
   |zero=>
    simp only[List.getElem?_cons_zero,Option.some.injEq] at hd
    subst hd
    refine⟨encZ z, ?_,rfl,by simp[ImmAt,hMg],rfl⟩
    have h1:(cur.toList.take (ss.length*1))[i]? =some (encZ z):=by rw[htake,List.getElem?_map,hz]; rfl
    rw[List.getElem?_take] at h1
    split at h1
    ·refine cell_of hcur ?_
     rw[←Array.getElem?_toList]
     simpa using h1
    ·cases h1
open Go.Proofs
theorem least_neg {l:List Bool} (h:leastD l<0) (x:Nat):(l[x]?).getD false=false:=by
 unfold leastD at h
 split at h
 ·omega
 ·rename_i hn
  rw[List.findIdx?_eq_none_iff] at hn
  cases hx:l[x]? with
  |none=>rfl
  |some v=>exact hn v (List.mem_of_getElem? hx)
theorem goD_ind {e:En} {b:List Ty} {I:IS→Prop} (hI:∀(s:IS) (a:Nat),s.sz (b.length+1)→FH s→I s→a≤b.length→(s.fresh[a]?).getD false=true→leastD s.fresh=a→(roundD e b s a).2.2=0→I (roundD e b s a).1):
  ∀(k:Nat) (s:IS),s.sz (b.length+1)→FH s→muS e.cs s (b.length+1)<k→I s→(goD e b k s (leastD s.fresh)).2.2=0→
   ∃r:IS,goD e b k s (leastD s.fresh)=(r,0,0)∧r.sz (b.length+1)∧FH r∧I r∧∀x:Nat,(r.fresh[x]?).getD false=false
 |0,s,_,_,hk,_,_=>absurd hk (Nat.not_lt_zero _)
 |k+1,s,hs,hf,hk,hi,h=>by
  rw[goD] at h ⊢
  by_cases h0:leastD s.fresh<0
  ·rw[if_pos h0]
   exact⟨s,rfl,hs,hf,hi,least_neg h0⟩
  ·rw[if_neg h0] at h ⊢
   obtain⟨a,ha⟩:∃a:Nat,leastD s.fresh=a:=⟨_,(Int.toNat_of_nonneg (by omega)).symm⟩
   obtain⟨h1,h2⟩:=least_in ha (by omega)
   rw[Int.toNat_natCast] at h1 h2
   rw[hs.c] at h1
   rw[ha,Int.toNat_natCast] at h ⊢
   have hal:a≤b.length:=by omega
   by_cases hr:(roundD e b s a).2.2=0
   ·have hr':¬(roundD e b s a).2.2≠0:=fun h=>h hr
    rw[if_neg hr'] at h ⊢
    obtain⟨_,_,_,_,_,_,r6,_,_⟩:=round_shape (e:=e) hs hal
    exact goD_ind hI k _ r6 (round_FH hf hs hal) (Nat.lt_of_lt_of_le (round_falls (e:=e) hs hal h2) (Nat.le_of_lt_succ hk)) (hI s a hs hf hi hal h2 ha hr) h
   ·rw[if_pos hr] at h; exact absurd h hr
theorem is0_sz {n:Nat} {f:Fr}:(is0 n f).sz (n+1):=⟨by simp[is0],by simp[is0],by simp[is0],by simp[is0]⟩
theorem is0_FH {n:Nat} {f:Fr}:FH (is0 n f):=fun x hx=>hx
theorem is0_has {n:Nat} {f:Fr} {x:Nat}:((is0 n f).has[x]?).getD false=decide (x=0):=by
 simp only[is0]
 rw[set_at (by simp)]
 by_cases hx:x=0
 ·rw[if_pos hx]; simp[hx]
 ·rw[if_neg hx,List.getElem?_replicate]; split <;> simp[hx]
theorem is0_fr {n:Nat} {f:Fr}:((is0 n f).fr[0]?).getD (fr0 0)=f:=by
 simp only[is0]
 rw[set_at (by simp),if_pos rfl]
theorem is0_least {n:Nat} {f:Fr}:leastD (is0 n f).fresh=((0:Nat):Int):=least_at (by simp[is0]) (by simp[is0]) (fun j hj=>by omega)
theorem is0_mu {l:List Cl} {n:Nat} {f:Fr}:muS l (is0 n f) (n+1)<fuelD n:=by
 have:=muS_le (l:=l) (s:=is0 n f) (m:=n+1)
 unfold fuelD
 rw[show n+1+1=n+2 from rfl] at this
 generalize (n+1)*6145*(n+2)=P at *
 omega
theorem gone_ind {e:En} {loc:Int} {b:List Ty} {I:IS→Prop} (hI:∀(s:IS) (a:Nat),s.sz (b.length+1)→FH s→I s→a≤b.length→(s.fresh[a]?).getD false=true→leastD s.fresh=a→(roundD e b s a).2.2=0→I (roundD e b s a).1)
  (h0:I (is0 b.length (startF e.cs.length (psOf e) loc).1)) (h:(goneD e loc b).2.2=0):
  ∃r:IS,goneD e loc b=(r,0,0)∧r.sz (b.length+1)∧FH r∧I r∧∀x:Nat,(r.fresh[x]?).getD false=false:=by
 have hl:(0:Int)=leastD (is0 b.length (startF e.cs.length (psOf e) loc).1).fresh:=is0_least.symm
 unfold goneD at h ⊢
 rw[hl] at h ⊢
 exact goD_ind hI _ _ is0_sz is0_FH is0_mu h0 h
def EndI (n:Nat) (s:IS):Prop:=(s.has[n]?).getD false=true→(s.fresh[n]?).getD false=true
theorem hand_end {l:List Cl} {s:IS} {m a n:Nat} {g:Fr} (h:EndI n s) (hs:s.sz m) (ha:a<m):EndI n (handD l s a g).1:=by
 unfold handD
 split
 ·intro hx
  simp only at hx ⊢
  rw[set_at (by rw[hs.c]; omega)]
  rw[set_at (by rw[hs.a]; omega)] at hx
  by_cases he:n=a
  ·rw[if_pos he]
  ·rw[if_neg he] at hx ⊢; exact h hx
 split
 ·exact h
 split
 ·intro hx
  simp only at hx ⊢
  rw[set_at (by rw[hs.c]; omega)]
  by_cases he:n=a
  ·rw[if_pos he]
  ·rw[if_neg he]; exact h hx
 ·exact h
theorem hands_end {l:List Cl} {m n:Nat} {g:Fr}:∀{to:List Int} {s:IS},EndI n s→s.sz m→(∀x∈to,0≤x∧x<m)→EndI n (handsD l g to s).1
 |[],s,h,_,_=>h
 |a::r,s,h,hs,ht=>by
  have h1:=hand_end (l:=l) (g:=g) h hs (show a.toNat<m by have:=ht a (List.mem_cons_self ..); omega)
  rw[handsD]
  split
  ·exact h1
  ·exact hands_end h1 (hand_sz hs) fun x hx=>ht x (List.mem_cons_of_mem _ hx)
theorem round_ok {e:En} {b:List Ty} {s:IS} {a:Nat} (h:(roundD e b s a).2.2=0):
  a≠b.length∧(decF b a).2=0∧overB s.tk a (ze8 (decF b a).1.op.val)=false∧(applyR e ((s.fr[a]?).getD (fr0 0)) (decF b a).1).2=0∧(onD (decF b a).1 b.length).2=0∧
   roundD e b s a=handsD e.cs (applyR e ((s.fr[a]?).getD (fr0 0)) (decF b a).1).1 (onD (decF b a).1 b.length).1 ⟨s.has,s.fr,s.fresh.set a false,s.tk.set a (ze8 (decF b a).1.op.val)⟩:=by
 by_cases g1:a=b.length
 ·unfold roundD at h; rw[if_pos g1] at h; cases h
 by_cases g2:(decF b a).2=0
 case neg=>unfold roundD at h; rw[if_neg g1,if_pos g2] at h; exact absurd h g2
 have q2:¬(decF b a).2≠0:=fun h=>h g2
 cases g3:overB s.tk a (ze8 (decF b a).1.op.val)
 case true=>unfold roundD at h; rw[if_neg g1,if_neg q2,if_pos g3] at h; cases h
 have q3:¬overB s.tk a (ze8 (decF b a).1.op.val)=true:=by rw[g3]; simp
 by_cases g4:(applyR e ((s.fr[a]?).getD (fr0 0)) (decF b a).1).2=0
 case neg=>unfold roundD at h; rw[if_neg g1,if_neg q2,if_neg q3] at h; simp only at h; rw[if_pos g4] at h; exact absurd h g4
 have q4:¬(applyR e ((s.fr[a]?).getD (fr0 0)) (decF b a).1).2≠0:=fun h=>h g4
 by_cases g5:(onD (decF b a).1 b.length).2=0
 case neg=>unfold roundD at h; rw[if_neg g1,if_neg q2,if_neg q3] at h; simp only at h; rw[if_neg q4,if_pos g5] at h; exact absurd h g5
 have q5:¬(onD (decF b a).1 b.length).2≠0:=fun h=>h g5
 refine⟨g1,g2,rfl,g4,g5, ?_⟩
 unfold roundD; rw[if_neg g1,if_neg q2,if_neg q3]; simp only; rw[if_neg q4,if_neg q5]
theorem round_end {e:En} {b:List Ty} {s:IS} {a:Nat} (hi:EndI b.length s) (hs:s.sz (b.length+1)) (ha:a≤b.length) (h:(roundD e b s a).2.2=0):EndI b.length (roundD e b s a).1:=by
 obtain⟨h1,h2,h3,h4,h5,h6⟩:=round_ok h
 rw[h6]
 refine hands_end (m:=b.length+1) ?_ ⟨hs.a,hs.b,by simpa using hs.c,by simpa using hs.d⟩ fun x hx=>by have:=on_in h2 hx; omega
 intro hx
 simp only
 rw[set_at (by rw[hs.c]; omega),if_neg (Ne.symm h1)]
 exact hi hx
theorem gone_end {e:En} {loc:Int} {b:List Ty} (h:(goneD e loc b).2.2=0):((goneD e loc b).1.has[b.length]?).getD false=false:=by
 obtain⟨r,h1,h2,h3,h4,h5⟩:=gone_ind (I:=EndI b.length) (fun s a hs hf hi ha _ _ hr=>round_end hi hs ha hr) (fun hx=>by
  have h0:=hx; rw[is0_has] at h0; simp only[decide_eq_true_eq] at h0
  simp[is0,h0]) h
 rw[h1]
 cases hx:(r.has[b.length]?).getD false with
 |false=>rfl
 |true=>have:=h4 hx; rw[h5] at this; cases this
open Go.Proofs
theorem SubF.refl {l:List Cl} {f:Fr} (h:checkF l.length f=0):SubF l f f:=⟨h,h,rfl,rfl,fun i hi=>subB_refl ((checkF_iff.1 h).2.2 i hi)⟩
theorem SubF.trans {l:List Cl} {f g k:Fr} (h:SubF l f g) (h':SubF l g k):SubF l f k:=⟨h.ca,h'.cb,h.loc.trans h'.loc,h.h.trans h'.h,fun i hi=>subB_trans (h.sl i hi) (h'.sl i hi)⟩
theorem mergeF_ok {l:List Cl} {f g:Fr} (h:(mergeF l f g).2=0):alikeF l.length f g=0∧mergeF l f g=(mgAt l f g (f.loc+f.h).toNat,0):=by
 unfold mergeF at h ⊢
 by_cases h0:alikeF l.length f g=0
 ·exact⟨h0,by rw[if_neg (by omega)]⟩
 ·rw[if_pos h0] at h; exact absurd h h0
theorem mergeF_up {l:List Cl} {f g:Fr} (h:(mergeF l f g).2=0):SubF l f (mergeF l f g).1∧SubF l g (mergeF l f g).1∧∀u,SubF l f u→SubF l g u→SubF l (mergeF l f g).1 u:=by
 obtain⟨h0,h1⟩:=mergeF_ok h
 rw[h1]
 simp only
 obtain⟨ca,cb,hloc,hh⟩:=alike_zero h0
 obtain⟨a1,a2,a3⟩:=checkF_iff.1 ca
 obtain⟨b1,b2,b3⟩:=checkF_iff.1 cb
 obtain⟨s1,s2,s3,s4⟩:=shaped_of a1
 have h24:(f.loc+f.h).toNat≤24:=by omega
 obtain⟨m1,m2⟩:=mgAt_loc (l:=l) (a:=f) (b:=g) (f.loc+f.h).toNat
 have msl:=fun i hi=>mgAt_sl (l:=l) (a:=f) (b:=g) (f.loc+f.h).toNat h24 i hi
 have out:∀k:Fr,bareF k=k→k.loc=f.loc→k.h=f.h→∀i,i<24→¬i<(f.loc+f.h).toNat→slAt k i=0:=fun k hb hl hk i hi hn=>by
  rw[←hb,slAt_bare k hi,if_neg (by omega)]
 generalize mgAt l f g (f.loc+f.h).toNat=m at m1 m2 msl
 have cm:checkF l.length m=0:=by
  refine checkF_iff.2 ⟨?_,fr_ext ?_ ?_ fun i hi=> ?_,fun i hi=> ?_⟩
  ·simp only[shapedB,m1,m2]; simpa[shapedB] using a1
  ·exact bare_loc _
  ·exact bare_h _
  ·rw[slAt_bare m hi,m1,m2]
   by_cases hc:(i:Int)<f.loc+f.h
   ·rw[if_pos hc]
   ·rw[if_neg hc,msl i hi,if_neg (by omega),out f a2 rfl rfl i hi (by omega)]
  ·rw[msl i hi]
   split
   ·exact merge_valid _ _
   ·exact a3 i hi
 refine⟨⟨ca,cm,m1.symm,m2.symm,fun i hi=> ?_⟩,⟨cb,cm,by omega,by omega,fun i hi=> ?_⟩,fun u h1 h2=>⟨cm,h1.cb,m1.trans h1.loc,m2.trans h1.h,fun i hi=> ?_⟩⟩
 ·rw[msl i hi]
  split
  ·exact(merge_up (a3 i hi) (b3 i hi)).1
  ·exact subB_refl (a3 i hi)
 ·rw[msl i hi]
  split
  ·exact(merge_up (a3 i hi) (b3 i hi)).2.1
  ·rename_i hn
   rw[out f a2 rfl rfl i hi hn,out g b2 hloc.symm hh.symm i hi hn]; exact subB_zero l
 ·rw[msl i hi]
  split
  ·exact(merge_up (a3 i hi) (b3 i hi)).2.2 _ (h1.sl i hi) (h2.sl i hi)
  ·exact h1.sl i hi
def hasP (s:IS) (x:Nat):Prop:=(s.has[x]?).getD false=true
def newP (s:IS) (x:Nat):Prop:=(s.fresh[x]?).getD false=true
def frA (s:IS) (x:Nat):Fr:=(s.fr[x]?).getD (fr0 0)
structure Handed (l:List Cl) (g:Fr) (T:List Nat) (s s':IS):Prop where
 has:∀x,hasP s' x↔hasP s x∨x∈T
 old:∀x,hasP s' x→¬newP s' x→hasP s x∧¬newP s x∧frA s' x=frA s x
 up:∀x,hasP s x→frA s' x=frA s x∨SubF l (frA s x) (frA s' x)
 got:∀x∈T,SubF l g (frA s' x)
 least:∀F:Nat→Fr,(∀x,hasP s x→SubF l (frA s x) (F x))→(∀x∈T,SubF l g (F x))→∀x,hasP s' x→SubF l (frA s' x) (F x)
theorem Handed.nil {l:List Cl} {g:Fr} {s:IS}:Handed l g [] s s:=⟨fun x=>by simp,fun x h1 h2=>⟨h1,h2,rfl⟩,fun x _=> .inl rfl,fun x h=>(by cases h),fun F h _ x hx=>h x hx⟩
theorem Handed.trans {l:List Cl} {g:Fr} {T T':List Nat} {s s1 s2:IS} (h:Handed l g T s s1) (h':Handed l g T' s1 s2):Handed l g (T++T') s s2:=by
 refine⟨fun x=> ?_,fun x h1 h2=> ?_,fun x hx=> ?_,fun x hx=> ?_,fun F h1 h2 x hx=> ?_⟩
 ·rw[h'.has,h.has,List.mem_append,or_assoc]
 ·obtain⟨a1,a2,a3⟩:=h'.old x h1 h2
  obtain⟨b1,b2,b3⟩:=h.old x a1 a2
  exact⟨b1,b2,a3.trans b3⟩
 ·rcases h.up x hx with h3|h3 <;> rcases h'.up x ((h.has x).2 (.inl hx)) with h4|h4
  ·exact .inl (h4.trans h3)
  ·exact .inr (h3▸h4)
  ·exact .inr (h4▸h3)
  ·exact .inr (h3.trans h4)
 ·rcases List.mem_append.1 hx with hx|hx
  ·rcases h'.up x ((h.has x).2 (.inr hx)) with h4|h4
   ·rw[h4]; exact h.got x hx
   ·exact(h.got x hx).trans h4
  ·exact h'.got x hx
 ·exact h'.least F (h.least F h1 fun y hy=>h2 y (List.mem_append_left _ hy)) (fun y hy=>h2 y (List.mem_append_right _ hy)) x hx
theorem hand_handed {l:List Cl} {s:IS} {m a:Nat} {g:Fr} (hs:s.sz m) (ha:a<m) (hg:checkF l.length g=0) (h:(handD l s a g).2=0):Handed l g [a] s (handD l s a g).1:=by
 have hla:a<s.has.length:=by rw[hs.a]; omega
 have hlb:a<s.fr.length:=by rw[hs.b]; omega
 have hlc:a<s.fresh.length:=by rw[hs.c]; omega
 unfold handD at h ⊢
 by_cases g1:(s.has[a]?).getD false=false
 ·rw[if_pos g1]
  have e1:∀x,hasP ⟨s.has.set a true,s.fr.set a g,s.fresh.set a true,s.tk⟩ x↔x=a∨hasP s x:=fun x=>by
   simp only[hasP]; rw[set_at hla]; split <;> simp_all
  have e2:∀x,newP ⟨s.has.set a true,s.fr.set a g,s.fresh.set a true,s.tk⟩ x↔x=a∨newP s x:=fun x=>by
   simp only[newP]; rw[set_at hlc]; split <;> simp_all
  have e3:∀x,frA ⟨s.has.set a true,s.fr.set a g,s.fresh.set a true,s.tk⟩ x=if x=a then g else frA s x:=fun x=>by
   simp only[frA]; rw[set_at hlb]
  have hna:∀x,hasP s x→x≠a:=fun x hx he=>by rw[he] at hx; unfold hasP at hx; rw[g1] at hx; cases hx
  refine⟨fun x=>by rw[e1]; simp[or_comm],fun x h1 h2=> ?_,fun x hx=> ?_,fun x hx=> ?_,fun F h1 h2 x hx=> ?_⟩
  ·rw[e2,not_or] at h2
   rw[e1] at h1
   rw[e3,if_neg h2.1]
   exact⟨h1.resolve_left h2.1,h2.2,rfl⟩
  ·rw[e3,if_neg (hna x hx)]; exact .inl rfl
  ·have:x=a:=by simpa using hx
   rw[e3,if_pos this]; exact SubF.refl hg
  ·rw[e3]
   by_cases he:x=a
   ·rw[if_pos he]; exact h2 x (by simp[he])
   ·rw[if_neg he]; exact h1 x (((e1 x).1 hx).resolve_left he)
 rw[if_neg g1] at h ⊢
 have hsa:hasP s a:=by unfold hasP; simpa using g1
 by_cases g2:(mergeF l ((s.fr[a]?).getD (fr0 0)) g).2=0
 case neg=>rw[if_pos g2] at h; exact absurd h g2
 have g2':¬(mergeF l ((s.fr[a]?).getD (fr0 0)) g).2≠0:=fun h=>h g2
 rw[if_neg g2'] at h ⊢
 obtain⟨u1,u2,u3⟩:=mergeF_up g2
 by_cases g3:(mergeF l ((s.fr[a]?).getD (fr0 0)) g).1=(s.fr[a]?).getD (fr0 0)
 ·have g3':¬(mergeF l ((s.fr[a]?).getD (fr0 0)) g).1≠(s.fr[a]?).getD (fr0 0):=fun h=>h g3
  rw[if_neg g3']
  refine⟨fun x=> ?_,fun x h1 h2=>⟨h1,h2,rfl⟩,fun x _=> .inl rfl,fun x hx=> ?_,fun F h1 _ x hx=>h1 x hx⟩
  ·constructor
   ·exact .inl
   ·rintro(h|h)
    ·exact h
    ·rw[show x=a by simpa using h]; exact hsa
  ·rw[show x=a by simpa using hx]
   show SubF l g ((s.fr[a]?).getD (fr0 0))
   rw[←g3]; exact u2
 ·rw[if_pos g3]
  generalize (mergeF l ((s.fr[a]?).getD (fr0 0)) g).1=M at u1 u2 u3 g3
  have e2:∀x,newP ⟨s.has,s.fr.set a M,s.fresh.set a true,s.tk⟩ x↔x=a∨newP s x:=fun x=>by
   simp only[newP]; rw[set_at hlc]; split <;> simp_all
  have e3:∀x,frA ⟨s.has,s.fr.set a M,s.fresh.set a true,s.tk⟩ x=if x=a then M else frA s x:=fun x=>by
   simp only[frA]; rw[set_at hlb]
  refine⟨fun x=> ?_,fun x h1 h2=> ?_,fun x hx=> ?_,fun x hx=> ?_,fun F h1 h2 x hx=> ?_⟩
  ·constructor
   ·exact .inl
   ·rintro(h|h)
    ·exact h
    ·rw[show x=a by simpa using h]; exact hsa
  ·rw[e2,not_or] at h2
   rw[e3,if_neg h2.1]
   exact⟨h1,h2.2,rfl⟩
  ·rw[e3]
   by_cases he:x=a
   ·subst he; rw[if_pos rfl]; exact .inr u1
   ·rw[if_neg he]; exact .inl rfl
  ·rw[e3,if_pos (show x=a by simpa using hx)]; exact u2
  ·rw[e3]
   by_cases he:x=a
   ·subst he; rw[if_pos rfl]; exact u3 _ (h1 x hx) (h2 x (by simp))
   ·rw[if_neg he]; exact h1 x hx
theorem hands_handed {l:List Cl} {m:Nat} {g:Fr} (hg:checkF l.length g=0):∀{to:List Int} {s:IS},s.sz m→(∀x∈to,0≤x∧x<m)→(handsD l g to s).2.2=0→Handed l g (to.map Int.toNat) s (handsD l g to s).1
 |[],s,_,_,_=> .nil
 |a::r,s,hs,ht,h=>by
  have ha:=ht a (List.mem_cons_self ..)
  rw[handsD] at h ⊢
  by_cases h0:(handD l s a.toNat g).2=0
  case neg=>rw[if_pos h0] at h; exact absurd h h0
  have h0':¬(handD l s a.toNat g).2≠0:=fun h=>h h0
  rw[if_neg h0'] at h ⊢
  exact(hand_handed hs (by omega) hg h0).trans (hands_handed hg (hand_sz hs) (fun x hx=>ht x (List.mem_cons_of_mem _ hx)) h)
def nextN (b:List Ty) (a:Nat):List Nat:=(onD (decF b a).1 b.length).1.map Int.toNat
def insA (b:List Ty) (a:Nat):Ins:=(decF b a).1
abbrev szA (b:List Ty) (x:Nat):Nat:=ze8 (insA b x).op.val
def behA (e:En) (b:List Ty) (s:IS) (a:Nat):Fr:=(applyR e (frA s a) (insA b a)).1
theorem round_handed {e:En} {b:List Ty} {s:IS} {a:Nat} (hw:WideE e) (hs:s.sz (b.length+1)) (ha:a≤b.length) (h:(roundD e b s a).2.2=0):
  Handed e.cs (behA e b s a) (nextN b a) ⟨s.has,s.fr,s.fresh.set a false,s.tk.set a (ze8 (decF b a).1.op.val)⟩ (roundD e b s a).1:=by
 obtain⟨h1,h2,h3,h4,h5,h6⟩:=round_ok h
 rw[h6] at h ⊢
 exact hands_handed (done_check hw (done_iff.1 h4)) ⟨hs.a,hs.b,by simpa using hs.c,by simpa using hs.d⟩ (fun x hx=>by have:=on_in h2 hx; omega) h
def FixI (e:En) (b:List Ty) (s:IS):Prop:=∀x,hasP s x→¬newP s x→x≠b.length∧(decF b x).2=0∧(applyR e (frA s x) (insA b x)).2=0∧(onD (decF b x).1 b.length).2=0∧∀y∈nextN b x,hasP s y∧SubF e.cs (behA e b s x) (frA s y)
theorem round_fix {e:En} {b:List Ty} {s:IS} {a:Nat} (hw:WideE e) (hs:s.sz (b.length+1)) (ha:a≤b.length) (hn:newP s a) (hi:FixI e b s) (hf:FH s) (h:(roundD e b s a).2.2=0):FixI e b (roundD e b s a).1:=by
 have H:=round_handed hw hs ha h
 obtain⟨h1,h2,h3,h4,h5,h6⟩:=round_ok h
 have lc:a<s.fresh.length:=by rw[hs.c]; omega
 generalize (roundD e b s a).1=s' at H
 intro x hx hnx
 obtain⟨o1,o2,o3⟩:=H.old x hx hnx
 have o1:hasP s x:=o1
 have o3:frA s' x=frA s x:=o3
 have hb:behA e b s' x=behA e b s x:=by unfold behA; rw[o3]
 have up:∀y g,hasP s y→SubF e.cs g (frA s y)→hasP s' y∧SubF e.cs g (frA s' y):=fun y g hy hg=>⟨(H.has y).2 (.inl hy),by
  rcases H.up y hy with h|h
  ·rw[h]; exact hg
  ·exact hg.trans h⟩
 rw[hb,o3]
 by_cases he:x=a
 ·subst he
  exact⟨h1,h2,h4,h5,fun y hy=>⟨(H.has y).2 (.inr hy),H.got y hy⟩⟩
 ·have hnn:¬newP s x:=fun hc=>o2 (by
   unfold newP at hc ⊢
   simp only
   rw[set_at lc,if_neg he]; exact hc)
  obtain⟨i1,i2,i3,i4,i5⟩:=hi x o1 hnn
  exact⟨i1,i2,i3,i4,fun y hy=>up y _ (i5 y hy).1 (i5 y hy).2⟩
def StartI (e:En) (f0:Fr) (s:IS):Prop:=hasP s 0∧SubF e.cs f0 (frA s 0)∧∀x,hasP s x→checkF e.cs.length (frA s x)=0
theorem round_start {e:En} {b:List Ty} {s:IS} {a:Nat} {f0:Fr} (hw:WideE e) (hs:s.sz (b.length+1)) (ha:a≤b.length) (hi:StartI e f0 s) (h:(roundD e b s a).2.2=0):StartI e f0 (roundD e b s a).1:=by
 have H:=round_handed hw hs ha h
 generalize (roundD e b s a).1=s' at H
 obtain⟨i1,i2,i3⟩:=hi
 refine⟨(H.has 0).2 (.inl i1), ?_,fun x hx=> ?_⟩
 ·rcases H.up 0 i1 with h|h
  ·rw[h]; exact i2
  ·exact i2.trans h
 ·rcases(H.has x).1 hx with hx|hx
  ·rcases H.up x hx with h|h
   ·rw[h]; exact i3 x hx
   ·exact h.cb
  ·exact(H.got x hx).cb
open Go.Proofs
theorem slAt_slOf {a h:Int} {ts:List Ty} {i:Nat} (hi:i<24):slAt ⟨a,h,slOf ts⟩ i=(ts[i]?).getD 0:=by
 simp[slAt,slOf,hi]
theorem start_eq {e:En} {loc:Int} (h:mayE e loc=0):canB e=true∧(psOf e).length≤loc∧loc≤16∧(∀t∈psOf e,storedN e.cs.length t=true)∧startF e.cs.length (psOf e) loc=(⟨loc,0,slOf (psOf e)⟩,0):=by
 have hno:¬(canB e=false∨loc<(psOf e).length∨16<loc):=fun hc=>(may_can e loc).2 hc h
 have hcan:canB e=true:=by
  cases h:canB e with
  |true=>rfl
  |false=>exact absurd (.inl h) hno
 obtain⟨hs,h0,hps,hp8,hst⟩:=can_sig hcan
 have h1:¬loc<(psOf e).length:=fun h=>hno (.inr (.inl h))
 have h2:¬16<loc:=fun h=>hno (.inr (.inr h))
 have hok:=start_ok hcan (n:=loc) h1 h2
 refine⟨hcan,by omega,by omega,hst, ?_⟩
 unfold startF at hok ⊢
 split
 ·rename_i hc; rw[if_pos hc] at hok; cases hok
 ·rfl
theorem start_check {e:En} {loc:Int} (h:mayE e loc=0):checkF e.cs.length (startF e.cs.length (psOf e) loc).1=0:=by
 obtain⟨_,h1,h2,h3,h4⟩:=start_eq h
 rw[h4]
 simp only
 refine checkF_iff.2 ⟨?_,fr_ext (bare_loc _) (bare_h _) fun i hi=> ?_,fun i hi=> ?_⟩
 ·simp only[shapedB,decide_eq_true_eq]; omega
 ·rw[slAt_bare _ hi]
  split
  ·rfl
  ·rename_i hc
   simp only at hc
   rw[slAt_slOf hi,List.getElem?_eq_none (by omega)]; rfl
 ·rw[slAt_slOf hi]
  cases hx:(psOf e)[i]? with
  |none=>exact valid_0 _
  |some t=>exact stored_valid (h3 t (List.mem_of_getElem? hx))
structure LastP (e:En) (loc:Int) (b:List Ty) (r:IS):Prop where
 sz:r.sz (b.length+1)
 lt:∀x,hasP r x→x<b.length
 start:StartI e (startF e.cs.length (psOf e) loc).1 r
 goes:∀x,hasP r x→(decF b x).2=0∧(applyR e (frA r x) (insA b x)).2=0∧(onD (decF b x).1 b.length).2=0∧∀y∈nextN b x,hasP r y∧SubF e.cs (behA e b r x) (frA r y)
theorem hasP_lt {s:IS} {m x:Nat} (hs:s.sz m) (h:hasP s x):x<m:=by
 unfold hasP at h
 rw[←hs.a]
 exact Classical.byContradiction fun hc=>by rw[List.getElem?_eq_none (by omega)] at h; cases h
theorem is0_hasP {n:Nat} {f:Fr} {x:Nat}:hasP (is0 n f) x↔x=0:=by unfold hasP; rw[is0_has]; simp
theorem gone_last {e:En} {loc:Int} {b:List Ty} (hw:WideE e) (hm:mayE e loc=0) (h:(goneD e loc b).2.2=0):∃r,goneD e loc b=(r,0,0)∧LastP e loc b r:=by
 have hend:=gone_end h
 obtain⟨r,h1,h2,h3,⟨h4,h5⟩,h6⟩:=gone_ind (I:=fun s=>FixI e b s∧StartI e (startF e.cs.length (psOf e) loc).1 s)
  (fun s a hs hf ⟨i1,i2⟩ ha hn _ hr=>⟨round_fix hw hs ha hn i1 hf hr,round_start hw hs ha i2 hr⟩)
  ⟨fun x hx hn=>by
   rw[is0_hasP] at hx
   exact absurd (show newP (is0 b.length _) x by subst hx; simp[newP,is0]) hn,
   by rw[is0_hasP],by
   have:frA (is0 b.length (startF e.cs.length (psOf e) loc).1) 0=(startF e.cs.length (psOf e) loc).1:=is0_fr
   rw[this]; exact SubF.refl (start_check hm),fun x hx=>by
   rw[is0_hasP] at hx
   subst hx
   have:frA (is0 b.length (startF e.cs.length (psOf e) loc).1) 0=(startF e.cs.length (psOf e) loc).1:=is0_fr
   rw[this]; exact start_check hm⟩ h
 have hno:∀x,¬newP r x:=fun x hx=>by unfold newP at hx; rw[h6] at hx; cases hx
 refine⟨r,h1,h2,fun x hx=> ?_,h5,fun x hx=>(h4 x hx (hno x)).2⟩
 have:=hasP_lt h2 hx
 have:=(h4 x hx (hno x)).1
 omega
theorem infer_last {e:En} {loc:Int} {b:List Ty} (hw:WideE e) (h:(inferD e loc b).2.2=0):mayE e loc=0∧b.length≤4096∧∃r,goneD e loc b=(r,0,0)∧LastP e loc b r∧inferD e loc b=(entsD r b.length,0,0):=by
 unfold inferD at h ⊢
 by_cases h1:mayE e loc=0
 case neg=>rw[if_pos h1] at h; exact absurd h h1
 have h1':¬mayE e loc≠0:=fun h=>h h1
 rw[if_neg h1'] at h ⊢
 by_cases h2:4096<b.length
 ·rw[if_pos h2] at h; cases h
 rw[if_neg h2] at h ⊢
 simp only at h ⊢
 have hg:goneD e loc b=goD e b (fuelD b.length) (is0 b.length (startF e.cs.length (psOf e) loc).1) 0:=rfl
 rw[←hg] at h ⊢
 by_cases h3:(goneD e loc b).2.2=0
 case neg=>rw[if_pos h3] at h; exact absurd h h3
 obtain⟨r,h4,h5⟩:=gone_last hw h1 h3
 refine⟨h1,by omega,r,h4,h5, ?_⟩
 rw[h4]; rfl
open Go.Proofs
theorem next_mem {b:List Ty} {x y:Nat} (hd:(decF b x).2=0) (h:y∈nextN b x):(jumpsB (insA b x).op.val=true∧y=(insA b x).a.toNat∧0≤(insA b x).a)∨(endsB (insA b x).op.val=false∧y=x+szA b x):=by
 have hp:(insA b x).pos=x:=by
  have:=(decF_ok hd).2.1
  unfold insA; rw[this]; rfl
 unfold nextN onD at h
 simp only[List.mem_map] at h
 obtain⟨z,hz,rfl⟩:=h
 have hj0:=fun hj=>jumps_a hd hj
 unfold insA szA insA at *
 split at hz
 ·cases hz
 split at hz
 ·cases hz
 simp only[List.mem_append] at hz
 rcases hz with(hz|hz)|hz
 ·split at hz
  ·rename_i h; left; simp only[List.mem_singleton] at hz; subst hz; exact⟨h.1,rfl,hj0 h.1⟩
  ·cases hz
 ·split at hz
  ·rename_i h; right; simp only[List.mem_singleton] at hz; subst hz; exact⟨h,by omega⟩
  ·cases hz
 ·split at hz
  ·rename_i h; left; simp only[List.mem_singleton] at hz; subst hz; exact⟨h.1,rfl,hj0 h.1⟩
  ·cases hz
end Go.AL
