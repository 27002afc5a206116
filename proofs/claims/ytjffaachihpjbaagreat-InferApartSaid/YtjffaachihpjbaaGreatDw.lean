import Derived.Test.YtjffaachihpjbaaGreatDv
import Derived.Test.YtjffaachihpjbaaGreatDu
import Derived.Test.YtjffaachihpjbaaGreatDe
import Derived.Test.YtjffaachihpjbaaGreatDp
import Derived.Test.YtjffaachihpjbaaGreatDm
import Derived.Test.YtjffaachihpjbaaGreatDl
import Derived.Test.YtjffaachihpjbaaGreatDs
set_option linter.unusedSimpArgs false
set_option linter.unusedVariables false
set_option maxRecDepth 100000
set_option maxHeartbeats 4000000
set_option linter.defProp false
namespace Go.AL
open Go.Proofs
theorem keys_list {α:Type} {enc:α→D} {f:Nat→Option α} {ks:List (Ky×Nat)} {vs:List D} {c:Nat} (hm:MapR enc f ks vs c) {L:List Nat} (hL:L.Pairwise (· < ·)) (hmem:∀x,x∈L↔f x≠none):
  sortZ (ks.map fun p=>kyI p.1)=L.map fun n:Nat=>(n:Int):=by
 have hk:∀x:Nat,f x≠none↔∃q∈ks,q.1=kyN x:=fun x=>by
  constructor
  ·intro hf
   obtain⟨a,ha⟩:=Option.ne_none_iff_exists'.1 hf
   obtain⟨j,h1,_⟩:=hm.yes x a ha
   obtain⟨t,ht⟩:=kf_some h1
   exact⟨_,List.mem_of_getElem? ht,rfl⟩
  ·rintro⟨q,hq,he⟩ hn
   exact kf_none (hm.no x hn) q hq he
 have hsorted:(L.map fun n:Nat=>(n:Int)).Pairwise (· ≤ ·):=by
  rw[List.pairwise_map]
  exact hL.imp fun h=>by omega
 rw[←sort_sorted hsorted]
 refine mergeSort_of_perm_i ((List.perm_ext_iff_of_nodup ?_ ?_).2 fun z=> ?_)
 ·have hn:=hm.nod
  have:ks.map (fun p=>kyI p.1)=(ks.map (·.1)).map kyI:=by rw[List.map_map]; rfl
  rw[this]
  refine List.pairwise_map.2 (List.Pairwise.imp_of_mem (R:=(· ≠ ·)) ?_ hn)
  intro x y hx hy hne he
  obtain⟨px,hpx,rfl⟩:=List.mem_map.1 hx
  obtain⟨py,hpy,rfl⟩:=List.mem_map.1 hy
  obtain⟨n,hn⟩:=hm.key px hpx
  obtain⟨m,hm⟩:=hm.key py hpy
  rw[hn,hm] at he hne
  simp only[kyN,kyI] at he
  exact hne (by simp only[kyN]; rw[he])
 ·refine List.pairwise_map.2 (hL.imp fun h he=>by omega)
 ·simp only[List.mem_map]
  constructor
  ·rintro⟨q,hq,rfl⟩
   obtain⟨n,hn⟩:=hm.key q hq
   exact⟨n,(hmem n).2 ((hk n).2 ⟨q,hq,hn⟩),by rw[hn]; rfl⟩
  ·rintro⟨n,hn,rfl⟩
   obtain⟨q,hq,he⟩:=(hk n).1 ((hmem n).1 hn)
   exact⟨q,hq,by rw[he]; rfl⟩
def WantI (b:List Ty) (kf:List (Ky×Nat)) (seen:List Nat) (ww:Nat→Option Unit):Prop:=
 ∀a,ww a=some ()↔a<b.length∧∃p∈kf,p.2∈seen∧∃x,p.1=kyN x∧wantX b x a=true
theorem want_nil {b:List Ty} {kf:List (Ky×Nat)}:WantI b kf [] fun _=>none:=fun a=>by simp
theorem want_step {b:List Ty} {kf:List (Ky×Nat)} {seen:List Nat} {ww ww':Nat→Option Unit} {i x st:Nat} (h:WantI b kf seen ww) (hn:(kf.map (·.2)).Nodup) (hi:kf[i]? =some (kyN x,st))
  (hw:∀a,ww' a=some ()↔ww a=some ()∨a<b.length∧wantX b x a=true):WantI b kf (seen++[st]) ww':=fun a=>by
 rw[hw,h a]
 have hm:=List.mem_of_getElem? hi
 constructor
 ·rintro(⟨h1,p,hp,hs,h2⟩|⟨h1,h2⟩)
  ·exact⟨h1,p,hp,List.mem_append_left _ hs,h2⟩
  ·exact⟨h1,_,hm,by simp,x,rfl,h2⟩
 ·rintro⟨h1,p,hp,hs,y,hy,h2⟩
  rcases List.mem_append.1 hs with hs|hs
  ·exact .inl ⟨h1,p,hp,hs,y,hy,h2⟩
  ·refine .inr ⟨h1, ?_⟩
   have hps:p.2=st:=by simpa using hs
   obtain⟨j,hj⟩:=List.mem_iff_getElem?.1 hp
   have:i=j:=nodup_at hn (b:=st) (by rw[List.getElem?_map,hi]; rfl) (by rw[List.getElem?_map,hj,←hps]; rfl)
   subst this
   rw[hi] at hj
   cases hj
   have:=kyN_inj.1 hy
   subst this
   exact h2
theorem want_end {b:List Ty} {kf:List (Ky×Nat)} {vf:List D} {cf:Nat} {seen:List Nat} {ww:Nat→Option Unit} {s:IS} {p:RS} (h:WantI b kf seen ww) (hm:MapR dF p.ff kf vf cf) (hal:Alike b s p) (hend:∀x,hasP s x→x<b.length) (hall:∀p∈kf,p.2∈seen) (a:Nat):
  a∈(List.range b.length).filter (wantL b (adrs s b.length))↔ww a≠none:=by
 have key:∀x,hasP s x↔∃q∈kf,q.1=kyN x:=fun x=>by
  have hx:=hal.f x
  constructor
  ·intro hf
   unfold hasP at hf
   rw[if_pos hf] at hx
   obtain⟨j,h1,_⟩:=hm.yes x _ hx
   obtain⟨t,ht⟩:=kf_some h1
   exact⟨_,List.mem_of_getElem? ht,rfl⟩
  ·rintro⟨q,hq,he⟩
   refine Classical.byContradiction fun hc=> ?_
   unfold hasP at hc
   rw[if_neg hc] at hx
   exact kf_none (hm.no x hx) q hq he
 have hu:ww a≠none↔ww a=some ():=by cases ww a <;> simp
 rw[hu,h a,List.mem_filter,List.mem_range]
 unfold wantL
 rw[List.any_eq_true]
 constructor
 ·rintro⟨h1,x,hx,h2⟩
  obtain⟨q,hq,he⟩:=(key x).1 (adrs_mem.1 hx).2
  exact⟨h1,q,hq,hall q hq,x,he,h2⟩
 ·rintro⟨h1,q,hq,_,x,hx,h2⟩
  have:=(key x).2 ⟨q,hq,hx⟩
  exact⟨h1,x,adrs_mem.2 ⟨hend x this,this⟩,h2⟩
theorem frz_zFr:zFr.map frz=zFr:=by rw[←fr_fr0]; exact frz_fr2 _
theorem grS_mp {s n:Nat} {o:Option Nat} {σ:St}:(grS s n o σ).mp=σ.mp:=by cases o <;> rfl
theorem upd_one {ww:Nat→Option Unit} {k n a:Nat} (hk:k<n):(if a=k then some () else ww a)=some ()↔ww a=some ()∨a<n∧k=a:=by
 by_cases ha:a=k
 ·rw[if_pos ha]; simp only[true_iff]; exact .inr ⟨by omega,ha.symm⟩
 ·rw[if_neg ha]; constructor
  ·exact .inl
  ·rintro(h|⟨_,h⟩)
   ·exact h
   ·exact absurd h.symm ha
theorem le_two {τ σ:St} {bw bi:Nat} {o i:MO} (h1:∀b cs,τ.box b=some cs→σ.box b=some cs) (h2:∀b p,τ.buf b=some p→σ.buf b=some p) (h3:∀b x,b≠bw→b≠bi→τ.mp b=some x→σ.mp b=some x)
  (h4:σ.mp bw=some o) (h5:σ.mp bi=some i):St.le ((τ.setM bw o).setM bi i) σ:=by
 refine⟨fun b cs h=>h1 b cs (by simpa[setM_box] using h),fun b p h=>h2 b p (by simpa[setM_buf] using h),fun b x h=> ?_⟩
 rw[setM_mp] at h
 by_cases hi:b=bi
 ·subst hi; rw[if_pos rfl] at h; rw[h5]; exact h
 rw[if_neg hi,setM_mp] at h
 by_cases hw:b=bw
 ·subst hw; rw[if_pos rfl] at h; rw[h4]; exact h
 rw[if_neg hw] at h
 exact h3 b x hw hi h
def bXhpK0:=aI @zb4 (aI @zb5 (aI @za9 (aI @za8 (aI @za6 (aI @za5 (aI @zb7 (aI @zb0 (aI @gdD @nilc_p))))))))
def bXhpK1:=aI @zb4 (aI @zb5 (aI @za9 (aI @za8 (aI @za6 (aI @za5 (aI @zb7 (aI @zb0 (aI @gdD (aI @nilc_p (aI @eRn_0 (aI @eRn_3 (aI @eRn_4 (aI @eRn_5 (aI @eRn_6 (aI @eRn_7 @eRn_len)))))))))))))))
def bXhpK2:=aI @zb4 (aI @zb5 (aI @za9 (aI @za8 (aI @za6 (aI @za5 (aI @zb7 (aI @zb0 (aI @gdD (aI @nilc_p (aI @zb3 (aI @za7 (aI @eIn_1 (aI @eIn_2 (aI @eIn_drop4 (aI @anD @za4)))))))))))))))
def bXhpK3:=aI @zb4 (aI @zb5 (aI @za9 (aI @za8 (aI @za6 (aI @za5 (aI @zb7 (aI @zb0 (aI @gdD (aI @nilc_p (aI @zb3 (aI @za7 (aI @eIn_1 (aI @eIn_2 (aI @eIn_drop4 (aI @anD (aI @za4 @setM_box))))))))))))))))
theorem emit43 (e:En) (loc:Int) (b:List Ty) (hw:WideE e) (hb:b.length≤140737488355328):
  PCall Tryz.prog 21 [.agg (eEn e),.int .i64 loc,.slice .no (rws eT b)] (.tup [.slice .no (rws eT (emitD e loc b).1),.int .i64 (emitD e loc b).2.1,.int .i64 (emitD e loc b).2.2]):=by
 have hg:goneD e loc b=goD e b (fuelD b.length) (is0 b.length (startF e.cs.length (psOf e) loc).1) 0:=rfl
 refine F21.pcallM rfl fun T hT=> ?_
 simp -implicitDefEqProofs only[go_sem,c21,hT,Nat.mul_one,Nat.add_zero,Nat.zero_add,bXhpK0]
 intro b3
 refine callB_new2 (around79 e loc b hw hb) fun d s' hR τ hτ hτ3=> ?_
 unfold aroundR at hR
 by_cases g1:mayE e loc=0
 case neg=>
  have hI:inferD e loc b=([],0,mayE e loc):=by unfold inferD; rw[if_pos g1]
  rw[if_pos g1] at hR
  obtain⟨rfl,rfl⟩:=hR
  have g1':((mayE e loc:Int)=0)=False:=eq_false (by omega)
  rw[show emitD e loc b=([],0,mayE e loc) by unfold emitD; rw[hI,if_pos g1]]
  simp -implicitDefEqProofs only[go_sem,hT,g1']
  exact DLe.tup (.cons (DLe.slice _ _) (.cons (DLe.refl _) (.cons (DLe.refl _) .nil)))
 rw[if_neg (by omega)] at hR
 by_cases g2:4096<b.length
 ·have hI:inferD e loc b=([],0,4):=by unfold inferD; rw[if_neg (by omega),if_pos g2]
  rw[if_pos g2] at hR
  obtain⟨rfl,rfl⟩:=hR
  rw[show emitD e loc b=([],0,4) by unfold emitD; rw[hI]; rfl]
  simp -implicitDefEqProofs only[go_sem,hT]
  exact DLe.tup (.cons (DLe.slice _ _) (.cons (DLe.refl _) (.cons (DLe.refl _) .nil)))
 rw[if_neg g2] at hR
 by_cases g3:(goneD e loc b).2.2=0
 case neg=>
  have hI:inferD e loc b=([],(goneD e loc b).2.1,(goneD e loc b).2.2):=by unfold inferD; rw[if_neg (by omega),if_neg g2]; simp only; rw[←hg,if_pos g3]
  rw[if_pos g3] at hR
  obtain⟨rfl,rfl⟩:=hR
  have g3':(((goneD e loc b).2.2:Int)=0)=False:=eq_false (by omega)
  rw[show emitD e loc b=([],(goneD e loc b).2.1,(goneD e loc b).2.2) by unfold emitD; rw[hI,if_pos g3]]
  simp -implicitDefEqProofs only[go_sem,hT,g3']
  exact DLe.tup (.cons (DLe.slice _ _) (.cons (DLe.refl _) (.cons (DLe.refl _) .nil)))
 have hI:inferD e loc b=(entsD (goneD e loc b).1 b.length,0,0):=by unfold inferD; rw[if_neg (by omega),if_neg g2]; simp only; rw[←hg,if_neg (by omega)]
 rw[if_neg (by omega)] at hR
 obtain⟨r,m,p,hne,hm,hal,hsz,rfl,rfl⟩:=hR
 rw[show emitD e loc b=((encC loc (certE b (goneD e loc b).1)).1,0,(encC loc (certE b (goneD e loc b).1)).2) by unfold emitD; rw[hI,if_neg (by simp)]]
 obtain⟨s,hs,hlast⟩:=gone_last hw g1 g3
 rw[hs] at hal hsz ⊢
 simp only at hal hsz ⊢
 have kq:τ.box r.q=some (eRn r e b p.wh):=hτ.box _ _ stR_q
 have kf:τ.mp r.f=some (.map (some .i64) m.kf m.vf m.cf):=hτ.mp _ _ (stR_f hne)
 simp -implicitDefEqProofs only[go_sem,hT,Nat.mul_one,Nat.add_zero,Nat.zero_add,kq,bXhpK1]
 rw[mkmA_map mp144 kk3]
 intro bw hbw
 have hwf:r.f≠bw:=fun he=>hbw (.inr (.inr (by rw[←he,kf]; simp)))
 have hwq:r.q≠bw:=fun he=>hbw (.inl (by rw[←he,kq]; simp))
 have kf1:∀o,(τ.setM bw o).mp r.f=some (.map (some .i64) m.kf m.vf m.cf):=fun o=>by rw[setM_mp,if_neg hwf]; exact kf
 simp -implicitDefEqProofs only[go_sem,hT,zb4,zb5,za9,za8,za6,za5,zb7,zb0,gdD,Nat.mul_one,Nat.add_zero,Nat.zero_add,nilc_p,eRn_0,eRn_3,eRn_4,eRn_5,eRn_6,eRn_7,eRn_len,setM_box,kq]
 rw[rangeA_map mp143 (kf1 _)]
 intro bi hbi
 have hib:bi≠bw:=fun he=>hbi (.inr (.inr (by rw[he,setM_mp,if_pos rfl]; simp)))
 have hif:bi≠r.f:=fun he=>hbi (.inr (.inr (by rw[he,kf1]; simp)))
 simp -implicitDefEqProofs only[go_sem,hT]
 refine loopL F21 (fun x:List Nat×List (Ky×Nat)×List D×Nat=>[(1,.int .i64 loc),(2,.slice .no (rws eT b)),(9,.ptr r.q 0),(12,.map bw),(40,.ptr bi 0)])
  (fun x=>(τ.setM bw (.map (some .i64) x.2.1 x.2.2.1 x.2.2.2)).setM bi (.iter r.f m.cf x.1)) (fun x=>∃ww,MapR dU ww x.2.1 x.2.2.1 x.2.2.2∧WantI b m.kf x.1 ww) (fun x=>unseen m.kf x.1) ([],[],[],0) ⟨_,MapR.nil,want_nil⟩ ?_ (St.le.refl _) ?_
 ·simp -implicitDefEqProofs only[go_sem,hT]
 clear hT T
 rintro⟨seen,ks,vs,c⟩ ⟨ww,hmw,hwi⟩ T hT
 simp only at hmw hwi hT ⊢
 have kmi:∀o x,((τ.setM bw o).setM bi x).mp bi=some x:=fun o x=>by rw[setM_mp,if_pos rfl]
 have kmf:∀o x,((τ.setM bw o).setM bi x).mp r.f=some (.map (some .i64) m.kf m.vf m.cf):=fun o x=>by rw[setM_mp,if_neg (Ne.symm hif)]; exact kf1 o
 have kmw:∀o x,((τ.setM bw o).setM bi x).mp bw=some o:=fun o x=>by rw[setM_mp,if_neg (Ne.symm hib),setM_mp,if_pos rfl]
 simp -implicitDefEqProofs only[go_sem,hT]
 simp only[nextA,kmi,kmf]
 refine⟨trivial,fun hall=> ?_,fun i k' st hi hst=> ?_⟩
 ·have hmem:=want_end hwi hm.f hal hlast.lt hall
  have hkeys:=keys_list hmw (List.Pairwise.filter _ List.pairwise_lt_range) hmem
  simp -implicitDefEqProofs only[go_sem,hT,Nat.mul_one,Nat.add_zero,Nat.zero_add,bXhpK0]
  intro b17 h17
  have hbl4:b.length≤4096:=by omega
  have kwn:ks.length=((List.range b.length).filter (wantL b (adrs s b.length))).length:=by
   have:=congrArg List.length hkeys
   simpa[sortZ,List.length_mergeSort] using this
  have hLl:((List.range b.length).filter (wantL b (adrs s b.length))).length≤b.length:=by
   have:=List.length_filter_le (wantL b (adrs s b.length)) (List.range b.length)
   rw[List.length_range] at this; exact this
  have hk5:∀q∈ks,∃n,q.1=kyN n∧n≤5000:=fun q hq=>by
   obtain⟨n,hn⟩:=hmw.key q hq
   refine⟨n,hn, ?_⟩
   have hmm:kyI q.1∈sortZ (ks.map fun p=>kyI p.1):=by
    unfold sortZ; rw[List.mem_mergeSort]; exact List.mem_map.2 ⟨q,hq,rfl⟩
   rw[hkeys,hn] at hmm
   obtain⟨x,hx,he⟩:=List.mem_map.1 hmm
   rw[List.mem_filter,List.mem_range] at hx
   simp only[kyN,kyI] at he
   omega
  obtain⟨τ2,hτ2⟩:∃τ2,(τ.setM bw (.map (some .i64) ks vs c)).setM bi (.iter r.f m.cf seen)=τ2:=⟨_,rfl⟩
  have q2:τ2.box r.q=some (eRn r e b p.wh):=by rw[←hτ2]; simp[setM_box,kq]
  have f2:τ2.mp r.f=some (.map (some .i64) m.kf m.vf m.cf):=by rw[←hτ2]; exact kmf _ _
  have w2:τ2.mp bw=some (.map (some .i64) ks vs c):=by rw[←hτ2]; exact kmw _ _
  rw[hτ2] at h17 ⊢
  rw[za4]
  refine callB_all (keys86 bw (τ2.set b17 [.int .i64 loc,.slice .nil []])) fun d s' ⟨cc,hcc,hd,hs'⟩=> ?_
  subst hd; subst hs'
  simp -implicitDefEqProofs only[go_sem,hT]
  refine callB_all (sorted80b ((τ2.set b17 [.int .i64 loc,.slice .nil []]).set cc [.map bw]) cc bw ks vs c (by rw[St.set_box,if_pos rfl]) (by rw[set_mp,set_mp]; exact w2) hk5 (by omega)) fun d s' ⟨hd,hs'⟩=> ?_
  subst hd; subst hs'
  rw[hkeys]
  have hA:(((List.range b.length).filter (wantL b (adrs s b.length))).map fun n:Nat=>(n:Int)).map (fun z=>[eZ z])=rws eN ((List.range b.length).filter (wantL b (adrs s b.length))):=by rw[List.map_map]; rfl
  rw[hA]
  have hce:certE b s=((List.range b.length).filter (wantL b (adrs s b.length))).map (entA s):=rfl
  rw[hce]
  have hlt:∀x∈(List.range b.length).filter (wantL b (adrs s b.length)),x<b.length:=fun x hx=>by rw[List.mem_filter,List.mem_range] at hx; exact hx.1
  generalize (List.range b.length).filter (wantL b (adrs s b.length))=L at hLl hlt ⊢
  have hq17:r.q≠b17:=fun he=>h17 (.inl (by rw[←he,q2]; simp))
  simp -implicitDefEqProofs only[go_sem,hT]
  refine loopL F21 (fun x:Nat×Option Nat=>[(9,.ptr r.q 0),(17,.ptr b17 0),(79,.slice .no (rws eN L)),(80,.int .i64 L.length),(81,.int .i64 x.1)])
   (fun x=>grS 28 x.1 x.2 (τ2.set b17 [.int .i64 loc,grD 28 x.2 (rws eEy ((L.take x.1).map (entA s)))])) (fun x=>x.1≤L.length∧(x.2=none→x.1=0)∧grN x.2 (τ2.set b17 [.int .i64 loc,grD 28 x.2 (rws eEy ((L.take x.1).map (entA s)))])) (fun x=>L.length-x.1) (0,none) ⟨Nat.zero_le _,fun _=>rfl,grN_none⟩ ?_ (le_add hcc) ?_
  ·simp -implicitDefEqProofs only[go_sem,hT,Nat.mul_one,Nat.add_zero,Nat.zero_add,bXhpK0]
   rfl
  clear hT T
  rintro⟨i,o2⟩ ⟨hi,hno,hgn⟩ T hT
  simp only at hi hno hgn hT ⊢
  obtain⟨C,hC⟩:∃C,(L.take i).map (entA s)=C:=⟨_,rfl⟩
  have hCl:C.length=i:=by rw[←hC]; simp; omega
  rw[hC] at hgn ⊢
  have k17:∀n o D',(grS 28 n o (τ2.set b17 D')).box b17=some D':=fun n o D'=>by rw[grS_boxa,St.set_box,if_pos rfl]
  have kqq:∀n o D',(grS 28 n o (τ2.set b17 D')).box r.q=some (eRn r e b p.wh):=fun n o D'=>by rw[grS_boxa,St.set_box,if_neg hq17]; exact q2
  by_cases h:i<L.length
  case neg=>
   have g5:((i:Int)<L.length)=False:=eq_false (by omega)
   have hfin:L.map (entA s)=C:=by rw[←hC,List.take_of_length_le (by omega)]
   rw[hfin]
   simp -implicitDefEqProofs only[go_sem,hT,g5,Nat.mul_one,Nat.add_zero,Nat.zero_add,k17,bXhpK0]
   refine za3 ((encode87 loc C (by omega)).args (.cons (DLe.agg (.cons (.refl _) (.cons grD_le .nil))) .nil)) ?_
   simp -implicitDefEqProofs only[go_sem,hT]
  have g5:((i:Int)<L.length)=True:=eq_true (by omega)
  have hget:=rws_at (enc:=eN) h
  have w1:IntKind.wrap .i64 ((i:Int)+1)=((i+1:Nat):Int):=by rw[zb8 (by omega) (by omega)]; simp
  have hxl:=hlt L[i] (List.getElem_mem h)
  have hnext:(L.take (i+1)).map (entA s)=C++[entA s L[i]]:=by rw[List.take_add_one,List.getElem?_eq_getElem h,List.map_append,hC]; rfl
  have hlk:=fun n o D'=>look143 (ok:=true) (n:=L[i]) (σ:=grS 28 n o (τ2.set b17 D')) hm.f (by rw[grS_mp,set_mp]; exact f2)
  generalize L[i]=x at *
  have hff:=hal.f x
  obtain⟨B,hB⟩:∃B:Option Nat→List Ey→St,B=fun o C=>τ2.set b17 [.int .i64 loc,grD 28 o (rws eEy C)]:=⟨_,rfl⟩
  have hBe:∀o C,τ2.set b17 [.int .i64 loc,grD 28 o (rws eEy C)]=B o C:=fun o C=>by rw[hB]
  have hBh:∀o C o' C' x,(B o C).has x↔(B o' C').has x:=fun o C o' C' x=>by rw[hB]; simp only[set_has]
  have hB17:∀o C,(B o C).box b17=some [.int .i64 loc,grD 28 o (rws eEy C)]:=fun o C=>by rw[hB]; simp only; rw[St.set_box,if_pos rfl]
  have hBq:∀o C,(B o C).box r.q=some (eRn r e b p.wh):=fun o C=>by rw[hB]; simp only; rw[St.set_box,if_neg hq17]; exact q2
  have hBs:∀o C o' C',(B o C).set b17 [.int .i64 loc,grD 28 o' (rws eEy C')]=B o' C':=fun o C o' C'=>by rw[hB]; simp only; rw[za4]
  have fin:∀(b20:Nat) (c25:List D) (K:Env→St→Prop) (T':Env) (d:Option Nat),¬(grS 28 i o2 (B o2 C)).has b20→
    (∀o3 σ',σ'.box=((B o2 C).set b20 c25).box→St.le (grS 28 (i+1) o3 ((B o2 C).set b20 c25)) σ'→grN o3 (B o2 C)→o3≠none→putK 112 d (grD 28 o3 (rws eEy (C++[entA s x]))) K T' σ')→
    appendA Tryz.prog 112 d 30 30 (grD 28 o2 (rws eEy C)) (.slice .exact [eEy (entA s x)]) K T' (grS 28 i o2 ((B o2 C).set b20 c25)):=fun b20 c25 K T' d hb20 hk=>by
   refine app_gr' (ow:= .exact) Tryz.sli30 Tryz.sz40 Tryz.by40 Tryz.zero40 rfl (n:=i) (m:=1) (base:=(B o2 C).set b20 c25) (by rw[za1,hCl]) rfl (St.le.refl _) (fun c hc hh=> ?_) hno (by simp[ze7]) (by omega) fun o3 σ' hbox hle hg hnn=> ?_
   ·rcases set_has.1 hh with rfl|hh
    ·exact hb20 (by rw[grS_has]; exact .inl hc)
    ·exact hgn c hc (by rw[hBe]; exact hh)
   ·have e1:rws eEy C++[eEy (entA s x)]=rws eEy (C++[entA s x]):=by simp[rws]
    rw[e1]
    refine hk o3 σ' (by rw[hbox,grS_box]) hle (fun c hc hh=>hg c hc (set_has.2 (.inr hh))) fun h=>by have:=hnn h; omega
  have last:∀(b20:Nat) (c25:List D) (o3:Option Nat) (σ':St),¬(grS 28 i o2 (B o2 C)).has b20→o3≠none→St.le (grS 28 (i+1) o3 ((B o2 C).set b20 c25)) σ'→
    St.le (grS 28 (i+1) o3 (B o3 (C++[entA s x]))) (σ'.set b17 [.int .i64 loc,grD 28 o3 (rws eEy (C++[entA s x]))]):=fun b20 c25 o3 σ' hb20 hn3 hle=>by
   have hb12:b20≠b17:=fun he=>hb20 (by rw[he,grS_has]; exact .inr (.inl (by rw[hB17]; simp)))
   have h15:¬(B o3 (C++[entA s x])).has b20:=fun hh=>hb20 (by rw[grS_has]; exact .inr ((hBh _ _ _ _ _).1 hh))
   have h1:=le_set (b:=b17) (cs:=[.int .i64 loc,grD 28 o3 (rws eEy (C++[entA s x]))]) hle
   rw[grS_set,set_comm hb12,hBs] at h1
   refine St.le.trans ?_ h1
   cases o3 with
   |none=>exact absurd rfl hn3
   |some c=>exact le_setBuf (le_add h15)
  have hlk2:lookD Tryz.prog 85 (.map r.f) (.int .i64 x) true (grS 28 i o2 (B o2 C))=some (lkV dF (.agg zFr) true (p.ff x)):=by rw[←hBe]; exact hlk _ _ _
  cases hh:hasB s x with
  |true=>
   have hv:p.ff x=some (frA s x):=by rw[hff]; exact if_pos hh
   have hent:D.int .i64 (x:Int)::D.bool false::eFr (frA s x)=eEy (entA s x):=by unfold entA; rw[if_pos hh]; rfl
   simp only[hBe]
   simp -implicitDefEqProofs only[go_sem,hT,g5,hget,Nat.mul_one,Nat.add_zero,Nat.zero_add,hBq,hlk2,eN,hv,lkV,pairD,dF,bXhpK1]
   refine⟨by omega,fun b20 hb20=> ?_⟩
   have hb12:¬b17=b20:=fun he=>hb20 (by rw[←he,grS_has]; exact .inr (.inl (by rw[hB17]; simp)))
   simp -implicitDefEqProofs only[go_sem,hT,zb4,zb5,za9,za8,za6,za5,zb7,zb0,gdD,Nat.mul_one,Nat.add_zero,Nat.zero_add,nilc_p,hb12,Ne.symm hb12,hB17,frz,frz_fr2,frz_zFr,grS_set,za4]
   rw[hent]
   refine fin b20 _ _ _ _ hb20 fun o3 σ' hbox hle hg hn3=> ?_
   have k12:σ'.box b17=some [.int .i64 loc,grD 28 o2 (rws eEy C)]:=by rw[hbox,St.set_box,if_neg hb12,hB17]
   simp -implicitDefEqProofs only[go_sem,hT,Nat.mul_one,Nat.add_zero,Nat.zero_add,k12,w1,bXhpK0]
   exact⟨(i+1,o3),⟨by simp only; omega,fun h=>absurd h hn3,by simp only[hnext,hBe]; exact fun c hc hh=>hg c hc ((hBh _ _ _ _ _).1 hh)⟩,by simp only; omega,rfl,by simp only[hnext,hBe]; exact last b20 _ o3 σ' hb20 hn3 hle⟩
  |false=>
   have hv:p.ff x=none:=by rw[hff]; exact if_neg (by unfold hasB at hh; rw[hh]; simp)
   have hent:D.int .i64 (x:Int)::D.bool true::zFr=eEy (entA s x):=by unfold entA; rw[if_neg (by rw[hh]; simp),←fr_fr0]; rfl
   simp only[hBe]
   simp -implicitDefEqProofs only[go_sem,hT,g5,hget,Nat.mul_one,Nat.add_zero,Nat.zero_add,hBq,hlk2,eN,hv,lkV,pairD,dF,bXhpK1]
   refine⟨by omega,fun b20 hb20=> ?_⟩
   have hb12:¬b17=b20:=fun he=>hb20 (by rw[←he,grS_has]; exact .inr (.inl (by rw[hB17]; simp)))
   simp -implicitDefEqProofs only[go_sem,hT,zb4,zb5,za9,za8,za6,za5,zb7,zb0,gdD,Nat.mul_one,Nat.add_zero,Nat.zero_add,nilc_p,hb12,Ne.symm hb12,hB17,frz,frz_fr2,frz_zFr,grS_set,za4]
   rw[hent]
   refine fin b20 _ _ _ _ hb20 fun o3 σ' hbox hle hg hn3=> ?_
   have k12:σ'.box b17=some [.int .i64 loc,grD 28 o2 (rws eEy C)]:=by rw[hbox,St.set_box,if_neg hb12,hB17]
   simp -implicitDefEqProofs only[go_sem,hT,Nat.mul_one,Nat.add_zero,Nat.zero_add,k12,w1,bXhpK0]
   exact⟨(i+1,o3),⟨by simp only; omega,fun h=>absurd h hn3,by simp only[hnext,hBe]; exact fun c hc hh=>hg c hc ((hBh _ _ _ _ _).1 hh)⟩,by simp only; omega,rfl,by simp only[hnext,hBe]; exact last b20 _ o3 σ' hb20 hn3 hle⟩
 ·obtain⟨x,f,rfl,hx,hvx⟩:=hm.f.at hi
  have hlt:=unseen_lt (seen:=seen) hi hst
  have hax:=hal.f x
  have hpx:hasP s x:=by
   refine Classical.byContradiction fun hc=> ?_
   unfold hasP at hc
   rw[if_neg hc] at hax
   rw[hax] at hx; cases hx
  have hxl:=hlast.lt x hpx
  obtain⟨hd,hj,hz⟩:=last_leads hlast (adrs_mem.2 ⟨hxl,hpx⟩)
  rw[setM_setM]
  simp -implicitDefEqProofs only[go_sem,hT]
  simp only[entryA,kmi,kmf,List.getLast?_append,List.getLast?_singleton,Option.some_or]
  refine⟨trivial,i,kyN x,hi, ?_⟩
  simp -implicitDefEqProofs only[go_sem,hT,kyN,Ky.d]
  refine za3 (decode82 b .no x (by omega) (by omega)) ?_
  have hI:(decF b x).1=insA b x:=rfl
  obtain⟨I,hIe⟩:∃I,insA b x=I:=⟨_,rfl⟩
  have hwx:∀a,wantX b x a=(jumpsB I.op.val&&decide (I.a=(a:Int))||endsB I.op.val&&decide (x+ze9 I.op.val=a)):=fun a=>by unfold wantX szA; rw[hIe]
  unfold szA at hz
  rw[hIe] at hj hz
  rw[hI,hIe]
  have hsz6:=sizeOp_le I.op.val
  have w4:IntKind.wrap .i64 ((x:Int)+ze9 I.op.val)=((x+ze9 I.op.val:Nat):Int):=by rw[zb8 (by omega) (by omega)]; simp
  have hstep:=fun(ww':Nat→Option Unit)=>want_step (ww':=ww') hwi hm.f.stm hi
  simp -implicitDefEqProofs only[go_sem,hT,Nat.mul_one,Nat.add_zero,Nat.zero_add,bXhpK2]
  intro b14 h14
  have t14:∀b cs,τ.box b=some cs→b≠b14:=fun b cs h he=>h14 (.inl (by rw[←he]; simp[setM_box,h]))
  refine za3 (jumps83 I.op) ?_
  have hset:=fun(k:Nat)=>hmw.set k ()
  have hmpw:∀(σ:St),σ.mp=((τ.setM bw (.map (some .i64) ks vs c)).setM bi (.iter r.f m.cf (seen++[st]))).mp→σ.mp bw=some (.map (some .i64) ks vs c):=fun σ h=>by rw[h]; exact kmw _ _
  cases hjj:jumpsB I.op.val with
  |false=>
   simp -implicitDefEqProofs only[go_sem,hT,Nat.mul_one,Nat.add_zero,Nat.zero_add,bXhpK2]
   refine za3 (size125 I.op) ?_
   simp -implicitDefEqProofs only[go_sem,hT,Nat.mul_one,Nat.add_zero,Nat.zero_add,w4,bXhpK2]
   refine za3 (ends88 I.op) ?_
   cases hee:endsB I.op.val with
   |false=>
    simp -implicitDefEqProofs only[go_sem,mmB,hT,Nat.mul_one,Nat.add_zero,Nat.zero_add,hee,bXhpK2]
    exact⟨(seen++[st],ks,vs,c),⟨ww,hmw,hstep ww fun a=>by rw[hwx a,hjj,hee]; simp⟩,hlt,le_two (fun b' cs h=>by simp[setM_box,St.set_box,t14 b' cs h,h]) (fun b' p' h=>by simpa[setM_buf,St.set] using h) (fun b' x' h1 h2 h=>by simp[setM_mp,set_mp,h1,h2,h]) (by simp[setM_mp,set_mp,Ne.symm hib]) (by simp[setM_mp,set_mp,hib])⟩
   |true=>
    by_cases hbl:x+ze9 I.op.val<b.length
    ·have g7:(((x+ze9 I.op.val:Nat):Int)<b.length)=True:=eq_true (by omega)
     simp -implicitDefEqProofs only[go_sem,mmB,hT,Nat.mul_one,Nat.add_zero,Nat.zero_add,hee,g7,bXhpK2]
     obtain⟨ks1,vs1,c1,e1,hm1⟩:=hset (x+ze9 I.op.val)
     have e1':mset (some .i64) ks vs c (kyN (x+ze9 I.op.val)) (.agg [])= .map (some .i64) ks1 vs1 c1:=e1
     rw[updA_map (k:=kyN (x+ze9 I.op.val)) mp144 kk3 keyD_int (hmpw _ (by rw[set_mp])) rfl]
     simp -implicitDefEqProofs only[go_sem,hT,Nat.mul_one,Nat.add_zero,Nat.zero_add,frz,e1',bXhpK2]
     exact⟨(seen++[st],ks1,vs1,c1),⟨_,hm1,hstep _ fun a=>by rw[hwx a,hjj,hee,upd_one hbl]; simp⟩,hlt,le_two (fun b' cs h=>by simp[setM_box,St.set_box,t14 b' cs h,h]) (fun b' p' h=>by simpa[setM_buf,St.set] using h) (fun b' x' h1 h2 h=>by simp[setM_mp,set_mp,h1,h2,h]) (by simp[setM_mp,set_mp,Ne.symm hib]) (by simp[setM_mp,set_mp,hib])⟩
    ·have g7:(((x+ze9 I.op.val:Nat):Int)<b.length)=False:=eq_false (by omega)
     simp -implicitDefEqProofs only[go_sem,mmB,hT,Nat.mul_one,Nat.add_zero,Nat.zero_add,hee,g7,bXhpK2]
     exact⟨(seen++[st],ks,vs,c),⟨ww,hmw,hstep ww fun a=>by
      rw[hwx a,hjj,hee]
      constructor
      ·exact .inl
      ·rintro(h|⟨h1,h2⟩)
       ·exact h
       ·simp at h2; omega⟩,hlt,le_two (fun b' cs h=>by simp[setM_box,St.set_box,t14 b' cs h,h]) (fun b' p' h=>by simpa[setM_buf,St.set] using h) (fun b' x' h1 h2 h=>by simp[setM_mp,set_mp,h1,h2,h]) (by simp[setM_mp,set_mp,Ne.symm hib]) (by simp[setM_mp,set_mp,hib])⟩
  |true=>
   obtain⟨ja,hja⟩:∃ja:Nat,I.a=ja:=⟨I.a.toNat,by have:=hj hjj; omega⟩
   have hjl:=hj hjj
   have hja2:ja<b.length:=by omega
   obtain⟨ks1,vs1,c1,e1,hm1⟩:=hset ja
   have e1':mset (some .i64) ks vs c (kyN ja) (.agg [])= .map (some .i64) ks1 vs1 c1:=e1
   simp -implicitDefEqProofs only[go_sem,hT,Nat.mul_one,Nat.add_zero,Nat.zero_add,hja,bXhpK2]
   rw[updA_map (k:=kyN ja) mp144 kk3 keyD_int (hmpw _ (by rw[set_mp])) rfl]
   simp -implicitDefEqProofs only[go_sem,hT,Nat.mul_one,Nat.add_zero,Nat.zero_add,hja,frz,e1',bXhpK3]
   refine za3 (size125 I.op) ?_
   simp -implicitDefEqProofs only[go_sem,hT,Nat.mul_one,Nat.add_zero,Nat.zero_add,w4,bXhpK3]
   refine za3 (ends88 I.op) ?_
   cases hee:endsB I.op.val with
   |false=>
    simp -implicitDefEqProofs only[go_sem,mmB,hT,Nat.mul_one,Nat.add_zero,Nat.zero_add,hee,bXhpK3]
    exact⟨(seen++[st],ks1,vs1,c1),⟨_,hm1,hstep _ fun a=>by rw[hwx a,hjj,hee,upd_one hja2,hja]; simp[Int.natCast_inj]⟩,hlt,le_two (fun b' cs h=>by simp[setM_box,St.set_box,t14 b' cs h,h]) (fun b' p' h=>by simpa[setM_buf,St.set] using h) (fun b' x' h1 h2 h=>by simp[setM_mp,set_mp,h1,h2,h]) (by simp[setM_mp,set_mp,Ne.symm hib]) (by simp[setM_mp,set_mp,hib])⟩
   |true=>
    by_cases hbl:x+ze9 I.op.val<b.length
    ·have g7:(((x+ze9 I.op.val:Nat):Int)<b.length)=True:=eq_true (by omega)
     simp -implicitDefEqProofs only[go_sem,mmB,hT,Nat.mul_one,Nat.add_zero,Nat.zero_add,hee,g7,bXhpK3]
     obtain⟨ks2,vs2,c2,e2,hm2⟩:=hm1.set (x+ze9 I.op.val) ()
     have e2':mset (some .i64) ks1 vs1 c1 (kyN (x+ze9 I.op.val)) (.agg [])= .map (some .i64) ks2 vs2 c2:=e2
     rw[updA_map (k:=kyN (x+ze9 I.op.val)) mp144 kk3 keyD_int (by rw[setM_mp,if_pos rfl]) rfl]
     simp -implicitDefEqProofs only[go_sem,hT,Nat.mul_one,Nat.add_zero,Nat.zero_add,frz,e2',bXhpK2]
     exact⟨(seen++[st],ks2,vs2,c2),⟨_,hm2,hstep _ fun a=>by
      have hu:=upd_one (ww:=fun a=>if a=ja then some () else ww a) (a:=a) hbl
      rw[hwx a,hjj,hee,hu,upd_one hja2,hja]
      constructor
      ·rintro((h|⟨h1,h2⟩)|⟨h1,h2⟩)
       ·exact .inl h
       ·exact .inr ⟨h1,by simp[h2]⟩
       ·exact .inr ⟨h1,by simp[h2]⟩
      ·rintro(h|⟨h1,h2⟩)
       ·exact .inl (.inl h)
       ·simp at h2
        rcases h2 with h2|h2
        ·exact .inl (.inr ⟨h1,by omega⟩)
        ·exact .inr ⟨h1,h2⟩⟩,hlt,le_two (fun b' cs h=>by simp[setM_box,St.set_box,t14 b' cs h,h]) (fun b' p' h=>by simpa[setM_buf,St.set] using h) (fun b' x' h1 h2 h=>by simp[setM_mp,set_mp,h1,h2,h]) (by simp[setM_mp,set_mp,Ne.symm hib]) (by simp[setM_mp,set_mp,hib])⟩
    ·have g7:(((x+ze9 I.op.val:Nat):Int)<b.length)=False:=eq_false (by omega)
     simp -implicitDefEqProofs only[go_sem,mmB,hT,Nat.mul_one,Nat.add_zero,Nat.zero_add,hee,g7,bXhpK3]
     exact⟨(seen++[st],ks1,vs1,c1),⟨_,hm1,hstep _ fun a=>by
      rw[hwx a,hjj,hee,upd_one hja2,hja]
      constructor
      ·rintro(h|⟨h1,h2⟩)
       ·exact .inl h
       ·exact .inr ⟨h1,by simp[h2]⟩
      ·rintro(h|⟨h1,h2⟩)
       ·exact .inl h
       ·simp at h2
        exact .inr ⟨h1,by omega⟩⟩,hlt,le_two (fun b' cs h=>by simp[setM_box,St.set_box,t14 b' cs h,h]) (fun b' p' h=>by simpa[setM_buf,St.set] using h) (fun b' x' h1 h2 h=>by simp[setM_mp,set_mp,h1,h2,h]) (by simp[setM_mp,set_mp,Ne.symm hib]) (by simp[setM_mp,set_mp,hib])⟩
open Go.Proofs
instance moY:Mo:=⟨fun t=>t==99||t==109||t==57,fun t=>t==85||t==86||t==87,fun t=>t==57||t==30⟩
theorem apsY {t:TypeId}:@Mo.aps moY t=(t==57||t==30):=rfl
attribute [go_sem] apsY
abbrev Li:=Option (Nat×Nat)
def rD (o:Li) (n:Nat):D:=match o with
 |none=> .slice .nil []
 |some p=> .bsl p.1 0 n p.2
def rS (o:Li) (X:List D) (σ:St):St:=match o with
 |none=>σ
 |some p=>σ.set p.1 X
def rO (o:Li) (n:Nat) (X:List D) (σ:St):Prop:=match o with
 |none=>n=0
 |some p=>¬σ.has p.1∧n≤p.2∧X.length=p.2*28
def liX (o:Li) (es:List Ey):List D:=match o with
 |none=>[]
 |some p=>fl eEy es++List.replicate ((p.2-es.length)*28) .any
theorem liX_len {p:Nat×Nat} {es:List Ey} (h:es.length≤p.2):(liX (some p) es).length=p.2*28:=by
 simp only[liX,List.length_append,fl_len ze7,List.length_replicate]
 rw[←Nat.add_mul]; congr 1; omega
theorem rO_has {o:Li} {n:Nat} {X Y:List D} {σ σ':St} (h:rO o n X σ) (hs:∀x,σ'.has x→σ.has x) (hl:∀p,o=some p→Y.length=p.2*28):rO o n Y σ':=by
 cases o with
 |none=>exact h
 |some p=>exact⟨fun hx=>h.1 (hs _ hx),h.2.1,hl p rfl⟩
theorem rS_has {o:Li} {X:List D} {σ:St} {x:Nat}:(rS o X σ).has x↔(∃p,o=some p∧x=p.1)∨σ.has x:=by
 cases o with
 |none=>simp[rS]
 |some p=>
  simp only[rS,set_has]
  constructor
  ·rintro(h|h)
   ·exact .inl ⟨p,rfl,h⟩
   ·exact .inr h
  ·rintro(⟨q,hq,h⟩|h)
   ·cases hq; exact .inl h
   ·exact .inr h
section
variable {N : Nat} {d : Option Nat} {K : Env → St → Prop} {T : Env} {σ : St}
theorem le_new {σ:St} {b b':Nat} {X Y:List D} (h:¬σ.has b):St.le (σ.set b' Y) ((σ.set b X).set b' Y):=le_set (le_add h)
theorem li_app {o:Li} {es:List Ey} {x:Ey} (ho:rO o es.length (liX o es) σ) (hl:es.length≤100000)
  (hk:∀o' σ',(∃p,o'=some p)→rO o' (es++[x]).length (liX o' (es++[x])) σ→St.le (rS o' (liX o' (es++[x])) σ) σ'→putK N d (rD o' (es++[x]).length) K T σ'):
  apK Tryz.prog N d true 30 30 (rD o es.length) (.slice .exact [eEy x]) K T (rS o (liX o es) σ):=by
 show appendB Tryz.prog N d 30 30 (rD o es.length) (.slice .exact [eEy x]) K T (rS o (liX o es) σ)
 have hn:(es++[x]).length=es.length+1:=by simp
 have hf:[eEy x].flatten=eEy x:=by simp
 have he:∀r∈[eEy x],r.length=28:=fun r hr=>by rw[List.mem_singleton] at hr; rw[hr,ze7]
 have hfl:fl eEy (es++[x])=fl eEy es++eEy x:=by rw[fl_app]; simp[fl,rws]
 rw[hn] at hk
 cases o with
 |none=>
  have hes:es=[]:=List.eq_nil_of_length_eq_zero ho
  subst hes
  simp only[appendB,rD,rS,Tryz.sli30,Tryz.sz40,Tryz.by40,Tryz.zero40,Option.map_some,true_and]
  refine⟨by simp,by omega,by omega,he,by simp,by simp,fun b cap h1 h2=> ?_⟩
  have h3:1≤cap:=by simpa using h2
  refine hk (some (b,cap)) _ ⟨_,rfl⟩ ⟨h1,h3,liX_len (by simpa using h3)⟩ ?_
  simp only[rS,liX,hfl,hf]
  exact St.le.refl _
 |some p=>
  obtain⟨h1,h2,h3⟩:=ho
  obtain⟨b,cap⟩:=p
  simp only at h1 h2 h3
  have hbox:(rS (some (b,cap)) (liX (some (b,cap)) es) σ).box b=some (liX (some (b,cap)) es):=by simp[rS,St.set_box]
  simp only[appendB,rD,hbox,Tryz.sli30,Tryz.sz40,Tryz.by40,Tryz.zero40,Option.map_some,true_and]
  have hlen:(fl eEy es).length=es.length*28:=fl_len ze7 es
  refine⟨by simp,by omega,by omega,he,h2,h3,by simp; omega,fun h=> ?_,fun h b' cap' h4 h5=> ?_⟩
  ·simp only[List.length_cons,List.length_nil,Nat.zero_add] at h ⊢
   refine hk (some (b,cap)) _ ⟨_,rfl⟩ ⟨h1,h,liX_len (by simpa using h)⟩ ?_
   have hlay:layD (liX (some (b,cap)) es) (es.length*28) (eEy x)=liX (some (b,cap)) (es++[x]):=by
    simp only[layD,liX,hfl]
    rw[List.take_left' hlen,List.drop_append,List.drop_eq_nil_of_le (by rw[hlen]; omega),hlen,ze7,hn]
    simp only[List.nil_append,List.drop_replicate,List.append_assoc]
    congr 3
    omega
   rw[hf,hlay]
   simp only[rS]
   rw[za4]
   exact St.le.refl _
  ·simp only[List.length_cons,List.length_nil,Nat.zero_add] at h h5 ⊢
   refine hk (some (b',cap')) _ ⟨_,rfl⟩ ⟨fun hx=>h4 (rS_has.2 (.inr hx)),h5,liX_len (by simpa using h5)⟩ ?_
   have hlay:(liX (some (b,cap)) es).take (es.length*28)++[eEy x].flatten++List.replicate ((cap'-(es.length+1))*28) D.any=liX (some (b',cap')) (es++[x]):=by
    simp only[liX,hfl,hf,hn]
    rw[List.take_left' hlen]
   rw[hlay]
   simp only[rS]
   exact le_new h1
end
open Go.Proofs
def c10:CT (Tryz.f10.body.getD .skip):=⟨_,by conv=>lhs; cbv⟩
theorem F10:Fun1 Tryz.prog 10 51 c10.1 [.tmp 6,.tmp 7,.tmp 8]:=mkT Tryz.func10 rfl (by decide +kernel) Tryz.ntmps10 rfl c10.2 rfl
def c30:CT (Tryz.f30.body.getD .skip):=⟨_,by conv=>lhs; cbv⟩
theorem F30:Fun1 Tryz.prog 30 26 c30.1 [.tmp 4]:=mkT Tryz.func30 rfl (by decide +kernel) Tryz.ntmps30 rfl c30.2 rfl
open Go.Proofs
theorem rS_le {o:Li} {X:List D} {s σ:St} (h:St.le s σ):St.le (rS o X s) (rS o X σ):=by
 cases o with
 |none=>exact h
 |some p=>exact le_set h
theorem rS_mp {o:Li} {X:List D} {σ:St} {x:Nat}:(rS o X σ).mp x=σ.mp x:=by
 cases o with
 |none=>rfl
 |some p=>exact congrFun set_mp x
theorem rS_box {o:Li} {n:Nat} {X:List D} {σ:St} {x:Nat} {cs:List D} (h:rO o n X σ) (hx:σ.box x=some cs):(rS o X σ).box x=some cs:=by
 cases o with
 |none=>exact hx
 |some p=>
  simp only[rS,St.set_box]
  rw[if_neg fun he=>h.1 (by rw[←he]; exact .inl (by rw[hx]; simp))]
  exact hx
def inferR (e:En) (loc:Int) (b:List Ty) (d:D) (s':St):Prop:=
 ∃o:Li,rO o (inferD e loc b).1.length (liX o (inferD e loc b).1) {}∧d= .tup [rD o (inferD e loc b).1.length,.int .i64 (inferD e loc b).2.1,.int .i64 (inferD e loc b).2.2]∧s'=rS o (liX o (inferD e loc b).1) {}
theorem infer41 (e:En) (loc:Int) (b:List Ty) (hw:WideE e) (hb:b.length≤140737488355328):
  RCall Tryz.prog 10 [.agg (eEn e),.int .i64 loc,.slice .no (rws eT b)] {} (inferR e loc b):=by
 have hg:goneD e loc b=goD e b (fuelD b.length) (is0 b.length (startF e.cs.length (psOf e) loc).1) 0:=rfl
 refine F10.rcall rfl fun T hT=> ?_
 simp -implicitDefEqProofs only[go_sem,c10,hT,zb4,zb5,za9,za8,za6,za5,zb7,zb0,gdD,Nat.mul_one,Nat.add_zero,Nat.zero_add,nilc_p]
 intro b3
 refine callB_new2 (around79 e loc b hw hb) fun d s' hR τ hτ hτ3=> ?_
 unfold aroundR at hR
 by_cases g1:mayE e loc=0
 case neg=>
  have hI:inferD e loc b=([],0,mayE e loc):=by unfold inferD; rw[if_pos g1]
  rw[if_pos g1] at hR
  obtain⟨rfl,rfl⟩:=hR
  have g1':((mayE e loc:Int)=0)=False:=eq_false (by omega)
  simp -implicitDefEqProofs only[go_sem,hT,g1']
  refine⟨_,_,DLe.refl _,St.le.nil _,none, ?_, ?_, ?_⟩ <;> rw[hI] <;> rfl
 rw[if_neg (by omega)] at hR
 by_cases g2:4096<b.length
 ·have hI:inferD e loc b=([],0,4):=by unfold inferD; rw[if_neg (by omega),if_pos g2]
  rw[if_pos g2] at hR
  obtain⟨rfl,rfl⟩:=hR
  simp -implicitDefEqProofs only[go_sem,hT]
  refine⟨_,_,DLe.refl _,St.le.nil _,none, ?_, ?_, ?_⟩ <;> rw[hI] <;> rfl
 rw[if_neg g2] at hR
 by_cases g3:(goneD e loc b).2.2=0
 case neg=>
  have hI:inferD e loc b=([],(goneD e loc b).2.1,(goneD e loc b).2.2):=by unfold inferD; rw[if_neg (by omega),if_neg g2]; simp only; rw[←hg,if_pos g3]
  rw[if_pos g3] at hR
  obtain⟨rfl,rfl⟩:=hR
  have g3':(((goneD e loc b).2.2:Int)=0)=False:=eq_false (by omega)
  simp -implicitDefEqProofs only[go_sem,hT,g3']
  refine⟨_,_,DLe.refl _,St.le.nil _,none, ?_, ?_, ?_⟩ <;> rw[hI] <;> rfl
 have hI:inferD e loc b=(entsD (goneD e loc b).1 b.length,0,0):=by unfold inferD; rw[if_neg (by omega),if_neg g2]; simp only; rw[←hg,if_neg (by omega)]
 rw[if_neg (by omega)] at hR
 obtain⟨r,m,p,hne,hm,hal,hsz,rfl,rfl⟩:=hR
 have hend:=gone_end g3
 generalize (goneD e loc b).1=s at *
 have kq:τ.box r.q=some (eRn r e b p.wh):=hτ.box _ _ stR_q
 have kf:τ.mp r.f=some (.map (some .i64) m.kf m.vf m.cf):=hτ.mp _ _ (stR_f hne)
 have hkeys:=keys_adrs hal hm.f hsz hend
 have hAl:(adrs s b.length).length≤b.length:=by
  have:=List.length_filter_le (fun a=>(s.has[a]?).getD false) (List.range b.length)
  rw[List.length_range] at this; exact this
 have hkl:m.kf.length=(adrs s b.length).length:=by
  have:=congrArg List.length hkeys
  simpa[sortZ,List.length_mergeSort] using this
 have hk5:∀q∈m.kf,∃n,q.1=kyN n∧n≤5000:=fun q hq=>by
  obtain⟨n,hn⟩:=hm.f.key q hq
  refine⟨n,hn, ?_⟩
  have hmem:kyI q.1∈sortZ (m.kf.map fun p=>kyI p.1):=by
   unfold sortZ; rw[List.mem_mergeSort]; exact List.mem_map.2 ⟨q,hq,rfl⟩
  rw[hkeys,hn] at hmem
  obtain⟨x,hx,he⟩:=List.mem_map.1 hmem
  simp only[adrs,List.mem_filter,List.mem_range] at hx
  simp only[kyN,kyI] at he
  omega
 simp -implicitDefEqProofs only[go_sem,hT,zb4,zb5,za9,za8,za6,za5,zb7,zb0,gdD,Nat.mul_one,Nat.add_zero,Nat.zero_add,nilc_p,eRn_0,eRn_3,eRn_4,eRn_5,eRn_6,eRn_7,eRn_len,kq]
 refine callB_all (keys81 r.f τ) fun d s' ⟨c,hc,hd,hs⟩=> ?_
 subst hd; subst hs
 simp -implicitDefEqProofs only[go_sem,hT]
 refine callB_all (sorted80 (τ.set c [.map r.f]) c r.f m.kf m.vf m.cf (by rw[St.set_box,if_pos rfl]) (by rw[set_mp]; exact kf) hk5 (by omega)) fun d s' ⟨hd,hs⟩=> ?_
 subst hd; subst hs
 rw[hkeys]
 have hA:((adrs s b.length).map fun n:Nat=>(n:Int)).map (fun z=>[eZ z])=rws eN (adrs s b.length):=by rw[List.map_map]; rfl
 rw[hA]
 have hents:=ents_adrs s b.length
 have hEl:(entsD s b.length).length=(adrs s b.length).length:=by rw[hents,List.length_map]
 simp -implicitDefEqProofs only[go_sem,hT]
 refine loopL F10 (fun x:Nat×Li=>[(9,.ptr r.q 0),(12,rD x.2 ((entsD s b.length).take x.1).length),(32,.slice .no (rws eN (adrs s b.length))),(33,.int .i64 (adrs s b.length).length),(34,.int .i64 x.1)])
  (fun x=>rS x.2 (liX x.2 ((entsD s b.length).take x.1)) τ) (fun x=>x.1≤(adrs s b.length).length∧rO x.2 ((entsD s b.length).take x.1).length (liX x.2 ((entsD s b.length).take x.1)) τ)
  (fun x=>(adrs s b.length).length-x.1) (0,none) ⟨Nat.zero_le _,by simp[rO]⟩ ?_ ?_ ?_
 ·simp -implicitDefEqProofs only[go_sem,hT,rD,List.take_zero]
  rfl
 ·exact le_add hc
 clear hT T
 rintro⟨i,o⟩ ⟨hi,ho⟩ T hT
 simp only at hi ho hT ⊢
 by_cases h:i<(adrs s b.length).length
 case neg=>
  have g5:((i:Int)<(adrs s b.length).length)=False:=eq_false (by omega)
  have htk:(entsD s b.length).take i=entsD s b.length:=List.take_of_length_le (by omega)
  rw[htk] at ho hT ⊢
  simp -implicitDefEqProofs only[go_sem,hT,g5]
  refine⟨_,rS o (liX o (entsD s b.length)) {},DLe.refl _, ?_,o, ?_, ?_, ?_⟩
  ·exact rS_le (St.le.nil _)
  ·rw[hI]; exact rO_has ho (fun x hx=>(St.not_has_nil x hx).elim) fun p hp=>by subst hp; exact ho.2.2
  ·rw[hI]; rfl
  ·rw[hI]
 have g5:((i:Int)<(adrs s b.length).length)=True:=eq_true (by omega)
 have hget:=rws_at (enc:=eN) h
 have hkq2:=rS_box ho kq
 have hkf2:(rS o (liX o ((entsD s b.length).take i)) τ).mp r.f=some (.map (some .i64) m.kf m.vf m.cf):=by rw[rS_mp]; exact kf
 have hlk:=look143 (ok:=false) (n:=(adrs s b.length)[i]) hm.f hkf2
 have hmemA:(adrs s b.length)[i]∈adrs s b.length:=List.getElem_mem h
 have hhas:(s.has[(adrs s b.length)[i]]?).getD false=true:=by
  have:=hmemA
  unfold adrs at this
  rw[List.mem_filter] at this
  exact this.2
 have hff:=hal.f (adrs s b.length)[i]
 rw[if_pos hhas] at hff
 rw[hff] at hlk
 have w1:IntKind.wrap .i64 ((i:Int)+1)=((i+1:Nat):Int):=by rw[zb8 (by omega) (by omega)]; simp
 have hnext:(entsD s b.length).take (i+1)=(entsD s b.length).take i++[⟨((adrs s b.length)[i]:Int),false,(s.fr[(adrs s b.length)[i]]?).getD (fr0 0)⟩]:=by
  rw[List.take_add_one,hents,List.getElem?_map,List.getElem?_eq_getElem h]; rfl
 simp -implicitDefEqProofs only[go_sem,hT,g5,hget,zb4,zb5,za9,za8,za6,za5,zb7,zb0,gdD,Nat.mul_one,Nat.add_zero,Nat.zero_add,nilc_p,eRn_0,eRn_3,eRn_4,eRn_5,eRn_6,eRn_7,eRn_len,hkq2,hlk,lkV,pairD,dF,eN,frz,frz_fr2]
 refine⟨by omega,li_app (x:=⟨((adrs s b.length)[i]:Int),false,(s.fr[(adrs s b.length)[i]]?).getD (fr0 0)⟩) ho (by rw[List.length_take]; omega) fun o' σ' _ ho' hle=> ?_⟩
 simp -implicitDefEqProofs only[go_sem,hT,w1]
 rw[←hnext] at ho' hle ⊢
 exact⟨(i+1,o'),⟨by simp only; omega,ho'⟩,by simp only; omega,⟨rfl,rfl⟩,hle⟩
open Go.Proofs
instance eyDec:DecidableEq Ey:=fun a b=>decidable_of_iff (a.pos=b.pos∧a.dead=b.dead∧a.fr=b.fr) (by
 obtain⟨a1,a2,a3⟩:=a
 obtain⟨b1,b2,b3⟩:=b
 simp)
theorem eq_frN (m:Nat) (f g:Fr):eqV Tryz.prog (m+3) 38 (.agg (eFr f)) (.agg (eFr g))=some (decide (f=g)):=by
 have h1:Tryz.prog.stoodInHeld 38=false:=by kernel_rfl
 have h2:(Tryz.prog.info? 35).isSome=true:=by kernel_rfl
 have h3:Tryz.prog.cellsOf 35=1:=by kernel_rfl
 have t:∀f:Fr,((eFr f).drop 2).take 24=f.sl.toList.map eU:=fun f=>by
  rw[List.take_of_length_le (by simp[eFr])]
  rfl
 rw[eqV_struct Tryz.underlying38 h1 rfl]
 simp only[fsParts,List.map_cons,List.map_nil,eqAll]
 simp -implicitDefEqProofs only[go_sem,fr_0,fr_1,t,za6,eqV_int Tryz.underlying3]
 rw[eqV_array Tryz.underlying36 h2,h3,List.range_eq_range',eqAll_from f.sl.toList g.sl.toList (by simp) (by simp) 24 0 rfl]
 obtain⟨a,b,c⟩:=f
 obtain⟨a',b',c'⟩:=g
 simp only[List.drop_zero,Bool.and_true]
 congr 1
 rw[Bool.eq_iff_iff]
 simp[Fr.mk.injEq,Vector.toList_inj]
theorem eq_ey (x y:Ey):eqV Tryz.prog 10 40 (.agg (eEy x)) (.agg (eEy y))=some (decide (x=y)):=by
 have h1:Tryz.prog.stoodInHeld 40=false:=by kernel_rfl
 have t:∀x:Ey,((eEy x).drop 2).take 26=eFr x.fr:=fun x=>by
  show(eFr x.fr).take 26=_
  exact za5 _
 rw[show(10:Nat)=9+1 from rfl,eqV_struct Tryz.underlying40 h1 rfl]
 simp only[fsParts,List.map_cons,List.map_nil,eqAll]
 simp -implicitDefEqProofs only[go_sem,ey_0,ey_1,t,ze7,eqV_int Tryz.underlying3,eqV_bool Tryz.underlying4]
 rw[show(9:Nat)=6+3 from rfl,eq_frN]
 obtain⟨a,b,c⟩:=x
 obtain⟨a',b',c'⟩:=y
 simp only[Bool.and_true]
 congr 1
 rw[Bool.eq_iff_iff]
 simp[Ey.mk.injEq]
open Go.Proofs
theorem equal30 (es fs:List Ey) (he:es.length≤100000) (hf:fs.length≤100000):
  PCall Tryz.prog 30 [.slice .no (rws eEy es),.slice .no (rws eEy fs)] (.bool (decide (es=fs))):=by
 refine F30.pcallM rfl fun T hT=> ?_
 by_cases hl:es.length=fs.length
 case neg=>
  have g1:((es.length:Int)=fs.length)=False:=eq_false (by omega)
  have hne:decide (es=fs)=false:=by rw[decide_eq_false_iff_not]; rintro rfl; exact hl rfl
  rw[hne]
  simp -implicitDefEqProofs only[go_sem,c30,hT,g1]
  done
 have g1:((es.length:Int)=fs.length)=True:=eq_true (by omega)
 simp -implicitDefEqProofs only[go_sem,c30,hT,g1]
 refine loopL F30 (fun i:Nat=>[(0,.slice .no (rws eEy es)),(1,.slice .no (rws eEy fs)),(12,.int .i64 es.length),(13,.int .i64 i)]) (fun _=>{}) (fun i=>i≤es.length∧es.take i=fs.take i) (fun i=>es.length-i) 0
   ⟨Nat.zero_le _,rfl⟩ ?_ (St.le.refl _) ?_
 ·simp -implicitDefEqProofs only[go_sem,hT,Int.ofNat_zero]
 clear hT T
 rintro i ⟨hi,heq⟩ T hT
 by_cases h:i<es.length
 case neg=>
  have g5:((i:Int)<es.length)=False:=eq_false (by omega)
  simp -implicitDefEqProofs only[go_sem,hT,g5]
  refine zf1 ?_
  rw[List.take_of_length_le (by omega),List.take_of_length_le (by omega)] at heq
  simp[heq]
 have g5:((i:Int)<es.length)=True:=eq_true (by omega)
 have g6:((i:Int)<fs.length)=True:=eq_true (by omega)
 have g0:(0≤(i:Int))=True:=eq_true (by omega)
 have w1:IntKind.wrap .i64 ((i:Int)+1)=((i+1:Nat):Int):=by rw[zb8 (by omega) (by omega)]; simp
 have h2:i<fs.length:=by omega
 simp -implicitDefEqProofs only[go_sem,hT,g5,g6,g0,Int.toNat_natCast,rws_at h,rws_at h2,ze7,eq_ey,zd6]
 refine br_split (fun h'=> ?_) fun h'=> ?_
 ·simp at h'
  refine zf1 ?_
  symm
  rw[decide_eq_false_iff_not]
  rintro rfl
  exact h' rfl
 ·simp at h'
  exact⟨i+1,⟨by omega,take_eq_step heq h (by omega) h'⟩,by omega,by rw[w1],St.le.refl _⟩
open Go.Proofs
instance moW:Mo:=⟨fun _=>false,fun _=>false,fun _=>false⟩
open Go.Proofs
open Go.Proofs
open Go.Proofs
open Go.Proofs
open Go.Proofs
def c8:CT (Tryz.f8.body.getD .skip):=⟨_,by conv=>lhs; cbv⟩
theorem F8:Fun1 Tryz.prog 8 163 c8.1 [.tmp 6]:=mkT Tryz.func8 rfl (by decide +kernel) Tryz.ntmps8 rfl c8.2 rfl
open Go.Proofs
def sL:Code→Code| .seq a _=>a|c=>c
def sR:Code→Code| .seq _ b=>b|c=>c
def opsC:Code→Array Oper| .region _ l _=>l|_=> #[]
noncomputable def k29:Code:=Tryz.f29.body.getD .skip
noncomputable def q290:Code:=sL k29
noncomputable def q291:Code:=sL (sR k29)
noncomputable def q292:Code:=sL (sR (sR k29))
noncomputable def ops29:Array Oper:=opsC q292
theorem body29:Tryz.f29.body=some (.seq q290 (.seq q291 (.seq q292 .ret))):=by kernel_rfl
theorem q290_is:strip q290=acL c29:=by kernel_rfl
theorem q291_is:strip q291=acL (acR c29):=by kernel_rfl
theorem q292_is:q292= .region 3 ops29 false:=by kernel_rfl
noncomputable def oA29:Oper:=(ops29.toList[2]?).getD default
theorem ops29_parts:ops29.toList=ops29.toList.take 2++(oA29::ops29.toList.drop 3):=by kernel_rfl
theorem ops29_pre:(ops29.toList.take 2).map (plainO ops29.toList)=[oO 5 (.buildSlice 26 0 #[]),oO 6 (.move (tT 0))]:=by kernel_rfl
theorem ops29_suf:(ops29.toList.drop 3).map (plainO ops29.toList)=[oO 2 (.assign (tT 7))]:=by kernel_rfl
theorem oA29_op:oA29.op= .call {callee:= .builtin .append,args:= #[.tmp 5,.tmp 6],argTypes:= #[26,26]}:=by kernel_rfl
theorem oA29_dst:oA29.dst=some 7:=by kernel_rfl
theorem oA29_g:oA29.guard=none:=by kernel_rfl
theorem app29:AppT Tryz.prog 26 26 5 1 1:=⟨Tryz.sli26,Tryz.sli26,Tryz.sz5,by decide,Tryz.by5,_,Tryz.zero5,rfl⟩
theorem oA29_run {a:Act} {w w':World} {v:Value} (h:(Builtin.append_ #[26,26] oA29.type #[a.eval (.tmp 5),a.eval (.tmp 6)]).run Tryz.prog w= .ok v w'):(execOp a.eval oA29).run Tryz.prog w= .ok (.value v) w':=by
 simp[execOp,oA29_op,resolve,invoke,builtin,h]
theorem clone29b (xs:List Ty) (o:Own) (h0:nilOk o xs.length) (hx:xs≠[]) (hl:xs.length≤140737488355328):RCall Tryz.prog 29 [.slice o (rws eT xs)] {} fun d s'=>∃b cap junk,d= .bsl b 0 xs.length cap∧xs.length≤cap∧s'=({}:St).set b ((rws eT xs).flatten++List.replicate junk .any):=by
 refine acall_of_body (N:=8) Tryz.func29 body29 (by decide +kernel) Tryz.ntmps29 (by simp) ?_
 intro M a w hi
 have dom:=hi.inv.dom
 refine wp_chain (M₀:=M) (σ₀:={}) (w₀:=w) (Qx:=fun x T' σ'=>x= .normal∧σ'={}∧T' 0= .slice o (rws eT xs)) Tryz.follows_mixed (by decide) dom ?hy ?hx [q290,q291] ?hv hi (KeepF.refl _ _ _)
 case hx=>
  rintro e a1 w1 hne ⟨M1,T1,s1,x,hx,_,_,rfl,_⟩
  exact absurd hx hne
 case hv=>
  rw[show chainA [q290,q291]= .seq (acL c29) (acL (acR c29)) by simp only[chainA,q290_is,q291_is]]
  have e0:envOf [.slice o (rws eT xs)] 0= .slice o (rws eT xs):=rfl
  simp -implicitDefEqProofs only[go_sem,c29,acL,acR,e0]
  intro r hr
  refine br_split (fun h=> ?_) fun h=> ?_
  ·have:=nilR_nil hr h fun h=>by simpa[rws_nil] using h0 h
   exact absurd (by simpa[rws_nil] using this) hx
  ·simp -implicitDefEqProofs only[go_sem,e0]
 rintro a1 w1 ⟨M1,T1,s1,x,hx1,hi1,hk1,-,-,rfl,t0⟩
 refine wp_seq ?_
 rw[q292_is]
 refine wp_region_list ?_
 rw[ops29_parts]
 refine list_cut (Q:=Post 8 M {} w fun y T' s'=>y= .normal∧s'={}∧T' 5= .slice .exact []∧T' 6= .slice o (rws eT xs)) noOut ?_ ?_ _ a1 w1 ?_
 ·rintro e a2 w2 hne' ⟨M2,T2,s2,y,hy,_,_,rfl,_⟩
  exact absurd hy hne'
 rotate_left
 ·refine aopsD_plain (M:=M1) (by decide) (ops29.toList.take 2) ?_ hi1 dom hk1
  rw[ops29_pre]
  simp -implicitDefEqProofs only[go_sem,t0]
 rintro a2 w2 ⟨M2,T2,s2,y,hy,hi2,hk2,-,rfl,u5,u6⟩
 have r5:=hi2.env 5
 have r6:=hi2.env 6
 rw[u5] at r5
 rw[u6] at r6
 obtain⟨bx,off,size,hv5,hrow⟩:=id r5
 have hpos:0<(rws eT xs).length:=by rw[za1]; exact List.length_pos_iff.2 hx
 obtain⟨v,w3,M3,b,ncap,junk,hrun,hv,hcap,hb,hi3,hk3⟩:=append_newBx (P:=Tryz.prog) app29 hv5 r5 r6 rfl (by simp) (by simp[rws,eT]) (by simpa using hpos) (by decide) (by simpa[za1] using hl) hi2.inv oA29.type
 refine list_value oA29_g (oA29_run hrun) ?_
 have hai:=hi2.keep hk3.toKeep hi3
 have hai':AInv 8 M3 (upd T2 7 (.bsl b 0 xs.length ncap)) (({}:St).set b (([]++rws eT xs).flatten++List.replicate junk .any)) (a2.put oA29.dst v) w3:=by
  rw[oA29_dst]
  exact hai.put (dst:=some 7) (d:= .bsl b 0 xs.length ncap) (fun t ht=>by cases ht; decide) (by rw[hv]; simp[Rep,za1])
 refine list_mono (Q:=Post 8 M {} w fun y T' s'=>y= .normal∧s'=({}:St).set b (([]++rws eT xs).flatten++List.replicate junk .any)∧T' 2= .bsl b 0 xs.length ncap) noOut ?_ _ _ _ ?_
 rotate_left
 ·refine aopsD_plain (M:=M3) (by decide) (ops29.toList.drop 3) ?_ hai' dom (hk2.trans dom hk3)
  rw[ops29_suf]
  simp -implicitDefEqProofs only[go_sem,]
 rintro e a4 w4 ⟨M4,T4,s4,y,hy4,hi4,hk4,rfl,rfl,v2⟩
 obtain rfl:=hy4
 show(Code.wp Tryz.prog .ret _) a4 w4
 refine wp_ret ?_
 exact⟨M4,T4,_,.ret,rfl,hi4,hk4,_,_,_,(by show resA Tryz.prog T4 _ [.tmp 2]=_; simp[resA,resOne,resC,v2]),DLe.refl _,St.le.refl _,_,rfl,b,ncap,junk,rfl,by simpa[za1] using hcap,by simp⟩
open Go.Proofs
open Go.Proofs
def eCo (e:En) (loc:Int) (b:List Ty):List D:=[.slice .no (rws eC e.cs),.slice .no (rws eSg e.sgs),.int .i64 e.fn,.int .i64 loc,.slice .no (rws eT b)]
theorem zg0 (e:En) (loc:Int) (b:List Ty):(eCo e loc b).length=5:=rfl
theorem ze8 (e:En) (loc:Int) (b:List Ty):(eCo e loc b).take 3=eEn e:=rfl
theorem eCo_3 (e:En) (loc:Int) (b:List Ty):(eCo e loc b)[3]? =some (.int .i64 loc):=rfl
theorem eCo_4 (e:En) (loc:Int) (b:List Ty):(eCo e loc b)[4]? =some (.slice .no (rws eT b)):=rfl
open Go.Proofs
theorem infer10 (e:En) (loc:Int) (b:List Ty) (hw:WideE e) (hb:b.length≤140737488355328):
  PCall Tryz.prog 10 [.agg (eEn e),.int .i64 loc,.slice .no (rws eT b)] (.tup [.slice .no (rws eEy (inferD e loc b).1),.int .i64 (inferD e loc b).2.1,.int .i64 (inferD e loc b).2.2]):=by
 refine(infer41 e loc b hw hb).shut fun d s' ⟨o,ho,hd,hs⟩=> ?_
 generalize inferD e loc b=r at *
 subst hd
 cases o with
 |none=>
  have h0:r.1.length=0:=ho
  have h1:r.1=[]:=List.eq_nil_of_length_eq_zero h0
  refine .inl ⟨hs, ?_⟩
  rw[h1]
  exact DLe.tup (.cons (DLe.slice _ _) (.refl _))
 |some p=>
  obtain⟨_,h2,h3⟩:=ho
  refine .inr ⟨p.1,p.2,28,rws eEy r.1,List.replicate ((p.2-r.1.length)*28) .any,[.int .i64 r.2.1,.int .i64 r.2.2], ?_,hs,fun x hx=> ?_,by rw[za1]; exact h2,rfl⟩
  ·rw[za1]; rfl
  ·rw[rws,List.mem_map] at hx
   obtain⟨y,_,rfl⟩:=hx
   exact ze7 y
open Go.Proofs
end Go.AL
