import Derived.Test.YtobmoajkfbigkaaGreatRw
import Derived.Test.YtobmoajkfbigkaaGreatRs
set_option linter.unusedSimpArgs false
set_option linter.unusedVariables false
set_option maxRecDepth 100000
set_option maxHeartbeats 4000000
set_option linter.defProp false
namespace Go.AL
open Go.Proofs
theorem mp143:mapP Tryz.prog 143=some (3,84):=by kernel_rfl
theorem mp144:mapP Tryz.prog 144=some (3,148):=by kernel_rfl
theorem mp145:mapP Tryz.prog 145=some (3,3):=by kernel_rfl
theorem kk3:kkP Tryz.prog 3=some (some .i64):=by kernel_rfl
theorem zv84:zvalD Tryz.prog 84=some (.agg zFr):=by kernel_rfl
theorem zv3:zvalD Tryz.prog 3=some (.int .i64 0):=by kernel_rfl
def dF (f:Fr):D:= .agg (eFr f)
def dU (_:Unit):D:= .agg []
def dN (n:Nat):D:= .int .i64 (n:Int)
structure RS where
 ff:Nat→Option Fr
 nn:Nat→Option Unit
 tt:Nat→Option Nat
 wh:Int
structure RB where
 q:Nat
 f:Nat
 n:Nat
 t:Nat
structure RB.ne (r:RB):Prop where
 qf:r.q≠r.f
 qn:r.q≠r.n
 qt:r.q≠r.t
 fn:r.f≠r.n
 ft:r.f≠r.t
 nt:r.n≠r.t
def eRn (r:RB) (e:En) (b:List Ty) (wh:Int):List D:=eEn e++[.slice .no (rws eT b),.map r.f,.map r.n,.map r.t,.int .i64 wh]
structure RM where
 kf:List (Ky×Nat)
 vf:List D
 cf:Nat
 kn:List (Ky×Nat)
 vn:List D
 cn:Nat
 kt:List (Ky×Nat)
 vt:List D
 ct:Nat
structure RM.of (m:RM) (s:RS):Prop where
 f:MapR dF s.ff m.kf m.vf m.cf
 n:MapR dU s.nn m.kn m.vn m.cn
 t:MapR dN s.tt m.kt m.vt m.ct
def stR (r:RB) (e:En) (b:List Ty) (m:RM) (wh:Int):St:=
 (((({}:St).set r.q (eRn r e b wh)).setM r.f (.map (some .i64) m.kf m.vf m.cf)).setM r.n (.map (some .i64) m.kn m.vn m.cn)).setM r.t (.map (some .i64) m.kt m.vt m.ct)
section
variable {r : RB} {e : En} {b : List Ty} {m : RM} {wh : Int}
theorem stR_q:(stR r e b m wh).box r.q=some (eRn r e b wh):=by simp[stR,setM_box,St.set_box]
theorem stR_f (h:r.ne):(stR r e b m wh).mp r.f=some (.map (some .i64) m.kf m.vf m.cf):=by simp[stR,setM_mp,h.fn,h.ft]
theorem stR_n (h:r.ne):(stR r e b m wh).mp r.n=some (.map (some .i64) m.kn m.vn m.cn):=by simp[stR,setM_mp,h.nt]
theorem stR_t:(stR r e b m wh).mp r.t=some (.map (some .i64) m.kt m.vt m.ct):=by simp[stR,setM_mp]
theorem stR_ne (h:r.ne) {x:Nat} (hx:¬(stR r e b m wh).has x):¬x=r.q∧¬x=r.f∧¬x=r.n∧¬x=r.t:=by
 refine⟨?_, ?_, ?_, ?_⟩ <;> rintro rfl
 ·exact hx (.inl (by rw[stR_q]; simp))
 ·exact hx (.inr (.inr (by rw[stR_f h]; simp)))
 ·exact hx (.inr (.inr (by rw[stR_n h]; simp)))
 ·exact hx (.inr (.inr (by rw[stR_t]; simp)))
theorem stR_has (h:r.ne) {x:Nat}:(stR r e b m wh).has x↔x=r.q∨x=r.f∨x=r.n∨x=r.t:=by
 constructor
 ·intro hx
  refine Classical.byContradiction fun hc=> ?_
  have h1:¬x=r.q:=fun h=>hc (.inl h)
  have h2:¬x=r.f:=fun h=>hc (.inr (.inl h))
  have h3:¬x=r.n:=fun h=>hc (.inr (.inr (.inl h)))
  have h4:¬x=r.t:=fun h=>hc (.inr (.inr (.inr h)))
  simp[St.has,stR,setM_box,setM_buf,setM_mp,St.set_box,h1,h2,h3,h4,St.set] at hx
 ·rintro(rfl|rfl|rfl|rfl)
  ·exact .inl (by rw[stR_q]; simp)
  ·exact .inr (.inr (by rw[stR_f h]; simp))
  ·exact .inr (.inr (by rw[stR_n h]; simp))
  ·exact .inr (.inr (by rw[stR_t]; simp))
theorem le_stR {σ:St} (h1:σ.box r.q=some (eRn r e b wh)) (h2:σ.mp r.f=some (.map (some .i64) m.kf m.vf m.cf)) (h3:σ.mp r.n=some (.map (some .i64) m.kn m.vn m.cn)) (h4:σ.mp r.t=some (.map (some .i64) m.kt m.vt m.ct)):St.le (stR r e b m wh) σ:=by
 refine⟨fun x cs hx=> ?_,fun x p hx=> ?_,fun x o hx=> ?_⟩
 ·simp only[stR,setM_box,St.set_box] at hx
  split at hx
  ·rename_i he; rw[he,h1,hx]
  ·cases hx
 ·simp[stR,setM_buf,St.set] at hx
 ·simp only[stR,setM_mp] at hx
  split at hx
  ·rename_i he; rw[he,h4,hx]
  split at hx
  ·rename_i he; rw[he,h3,hx]
  split at hx
  ·rename_i he; rw[he,h2,hx]
  ·cases hx
theorem stR_off (hr:r.ne) {m':RM} {w':Int} {x:Nat} (h:¬(stR r e b m wh).has x):¬(stR r e b m' w').has x:=fun h'=>h ((stR_has hr).2 ((stR_has hr).1 h'))
theorem eRn_len:(eRn r e b wh).length=8:=rfl
theorem eRn_en:(eRn r e b wh).take 3=eEn e:=rfl
theorem eRn_0:(eRn r e b wh)[0]? =some (.slice .no (rws eC e.cs)):=rfl
theorem eRn_3:(eRn r e b wh)[3]? =some (.slice .no (rws eT b)):=rfl
theorem eRn_4:(eRn r e b wh)[4]? =some (.map r.f):=rfl
theorem eRn_5:(eRn r e b wh)[5]? =some (.map r.n):=rfl
theorem eRn_6:(eRn r e b wh)[6]? =some (.map r.t):=rfl
theorem eRn_7:(eRn r e b wh)[7]? =some (.int .i64 wh):=rfl
theorem eRn_wh (w:Int):(eRn r e b wh).take 7++[D.int .i64 w]++(eRn r e b wh).drop 8=eRn r e b w:=rfl
theorem look143 {σ:St} {n:Nat} {ok:Bool} {f:Nat→Option Fr} {ks:List (Ky×Nat)} {vs:List D} {c:Nat} {x:Nat} (h:MapR dF f ks vs c) (hm:σ.mp x=some (.map (some .i64) ks vs c)):
  lookD Tryz.prog 143 (.map x) (.int .i64 n) ok σ=some (lkV dF (.agg zFr) ok (f n)):=by
 rw[lookD_map mp143 kk3 (keyD_int) zv84,hm]; exact h.look n _ ok
theorem look145 {σ:St} {n:Nat} {ok:Bool} {f:Nat→Option Nat} {ks:List (Ky×Nat)} {vs:List D} {c:Nat} {x:Nat} (h:MapR dN f ks vs c) (hm:σ.mp x=some (.map (some .i64) ks vs c)):
  lookD Tryz.prog 145 (.map x) (.int .i64 n) ok σ=some (lkV dN (.int .i64 0) ok (f n)):=by
 rw[lookD_map mp145 kk3 (keyD_int) zv3,hm]; exact h.look n _ ok
end
def handP (l:List Cl) (s:RS) (a:Nat) (f:Fr):RS×Nat:=match s.ff a with
 |some old=>if(mergeF l old f).2≠0 then({s with wh:=(a:Int)},(mergeF l old f).2)
  else if(mergeF l old f).1≠old then(⟨fun x=>if x=a then some (mergeF l old f).1 else s.ff x,fun x=>if x=a then some () else s.nn x,s.tt,s.wh⟩,0) else(s,0)
 |none=>(⟨fun x=>if x=a then some f else s.ff x,fun x=>if x=a then some () else s.nn x,s.tt,s.wh⟩,0)
def bYhdB0:=aI @zb8 (aI @zc0 (aI @zb2 (aI @zb1 (aI @za5 (aI @za4 (aI @gdD (aI @eRn_0 (aI @eRn_3 (aI @eRn_4 (aI @eRn_5 (aI @eRn_6 (aI @eRn_7 (aI @eRn_len @zc1)))))))))))))
def bYhdB1:=aI @zb8 (aI @zc0 (aI @zb2 (aI @zb1 (aI @za5 (aI @za4 (aI @gdD (aI @eRn_0 (aI @eRn_3 (aI @eRn_4 (aI @eRn_5 (aI @eRn_6 (aI @eRn_7 (aI @eRn_len (aI @zc1 @za2))))))))))))))
theorem hand161 (r:RB) (hr:r.ne) (e:En) (b:List Ty) (m:RM) (s:RS) (hm:m.of s) (a:Nat) (f:Fr) (hl:e.cs.length≤140737488355328):
  RCall Tryz.prog 161 [.ptr r.q 0,.int .i64 a,.agg (eFr f)] (stR r e b m s.wh) fun d s'=>d= .int .i64 (handP e.cs s a f).2∧∃m':RM,m'.of (handP e.cs s a f).1∧s'=stR r e b m' (handP e.cs s a f).1.wh:=by
 have kq:=stR_q (r:=r) (e:=e) (b:=b) (m:=m) (wh:=s.wh)
 have kf:=stR_f (e:=e) (b:=b) (m:=m) (wh:=s.wh) hr
 have kn:=stR_n (e:=e) (b:=b) (m:=m) (wh:=s.wh) hr
 refine F161.rcall rfl fun T hT=> ?_
 simp -implicitDefEqProofs only[go_sem,mmB,c161,hT,Nat.mul_one,Nat.add_zero,Nat.zero_add,bYhdB0]
 intro b5 hb5
 have hk1:=fun(σ:St) (h:σ.mp r.f=some (.map (some .i64) m.kf m.vf m.cf))=>look143 (ok:=true) (n:=a) hm.f h
 obtain⟨n1,n2,n3,n4⟩:=stR_ne hr hb5
 simp -implicitDefEqProofs only[go_sem,hT,Nat.mul_one,Nat.add_zero,Nat.zero_add,n1,n2,n3,n4,Ne.symm n1,Ne.symm n2,Ne.symm n3,Ne.symm n4,hk1,kf,kn,kq,bYhdB0]
 cases hff:s.ff a with
 |none=>
  have hP:handP e.cs s a f=(⟨fun x=>if x=a then some f else s.ff x,fun x=>if x=a then some () else s.nn x,s.tt,s.wh⟩,0):=by unfold handP; rw[hff]
  rw[hP]
  simp -implicitDefEqProofs only[go_sem,mmB,hT,Nat.mul_one,Nat.add_zero,Nat.zero_add,n1,n2,n3,n4,Ne.symm n1,Ne.symm n2,Ne.symm n3,Ne.symm n4,lkV,pairD,bYhdB0]
  intro b7 n5 n6 hb7
  obtain⟨p1,p2,p3,p4⟩:=stR_ne hr hb7
  simp -implicitDefEqProofs only[go_sem,mmB,hT,Nat.mul_one,Nat.add_zero,Nat.zero_add,n1,n2,n3,n4,Ne.symm n1,Ne.symm n2,Ne.symm n3,Ne.symm n4,hk1,kf,kn,kq,n5,n6,p1,p2,p3,p4,Ne.symm p1,Ne.symm p2,Ne.symm p3,Ne.symm p4,bYhdB1]
  obtain⟨kf',vf',cf',q1,q2⟩:=hm.f.set a f
  obtain⟨kn',vn',cn',q3,q4⟩:=hm.n.set a ()
  have q1':mset (some .i64) m.kf m.vf m.cf (kyN a) (.agg (eFr f))= .map (some .i64) kf' vf' cf':=q1
  have q3':mset (some .i64) m.kn m.vn m.cn (kyN a) (.agg [])= .map (some .i64) kn' vn' cn':=q3
  rw[updA_map (k:=kyN a) mp143 kk3 keyD_int (by rw[set_mp,set_mp]; exact kf) rfl]
  simp -implicitDefEqProofs only[go_sem,mmB,hT,Nat.mul_one,Nat.add_zero,Nat.zero_add,n1,n2,n3,n4,Ne.symm n1,Ne.symm n2,Ne.symm n3,Ne.symm n4,frz,q1',hr.fn,hr.ft,hr.nt,Ne.symm hr.fn,n5,n6,p1,p2,p3,p4,Ne.symm p1,kn,kq,bYhdB0]
  rw[updA_map (k:=kyN a) mp144 kk3 keyD_int (by rw[setM_mp,if_neg (Ne.symm hr.fn),set_mp,set_mp]; exact kn) rfl]
  simp -implicitDefEqProofs only[go_sem,mmB,hT,Nat.mul_one,Nat.add_zero,Nat.zero_add,n1,n2,n3,n4,Ne.symm n1,Ne.symm n2,Ne.symm n3,Ne.symm n4,frz,q3',bYhdB0]
  have kt:=stR_t (r:=r) (e:=e) (b:=b) (m:=m) (wh:=s.wh)
  refine⟨_,_,DLe.refl _,le_stR (m:=⟨kf',vf',cf',kn',vn',cn',m.kt,m.vt,m.ct⟩) (wh:=s.wh) ?_ ?_ ?_ ?_,rfl,⟨kf',vf',cf',kn',vn',cn',m.kt,m.vt,m.ct⟩,⟨q2,q4,hm.t⟩,rfl⟩
  ·simp[setM_box,St.set_box,Ne.symm n1,Ne.symm p1,kq]
  ·simp[setM_mp,set_mp,hr.fn]
  ·simp[setM_mp,set_mp]
  ·simp[setM_mp,set_mp,Ne.symm hr.ft,Ne.symm hr.nt,kt]
 |some old=>
  simp -implicitDefEqProofs only[go_sem,mmB,hT,Nat.mul_one,Nat.add_zero,Nat.zero_add,n1,n2,n3,n4,Ne.symm n1,Ne.symm n2,Ne.symm n3,Ne.symm n4,lkV,pairD,dF,bYhdB0]
  intro b7 n5 n6 hb7
  obtain⟨p1,p2,p3,p4⟩:=stR_ne hr hb7
  simp -implicitDefEqProofs only[go_sem,mmB,hT,Nat.mul_one,Nat.add_zero,Nat.zero_add,n1,n2,n3,n4,Ne.symm n1,Ne.symm n2,Ne.symm n3,Ne.symm n4,n5,n6,p1,p2,p3,p4,Ne.symm p1,Ne.symm p2,Ne.symm p3,Ne.symm p4,hk1,kf,kn,kq,bYhdB1]
  refine za3 (merge192 e.cs .no old f hl) ?_
  simp -implicitDefEqProofs only[go_sem,mmB,hT,Nat.mul_one,Nat.add_zero,Nat.zero_add,n1,n2,n3,n4,Ne.symm n1,Ne.symm n2,Ne.symm n3,Ne.symm n4,n5,n6,p1,p2,p3,p4,Ne.symm p1,Ne.symm p2,Ne.symm p3,Ne.symm p4,hk1,kf,kn,kq,bYhdB1]
  intro b9 n7 n8 n9 n10 hb9
  obtain⟨t1,t2,t3,t4⟩:=stR_ne hr hb9
  have base:∀v w z,St.le (stR r e b m s.wh) ((((stR r e b m s.wh).set b5 v).set b7 w).set b9 z):=fun v w z=>le_stR (by simp[St.set_box,n1,n2,n3,n4,Ne.symm n1,Ne.symm n2,Ne.symm n3,Ne.symm n4,n5,n6,p1,p2,p3,p4,Ne.symm p1,Ne.symm p2,Ne.symm p3,Ne.symm p4,n7,n8,n9,n10,t1,t2,t3,t4,Ne.symm t1,Ne.symm t2,Ne.symm t3,Ne.symm t4,kq]) (by simp[set_mp,kf]) (by simp[set_mp,kn]) (by rw[set_mp,set_mp,set_mp,stR_t])
  by_cases h0:(mergeF e.cs old f).2=0
  case neg=>
   have hP:handP e.cs s a f=({s with wh:=(a:Int)},(mergeF e.cs old f).2):=by unfold handP; rw[hff]; simp only; rw[if_pos h0]
   have h0':(((mergeF e.cs old f).2:Int)=0)=False:=eq_false (by omega)
   rw[hP]
   simp -implicitDefEqProofs only[go_sem,mmB,hT,Nat.mul_one,Nat.add_zero,Nat.zero_add,n1,n2,n3,n4,Ne.symm n1,Ne.symm n2,Ne.symm n3,Ne.symm n4,n5,n6,p1,p2,p3,p4,Ne.symm p1,Ne.symm p2,Ne.symm p3,Ne.symm p4,n7,n8,n9,n10,t1,t2,t3,t4,Ne.symm t1,Ne.symm t2,Ne.symm t3,Ne.symm t4,kq,h0',bYhdB1]
   simp -implicitDefEqProofs only[go_sem,opq_eq,hT,zb8,zc0,zb2,zb1,za5,za4,gdD,Nat.mul_one,Nat.add_zero,Nat.zero_add,eRn_0,eRn_3,eRn_4,eRn_5,eRn_6,eRn_7,eRn_len,zc1,n1,n2,n3,n4,Ne.symm n1,Ne.symm n2,Ne.symm n3,Ne.symm n4,n5,n6,p1,p2,p3,p4,Ne.symm p1,Ne.symm p2,Ne.symm p3,Ne.symm p4,n7,n8,n9,n10,t1,t2,t3,t4,Ne.symm t1,Ne.symm t2,Ne.symm t3,Ne.symm t4,kq,h0',za2]
   refine⟨_,_,DLe.refl _,le_stR (m:=m) (wh:=(a:Int)) ?_ ?_ ?_ ?_,rfl,m,⟨hm.f,hm.n,hm.t⟩,rfl⟩
   ·rw[St.set_box,if_pos rfl]; rfl
   ·simp[set_mp,kf]
   ·simp[set_mp,kn]
   ·rw[set_mp,set_mp,set_mp,set_mp,stR_t]
  have h0':(((mergeF e.cs old f).2:Int)=0)=True:=eq_true (by omega)
  simp -implicitDefEqProofs only[go_sem,mmB,hT,zb8,zc0,zb2,zb1,za5,za4,gdD,Nat.mul_one,Nat.add_zero,Nat.zero_add,eRn_0,eRn_3,eRn_4,eRn_5,eRn_6,eRn_7,eRn_len,zc1,n1,n2,n3,n4,Ne.symm n1,Ne.symm n2,Ne.symm n3,Ne.symm n4,n5,n6,p1,p2,p3,p4,Ne.symm p1,Ne.symm p2,Ne.symm p3,Ne.symm p4,n7,n8,n9,n10,t1,t2,t3,t4,Ne.symm t1,Ne.symm t2,Ne.symm t3,Ne.symm t4,kq,h0',za2,eq_fr,za9,anD]
  rw[opq_eq]
  simp -implicitDefEqProofs only[go_sem,mmB,hT,zb8,zc0,zb2,zb1,za5,za4,gdD,Nat.mul_one,Nat.add_zero,Nat.zero_add,eRn_0,eRn_3,eRn_4,eRn_5,eRn_6,eRn_7,eRn_len,zc1,n1,n2,n3,n4,Ne.symm n1,Ne.symm n2,Ne.symm n3,Ne.symm n4,n5,n6,p1,p2,p3,p4,Ne.symm p1,Ne.symm p2,Ne.symm p3,Ne.symm p4,n7,n8,n9,n10,t1,t2,t3,t4,Ne.symm t1,Ne.symm t2,Ne.symm t3,Ne.symm t4,kq,h0',za2,eq_fr,za9,anD]
  by_cases hm2:(mergeF e.cs old f).1=old
  ·have hP:handP e.cs s a f=(s,0):=by unfold handP; rw[hff]; simp only; rw[if_neg (by omega),if_neg (by simpa using hm2)]
   rw[hP,show(!decide ((mergeF e.cs old f).1=old))=false by simp[hm2]]
   simp -implicitDefEqProofs only[go_sem,condM,br,Bool.false_eq_true,opq_eq,mk,hT,zb8,zc0,zb2,zb1,za5,za4,gdD,Nat.mul_one,Nat.add_zero,Nat.zero_add,eRn_0,eRn_3,eRn_4,eRn_5,eRn_6,eRn_7,eRn_len,zc1,n1,n2,n3,n4,Ne.symm n1,Ne.symm n2,Ne.symm n3,Ne.symm n4,n5,n6,p1,p2,p3,p4,Ne.symm p1,Ne.symm p2,Ne.symm p3,Ne.symm p4,n7,n8,n9,n10,t1,t2,t3,t4,Ne.symm t1,Ne.symm t2,Ne.symm t3,Ne.symm t4,kq,za2]
   exact⟨_,_,DLe.refl _,le_stR (by simp[St.set_box,n1,n2,n3,n4,Ne.symm n1,Ne.symm n2,Ne.symm n3,Ne.symm n4,n5,n6,p1,p2,p3,p4,Ne.symm p1,Ne.symm p2,Ne.symm p3,Ne.symm p4,n7,n8,n9,n10,t1,t2,t3,t4,Ne.symm t1,Ne.symm t2,Ne.symm t3,Ne.symm t4,kq]) (by simp[set_mp,kf]) (by simp[set_mp,kn]) (by simp only[set_mp]; rw[stR_t]),rfl,m,hm,rfl⟩
  ·have hP:handP e.cs s a f=(⟨fun x=>if x=a then some (mergeF e.cs old f).1 else s.ff x,fun x=>if x=a then some () else s.nn x,s.tt,s.wh⟩,0):=by unfold handP; rw[hff]; simp only; rw[if_neg (by omega),if_pos hm2]
   rw[hP,show(!decide ((mergeF e.cs old f).1=old))=true by simp[hm2]]
   obtain⟨kf',vf',cf',q1,q2⟩:=hm.f.set a (mergeF e.cs old f).1
   obtain⟨kn',vn',cn',q3,q4⟩:=hm.n.set a ()
   have q1':mset (some .i64) m.kf m.vf m.cf (kyN a) (.agg (eFr (mergeF e.cs old f).1))= .map (some .i64) kf' vf' cf':=q1
   have q3':mset (some .i64) m.kn m.vn m.cn (kyN a) (.agg [])= .map (some .i64) kn' vn' cn':=q3
   simp only[condM,br]
   rw[updA_map (k:=kyN a) mp143 kk3 keyD_int (by rw[set_mp,set_mp,set_mp,set_mp]; exact kf) rfl]
   simp -implicitDefEqProofs only[go_sem,mmB,hT,Nat.mul_one,Nat.add_zero,Nat.zero_add,n1,n2,n3,n4,Ne.symm n1,Ne.symm n2,Ne.symm n3,Ne.symm n4,n5,n6,p1,p2,p3,p4,Ne.symm p1,Ne.symm p2,Ne.symm p3,Ne.symm p4,n7,n8,n9,n10,t1,t2,t3,t4,Ne.symm t1,Ne.symm t2,Ne.symm t3,Ne.symm t4,frz,q1',hr.fn,hr.ft,hr.nt,Ne.symm hr.fn,kn,kq,bYhdB0]
   rw[updA_map (k:=kyN a) mp144 kk3 keyD_int (by rw[setM_mp,if_neg (Ne.symm hr.fn),set_mp,set_mp,set_mp,set_mp]; exact kn) rfl]
   simp -implicitDefEqProofs only[go_sem,opq_eq,hT,zb8,zc0,zb2,zb1,za5,za4,gdD,Nat.mul_one,Nat.add_zero,Nat.zero_add,eRn_0,eRn_3,eRn_4,eRn_5,eRn_6,eRn_7,eRn_len,zc1,n1,n2,n3,n4,Ne.symm n1,Ne.symm n2,Ne.symm n3,Ne.symm n4,frz,q3']
   have kt:=stR_t (r:=r) (e:=e) (b:=b) (m:=m) (wh:=s.wh)
   refine⟨_,_,DLe.refl _,le_stR (m:=⟨kf',vf',cf',kn',vn',cn',m.kt,m.vt,m.ct⟩) (wh:=s.wh) ?_ ?_ ?_ ?_,rfl,⟨kf',vf',cf',kn',vn',cn',m.kt,m.vt,m.ct⟩,⟨q2,q4,hm.t⟩,rfl⟩
   ·simp[setM_box,St.set_box,n1,n2,n3,n4,Ne.symm n1,Ne.symm n2,Ne.symm n3,Ne.symm n4,n5,n6,p1,p2,p3,p4,Ne.symm p1,Ne.symm p2,Ne.symm p3,Ne.symm p4,n7,n8,n9,n10,t1,t2,t3,t4,Ne.symm t1,Ne.symm t2,Ne.symm t3,Ne.symm t4,kq]
   ·simp[setM_mp,set_mp,hr.fn]
   ·simp[setM_mp,set_mp]
   ·simp[setM_mp,set_mp,Ne.symm hr.ft,Ne.symm hr.nt,kt]
open Go.Proofs
def takeP (p:Nat):Nat→Nat→(Nat→Option Nat)→(Nat→Option Nat)×Bool
 |0,_,tt=>(tt,true)
 |k+1,x,tt=>match tt x with
  |some z=>if z≠p then(tt,false) else takeP p k (x+1) fun y=>if y=x then some p else tt y
  |none=>takeP p k (x+1) fun y=>if y=x then some p else tt y
def bYhdC0:=aI @gdD (aI @eRn_0 (aI @eRn_3 (aI @eRn_4 (aI @eRn_5 (aI @eRn_6 (aI @eRn_7 (aI @eRn_len (aI @zc1 (aI @zb7 (aI @zb0 (aI @in_0 (aI @in_1 @in_2))))))))))))
theorem take159 (r:RB) (hr:r.ne) (e:En) (b:List Ty) (m:RM) (s:RS) (hm:m.of s) (i:Ins) (p:Nat) (hp:i.pos=p) (hp2:p≤5000):
  RCall Tryz.prog 159 [.ptr r.q 0,.agg (eIn i)] (stR r e b m s.wh) fun d s'=>d= .bool (takeP p (zf1 i.op.val) p s.tt).2∧∃m':RM,m'.of ⟨s.ff,s.nn,(takeP p (zf1 i.op.val) p s.tt).1,s.wh⟩∧s'=stR r e b m' s.wh:=by
 have hsz:=sizeOp_le i.op.val
 obtain⟨z,hz⟩:∃z,zf1 i.op.val=z:=⟨_,rfl⟩
 obtain⟨RES,hRES⟩:∃x,takeP p z p s.tt=x:=⟨_,rfl⟩
 rw[hz,hRES]
 refine F159.rcall rfl fun T hT=> ?_
 simp -implicitDefEqProofs only[go_sem,c159,hT,Nat.mul_one,Nat.add_zero,Nat.zero_add,bYhdC0]
 intro b3 hb3
 obtain⟨n1,n2,n3,n4⟩:=stR_ne hr hb3
 refine loopL F159 (fun x:Nat×(Nat→Option Nat)×RM=>[(0,.ptr r.q 0),(3,.ptr b3 0),(5,.int .i64 x.1)]) (fun x=>(stR r e b x.2.2 s.wh).set b3 (eIn i))
  (fun x=>x.2.2.of ⟨s.ff,s.nn,x.2.1,s.wh⟩∧p≤x.1∧x.1≤p+z∧takeP p (p+z-x.1) x.1 x.2.1=RES) (fun x=>p+z-x.1) (p,s.tt,m) ⟨⟨hm.f,hm.n,hm.t⟩,by simp,by simp,by simpa using hRES⟩ ?_ (St.le.refl _) ?_
 ·simp -implicitDefEqProofs only[go_sem,hT,hp]
 clear hT T
 rintro⟨x,tt,m1⟩ ⟨hm1,hx1,hx2,hR⟩ T hT
 simp only at hm1 hx1 hx2 hR hT ⊢
 have kq:=stR_q (r:=r) (e:=e) (b:=b) (m:=m1) (wh:=s.wh)
 have kt:=stR_t (r:=r) (e:=e) (b:=b) (m:=m1) (wh:=s.wh)
 have w1:IntKind.wrap .i64 ((p:Int)+z)=((p+z:Nat):Int):=by rw[zc2 (by omega) (by omega)]; simp
 have w2:IntKind.wrap .i64 ((x:Int)+1)=((x+1:Nat):Int):=by rw[zc2 (by omega) (by omega)]; simp
 have hoff:¬(stR r e b m1 s.wh).has b3:=stR_off hr hb3
 simp -implicitDefEqProofs only[go_sem,mmB,hT,Nat.mul_one,Nat.add_zero,Nat.zero_add,n1,n2,n3,n4,Ne.symm n1,Ne.symm n2,Ne.symm n3,Ne.symm n4,hp,bYhdC0]
 refine⟨fun _ h hc=>hc.1 h,za3 (size125 i.op) ?_⟩
 rw[hz]
 have hk1:=fun(σ:St) (h:σ.mp r.t=some (.map (some .i64) m1.kt m1.vt m1.ct))=>look145 (ok:=true) (n:=x) hm1.t h
 by_cases h:x<p+z
 ·have g1:((x:Int)<((p+z:Nat):Int))=True:=eq_true (by omega)
  simp -implicitDefEqProofs only[go_sem,hT,Nat.mul_one,Nat.add_zero,Nat.zero_add,n1,n2,n3,n4,Ne.symm n1,Ne.symm n2,Ne.symm n3,Ne.symm n4,hp,w1,g1,kq,hk1,kt,bYhdC0]
  obtain⟨k,hk⟩:∃k,p+z-x=k+1:=⟨p+z-x-1,by omega⟩
  have hk':p+z-(x+1)=k:=by omega
  rw[hk,takeP] at hR
  obtain⟨kt',vt',ct',q1,q2⟩:=hm1.t.set x p
  have q1':mset (some .i64) m1.kt m1.vt m1.ct (kyN x) (.int .i64 (p:Int))= .map (some .i64) kt' vt' ct':=q1
  have kf:=stR_f (e:=e) (b:=b) (m:=m1) (wh:=s.wh) hr
  have kn:=stR_n (e:=e) (b:=b) (m:=m1) (wh:=s.wh) hr
  have fin:∀v,St.le ((stR r e b ⟨m1.kf,m1.vf,m1.cf,m1.kn,m1.vn,m1.cn,kt',vt',ct'⟩ s.wh).set b3 v) (((stR r e b m1 s.wh).set b3 v).setM r.t (.map (some .i64) kt' vt' ct')):=fun v=>by
   have h1:(((stR r e b m1 s.wh).set b3 v).setM r.t (.map (some .i64) kt' vt' ct'))=(((stR r e b m1 s.wh).setM r.t (.map (some .i64) kt' vt' ct')).set b3 v):=rfl
   rw[h1]
   exact le_set (le_stR (by rw[setM_box]; exact kq) (by rw[setM_mp,if_neg hr.ft]; exact kf) (by rw[setM_mp,if_neg hr.nt]; exact kn) (by rw[setM_mp,if_pos rfl]))
  cases htx:tt x with
  |none=>
   rw[htx] at hR
   simp only at hR
   simp -implicitDefEqProofs only[go_sem,mmB,hT,Nat.mul_one,Nat.add_zero,Nat.zero_add,n1,n2,n3,n4,Ne.symm n1,Ne.symm n2,Ne.symm n3,Ne.symm n4,lkV,pairD,dN,hp,kq,bYhdC0]
   rw[updA_map (k:=kyN x) mp145 kk3 keyD_int (by rw[set_mp]; exact kt) rfl]
   simp -implicitDefEqProofs only[go_sem,mmB,hT,Nat.mul_one,Nat.add_zero,Nat.zero_add,n1,n2,n3,n4,Ne.symm n1,Ne.symm n2,Ne.symm n3,Ne.symm n4,frz,q1',w2,bYhdC0]
   refine⟨(x+1,(fun y=>if y=x then some p else tt y),⟨m1.kf,m1.vf,m1.cf,m1.kn,m1.vn,m1.cn,kt',vt',ct'⟩),⟨⟨hm1.f,hm1.n,q2⟩,by simp only; omega,by simp only; omega,by simp only; rw[hk']; exact hR⟩,by simp only; omega,rfl,fin _⟩
  |some y=>
   rw[htx] at hR
   simp only at hR
   by_cases hy:y=p
   ·rw[if_neg (by omega)] at hR
    have g2:((y:Int)=p)=True:=eq_true (by omega)
    simp -implicitDefEqProofs only[go_sem,mmB,hT,Nat.mul_one,Nat.add_zero,Nat.zero_add,n1,n2,n3,n4,Ne.symm n1,Ne.symm n2,Ne.symm n3,Ne.symm n4,lkV,pairD,dN,hp,kq,g2,bYhdC0]
    rw[updA_map (k:=kyN x) mp145 kk3 keyD_int (by rw[set_mp]; exact kt) rfl]
    simp -implicitDefEqProofs only[go_sem,mmB,hT,Nat.mul_one,Nat.add_zero,Nat.zero_add,n1,n2,n3,n4,Ne.symm n1,Ne.symm n2,Ne.symm n3,Ne.symm n4,frz,q1',w2,bYhdC0]
    refine⟨(x+1,(fun y=>if y=x then some p else tt y),⟨m1.kf,m1.vf,m1.cf,m1.kn,m1.vn,m1.cn,kt',vt',ct'⟩),⟨⟨hm1.f,hm1.n,q2⟩,by simp only; omega,by simp only; omega,by simp only; rw[hk']; exact hR⟩,by simp only; omega,rfl,fin _⟩
   ·rw[if_pos hy] at hR
    have g2:((y:Int)=p)=False:=eq_false (by omega)
    simp -implicitDefEqProofs only[go_sem,mmB,hT,Nat.mul_one,Nat.add_zero,Nat.zero_add,n1,n2,n3,n4,Ne.symm n1,Ne.symm n2,Ne.symm n3,Ne.symm n4,lkV,pairD,dN,hp,kq,g2,bYhdC0]
    rw[←hR]
    exact⟨_,_,DLe.refl _,le_add hoff,rfl,m1,hm1,rfl⟩
 ·have g1:((x:Int)<((p+z:Nat):Int))=False:=eq_false (by omega)
  simp -implicitDefEqProofs only[go_sem,hT,Nat.mul_one,Nat.add_zero,Nat.zero_add,n1,n2,n3,n4,Ne.symm n1,Ne.symm n2,Ne.symm n3,Ne.symm n4,hp,w1,g1,bYhdC0]
  rw[show p+z-x=0 by omega,takeP] at hR
  rw[←hR]
  exact⟨_,_,DLe.refl _,le_add hoff,rfl,m1,hm1,rfl⟩
end Go.AL
namespace Go.AL
open Go.Proofs Go.Sort
def eZ (z:Int):D:= .int .i64 z
def sortZ (zs:List Int):List Int:=zs.mergeSort fun x y=>decide (x≤y)
theorem repAll_len {M:MMap} {w:World}:∀{ds:List D} {vs:List Value},RepAll M w ds vs→vs.length=ds.length
 |[],vs,h=>by obtain rfl:=h; rfl
 |d::ds,vs,h=>by obtain⟨v,vs',rfl,_,h2⟩:=h; simp[repAll_len h2]
theorem repAll_at {M:MMap} {w:World}:∀{ds:List D} {vs:List Value} {i:Nat} {d:D},RepAll M w ds vs→ds[i]? =some d→∃v,vs[i]? =some v∧Rep M w d v
 |[],_,i,d,_,h=>by simp at h
 |x::ds,vs,0,d,h,hd=>by
  obtain⟨v,vs',rfl,h1,h2⟩:=h
  simp only[List.getElem?_cons_zero,Option.some.injEq] at hd
  subst hd
  exact⟨v,rfl,h1⟩
 |x::ds,vs,i+1,d,h,hd=>by
  obtain⟨v,vs',rfl,h1,h2⟩:=h
  simp only[List.getElem?_cons_succ] at hd ⊢
  exact repAll_at h2 hd
theorem repAll_of {M:MMap} {w:World}:∀{ds:List D} {vs:List Value},vs.length=ds.length→(∀(i:Nat) (d:D) (v:Value),ds[i]? =some d→vs[i]? =some v→Rep M w d v)→RepAll M w ds vs
 |[],vs,h,_=>List.eq_nil_of_length_eq_zero h
 |d::ds,[],h,_=>by simp at h
 |d::ds,v::vs,h,hr=>⟨v,vs,rfl,hr 0 d v rfl rfl,repAll_of (by simpa using h) fun i x y hx hy=>hr (i+1) x y (by simpa using hx) (by simpa using hy)⟩
theorem holdsZ {M:MMap} {w:World} {b k:Nat} {zs:List Int} (hi:Inv M (({}:St).set b (zs.map eZ++List.replicate k .any)) w):Holds (Value.int .i64) w b 0 zs.toArray∧b<w.heap.size:=by
 obtain⟨hM,c,e,hheap,hrep,hone⟩:=hi.box b (zs.map eZ++List.replicate k .any) (by simp[St.set])
 have hbl:b<w.heap.size:=hi.dom b (by rw[hM]; simp)
 have hclen:c.size=zs.length+k:=by have:=repAll_len hrep; simpa using this
 have hat:∀j (hj:j<zs.length),c[j]? =some (.int .i64 zs[j]):=fun j hj=>by
  obtain⟨v,h1,h2⟩:=repAll_at (i:=j) (d:=eZ zs[j]) hrep (by rw[List.getElem?_append_left (by simpa using hj)]; simp[hj])
  have h2:v= .int .i64 zs[j]:=h2
  rw[←h2,←h1]; simp
 refine⟨fun j hj=> ?_,hbl⟩
 ·skip
  have hj':j<zs.length:=by simpa using hj
  refine⟨?_, ?_⟩
  ·simp only[World.cell?,hheap,Nat.zero_add]
   rw[hat j hj']
   simp[hj']
  ·simp[World.frozen?,hheap]
theorem rowZ {M:MMap} {w:World} {b k:Nat} {zs new:List Int} (hi:Inv M (({}:St).set b (zs.map eZ++List.replicate k .any)) w) (hS:new.length=zs.length) {w':World} {n:Nat} {os:Array Obj} (hw:w'=grow (putRow (Value.int .i64) (Sort.ahead w n) b 0 new.toArray) os) {d:D} {v:Value} (hd:Rep M w' d v):
  ∃M' s' x,RepE M' w' x (.returned v)∧Inv M' s' w'∧KeepF M (({}:St).set b (zs.map eZ++List.replicate k .any)) w M' s' w'∧∃d',x= .ret d'∧d'=d∧s'=({}:St).set b (new.map eZ++List.replicate k .any):=by
 obtain⟨hM,c,e,hheap,hrep,hone⟩:=hi.box b (zs.map eZ++List.replicate k .any) (by simp[St.set])
 have hbl:b<w.heap.size:=hi.dom b (by rw[hM]; simp)
 have hclen:c.size=zs.length+k:=by have:=repAll_len hrep; simpa using this
 have hat:∀j (hj:j<zs.length),c[j]? =some (.int .i64 zs[j]):=fun j hj=>by
  obtain⟨v,h1,h2⟩:=repAll_at (i:=j) (d:=eZ zs[j]) hrep (by rw[List.getElem?_append_left (by simpa using hj)]; simp[hj])
  have h2:v= .int .i64 zs[j]:=h2
  rw[←h2,←h1]; simp
 have hold:∀j,j<w.heap.size→w'.heap[j]? =(putRow (Value.int .i64) (Sort.ahead w n) b 0 new.toArray).heap[j]? :=fun j hj=>by
  rw[hw]; exact heap_grow_old _ _ (by simpa using hj)
 have hb':w'.heap[b]? =some (.cells (putCells (Value.int .i64) 0 new.toArray c) e (0,0)):=by
  rw[hold b hbl]
  simp only[putRow,mapBlock,Sort.heap_ahead,Array.getElem?_modify,if_true,hheap,Option.map_some,onCells]
 have ho:∀j,j<w.heap.size→j≠b→w'.heap[j]? =w.heap[j]? :=fun j hj hne=>by
  rw[hold j hj]
  simp only[putRow,mapBlock,Sort.heap_ahead,Array.getElem?_modify,if_neg (Ne.symm hne)]
 have hsz:w.heap.size≤w'.heap.size:=by rw[hw]; simp
 have hcs:∀j:Nat,(putCells (Value.int .i64) 0 new.toArray c).toList[j]? =if h:j<new.length then(if j<c.size then some (.int .i64 new[j]) else none) else c[j]? :=fun j=>by
  simp only[putCells,Array.getElem?_toList,Array.getElem?_mapIdx,Nat.zero_le,true_and,Nat.zero_add,List.size_toArray,Nat.sub_zero]
  split
  ·rename_i h
   split
   ·rename_i h2; rw[Array.getElem?_eq_getElem h2]; simp[h]
   ·rename_i h2; rw[Array.getElem?_eq_none (by omega)]; rfl
  ·rename_i h
   cases c[j]? with
   |none=>rfl
   |some x=>simp[h]
 refine⟨M,({}:St).set b (new.map eZ++List.replicate k .any),.ret d, ?_,⟨fun x cs hx=> ?_,fun x s n hx=> ?_,fun x o hx=> ?_,fun x hx=>Nat.lt_of_lt_of_le (hi.dom x hx) hsz⟩,⟨⟨?_, ?_, ?_,hsz,fun x hx hx2=>⟨hx2,ho x hx fun h=>by rw[h,hM] at hx2; cases hx2⟩,fun x lim c0 e0 f0 h1 h2=> ?_⟩,fun x h1 h2=>⟨rfl,ho x (hi.dom x h1) fun h=>h2 (by rw[h,set_has]; exact .inl rfl)⟩,fun x hx=> .inl ?_⟩,_,rfl,rfl,rfl⟩
 ·exact⟨_,rfl,hd⟩
 ·have hx':x=b∧new.map eZ++List.replicate k .any=cs:=by
   simp only[St.set] at hx
   split at hx
   ·rename_i h; exact⟨h,by simpa using hx⟩
   ·cases hx
  obtain⟨rfl,rfl⟩:=hx'
  refine⟨hM,_,e,hb',repAll_of ?_ fun j d v hd hv=> ?_,fun u hu=> ?_⟩
  ·simp[putCells,hclen,hS]
  ·rw[hcs j] at hv
   by_cases hj:j<new.length
   ·rw[List.getElem?_append_left (by simpa using hj),List.getElem?_map,List.getElem?_eq_getElem hj] at hd
    rw[dif_pos hj,if_pos (by omega)] at hv
    cases hd; cases hv
    rfl
   ·rw[List.getElem?_append_right (by simpa using hj),List.getElem?_replicate] at hd
    split at hd
    ·cases hd; trivial
    ·cases hd
  ·obtain⟨j,hj,rfl⟩:=List.mem_iff_getElem.1 hu
   have hv:=hcs j
   rw[List.getElem?_eq_getElem hj] at hv
   split at hv
   ·split at hv
    ·rw[Option.some.inj hv]; rfl
    ·cases hv
   ·refine hone _ ?_
    have h2:=List.mem_of_getElem? (l:=c.toList) (i:=j) (by rw[Array.getElem?_toList]; exact hv.symm)
    exact h2
 ·simp[St.set] at hx
 ·simp[St.set] at hx
 ·rw[hw]; rfl
 ·rw[hw]; rfl
 ·rw[hw]; rfl
 ·have hne:x≠b:=fun h=>by rw[h,hM] at h1; cases h1
  have hxl:x<w.heap.size:=hi.dom x (by rw[h1]; simp)
  exact⟨⟨c0,by rw[ho x hxl hne]; exact h2,rfl,fun _ _=>rfl⟩,.inr ⟨lim,Nat.le_refl _,h1⟩⟩
 ·rw[set_has] at hx ⊢
  exact hx
theorem sort125 (b cap:Nat) (zs:List Int) (k:Nat) (hl:zs.length<4611686018427387904):
  RCall Tryz.prog 125 [.bsl b 0 zs.length cap] (({}:St).set b (zs.map eZ++List.replicate k .any)) fun d s'=>d= .tup []∧s'=({}:St).set b ((sortZ zs).map eZ++List.replicate k .any):=by
 refine⟨⟨_,Tryz.func125,by kernel_rfl,rfl⟩,fun M w vs hi hv=> ?_⟩
 obtain⟨v,vs',rfl,hv1,hv2⟩:=hv
 obtain rfl:vs'=[]:=hv2
 have hv1:v= .slice (some ⟨b,0,none⟩) zs.length cap:=hv1
 subst hv1
 obtain⟨hH,hbl⟩:=holdsZ hi
 refine(AnyM.slices_Sort_int Tryz.sortA b 0 cap zs w hH hbl hl).mono fun ev w' ⟨he,n,os,hw⟩=> ?_
 subst he
 exact rowZ (new:=sortZ zs) hi (List.length_mergeSort _) hw ⟨#[],rfl,rfl⟩
theorem sort125n:PCall Tryz.prog 125 [.slice .nil []] (.tup []):=by
 refine⟨⟨_,Tryz.func125,by kernel_rfl,rfl⟩,fun M w vs hi hv=> ?_⟩
 obtain⟨v,vs',rfl,hv1,hv2⟩:=hv
 obtain rfl:vs'=[]:=hv2
 obtain⟨rfl,_⟩:v= .slice none 0 0∧_:=hv1
 refine(AnyM.slices_Sort_int_none Tryz.sortA none 0 w).mono fun ev w' ⟨he,hw⟩=> ?_
 subst he; subst hw
 exact⟨M,{},.ret (.tup []),⟨_,rfl,#[],rfl,rfl⟩,hi,⟨Keep.refl _ _,fun _ _ _=>⟨rfl,rfl⟩,fun _ h=> .inl h⟩,rfl,rfl⟩
theorem compact_le (zs:List Int):(Lib.compact zs).length≤zs.length:=by
 unfold Lib.compact Lib.compactUpTo
 rw[List.length_map]
 exact Nat.le_trans (List.length_filter_le _ _) (by simp)
theorem compact160 (b cap:Nat) (zs:List Int) (k:Nat) (hl:zs.length≤4096) (hc:zs.length≤cap):
  RCall Tryz.prog 160 [.bsl b 0 zs.length cap] (({}:St).set b (zs.map eZ++List.replicate k .any)) fun d s'=>d= .bsl b 0 (Lib.compact zs).length cap∧s'=({}:St).set b ((Lib.compact zs++List.replicate (zs.length-(Lib.compact zs).length) 0).map eZ++List.replicate k .any):=by
 refine⟨⟨_,Tryz.func160,by kernel_rfl,rfl⟩,fun M w vs hi hv=> ?_⟩
 obtain⟨v,vs',rfl,hv1,hv2⟩:=hv
 obtain rfl:vs'=[]:=hv2
 have hv1:v= .slice (some ⟨b,0,none⟩) zs.length cap:=hv1
 subst hv1
 obtain⟨hH,hbl⟩:=holdsZ hi
 refine(Any.slices_Compact_int Tryz.compactA b 0 cap zs w hH (by omega) hc).mono fun ev w' ⟨he,n,hw⟩=> ?_
 subst he
 refine rowZ (new:=Lib.compact zs++List.replicate (zs.length-(Lib.compact zs).length) 0) (os:= #[]) (n:=n) hi ?_ (by rw[hw,grow_empty]) rfl
 have:=compact_le zs
 rw[List.length_append,List.length_replicate]; omega
theorem compact160n:PCall Tryz.prog 160 [.slice .nil []] (.slice .nil []):=by
 refine⟨⟨_,Tryz.func160,by kernel_rfl,rfl⟩,fun M w vs hi hv=> ?_⟩
 obtain⟨v,vs',rfl,hv1,hv2⟩:=hv
 obtain rfl:vs'=[]:=hv2
 obtain⟨rfl,_⟩:v= .slice none 0 0∧_:=hv1
 refine(Any.slices_Compact_int_empty Tryz.compactA none 0 w).mono fun ev w' ⟨he,hw⟩=> ?_
 subst he; subst hw
 exact⟨M,{},.ret (.slice .nil []),⟨_,rfl,rfl,rfl⟩,hi,⟨Keep.refl _ _,fun _ _ _=>⟨rfl,rfl⟩,fun _ h=> .inl h⟩,rfl,rfl⟩
open Go.Proofs
def handsP (l:List Cl) (f:Fr):List Int→RS→RS×Nat
 |[],s=>(s,0)
 |x::r,s=>if(handP l s x.toNat f).2≠0 then handP l s x.toNat f else handsP l f r (handP l s x.toNat f).1
theorem putL_snoc {s:St} {L:List LI} {b:Nat} {c:List D}:putL s (L++[.bx b c])=(putL s L).set b c:=by simp[putL,LI.put]
theorem offL_snoc:∀{L:List LI} {s:St} {b:Nat} {c:List D},offL s L→¬s.has b→offL s (L++[.bx b c])
 |[],s,b,c,_,h=>⟨h,trivial⟩
 |i::L,s,b,c,h1,h2=>⟨h1.1,offL_snoc h1.2 h2⟩
theorem visit_tail (r:RB) (hr:r.ne) (e:En) (b:List Ty) (m:RM) (s:RS) (hm:m.of s) (g:Fr) (hl:e.cs.length≤140737488355328) (L:List LI) (b7 bb cap k:Nat) (zs:List Int) (hz:zs.length≤4096) (hc:zs.length≤cap)
  (hL:∀m' w,offL (stR r e b m' w) L) (hb7:∀m' w,(putL (stR r e b m' w) L).box b7=some (eFr g)) (hbb:∀m' w,¬(putL (stR r e b m' w) L).has bb) (hpos:∀z∈zs,0≤z)
  (R:RS×Nat) (hR:R=handsP e.cs g (Lib.compact (sortZ zs)) s) (T:Env) (h0:T 0= .ptr r.q 0) (h7:T 7= .ptr b7 0) (h8:T 8= .bsl bb 0 zs.length cap):
  vcA Tryz.prog 111 c123_12 (bodyS Tryz.prog [.tmp 4] fun d s'=>d= .int .i64 R.2∧∃m':RM,m'.of R.1∧s'=stR r e b m' R.1.wh) T ((putL (stR r e b m s.wh) L).set bb (zs.map eZ++List.replicate k .any)):=by
 have hn:∀m' w,(putL (stR r e b m' w) L).buf bb=none∧(putL (stR r e b m' w) L).mp bb=none:=fun m' w=>by
  have:=hbb m' w
  simp only[St.has,not_or,Classical.not_not] at this
  exact this.2
 simp -implicitDefEqProofs only[go_sem,c123_12,h0,h7,h8]
 refine callB_box (b:=bb) (by rw[St.set_box,if_pos rfl]) (hn _ _).1 (sort125 bb cap zs k (by omega)) ?_ (hn _ _).2
 simp -implicitDefEqProofs only[go_sem,za2,h0,h7,h8]
 have hS:(sortZ zs).length=zs.length:=List.length_mergeSort _
 have hcomp:=compact160 bb cap (sortZ zs) k (by omega) (by omega)
 rw[hS] at hcomp
 refine callB_box (b:=bb) (by rw[St.set_box,if_pos rfl]) (hn _ _).1 hcomp ?_ (hn _ _).2
 obtain⟨ys,hys⟩:∃ys,Lib.compact (sortZ zs)=ys:=⟨_,rfl⟩
 have hyl:ys.length≤zs.length:=by rw[←hys,←hS]; exact compact_le _
 have hyp:∀y∈ys,0≤y:=by
  intro y hy
  rw[←hys] at hy
  unfold Lib.compact Lib.compactUpTo at hy
  obtain⟨j,hj,rfl⟩:=List.mem_map.1 hy
  have hj2:j<(sortZ zs).length:=List.mem_range.1 (List.mem_filter.1 hj).1
  have:(sortZ zs)[j]∈zs:=(List.mergeSort_perm ..).mem_iff.1 (List.getElem_mem hj2)
  have h2:(sortZ zs).toArray[j]! =(sortZ zs)[j]:=by simp[hj2]
  rw[h2]; exact hpos _ this
 rw[hys] at hR ⊢
 obtain⟨C,hC⟩:∃C,(ys++List.replicate (zs.length-ys.length) 0).map eZ++List.replicate k .any=C:=⟨_,rfl⟩
 have hCat:∀i (h:i<ys.length),C[i]? =some (.int .i64 ys[i]):=fun i h=>by
  rw[←hC,List.getElem?_append_left (by simp; omega),List.getElem?_map,List.getElem?_append_left h,List.getElem?_eq_getElem h]; rfl
 rw[hC]
 simp -implicitDefEqProofs only[go_sem,za2,h0,h7,h8,bsl_def,lenD]
 have hbs:∀m' w,¬(stR r e b m' w).has bb:=fun m' w h=>hbb m' w ((le_putL (St.le.refl _) (hL m' w)).has h)
 have hoff:∀m' w,offL (stR r e b m' w) (L++[.bx bb C]):=fun m' w=>offL_snoc (hL m' w) (hbs m' w)
 have hle:∀m' w,St.le (stR r e b m' w) ((putL (stR r e b m' w) L).set bb C):=fun m' w=>by rw[←putL_snoc]; exact le_putL (St.le.refl _) (hoff m' w)
 refine loopL F123 (fun x:Nat×RS×RM=>[(0,.ptr r.q 0),(7,.ptr b7 0),(97,.bsl bb 0 ys.length cap),(98,.int .i64 ys.length),(99,.int .i64 x.1)]) (fun x=>(putL (stR r e b x.2.2 x.2.1.wh) L).set bb C)
  (fun x=>x.1≤ys.length∧x.2.2.of x.2.1∧handsP e.cs g (ys.drop x.1) x.2.1=R) (fun x=>ys.length-x.1) (0,s,m) ⟨by omega,hm,by simpa using hR.symm⟩ ?_ (St.le.refl _) ?_
 ·simp -implicitDefEqProofs only[go_sem,h0,h7,h8,Int.ofNat_zero]
 clear h0 h7 h8 T
 rintro⟨i,s1,m1⟩ ⟨hi,hm1,hR1⟩ T hT
 simp only at hi hm1 hR1 hT ⊢
 have y7:((putL (stR r e b m1 s1.wh) L).set bb C).box b7=some (eFr g):=by
  rw[St.set_box,if_neg (fun h=>hbb m1 s1.wh (.inl (by rw[←h,hb7]; simp)))]; exact hb7 _ _
 have yb:((putL (stR r e b m1 s1.wh) L).set bb C).box bb=some C:=by rw[St.set_box,if_pos rfl]
 by_cases h:i<ys.length
 ·have g1:((i:Int)<ys.length)=True:=eq_true (by omega)
  have hd:ys.drop i=ys[i]::ys.drop (i+1):=List.drop_eq_getElem_cons h
  have h0y:=hyp _ (List.getElem_mem h)
  obtain⟨z,hz'⟩:∃z:Nat,ys[i]=z:=⟨ys[i].toNat,by omega⟩
  have hat:=hCat i h
  rw[hz'] at hat
  have w1:IntKind.wrap .i64 ((i:Int)+1)=((i+1:Nat):Int):=by rw[zc2 (by omega) (by omega)]; simp
  simp -implicitDefEqProofs only[go_sem,hT,g1,y7,yb,hat,gdD,Nat.mul_one,Nat.add_zero,Nat.zero_add,za5,za4]
  refine⟨by omega, ?_⟩
  rw[←putL_snoc]
  refine callB_under (L++[.bx bb C]) (hoff _ _) ((hand161 r hr e b m1 s1 hm1 z g hl).xcall (Rp:=fun _ _=>False)) (fun d s' hR _=> ?_) fun d s' h=>h.elim
  obtain⟨rfl,m2,hm2,rfl⟩:=hR
  rw[putL_snoc]
  rw[hd,handsP,hz',Int.toNat_natCast] at hR1
  by_cases g6:(handP e.cs s1 z g).2=0
  ·have g6':(((handP e.cs s1 z g).2:Int)=0)=True:=eq_true (by omega)
   rw[if_neg (by omega)] at hR1
   simp -implicitDefEqProofs only[go_sem,hT,g6',w1]
   exact⟨(i+1,(handP e.cs s1 z g).1,m2),⟨by simp only; omega,hm2,hR1⟩,by simp only; omega,rfl,St.le.refl _⟩
  ·have g6':(((handP e.cs s1 z g).2:Int)=0)=False:=eq_false (by omega)
   rw[if_pos g6] at hR1
   simp -implicitDefEqProofs only[go_sem,hT,g6']
   rw[←hR1]
   exact⟨_,_,DLe.refl _,hle _ _,rfl,m2,hm2,rfl⟩
 ·have g1:((i:Int)<ys.length)=False:=eq_false (by omega)
  simp -implicitDefEqProofs only[go_sem,hT,g1]
  rw[List.drop_eq_nil_of_le (by omega),handsP] at hR1
  rw[←hR1]
  exact⟨_,_,DLe.refl _,hle _ _,rfl,m1,hm1,rfl⟩
end Go.AL
