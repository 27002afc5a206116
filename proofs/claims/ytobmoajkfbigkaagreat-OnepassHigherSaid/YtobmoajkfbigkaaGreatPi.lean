import Derived.Test.YtobmoajkfbigkaaGreatPh
import Derived.Test.YtobmoajkfbigkaaGreatPe
import Derived.Test.YtobmoajkfbigkaaGreatPg
import Derived.Test.YtobmoajkfbigkaaGreatPf
set_option linter.unusedSimpArgs false
set_option linter.unusedVariables false
set_option maxRecDepth 100000
set_option linter.defProp false
set_option maxHeartbeats 400000
namespace Go.AL
open Go.Proofs
def eU (t:Ty):D:= .int .u8 (t.val:Int)
theorem fr_0 (f:Fr):(eFr f)[0]? =some (.int .i64 f.loc):=rfl
theorem fr_1 (f:Fr):(eFr f)[1]? =some (.int .i64 f.h):=rfl
theorem fr_at (f:Fr) (i:Nat) (h:i<24):(eFr f)[2+i]? =some (.int .u8 (f.sl[i].val:Int)):=by
 rw[show 2+i=i+1+1 by omega]
 simp only[eFr,List.getElem?_cons_succ,List.getElem?_map]
 rw[List.getElem?_eq_getElem (by simpa using h)]
 simp
theorem eqAll_from {m n:Nat} (xs ys:List Ty) (hx:xs.length=n) (hy:ys.length=n):∀(k s:Nat),s+k=n→
  eqAll Tryz.prog (eqV Tryz.prog (m+1)) (xs.map eU) (ys.map eU) ((List.range' s k).map fun i=>(81,i*1))=some (decide (xs.drop s=ys.drop s))
 |0,s,h=>by
  rw[List.drop_eq_nil_of_le (by omega),List.drop_eq_nil_of_le (by omega)]
  rfl
 |k+1,s,h=>by
  have h1:s<xs.length:=by omega
  have h2:s<ys.length:=by omega
  rw[List.range'_succ,List.map_cons,eqAll,Nat.mul_one]
  have p1:partD Tryz.prog 81 (xs.map eU) s=some (eU xs[s]):=by simp[partD,Tryz.agg81,Tryz.sz81,h1]
  have p2:partD Tryz.prog 81 (ys.map eU) s=some (eU ys[s]):=by simp[partD,Tryz.agg81,Tryz.sz81,h2]
  rw[p1,p2,eqAll_from xs ys hx hy k (s+1) (by omega),List.drop_eq_getElem_cons h1,List.drop_eq_getElem_cons h2]
  simp only[eU,eqV_int Tryz.underlying81]
  congr 1
  rw[Bool.eq_iff_iff]
  simp only[Bool.and_eq_true,decide_eq_true_eq,List.cons.injEq,eT_eq]
theorem eq_fr (f g:Fr):eqV Tryz.prog 10 84 (.agg (eFr f)) (.agg (eFr g))=some (decide (f=g)):=by
 have h1:Tryz.prog.stoodInHeld 84=false:=by kernel_rfl
 have h2:(Tryz.prog.info? 81).isSome=true:=by kernel_rfl
 have h3:Tryz.prog.cellsOf 81=1:=by kernel_rfl
 have t:∀f:Fr,((eFr f).drop 2).take 24=f.sl.toList.map eU:=fun f=>by
  rw[List.take_of_length_le (by simp[eFr])]
  rfl
 rw[show(10:Nat)=8+1+1 from rfl,eqV_struct Tryz.underlying84 h1 rfl]
 simp only[fsParts,List.map_cons,List.map_nil,eqAll]
 simp -implicitDefEqProofs only[go_sem,fr_0,fr_1,t,za6,eqV_int Tryz.underlying3]
 rw[eqV_array Tryz.underlying82 h2,h3,List.range_eq_range',eqAll_from f.sl.toList g.sl.toList (by simp) (by simp) 24 0 rfl]
 obtain⟨a,b,c⟩:=f
 obtain⟨a',b',c'⟩:=g
 simp only[List.drop_zero,Bool.and_true]
 congr 1
 rw[Bool.eq_iff_iff]
 simp[Fr.mk.injEq,Vector.toList_inj]
def shapedB (f:Fr):Bool:=decide (0≤f.loc∧f.loc≤16∧0≤f.h∧f.h≤24-f.loc)
theorem shaped123 (f:Fr):PCall Tryz.prog 137 [.agg (eFr f)] (.bool (shapedB f)):=by
 refine F137.pcall' rfl fun T hT=> ?_
 simp -implicitDefEqProofs only[go_sem,c137,hT,za6]
 refine fun b=> ?_
 simp -implicitDefEqProofs only[go_sem,mmB,hT,za6,fr_0,fr_1,gdD]
 refine zf1 ?_
 rw[Bool.eq_iff_iff]
 simp only[shapedB,Bool.and_eq_true,decide_eq_true_eq,and_assoc]
 constructor
 ·rintro⟨h1,h2,h3,h4⟩
  rw[zc1 (by omega) (by omega)] at h4
  exact⟨h1,h2,h3,h4⟩
 ·rintro⟨h1,h2,h3,h4⟩
  rw[zc1 (by omega) (by omega)]
  exact⟨h1,h2,h3,h4⟩
theorem refShape86 (f:Fr):PCall Tryz.prog 102 [.agg (eFr f)] (.bool (shapedB f)):=by
 refine F102.pcall' rfl fun T hT=> ?_
 simp -implicitDefEqProofs only[go_sem,c102,hT,za6]
 refine fun b=> ?_
 simp -implicitDefEqProofs only[go_sem,mmB,hT,za6,fr_0,fr_1,gdD]
 refine zf1 ?_
 rw[Bool.eq_iff_iff]
 simp only[shapedB,Bool.and_eq_true,decide_eq_true_eq,and_assoc]
 constructor
 ·rintro⟨h1,h2,h3,h4,h5⟩
  rw[zc1 (by omega) (by omega)] at h5
  exact⟨h1,h2,h3,by omega⟩
 ·rintro⟨h1,h2,h3,h4⟩
  rw[zc1 (by omega) (by omega)]
  exact⟨h1,h2,h3,by omega,by omega⟩
def bareF (f:Fr):Fr:=⟨f.loc,f.h,Vector.ofFn fun i=>if(i.val:Int)<f.loc+f.h then f.sl[i.val] else 0⟩
theorem fr_tail (f:Fr):(eFr f).drop 2=f.sl.toList.map eU:=rfl
theorem map24 (f:Fr):List.take 24 (List.map eU f.sl.toList)=List.map eU f.sl.toList:=List.take_of_length_le (by simp)
theorem len24 (f:Fr):(List.map eU f.sl.toList).length=24:=by simp
theorem bare_list (f:Fr) {k:Nat} (hk:f.loc+f.h=k) (h24:k≤24):
  List.take (min 24 (k-0)) (List.map eU f.sl.toList)++List.drop (2+(List.take (min 24 (k-0)) (List.map eU f.sl.toList)).length) (D.int .i64 f.loc::D.int .i64 f.h::List.replicate 24 (D.int .u8 0))=List.map eU (bareF f).sl.toList:=by
 have h1:min 24 (k-0)=k:=by omega
 have h2:(List.take k (List.map eU f.sl.toList)).length=k:=by simp; omega
 rw[h1,h2,show 2+k=k+1+1 by omega,List.drop_succ_cons,List.drop_succ_cons,List.drop_replicate]
 apply List.ext_getElem
 ·simp; omega
 ·intro i hi hi'
  have hi24:i<24:=by simpa using hi'
  by_cases hik:i<k
  ·rw[List.getElem_append_left (by rw[h2]; exact hik)]
   simp[bareF,eU,show(i:Int)<f.loc+f.h by omega]
  ·rw[List.getElem_append_right (by rw[h2]; omega)]
   simp[bareF,eU,show ¬(i:Int)<f.loc+f.h by omega]
theorem fr_eq (g:Fr):eFr g=D.int .i64 g.loc::D.int .i64 g.h::List.map eU g.sl.toList:=rfl
theorem bare_loc (f:Fr):(bareF f).loc=f.loc:=by unfold bareF; rfl
theorem bare_h (f:Fr):(bareF f).h=f.h:=by unfold bareF; rfl
theorem fr_bare (f:Fr):(D.int .i64 f.loc::D.int .i64 f.h::List.map eU (bareF f).sl.toList)=eFr (bareF f):=by
 rw[fr_eq (bareF f),bare_loc,bare_h]
theorem bare124 (f:Fr) (hs:shapedB f=true):PCall Tryz.prog 138 [.agg (eFr f)] (.agg (eFr (bareF f))):=by
 simp only[shapedB,decide_eq_true_eq] at hs
 obtain⟨k,hk⟩:∃k:Nat,f.loc+f.h=k:=⟨(f.loc+f.h).toNat,by omega⟩
 have hw:IntKind.wrap .i64 (f.loc+f.h)=(k:Int):=by rw[zc1 (by omega) (by omega),hk]
 refine F138.pcall' rfl fun T hT=> ?_
 simp -implicitDefEqProofs only[go_sem,c138,hT,za6]
 intro b1 b2 n1 n2
 simp -implicitDefEqProofs only[go_sem,hT,za6,fr_0,fr_1,gdD,n1,n2]
 intro b3 m1 m2 m3 m4
 have key:=bare_list f hk (by omega)
 simp only[List.replicate_succ,List.replicate_zero] at key
 simp -implicitDefEqProofs only[go_sem,hT,za6,fr_0,fr_1,gdD,n1,n2,m1,m2,m3,m4,za2,hw,fr_tail,key,map24,len24]
 refine⟨by omega,by omega,by omega,by omega, ?_⟩
 rw[fr_bare]
 exact DLe.refl _
theorem fr_idx (f:Fr) {i:Nat} (h:i<24):(List.map eU f.sl.toList)[i]? =some (.int .u8 (f.sl[i].val:Int)):=by
 rw[List.getElem?_map,List.getElem?_eq_getElem (by simpa using h)]
 simp[eU]
theorem refBare151 (f:Fr) (hs:shapedB f=true):PCall Tryz.prog 218 [.agg (eFr f)] (.agg (eFr (bareF f))):=by
 simp only[shapedB,decide_eq_true_eq] at hs
 obtain⟨k,hk⟩:∃k:Nat,f.loc+f.h=k:=⟨(f.loc+f.h).toNat,by omega⟩
 have hw:IntKind.wrap .i64 (f.loc+f.h)=(k:Int):=by rw[zc1 (by omega) (by omega),hk]
 refine F218.pcall' rfl fun T hT=> ?_
 simp -implicitDefEqProofs only[go_sem,c218,hT,za6]
 intro b1 b2 n1 n2
 simp -implicitDefEqProofs only[go_sem,hT,za6,fr_0,fr_1,gdD,n1,n2,hw]
 generalize hz:(D.int .i64 0::D.int .i64 0::_:List D)=z0
 have hzd:z0.drop 26=[]:=by rw[←hz]; rfl
 have hz26:z0.length=26:=by rw[←hz]; rfl
 let g:Nat→Fr:=fun i=>⟨f.loc,f.h,Vector.ofFn fun j=>if j.val<k∨i≤j.val then f.sl[j.val] else 0⟩
 have g0:g k=f:=by
  obtain⟨a,b,c⟩:=f
  simp only[g,Fr.mk.injEq,true_and]
  apply Vector.ext
  intro j hj
  simp only[Vector.getElem_ofFn]
  rw[if_pos (by omega)]
 have gl:g 24=bareF f:=by
  simp only[g,bareF,Fr.mk.injEq,true_and]
  apply Vector.ext
  intro j hj
  simp only[Vector.getElem_ofFn]
  by_cases hjk:j<k
  ·rw[if_pos (.inl hjk),if_pos (by omega)]
  ·rw[if_neg (by omega),if_neg (by omega)]
 have gs:∀i (h24:i<24),k≤i→(⟨(g i).loc,(g i).h,(g i).sl.set i 0 h24⟩:Fr)=g (i+1):=by
  intro i h24 hi
  simp only[g,Fr.mk.injEq,true_and]
  apply Vector.ext
  intro j hj
  simp only[Vector.getElem_set,Vector.getElem_ofFn]
  split
  ·rename_i he; subst he; rw[if_neg (by omega)]
  ·rename_i he
   by_cases h1:j<k∨i≤j
   ·rw[if_pos h1,if_pos (by omega)]
   ·rw[if_neg h1,if_neg (by omega)]
 clear_value g
 refine loopL F218 (fun i:Nat=>[(1,.ptr b1 0),(2,.ptr b2 0),(3,.int .i64 i)]) (fun i=>(({}:St).set b1 (eFr (g i))).set b2 z0) (fun i=>k≤i∧i≤24) (fun i=>24-i) k ⟨Nat.le_refl _,by omega⟩ ?_ (by rw[g0]; exact St.le.refl _) ?_
 ·simp -implicitDefEqProofs only[go_sem,hT]
 clear hT T
 rintro i ⟨hi,h24⟩ T hT
 by_cases h:i<24
 ·have h1:((i:Int)<24)=True:=by simp; omega
  have hset:=fr_set (f:=g i) (i:=i) h (t:=0)
  have h00:(((0:Ty).val:Nat):Int)=0:=rfl
  rw[gs i h hi,h00] at hset
  simp -implicitDefEqProofs only[go_sem,hT,h1,za6,n1,n2,Nat.mul_one,hset]
  refine⟨by omega,by omega,i+1,⟨by omega,by omega⟩,by omega, ?_, ?_⟩
  ·rw[zc1 (by omega) (by omega)]; simp
  ·rw[Go.AL.set_comm (σ:=({}:St).set b1 (eFr (g i))) (show b2≠b1 from fun e=>by simp_all),za2]
   exact St.le.refl _
 ·have h1:((i:Int)<24)=False:=by simp; omega
  obtain rfl:i=24:=by omega
  simp -implicitDefEqProofs only[go_sem,hT,h1,za6,n1,n2,za4,za7,hz26,hzd]
  rw[gl]
  exact DLe.refl _
def checkF (c:Nat) (f:Fr):Nat:=if shapedB f=false∨bareF f≠f then 32 else if(f.sl.toList.any fun t=> !validN c t)=true then 22 else 0
theorem check81 (l:List Cl) (o:Own) (f:Fr):PCall Tryz.prog 96 [.slice o (rws eC l),.agg (eFr f)] (.int .i64 (checkF l.length f)):=by
 refine F96.pcall' rfl fun T hT=> ?_
 simp -implicitDefEqProofs only[go_sem,c96,hT,za6]
 intro b3
 simp -implicitDefEqProofs only[go_sem,hT,za6,za4]
 refine⟨by rintro b rfl; simp,za3 (shaped123 f) ?_⟩
 cases hs:shapedB f
 ·simp -implicitDefEqProofs only[go_sem,hT]
  exact DLe.of_eq (by rw[checkF,if_pos (.inl hs)]; rfl)
 simp -implicitDefEqProofs only[go_sem,hT,za6,za4]
 refine za3 (bare124 f hs) ?_
 by_cases hb:bareF f=f
 case neg=>
  simp -implicitDefEqProofs only[go_sem,hT,za6,za4,eq_fr,hb]
  exact DLe.of_eq (by rw[checkF,if_pos (.inr hb)]; rfl)
 have hc:checkF l.length f=if(f.sl.toList.any fun t=> !validN l.length t)=true then 22 else 0:=by
  rw[checkF,if_neg (by simp[hs,hb])]
 rw[hc,hb]
 have hl24:f.sl.toList.length=24:=by simp
 have hl24':f.sl.size=24:=by simp
 simp -implicitDefEqProofs only[go_sem,hT,za6,za4,eq_fr,decide_true,fr_tail,map24,hl24,len24,Nat.le_refl,List.length_map,Vector.length_toList]
 refine loopL F96 (fun i:Nat=>[(0,.slice o (rws eC l)),(17,.agg (List.map eU f.sl.toList)),(18,.int .i64 i)]) (fun _=>{}) (fun i=>i≤24∧((f.sl.toList.take i).any fun t=> !validN l.length t)=false) (fun i=>24-i) 0 ⟨by omega,rfl⟩ ?_ (St.le.nil _) ?_
 ·simp -implicitDefEqProofs only[go_sem,hT,Int.ofNat_zero]
 clear hT T
 rintro i ⟨hi,hok⟩ T hT
 by_cases h:i<24
 ·have h1:((i:Int)<24)=True:=by simp; omega
  have hx:=fr_idx f h
  have hl:i<f.sl.toList.length:=by simpa using h
  have htake:f.sl.toList.take (i+1)=f.sl.toList.take i++[f.sl[i]]:=by rw[List.take_succ_eq_append_getElem hl]; simp
  have hin:f.sl[i]∈f.sl.toList:=by simp
  generalize f.sl[i]=t at *
  simp -implicitDefEqProofs only[go_sem,hT,h1,hx,Nat.mul_one]
  refine⟨by omega,za3 (valid105 l o t) ?_⟩
  cases hv:validN l.length t
  ·simp -implicitDefEqProofs only[go_sem,hT]
   rw[if_pos (List.any_eq_true.2 ⟨t,hin,by simp[hv]⟩)]
   exact DLe.of_eq rfl
  ·simp -implicitDefEqProofs only[go_sem,hT]
   refine⟨i+1,⟨by omega,by rw[htake,List.any_append,hok]; simp[hv]⟩,by omega, ?_,St.le.refl _⟩
   rw[zc1 (by omega) (by omega)]; simp
 ·have h1:((i:Int)<24)=False:=by simp; omega
  rw[List.take_of_length_le (by simp; omega)] at hok
  simp -implicitDefEqProofs only[go_sem,hT,h1]
  rw[if_neg (by simp[hok])]
  exact DLe.of_eq rfl
open Go.Proofs
@[irreducible] def zFr:List D:=[D.int .i64 0,D.int .i64 0,D.int .u8 0,D.int .u8 0,D.int .u8 0,D.int .u8 0,D.int .u8 0,D.int .u8 0,D.int .u8 0,D.int .u8 0,D.int .u8 0,D.int .u8 0,D.int .u8 0,D.int .u8 0,D.int .u8 0,D.int .u8 0,D.int .u8 0,D.int .u8 0,D.int .u8 0,D.int .u8 0,D.int .u8 0,D.int .u8 0,D.int .u8 0,D.int .u8 0,D.int .u8 0,D.int .u8 0]
theorem zb9:[D.int .i64 0,D.int .i64 0,D.int .u8 0,D.int .u8 0,D.int .u8 0,D.int .u8 0,D.int .u8 0,D.int .u8 0,D.int .u8 0,D.int .u8 0,D.int .u8 0,D.int .u8 0,D.int .u8 0,D.int .u8 0,D.int .u8 0,D.int .u8 0,D.int .u8 0,D.int .u8 0,D.int .u8 0,D.int .u8 0,D.int .u8 0,D.int .u8 0,D.int .u8 0,D.int .u8 0,D.int .u8 0,D.int .u8 0]=zFr:=by rw[zFr]
theorem fr_fr0:eFr (fr0 0)=zFr:=by rw[zFr]; rfl
theorem zc0:zFr.length=26:=by rw[zFr]; rfl
theorem zb5:zFr.take 26=zFr:=by rw[zFr]; rfl
theorem zb3:zFr.drop 26=[]:=by rw[zFr]; rfl
def slAt (f:Fr) (i:Nat):Ty:=(f.sl.toList[i]?).getD 0
theorem slAt_lt (f:Fr) {i:Nat} (h:i<24):slAt f i=f.sl[i]:=by
 rw[slAt,List.getElem?_eq_getElem (by simpa using h)]
 simp
theorem fr_slAt (f:Fr) {i:Nat} (h:i<24):(eFr f)[2+i]? =some (.int .u8 ((slAt f i).val:Int)):=by rw[fr_at f i h,slAt_lt f h]
theorem shaped_of {f:Fr} (h:shapedB f=true):0≤f.loc∧f.loc≤16∧0≤f.h∧f.loc+f.h≤24:=by
 simp only[shapedB,decide_eq_true_eq] at h
 omega
def bYdaV0:=aI @zb9 (aI @zc0 (aI @zb5 (aI @zb3 @za6)))
def bYdaV1:=aI @zb9 (aI @zc0 (aI @zb5 (aI @zb3 (aI @za6 @za4))))
theorem top127 (f:Fr) (hs:shapedB f=true) (n:Nat) (hn:(n:Int)<f.h):PCall Tryz.prog 210 [.agg (eFr f),.int .i64 n] (.tup [.int .u8 (slAt f (f.loc+f.h-1-n).toNat).val,.int .i64 0]):=by
 obtain⟨s1,s2,s3,s4⟩:=shaped_of hs
 have w1:IntKind.wrap .i64 (f.loc+f.h)=f.loc+f.h:=zc1 (by omega) (by omega)
 have w2:IntKind.wrap .i64 (f.loc+f.h-1)=f.loc+f.h-1:=zc1 (by omega) (by omega)
 have w3:IntKind.wrap .i64 (f.loc+f.h-1-n)=f.loc+f.h-1-n:=zc1 (by omega) (by omega)
 have g1:((n:Int)<0)=False:=by simp
 have g2:(f.h≤(n:Int))=False:=by simp; omega
 have hx:=fr_slAt f (show(f.loc+f.h-1-n).toNat<24 by omega)
 refine F210.pcall' rfl fun T hT=> ?_
 simp -implicitDefEqProofs only[go_sem,c210,hT,bYdaV0]
 intro b1
 simp -implicitDefEqProofs only[go_sem,hT,bYdaV1]
 refine za3 (shaped123 f) ?_
 simp -implicitDefEqProofs only[go_sem,zb9,zc0,zb5,zb3,hT,hs,za6,fr_0,fr_1,gdD,g1,g2,w1,w2,w3,hx,Nat.mul_one]
 omega
theorem load84 (f:Fr) (hs:shapedB f=true) (a:Int) (h0:0≤a) (h1:a<f.loc):PCall Tryz.prog 175 [.agg (eFr f),.int .i64 a] (.tup [.int .u8 (slAt f a.toNat).val,.int .i64 0]):=by
 obtain⟨s1,s2,s3,s4⟩:=shaped_of hs
 have g1:(decide (a<0)||decide (f.loc≤a))=false:=by simp; omega
 have hx:=fr_slAt f (show a.toNat<24 by omega)
 refine F175.pcall' rfl fun T hT=> ?_
 simp -implicitDefEqProofs only[go_sem,c175,hT,bYdaV0]
 intro b1
 simp -implicitDefEqProofs only[go_sem,hT,bYdaV1]
 refine za3 (shaped123 f) ?_
 simp -implicitDefEqProofs only[go_sem,mmB,zb9,zc0,zb5,zb3,hT,hs,za6,fr_0,fr_1,gdD,g1,hx,Nat.mul_one]
 omega
def popF (f:Fr):Fr:=bareF ⟨f.loc,f.h-1,f.sl⟩
def topF (f:Fr):Ty:=slAt f (f.loc+f.h-1).toNat
theorem fr_h (f:Fr) (n:Int):List.take 1 (eFr f)++[D.int .i64 n]++List.drop 2 (eFr f)=eFr ⟨f.loc,n,f.sl⟩:=rfl
theorem pop_shape {f:Fr} (hs:shapedB f=true) (h0:0<f.h):shapedB ⟨f.loc,f.h-1,f.sl⟩=true:=by
 have:=shaped_of hs
 simp only[shapedB,decide_eq_true_eq]; omega
theorem pop129 (f:Fr) (hs:shapedB f=true) (h0:0<f.h):PCall Tryz.prog 212 [.agg (eFr f)] (.tup [.agg (eFr (popF f)),.int .u8 (topF f).val,.int .i64 0]):=by
 obtain⟨s1,s2,s3,s4⟩:=shaped_of hs
 have w1:IntKind.wrap .i64 (f.h-1)=f.h-1:=zc1 (by omega) (by omega)
 have ht:=top127 f hs 0 (by simpa using h0)
 rw[show f.loc+f.h-1-((0:Nat):Int)=f.loc+f.h-1 by omega] at ht
 refine F212.pcall' rfl fun T hT=> ?_
 simp -implicitDefEqProofs only[go_sem,c212,hT,bYdaV0]
 intro b1 b2 n1 n2
 simp -implicitDefEqProofs only[go_sem,hT,n1,n2,bYdaV1]
 refine za3 ht ?_
 simp -implicitDefEqProofs only[go_sem,zb9,zc0,zb5,zb3,hT,za6,za4,n1,n2,fr_1,w1,fr_h,za2,gdD,za7,anD]
 refine za3 (bare124 _ (pop_shape hs h0)) ?_
 simp -implicitDefEqProofs only[go_sem,zb9,zc0,zb5,zb3,hT,za6,za4,n1,n2,za5,za2]
 exact DLe.refl _
theorem refPop118 (f:Fr) (hs:shapedB f=true) (h0:0<f.h):PCall Tryz.prog 184 [.agg (eFr f)] (.tup [.agg (eFr (popF f)),.int .u8 (topF f).val,.int .i64 0]):=by
 obtain⟨s1,s2,s3,s4⟩:=shaped_of hs
 have w1:IntKind.wrap .i64 (f.h-1)=f.h-1:=zc1 (by omega) (by omega)
 have w2:IntKind.wrap .i64 (f.loc+f.h)=f.loc+f.h:=zc1 (by omega) (by omega)
 have w3:IntKind.wrap .i64 (f.loc+f.h-1)=f.loc+f.h-1:=zc1 (by omega) (by omega)
 have hx:=fr_slAt f (show(f.loc+f.h-1).toNat<24 by omega)
 have g1:(f.h=0)=False:=by simp; omega
 refine F184.pcall' rfl fun T hT=> ?_
 simp -implicitDefEqProofs only[go_sem,c184,hT,bYdaV0]
 intro b1 b2 n1 n2
 simp -implicitDefEqProofs only[go_sem,hT,n1,n2,bYdaV1]
 refine za3 (refShape86 f) ?_
 simp -implicitDefEqProofs only[go_sem,zb9,zc0,zb5,zb3,hT,hs,za6,za4,n1,n2,fr_0,fr_1,g1,w1,w2,w3,fr_h,za2,gdD,hx,Nat.mul_one,za7,anD]
 refine⟨by omega, ?_⟩
 refine za3 (refBare151 _ (pop_shape hs h0)) ?_
 simp -implicitDefEqProofs only[go_sem,zb9,zc0,zb5,zb3,hT,za6,za4,n1,n2,za5,za2]
 exact DLe.refl _
theorem bare_shape {f:Fr}:shapedB (bareF f)=shapedB f:=by simp only[shapedB,bare_loc,bare_h]
theorem bare_bare {f:Fr}:bareF (bareF f)=bareF f:=by
 simp only[bareF,Fr.mk.injEq,true_and]
 apply Vector.ext
 intro j hj
 simp only[Vector.getElem_ofFn]
 split <;> rfl
def setF (f:Fr) (a:Int) (t:Ty):Fr:=⟨f.loc,f.h,if h:a.toNat<24 then f.sl.set a.toNat t h else f.sl⟩
theorem setF_loc {f:Fr} {a:Int} {t:Ty}:(setF f a t).loc=f.loc:=by unfold setF; rfl
theorem setF_h {f:Fr} {a:Int} {t:Ty}:(setF f a t).h=f.h:=by unfold setF; rfl
theorem fr_setF {f:Fr} {a:Int} (h0:0≤a) (h:a<24) {t:Ty}:(eFr f).take (2+a.toNat)++[D.int .u8 (t.val:Int)]++(eFr f).drop (2+a.toNat+1)=eFr (setF f a t):=by
 rw[setF,dif_pos (show a.toNat<24 by omega)]
 exact fr_set (by omega)
theorem store130 (f:Fr) (hs:shapedB f=true) (a:Int) (t:Ty) (h0:0≤a) (h1:a<f.loc):PCall Tryz.prog 213 [.agg (eFr f),.int .i64 a,.int .u8 t.val] (.tup [.agg (eFr (setF (bareF f) a t)),.int .i64 0]):=by
 obtain⟨s1,s2,s3,s4⟩:=shaped_of hs
 have hst:=fr_setF (f:=bareF f) (t:=t) h0 (by omega)
 refine F213.pcall' rfl fun T hT=> ?_
 simp -implicitDefEqProofs only[go_sem,c213,hT,bYdaV0]
 intro b1 b2 n1 n2
 simp -implicitDefEqProofs only[go_sem,hT,n1,n2,bYdaV1]
 refine za3 (load84 f hs a h0 h1) ?_
 simp -implicitDefEqProofs only[go_sem,hT,n1,n2,bYdaV1]
 refine za3 (bare124 f hs) ?_
 simp -implicitDefEqProofs only[go_sem,zb9,zc0,zb5,zb3,hT,za6,za4,n1,n2,za2,za7,anD,hst,Nat.mul_one,za5,gdD]
 omega
def pushF (f:Fr) (t:Ty):Fr×Nat:=if f.loc+f.h=24 then(fr0 0,31) else(⟨f.loc,f.h+1,(setF (bareF f) (f.loc+f.h) t).sl⟩,0)
def bYdaV2:=aI @zb9 (aI @zc0 (aI @zb5 (aI @zb3 (aI @za6 (aI @za4 (aI @fr_0 (aI @fr_1 (aI @za5 (aI @za2 @gdD)))))))))
theorem push131 (f:Fr) (hs:shapedB f=true) (t:Ty):PCall Tryz.prog 214 [.agg (eFr f),.int .u8 t.val] (.tup [.agg (eFr (pushF f t).1),.int .i64 (pushF f t).2]):=by
 obtain⟨s1,s2,s3,s4⟩:=shaped_of hs
 have w1:IntKind.wrap .i64 (f.loc+f.h)=f.loc+f.h:=zc1 (by omega) (by omega)
 have w2:IntKind.wrap .i64 (f.h+1)=f.h+1:=zc1 (by omega) (by omega)
 refine F214.pcall' rfl fun T hT=> ?_
 simp -implicitDefEqProofs only[go_sem,c214,hT,bYdaV0]
 intro b1 b2 n1 n2
 simp -implicitDefEqProofs only[go_sem,hT,n1,n2,bYdaV1]
 refine za3 (shaped123 f) ?_
 by_cases h24:f.loc+f.h=24
 ·have h24':(f.loc+f.h=24)=True:=by simp[h24]
  simp -implicitDefEqProofs only[go_sem,hT,hs,n1,n2,w1,h24',bYdaV2]
  rw[pushF,if_pos h24,fr_fr0]
  exact DLe.refl _
 simp -implicitDefEqProofs only[go_sem,hT,hs,n1,n2,w1,h24,bYdaV2]
 refine za3 (bare124 f hs) ?_
 have hst:=fr_setF (f:=bareF f) (a:=f.loc+f.h) (t:=t) (by omega) (by omega)
 simp -implicitDefEqProofs only[go_sem,zb9,zc0,zb5,zb3,hT,za6,za4,n1,n2,za2,za7,anD,fr_0,fr_1,bare_loc,bare_h,w1,hst,setF_loc,setF_h,w2,fr_h,Nat.mul_one,za5,gdD]
 refine⟨by omega,by omega, ?_⟩
 rw[pushF,if_neg h24]
 exact DLe.refl _
theorem refPush119 (f:Fr) (hs:shapedB f=true) (t:Ty):PCall Tryz.prog 185 [.agg (eFr f),.int .u8 t.val] (.tup [.agg (eFr (pushF f t).1),.int .i64 (pushF f t).2]):=by
 obtain⟨s1,s2,s3,s4⟩:=shaped_of hs
 have w1:IntKind.wrap .i64 (f.loc+f.h)=f.loc+f.h:=zc1 (by omega) (by omega)
 have w2:IntKind.wrap .i64 (f.h+1)=f.h+1:=zc1 (by omega) (by omega)
 refine F185.pcall' rfl fun T hT=> ?_
 simp -implicitDefEqProofs only[go_sem,c185,hT,bYdaV0]
 intro b1 b2 n1 n2
 simp -implicitDefEqProofs only[go_sem,hT,n1,n2,bYdaV1]
 refine za3 (refShape86 f) ?_
 by_cases h24:f.loc+f.h=24
 ·have h24':(f.loc+f.h=24)=True:=by simp[h24]
  simp -implicitDefEqProofs only[go_sem,hT,hs,n1,n2,w1,h24',bYdaV2]
  rw[pushF,if_pos h24,fr_fr0]
  exact DLe.refl _
 simp -implicitDefEqProofs only[go_sem,hT,hs,n1,n2,w1,h24,bYdaV2]
 refine za3 (refBare151 f hs) ?_
 have hst:=fr_setF (f:=bareF f) (a:=f.loc+f.h) (t:=t) (by omega) (by omega)
 simp -implicitDefEqProofs only[go_sem,zb9,zc0,zb5,zb3,hT,za6,za4,n1,n2,za2,za7,anD,fr_0,fr_1,bare_loc,bare_h,w1,hst,setF_loc,setF_h,w2,fr_h,Nat.mul_one,za5,gdD]
 refine⟨by omega,by omega, ?_⟩
 rw[pushF,if_neg h24]
 exact DLe.refl _
open Go.Proofs
theorem upL_len (l:List Cl):∀(n c:Nat),c≤n→(upL l c).length≤c+1
 |0,c,h=>by
  unfold upL
  split
  ·rw[dif_neg (by omega)]; simp
  ·simp
 |n+1,c,h=>by
  unfold upL
  split
  ·rename_i x hx
   split
   ·rename_i hp
    have:=upL_len l n x.parent.toNat (by omega)
    simp; omega
   ·simp
  ·simp
theorem upI_len {l:List Cl} {c:Int}:(upI l c).length≤l.length:=by
 unfold upI
 split
 ·by_cases h:c.toNat<l.length
  ·have:=upL_len l c.toNat c.toNat (Nat.le_refl _)
   omega
  ·rw[upL,List.getElem?_eq_none (by omega)]; simp
 ·simp
theorem upL_lt {l:List Cl}:∀(n c:Nat),c≤n→∀k∈upL l c,k<l.length
 |0,c,h,k,hk=>by
  unfold upL at hk
  split at hk
  ·rename_i x hx
   rw[dif_neg (by omega)] at hk
   simp at hk; subst hk
   exact(List.getElem?_eq_some_iff.1 hx).1
  ·cases hk
 |n+1,c,h,k,hk=>by
  unfold upL at hk
  split at hk
  ·rename_i x hx
   simp only[List.mem_cons] at hk
   rcases hk with rfl|hk
   ·exact(List.getElem?_eq_some_iff.1 hx).1
   ·split at hk
    ·rename_i hp; exact upL_lt n _ (by omega) k hk
    ·cases hk
  ·cases hk
theorem upI_lt {l:List Cl} {c:Int} {k:Nat} (h:k∈upI l c):k<l.length:=by
 unfold upI at h
 split at h
 ·exact upL_lt _ _ (Nat.le_refl _) k h
 ·cases h
def lnB (b5:Nat) (a:List Nat×Option Nat):St:=({}:St).set b5 [grD 1 a.2 (rws eI (toI a.1))]
def lnS (b5:Nat) (a:List Nat×Option Nat):St:=grS 1 a.1.length a.2 (lnB b5 a)
def lnOk (b5:Nat) (a:List Nat×Option Nat):Prop:=(a.2=none→a.1.length=0)∧∀b,a.2=some b→b≠b5
section
variable {b5 : Nat} {a : List Nat × Option Nat}
theorem lnS_5:(lnS b5 a).box b5=some [grD 1 a.2 (rws eI (toI a.1))]:=by simp[lnS,lnB,grS_boxa,St.set_box]
theorem lnB_n (h:lnOk b5 a):grN a.2 (lnB b5 a):=fun b hb hin=>by
 have h1:=h.2 b hb
 simp only[lnB,has_set,has_nil,or_false] at hin
 omega
theorem lnB_of {ob:Option Nat} (h:grN ob (lnB b5 a)) {L:List Nat} (h':ob=none→L.length=0):lnOk b5 (L,ob):=
 ⟨h',fun b hb e=>h b hb (by simp[lnB,has_set,e])⟩
theorem lnS_more {σ':St} {ob:Option Nat} {x:Nat} (hle:St.le (grS 1 (a.1.length+1) ob (lnB b5 a)) σ'):St.le (lnS b5 (a.1++[x],ob)) (σ'.set b5 [grD 1 ob (rws eI (toI a.1)++[[.int .i64 x]])]):=by
 have h:=le_set (b:=b5) (cs:=[grD 1 ob (rws eI (toI (a.1++[x])))]) hle
 rw[grS_set,lnB,za2] at h
 simp only[lnS,lnB,List.length_append,List.length_cons,List.length_nil,Nat.zero_add]
 rw[show rws eI (toI a.1)++[[D.int .i64 x]]=rws eI (toI (a.1++[x])) by simp[rws,eI,toI]]
 exact h
end
theorem toI_len {L:List Nat}:(rws eI (toI L)).length=L.length:=by simp[rws,toI]
theorem line204 (b5 c:Nat) (a:List Nat×Option Nat) (ha:lnOk b5 a) (hl:(a.1.length+1)*8≤140737488355328):
  RCall Tryz.prog 248 [.int .i64 c,.ptr b5 0] (lnS b5 a) fun d s'=>d= .bool true∧∃ob,s'=lnS b5 (a.1++[c],ob)∧lnOk b5 (a.1++[c],ob):=by
 refine F248.rcall rfl fun T hT=> ?_
 simp -implicitDefEqProofs only[go_sem,c248,hT,lnS_5,frz]
 refine app_gr' Tryz.sli29 Tryz.sz3 Tryz.by3 Tryz.zero3 rfl (n:=a.1.length) (m:=1) (base:=lnB b5 a) toI_len rfl (St.le.refl _) (lnB_n ha) ha.1 (by simp) (by omega) fun o' σ' hbox hle hn hno=> ?_
 simp -implicitDefEqProofs only[go_sem,hT,hbox,lnS_5]
 exact⟨_,_,DLe.refl _,lnS_more hle,rfl,o',rfl,lnB_of hn (by simpa using hno)⟩
def lnStep (a:List Nat×Option Nat) (c:Nat) (b:Bool) (a':List Nat×Option Nat):Prop:=b=true∧a'.1=a.1++[c]
theorem ln_runs:∀{L:List Nat} {a a':List Nat×Option Nat},Runs lnStep L a a'→a'.1=a.1++L
 |[],a,a',h=>by simp only[Runs] at h; subst h; simp
 |c::L,a,a'',⟨b,a',⟨hb,hs⟩,h⟩=>by
  rw[if_pos hb] at h
  rw[ln_runs h,hs]; simp
theorem fields189 (l:List Cl) (o:Own) (c:Int) (hl:l.length*48≤140737488351232) (hf:(fieldsOn l (upI l c).reverse).length*24≤140737488355328):
  PCall Tryz.prog 247 [.slice o (rws eC l),.int .i64 c] (.slice .no (rws eF (fieldsOn l (upI l c).reverse))):=by
 refine F247.pcall' rfl fun T hT=> ?_
 simp -implicitDefEqProofs only[go_sem,c247,hT]
 intro b5
 have hul:=upI_len (l:=l) (c:=c)
 refine callB_all (σ:=lnS b5 ([],none)) (climb144' l o 248 [] [.ptr b5 0] (lnS b5) lnStep (fun a L=>lnOk b5 a∧a.1.length+L.length≤l.length) (by omega) ?_ ([],none) c ?_) ?_
 ·rintro a n rest hn ⟨ha,hlen⟩
  simp only[List.length_cons] at hlen
  refine(line204 b5 n a ha (by omega)).mono ?_
  rintro d s' ⟨rfl,ob,rfl,hok⟩
  exact⟨true,_,rfl,rfl,⟨rfl,rfl⟩,hok,by simp; omega⟩
 ·exact⟨⟨fun _=>rfl,fun b hb=>by cases hb⟩,by simpa using hul⟩
 rintro d s' ⟨rfl,⟨L,o1⟩,r,rfl,hruns,hok,_⟩
 have hL:L=upI l c:=by simpa using ln_runs hruns
 subst hL
 have hlt:∀n∈upI l c,n<l.length:=fun n hn=>upI_lt hn
 generalize upI l c=L at *
 clear hruns
 have hlen:(toI L).length=L.length:=by simp[toI]
 simp -implicitDefEqProofs only[go_sem,hT,lnS_5,hlen]
 refine loopL F247 (fun x:Nat×Option Nat=>[(0,.slice o (rws eC l)),(5,.ptr b5 0),(7,.int .i64 ((x.1:Int)-1)),(6,grD 2 x.2 (rws eF (fieldsOn l (L.drop x.1).reverse)))]) (fun x=>grS 2 (fieldsOn l (L.drop x.1).reverse).length x.2 (lnS b5 (L,o1)))
  (fun x=>x.1≤L.length∧(x.2=none→(fieldsOn l (L.drop x.1).reverse).length=0)∧grN x.2 (lnS b5 (L,o1))) (fun x=>x.1) (L.length,none)
  ⟨Nat.le_refl _,fun _=>by simp[fieldsOn],grN_none⟩ ?_ (St.le.refl _) ?_
 ·simp -implicitDefEqProofs only[go_sem,hT,hlen]
  refine⟨?_, ?_⟩
  ·rw[zc1 (by omega) (by omega)]
  ·simp[fieldsOn,rws,grD]
 clear hT T
 rintro⟨k,ob⟩ ⟨hk,hn,hgn⟩ T hT
 simp only at hk hn hgn hT ⊢
 by_cases h:k=0
 ·subst h
  have h1:((0:Int)≤(0:Nat)-1)=False:=by simp
  simp -implicitDefEqProofs only[go_sem,hT,h1]
  exact grD_le
 ·obtain⟨i,rfl⟩:∃i,k=i+1:=⟨k-1,by omega⟩
  have h1:((i+1:Nat):Int)-1=i:=by omega
  have h2:((0:Int)≤i)=True:=by simp
  have hi:i<L.length:=by omega
  have hn':L[i]<l.length:=hlt _ (by simp)
  rw[h1] at hT
  simp -implicitDefEqProofs only[go_sem,hT,h2,grS_boxa,lnS_5,toI_at hi,hlen,rws_at hn',eC,eC_len]
  refine⟨by omega,by omega, ?_⟩
  have hsnoc:fieldsOn l (L.drop i).reverse=fieldsOn l (L.drop (i+1)).reverse++l[L[i]].fields:=by
   rw[List.drop_eq_getElem_cons hi,List.reverse_cons,fieldsOn_snoc hn']
  have hle:=fieldsOn_drop_le (l:=l) (L:=L) i
  have hsl:=congrArg List.length hsnoc
  rw[List.length_append] at hsl
  refine app_gr' Tryz.sli152 Tryz.sz157 Tryz.by157 Tryz.zero157 rfl (n:=(fieldsOn l (L.drop (i+1)).reverse).length) (m:=l[L[i]].fields.length) (by rw[za0]) (by rw[za0]) (St.le.refl _) hgn hn (by simp[rws,eF_len]) (by omega) fun o' σ' hbox hle' hgn' hno=> ?_
  simp -implicitDefEqProofs only[go_sem,hT]
  refine⟨(i,o'),⟨by omega,by rw[hsl]; exact hno,hgn'⟩,by simp,⟨?_, ?_⟩,by rw[hsl]; exact hle'⟩
  ·rw[zc1 (by omega) (by omega)]
  ·rw[hsnoc]; simp[rws]
open Go.Proofs
def isRefB (t:Ty):Bool:=decide (t.val=3∨t.val=4∨t.val=5∨16≤t.val)
theorem isRef163 (t:Ty):PCall Tryz.prog 227 [.int .u8 t.val] (.bool (isRefB t)):=by
 refine F227.pcall' rfl fun T hT=> ?_
 simp -implicitDefEqProofs only[go_sem,mmB,c227,hT]
 exact zf1 (by rw[Bool.eq_iff_iff]; simp[isRefB]; omega)
theorem refIsRef120 (t:Ty):PCall Tryz.prog 132 [.int .u8 t.val] (.bool (isRefB t)):=by
 refine F132.pcall' rfl fun T hT=> ?_
 simp -implicitDefEqProofs only[go_sem,mmB,c132,hT]
 exact zf1 (by rw[Bool.eq_iff_iff]; simp[isRefB]; omega)
def abB (b5 b7:Nat) (y:Int) (a:Bool):St:=(({}:St).set b5 [.int .i64 y]).set b7 [.bool a]
theorem above205 (b5 b7:Nat) (hne:b5≠b7) (y:Int) (a:Bool) (c:Nat):
  RCall Tryz.prog 241 [.int .i64 c,.ptr b5 0,.ptr b7 0] (abB b5 b7 y a) fun d s'=>d= .bool (!decide ((c:Int)=y))∧s'=abB b5 b7 y (decide ((c:Int)=y)):=by
 have h1:¬b5=b7:=hne
 have h2:¬b7=b5:=fun e=>hne e.symm
 refine F241.rcall rfl fun T hT=> ?_
 simp -implicitDefEqProofs only[go_sem,c241,hT,abB,h1,h2,za2]
 exact⟨_,_,DLe.refl _,St.le.refl _,rfl,rfl⟩
def abStep (y:Int) (a:Bool) (c:Nat) (b:Bool) (a':Bool):Prop:=a'=decide ((c:Int)=y)∧b= !a'
theorem ab_runs {y:Int}:∀{L:List Nat} {a a':Bool},Runs (abStep y) L a a'→a'=if L=[] then a else L.any fun c=>decide ((c:Int)=y)
 |[],a,a',h=>by simp only[Runs] at h; simp[h]
 |c::L,a,a'',⟨b,a',⟨h1,h2⟩,h⟩=>by
  simp only[List.any_cons,reduceCtorEq,if_false]
  cases hc:decide ((c:Int)=y)
  ·rw[hc] at h1
   subst h1; subst h2
   simp only[Bool.not_false,if_true] at h
   rw[ab_runs h]
   cases L <;> simp
  ·rw[hc] at h1
   subst h1; subst h2
   simp only[Bool.not_true,Bool.false_eq_true,if_false] at h
   rw[h]; rfl
theorem above190 (l:List Cl) (o:Own) (c y:Int) (hl:l.length≤140737488355328):PCall Tryz.prog 228 [.slice o (rws eC l),.int .i64 c,.int .i64 y] (.bool ((upI l c).any fun k=>decide ((k:Int)=y))):=by
 refine F228.pcall' rfl fun T hT=> ?_
 simp -implicitDefEqProofs only[go_sem,c228,hT]
 intro b5 b7 n1 n2
 simp -implicitDefEqProofs only[go_sem,hT,n1,n2,za2]
 refine callB_all (σ:=abB b5 b7 y false) (climb144' l o 241 [] [.ptr b5 0,.ptr b7 0] (abB b5 b7 y) (abStep y) (fun _ _=>True) hl ?_ false c trivial) ?_
 ·rintro a n rest hn _
  refine(above205 b5 b7 n2 y a n).mono ?_
  rintro d s' ⟨rfl,rfl⟩
  exact⟨_,_,rfl,rfl,⟨rfl,rfl⟩,trivial⟩
 rintro d s' ⟨rfl,a',r,rfl,hruns,_⟩
 have ha:=ab_runs hruns
 simp -implicitDefEqProofs only[go_sem,hT,abB,n1,n2]
 refine zf1 ?_
 rw[ha]
 cases upI l c <;> simp
def subB (l:List Cl) (a b:Ty):Bool:=
 if validN l.length a=false∨validN l.length b=false then false
 else if a=b∨b.val=0 then true
 else if a.val=3∨b.val=5 then isRefB a&&isRefB b
 else decide (16≤a.val∧16≤b.val)&&(upI l ((a.val:Int)-16)).any fun k=>decide ((k:Int)=(b.val:Int)-16)
theorem clsOf_val {n:Nat} {t:Ty} (h:validN n t=true) (h16:16≤t.val):clsOf n t=(t.val:Int)-16:=by
 simp only[validN,decide_eq_true_eq] at h
 rw[clsOf,if_pos (by omega)]
theorem clsOf_no {n:Nat} {t:Ty} (h16:¬16≤t.val):clsOf n t= -1:=by rw[clsOf,if_neg (by omega)]
theorem sub164 (l:List Cl) (o:Own) (a b:Ty) (hl:l.length≤140737488355328):PCall Tryz.prog 207 [.slice o (rws eC l),.int .u8 a.val,.int .u8 b.val] (.bool (subB l a b)):=by
 refine F207.pcall' rfl fun T hT=> ?_
 simp -implicitDefEqProofs only[go_sem,c207,hT]
 refine za3 (valid105 l o a) ?_
 cases hva:validN l.length a
 ·simp -implicitDefEqProofs only[go_sem,hT]
  exact zf1 (by simp[subB,hva])
 simp -implicitDefEqProofs only[go_sem,hT]
 refine za3 (valid105 l o b) ?_
 cases hvb:validN l.length b
 ·simp -implicitDefEqProofs only[go_sem,hT]
  exact zf1 (by simp[subB,hvb])
 by_cases e1:(a.val:Int)=b.val∨(b.val:Int)=0
 ·have hq:(decide ((a.val:Int)=b.val)||decide ((b.val:Int)=0))=true:=by simpa using e1
  simp -implicitDefEqProofs only[go_sem,mmB,hT,hq]
  exact zf1 (by rw[subB,if_neg (by simp[hva,hvb]),if_pos (by rw[Fin.ext_iff]; omega)])
 have hq:(decide ((a.val:Int)=b.val)||decide ((b.val:Int)=0))=false:=by simpa using e1
 have s1:subB l a b=if a.val=3∨b.val=5 then isRefB a&&isRefB b else decide (16≤a.val∧16≤b.val)&&(upI l ((a.val:Int)-16)).any fun k=>decide ((k:Int)=(b.val:Int)-16):=by
  rw[subB,if_neg (by simp[hva,hvb]),if_neg (by rw[Fin.ext_iff]; omega)]
 by_cases e2:(a.val:Int)=3∨(b.val:Int)=5
 ·have hq2:(decide ((a.val:Int)=3)||decide ((b.val:Int)=5))=true:=by simpa using e2
  rw[s1,if_pos (by omega)]
  simp -implicitDefEqProofs only[go_sem,mmB,hT,hq,hq2]
  refine za3 (isRef163 a) ?_
  cases hr:isRefB a
  ·simp -implicitDefEqProofs only[go_sem,hT]
   exact zf1 (by simp)
  ·simp -implicitDefEqProofs only[go_sem,hT]
   refine za3 (isRef163 b) ?_
   simp -implicitDefEqProofs only[go_sem,hT]
   exact zf1 (by simp)
 have hq2:(decide ((a.val:Int)=3)||decide ((b.val:Int)=5))=false:=by simpa using e2
 rw[s1,if_neg (by omega)]
 simp -implicitDefEqProofs only[go_sem,mmB,hT,hq,hq2]
 refine za3 (class147 l o a) ?_
 simp -implicitDefEqProofs only[go_sem,mmB,hT]
 refine za3 (class147 l o b) ?_
 by_cases h16:16≤a.val∧16≤b.val
 ·have ca:=clsOf_val hva h16.1
  have cb:=clsOf_val hvb h16.2
  have g1:((0:Int)≤(a.val:Int)-16)=True:=by simp; omega
  have g2:((0:Int)≤(b.val:Int)-16)=True:=by simp; omega
  simp -implicitDefEqProofs only[go_sem,hT,ca,cb,g1,g2]
  refine za3 (above190 l o _ _ hl) ?_
  simp -implicitDefEqProofs only[go_sem,hT]
  exact zf1 (by simp[h16])
 ·by_cases ha16:16≤a.val
  ·have ca:=clsOf_val hva ha16
   have cb:=clsOf_no (n:=l.length) (show ¬16≤b.val by omega)
   have g1:((0:Int)≤(a.val:Int)-16)=True:=by simp; omega
   simp -implicitDefEqProofs only[go_sem,hT,ca,cb,g1]
   exact zf1 (by rw[decide_eq_false h16]; rfl)
  ·have ca:=clsOf_no (n:=l.length) ha16
   simp -implicitDefEqProofs only[go_sem,hT,ca]
   exact zf1 (by rw[decide_eq_false h16]; rfl)
end Go.AL
namespace Go.AL
open Go.Proofs
structure Ins where
 pos:Int
 op:Ty
 a:Int
 b:Int
 deriving DecidableEq
def eIn (i:Ins):List D:=[.int .i64 i.pos,.int .u8 i.op.val,.int .i64 i.a,.int .i64 i.b]
theorem zb8 (i:Ins):(eIn i).length=4:=rfl
structure Wn where
 kind:Nat
 t:Ty
def eW (w:Wn):List D:=[.int .i64 w.kind,.int .u8 w.t.val]
theorem eW_len (w:Wn):(eW w).length=2:=rfl
inductive Gv where
 |no|const (l:List Ty)|dup|swap
def eG:Gv→D
 | .no=> .nilfunc
 | .const l=> .func (.func 242) [] [.eptr [.slice .no (rws eT l)]]
 | .dup=> .func (.func 232) [] []
 | .swap=> .func (.func 233) [] []
theorem eG_cellQ (g:Gv):(eG g).cellQ=true:=by cases g <;> rfl
theorem of153 (t:Ty):PCall Tryz.prog 229 [.int .u8 t.val] (.agg (eW ⟨4,t⟩)):=by
 refine F229.pcall' rfl fun T hT=> ?_
 simp -implicitDefEqProofs only[go_sem,c229,hT,za5,za2]
 exact DLe.of_eq rfl
theorem giving154 (x:D) (hx:x.cellQ=true):PCall Tryz.prog 230 [x] (.func (.func 242) [] [.eptr [x]]):=by
 refine RCall.freeze (F230.rcall rfl fun T hT=> ?_)
 simp -implicitDefEqProofs only[go_sem,c230,hT,hx]
 exact fun b=>⟨_,_,DLe.refl _,St.le.refl _,FLe.func .nil (.cons (FLe.box (by simp[St.set_box]) (FLes.refl _)) .nil)⟩
theorem fixed155 (x g:D) (hx:x.cellQ=true) (hg:g.cellQ=true):PCall Tryz.prog 231 [x,g] (.func (.func 243) [] [.eptr [x],.eptr [g]]):=by
 refine RCall.freeze (F231.rcall rfl fun T hT=> ?_)
 simp -implicitDefEqProofs only[go_sem,c231,hT,hx,hg]
 intro b1 b2 n1
 have n2:¬b1=b2:=fun e=>n1 (by simp[has_set,e])
 simp -implicitDefEqProofs only[go_sem,hT,n2]
 exact⟨_,_,DLe.refl _,St.le.refl _,FLe.func .nil (.cons (FLe.box (by simp[St.set_box,n2]) (FLes.refl _)) (.cons (FLe.box (by simp[St.set_box]) (FLes.refl _)) .nil))⟩
theorem classed161 (x:D) (hx:x.cellQ=true) (c:Bool):PCall Tryz.prog 237 [x,.bool c] (.func (.func 244) [] [.eptr [.bool c],.eptr [x]]):=by
 refine RCall.freeze (F237.rcall rfl fun T hT=> ?_)
 simp -implicitDefEqProofs only[go_sem,c237,hT,hx]
 intro b1 b2 n1 n2
 exact⟨_,_,DLe.refl _,St.le.refl _,FLe.func .nil (.cons (FLe.box (by simp[St.set_box]) (FLes.refl _)) (.cons (FLe.box (by simp[St.set_box,n1,n2]) (FLes.refl _)) .nil))⟩
theorem field162 (c:Bool):PCall Tryz.prog 238 [.bool c] (.func (.func 246) [] [.eptr [.bool c]]):=by
 refine RCall.freeze (F238.rcall rfl fun T hT=> ?_)
 simp -implicitDefEqProofs only[go_sem,c238,hT]
 exact fun b=>⟨_,_,DLe.refl _,St.le.refl _,FLe.func .nil (.cons (FLe.box (by simp[St.set_box]) (FLes.refl _)) .nil)⟩
theorem class187 (n:Nat) (h:n<32):PCall Tryz.prog 245 [.int .i64 n] (.int .u8 (((⟨16+n,by omega⟩:Ty)).val:Int)):=by
 refine F245.pcall' rfl fun T hT=> ?_
 have h1:IntKind.wrap .u8 (n:Int)=n:=wrap_u8 (by omega) (by omega)
 have h2:IntKind.wrap .u8 (16+(n:Int))=16+n:=wrap_u8 (by omega) (by omega)
 simp -implicitDefEqProofs only[go_sem,c245,hT,h1,h2]
 exact DLe.of_eq (by simp)
theorem gives184 (x y:D):PCall Tryz.prog 242 [y,.eptr [x]] x:=by
 refine F242.pcall' rfl fun T hT=> ?_
 simp -implicitDefEqProofs only[go_sem,c242,hT]
theorem dup156 (l:List Ty) (o:Own) (h:0<l.length):PCall Tryz.prog 232 [.slice o (rws eT l)] (.slice .no (rws eT [l[0],l[0]])):=by
 refine F232.pcall' rfl fun T hT=> ?_
 have h0:(rws eT l)[0]?.getD []=eT l[0]:=rws_at h
 simp -implicitDefEqProofs only[go_sem,c232,hT,h0,eT,eT_len,frz]
 refine⟨by omega,by omega, ?_⟩
 exact DLe.slice _ _
theorem swap157 (l:List Ty) (o:Own) (h:1<l.length):PCall Tryz.prog 233 [.slice o (rws eT l)] (.slice .no (rws eT [l[1],l[0]])):=by
 refine F233.pcall' rfl fun T hT=> ?_
 have h0:(rws eT l)[0]?.getD []=eT l[0]:=rws_at (by omega)
 have h1:(rws eT l)[1]?.getD []=eT l[1]:=rws_at h
 simp -implicitDefEqProofs only[go_sem,c233,hT,h0,h1,eT,eT_len,frz]
 refine⟨by omega,by omega, ?_⟩
 exact DLe.slice _ _
structure Ef where
 takes:List Wn
 gives:Gv
def eEf (f:Ef):List D:=[.slice .no (rws eW f.takes),eG f.gives]
def ef0:Ef:=⟨[],.no⟩
theorem tell185 (e i x g:D) (es is:List D) (he:e= .agg es) (hi:i= .agg is) (h1:es.length=3) (h2:is.length=4) (hx:x.cellQ=true) (hg:g.cellQ=true):
  PCall Tryz.prog 243 [e,i,.eptr [x],.eptr [g]] (.tup [.agg [x,g],.int .i64 0]):=by
 subst he; subst hi
 refine F243.pcall' rfl fun T hT=> ?_
 simp -implicitDefEqProofs only[go_sem,c243,hT,h1,h2,hx,hg]
 intro b1 b2 n1 n2 b3 m1 m2 m3 m4
 simp -implicitDefEqProofs only[go_sem,hT,hx,hg,za5,za2,m1,m2,m3,m4]
theorem res160 (t:Ty):PCall Tryz.prog 236 [.int .u8 t.val] (.slice .no (rws eW (if t.val=0 then [] else [⟨4,t⟩]))):=by
 refine F236.pcall' rfl fun T hT=> ?_
 by_cases h:t.val=0
 ·have h1:(t.val:Int)=0:=by omega
  simp -implicitDefEqProofs only[go_sem,c236,hT,h1]
  rw[if_pos h]
  exact DLe.slice _ _
 ·have h1:¬(t.val:Int)=0:=by omega
  simp -implicitDefEqProofs only[go_sem,c236,hT,h1]
  refine za3 (of153 t) ?_
  simp -implicitDefEqProofs only[go_sem,hT,eW,frz]
  rw[if_neg h]
  exact DLe.slice _ _
theorem tell159 (e:En) (i:Ins) (g:D) (hg:g.cellQ=true) (h:0≤e.fn) (h2:e.fn.toNat<e.sgs.length):
  PCall Tryz.prog 235 [.agg (eEn e),.agg (eIn i),.eptr [g]] (.tup [.agg [.slice .no (rws eW (if e.sgs[e.fn.toNat].r.val=0 then [] else [⟨4,e.sgs[e.fn.toNat].r⟩])),g],.int .i64 0]):=by
 obtain⟨k,hk⟩:∃k:Nat,e.fn=k:=⟨e.fn.toNat,by omega⟩
 have hkl:k<e.sgs.length:=by omega
 have hR:(rws eSg e.sgs)[k]?.getD []=eSg e.sgs[k]:=rws_at hkl
 have hk':e.fn.toNat=k:=by omega
 simp only[hk']
 generalize e.sgs[k]=s at *
 refine F235.pcall' rfl fun T hT=> ?_
 simp -implicitDefEqProofs only[go_sem,c235,hT,eEn,eIn,hk]
 intro b1 b2 n1 n2 b3 m1 m2 m3 m4
 simp -implicitDefEqProofs only[go_sem,hT,za5,za2,m1,m2,m3,m4,n1,n2,eEn,hk,hR,eSg]
 refine⟨by omega, ?_⟩
 refine za3 (res160 s.r) ?_
 simp -implicitDefEqProofs only[go_sem,hT,hg,za5,za2,m1,m2,m3,m4,n1,n2]
open Go.Proofs
def sigMayB (c:Nat) (s:Sg):Bool:=decide (s.ps.length≤8)&& !(s.ps.any fun t=> !storedN c t)&&(decide (s.r.val=0)||storedN c s.r)
theorem odd65 (e:En) (t:Ty) (b:Nat) (σ:St) (hb:σ.box b=some (eEn e)):
  RCall Tryz.prog 120 [.int .u8 t.val,.ptr b 0] σ fun d s'=>d= .bool (!storedN e.cs.length t)∧s'=σ:=by
 refine F120.rcall rfl fun T hT=> ?_
 simp -implicitDefEqProofs only[go_sem,c120,hT,hb,eEn]
 refine za3 (stored66 e.cs .no t) ?_
 simp -implicitDefEqProofs only[go_sem,hT]
 exact⟨_,σ,DLe.refl _,St.le.refl _,rfl,rfl⟩
def sigsErr (c:Nat):List Sg→Nat
 |[]=>0
 |s::r=>if 8<s.ps.length then 4 else if sigMayB c s=false then 22 else sigsErr c r
def mayE (e:En) (n:Int):Nat:=
 if(checkL isWordB e.cs).2≠0 then(checkL isWordB e.cs).2 else if 64<e.sgs.length then 4 else if sigsErr e.cs.length e.sgs≠0 then sigsErr e.cs.length e.sgs
 else if h:0≤e.fn∧e.fn.toNat<e.sgs.length then(startF e.cs.length e.sgs[e.fn.toNat].ps n).2 else 71
theorem sigsErr_skip {c:Nat} {s:Sg} {r:List Sg} (h:s.ps.length≤8) (h2:sigMayB c s=true):sigsErr c (s::r)=sigsErr c r:=by
 rw[sigsErr,if_neg (by omega),if_neg (by simp[h2])]
theorem may31 (e:En) (n:Int) (hw:WideE e):PCall Tryz.prog 77 [.agg (eEn e),.int .i64 n] (.int .i64 (mayE e n)):=by
 obtain⟨hw1,hw2,hw3⟩:=hw
 refine F77.pcall' rfl fun T hT=> ?_
 simp -implicitDefEqProofs only[go_sem,c77,hT,eEn]
 intro b2
 refine za3 (check64 e.cs .no hw1) ?_
 by_cases hc:(checkL isWordB e.cs).2=0
 case neg=>
  have hc':(((checkL isWordB e.cs).2:Int)=0)=False:=by simp; omega
  simp -implicitDefEqProofs only[go_sem,hT,eEn,hc']
  exact DLe.of_eq (by rw[mayE,if_pos hc])
 have hc':(((checkL isWordB e.cs).2:Int)=0)=True:=by simp; omega
 simp -implicitDefEqProofs only[go_sem,hT,eEn,hc']
 by_cases h64:(64:Int)<e.sgs.length
 ·simp -implicitDefEqProofs only[go_sem,hT,eEn,h64]
  exact DLe.of_eq (by rw[mayE,if_neg (by omega),if_pos (by omega)]; rfl)
 simp -implicitDefEqProofs only[go_sem,hT,eEn,h64]
 have hm:mayE e n=if sigsErr e.cs.length e.sgs≠0 then sigsErr e.cs.length e.sgs else if h:0≤e.fn∧e.fn.toNat<e.sgs.length then(startF e.cs.length e.sgs[e.fn.toNat].ps n).2 else 71:=by
  rw[mayE,if_neg (by omega),if_neg (by omega)]
 refine loopL F77 (fun i:Nat=>[(1,.int .i64 n),(2,.ptr b2 0),(26,.slice .no (rws eSg e.sgs)),(27,.int .i64 e.sgs.length),(28,.int .i64 i)]) (fun _=>({}:St).set b2 (eEn e)) (fun i=>i≤e.sgs.length∧sigsErr e.cs.length e.sgs=sigsErr e.cs.length (e.sgs.drop i)) (fun i=>e.sgs.length-i) 0
  ⟨Nat.zero_le _,rfl⟩ ?_ (St.le.refl _) ?_
 ·simp -implicitDefEqProofs only[go_sem,hT,Int.ofNat_zero]
 clear hT T
 rintro i ⟨hi,heq⟩ T hT
 by_cases h2:i<e.sgs.length
 ·have h3:((i:Int)<e.sgs.length)=True:=by simp; omega
  have hR:(rws eSg e.sgs)[i]?.getD []=eSg e.sgs[i]:=rws_at h2
  have hwf:=hw3 e.sgs[i] (by simp)
  rw[List.drop_eq_getElem_cons h2] at heq
  generalize e.sgs[i]=s at *
  have stop:∀k:Nat,k≠0→sigsErr e.cs.length e.sgs=k→DLe (.int .i64 k) (.int .i64 (mayE e n)):=fun k hk he=>by
   rw[hm,if_pos (by omega),he]; exact DLe.refl _
  have e22:s.ps.length≤8→sigMayB e.cs.length s=false→sigsErr e.cs.length e.sgs=22:=fun h1 h2=>by
   rw[heq,sigsErr,if_neg (by omega),if_pos h2]
  have next:s.ps.length≤8→sigMayB e.cs.length s=true→∀σ':St,St.le (({}:St).set b2 (eEn e)) σ'→∃y:Nat,(y≤e.sgs.length∧sigsErr e.cs.length e.sgs=sigsErr e.cs.length (e.sgs.drop y))∧e.sgs.length-y<e.sgs.length-i∧D.int .i64 (IntKind.wrap .i64 ((i:Int)+1))=D.int .i64 (y:Int)∧St.le (({}:St).set b2 (eEn e)) σ':=fun h1 h2 σ' hle=>
   ⟨i+1,⟨by omega,by rw[heq,sigsErr_skip h1 h2]⟩,by omega,by rw[zc1 (by omega) (by omega)]; simp,hle⟩
  simp -implicitDefEqProofs only[go_sem,hT,h3,hR,eSg]
  refine⟨by omega,fun b8 n1 n2=> ?_⟩
  by_cases h8:(8:Int)<s.ps.length
  ·simp -implicitDefEqProofs only[go_sem,hT,h3,eSg,h8,n1,n2,za2]
   exact stop 4 (by decide) (by rw[heq,sigsErr,if_pos (by omega)])
  simp -implicitDefEqProofs only[go_sem,hT,h3,eSg,h8,n1,n2,za2]
  have hb2:((({}:St).set b2 (eEn e)).set b8 (eSg s)).box b2=some (eEn e):=by
   have:¬b2=b8:=by omega
   simp[St.set_box,this]
  refine callB_all (contFunc67 s.ps .no 120 [] [.ptr b2 0] (fun t=> !storedN e.cs.length t) _ (by omega) fun t _=>odd65 e t b2 _ hb2) ?_
  rintro d s' ⟨rfl,rfl⟩
  cases hA:s.ps.any fun t=> !storedN e.cs.length t
  case true=>
   simp -implicitDefEqProofs only[go_sem,hT,h3,eSg,n1,n2]
   exact stop 22 (by decide) (e22 (by omega) (by rw[sigMayB,hA]; simp))
  by_cases h0:(s.r.val:Int)=0
  ·simp -implicitDefEqProofs only[go_sem,hT,h3,eSg,n1,n2,h0]
   exact next (by omega) (by rw[sigMayB,hA]; simp; omega) _ (le_add (by simp[has_set,has_nil]; omega))
  simp -implicitDefEqProofs only[go_sem,hT,h3,eSg,n1,n2,h0]
  refine callB_all (odd65 e s.r b2 _ hb2) ?_
  rintro d s' ⟨rfl,rfl⟩
  have hr:¬s.r.val=0:=by omega
  cases hS:storedN e.cs.length s.r
  ·simp -implicitDefEqProofs only[go_sem,hT,h3,eSg,n1,n2]
   exact stop 22 (by decide) (e22 (by omega) (by rw[sigMayB,hA,hS]; simp[hr]))
  ·simp -implicitDefEqProofs only[go_sem,hT,h3,eSg,n1,n2]
   exact next (by omega) (by rw[sigMayB,hA,hS]; simp; omega) _ (le_add (by simp[has_set,has_nil]; omega))
 ·have h3:((i:Int)<e.sgs.length)=False:=by simp; omega
  rw[List.drop_of_length_le (by omega),sigsErr] at heq
  rw[if_neg (by omega)] at hm
  by_cases hf:0≤e.fn∧e.fn.toNat<e.sgs.length
  ·have hfc:(decide (e.fn<0)||decide ((e.sgs.length:Int)≤e.fn))=false:=by simp; omega
   rw[dif_pos hf] at hm
   obtain⟨k,hk⟩:∃k:Nat,e.fn=k:=⟨e.fn.toNat,by omega⟩
   have hkl:k<e.sgs.length:=by omega
   have hR:(rws eSg e.sgs)[k]?.getD []=eSg e.sgs[k]:=rws_at hkl
   have hwf:=hw3 e.sgs[k] (by simp)
   have hm':mayE e n=(startF e.cs.length e.sgs[k].ps n).2:=by rw[hm]; simp[hk]
   rw[hk] at hfc
   simp -implicitDefEqProofs only[go_sem,mmB,hT,h3,eEn,hk,hfc,hR,eSg]
   refine⟨by omega, ?_⟩
   refine za3 (start68 e.cs .no .no e.sgs[k].ps n (by omega)) ?_
   simp -implicitDefEqProofs only[go_sem,mmB,hT,za6]
   rw[hm']
   exact fun _ _ _=>DLe.refl _
  ·have hfc:(decide (e.fn<0)||decide ((e.sgs.length:Int)≤e.fn))=true:=by simp; omega
   rw[dif_neg hf] at hm
   simp -implicitDefEqProofs only[go_sem,mmB,hT,h3,eEn,hfc]
   exact DLe.of_eq (by rw[hm]; rfl)
end Go.AL
