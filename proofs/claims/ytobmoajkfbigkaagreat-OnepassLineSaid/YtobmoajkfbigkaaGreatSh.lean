import Derived.Test.YtobmoajkfbigkaaGreatSg
import Derived.Test.YtobmoajkfbigkaaGreatSf
import Derived.Test.YtobmoajkfbigkaaGreatSe
set_option linter.unusedSimpArgs false
set_option linter.unusedVariables false
set_option maxRecDepth 100000
set_option linter.defProp false
namespace Go.AL
open Go.Proofs
theorem za6 {P:Program} {T:Env} {σ:St} {a:Nat} {t:TypeId} {rs:List ResultVar}:resMany P T σ (.cell a t::rs)=(match resC P t σ (T a) with|some d=>(resMany P T σ rs).map (d:: ·)|none=>none):=by
 simp only[resMany,resOne,resC]
 cases T a <;> simp
 rename_i b off
 cases σ.box b <;> simp
 rename_i cs
 cases partD P t (cs.drop off) 0 <;> simp
 cases resMany P T σ rs <;> rfl
structure Fr where
 loc:Int
 h:Int
 sl:Vector Ty 24
 deriving DecidableEq
def eFr (f:Fr):List D:= .int .i64 f.loc:: .int .i64 f.h::f.sl.toList.map fun t=> .int .u8 (t.val:Int)
theorem za5 (f:Fr):(eFr f).length=26:=by simp[eFr]
def fr0 (n:Int):Fr:=⟨n,0,Vector.replicate 24 0⟩
def slOf (ts:List Ty):Vector Ty 24:=Vector.ofFn fun i=>(ts[i.val]?).getD 0
theorem za4 (f:Fr):(eFr f).take 26=eFr f:=List.take_of_length_le (by rw[za5]; exact Nat.le_refl _)
theorem zb0 (f:Fr):(eFr f).drop 26=[]:=List.drop_eq_nil_of_le (by rw[za5]; exact Nat.le_refl _)
theorem fr_set {f:Fr} {i:Nat} (h:i<24) {t:Ty}:(eFr f).take (2+i)++[D.int .u8 (t.val:Int)]++(eFr f).drop (2+i+1)=eFr ⟨f.loc,f.h,f.sl.set i t⟩:=by
 simp only[eFr]
 rw[show 2+i=i+1+1 by omega]
 simp only[List.take_succ_cons,List.drop_succ_cons,List.cons_append]
 congr 2
 simp only[Vector.toList_set,List.map_set]
 rw[List.set_eq_take_append_cons_drop,if_pos (by simpa using h)]
 simp
theorem slOf_set {ts:List Ty} {i:Nat} (hi:i<ts.length) (h:i<24):(slOf (ts.take i)).set i ts[i]=slOf (ts.take (i+1)):=by
 apply Vector.ext
 intro j hj
 simp only[slOf,Vector.getElem_set,Vector.getElem_ofFn]
 split
 ·rename_i he; subst he; simp[List.getElem?_take,hi]
 ·rename_i he
  by_cases hlt:j<i
  ·simp[List.getElem?_take,hlt,show j<i+1 by omega]
  ·simp[List.getElem?_take,hlt,show ¬j<i+1 by omega]
theorem slOf_nil:slOf []=Vector.replicate 24 0:=by
 apply Vector.ext
 intro j hj
 simp[slOf]
def emptyF (n:Int):Fr×Nat:=if n<0∨16<n then(fr0 0,1) else(fr0 n,0)
theorem empty107 (n:Int):PCall Tryz.prog 140 [.int .i64 n] (.tup [.agg (eFr (emptyF n).1),.int .i64 (emptyF n).2]):=by
 refine F140.pcall' rfl fun T hT=> ?_
 by_cases h:n<0∨16<n
 ·have hc:(decide (n<0)||decide (16<n))=true:=by simpa using h
  simp -implicitDefEqProofs only[go_sem,mmB,c140,hT,hc,za2,za6]
  rw[emptyF,if_pos h]
  exact DLe.of_eq rfl
 ·have hc:(decide (n<0)||decide (16<n))=false:=by simpa using h
  simp -implicitDefEqProofs only[go_sem,mmB,c140,hT,hc,za2,za6]
  rw[emptyF,if_neg h]
  exact DLe.of_eq rfl
theorem refEmpty110 (n:Int):PCall Tryz.prog 104 [.int .i64 n] (.tup [.agg (eFr (emptyF n).1),.int .i64 (emptyF n).2]):=by
 refine F104.pcall' rfl fun T hT=> ?_
 by_cases h:n<0∨16<n
 ·have hc:(decide (n<0)||decide (16<n))=true:=by simpa using h
  simp -implicitDefEqProofs only[go_sem,mmB,c104,hT,hc,za2,za6]
  rw[emptyF,if_pos h]
  exact DLe.of_eq rfl
 ·have hc:(decide (n<0)||decide (16<n))=false:=by simpa using h
  simp -implicitDefEqProofs only[go_sem,mmB,c104,hT,hc,za2,za6]
  rw[emptyF,if_neg h]
  exact DLe.of_eq rfl
def startF (c:Nat) (ts:List Ty) (n:Int):Fr×Nat:=if n<0∨16<n∨8<ts.length∨n<ts.length∨(ts.any fun t=> !storedN c t)=true then(fr0 0,1) else(⟨n,0,slOf ts⟩,0)
def bYcaY0:=aI @za2 (aI @za6 (aI @za5 (aI @zb0 @Int.ofNat_zero)))
def bYcaY1:=aI @za2 (aI @za6 (aI @za5 (aI @zb0 @za4)))
theorem start68 (l:List Cl) (o o2:Own) (ts:List Ty) (n:Int) (hl:ts.length≤140737488355328):PCall Tryz.prog 97 [.slice o (rws eC l),.slice o2 (rws eT ts),.int .i64 n] (.tup [.agg (eFr (startF l.length ts n).1),.int .i64 (startF l.length ts n).2]):=by
 refine F97.pcall' rfl fun T hT=> ?_
 simp -implicitDefEqProofs only[go_sem,c97,hT]
 intro b6
 refine za3 (empty107 n) ?_
 by_cases h:n<0∨16<n
 ·rw[startF,if_pos (h.elim (fun h=> .inl h) fun h=> .inr (.inl h)),emptyF,if_pos h]
  simp -implicitDefEqProofs only[go_sem,hT,za5]
  intro b8 n1 n2
  simp -implicitDefEqProofs only[go_sem,hT,za2,n1,n2,za6,za5,zb0,Int.ofNat_one]
  exact DLe.of_eq rfl
 rw[emptyF,if_neg h]
 simp -implicitDefEqProofs only[go_sem,hT,za5]
 intro b8 n1 n2
 by_cases h8:(8:Int)<ts.length
 ·rw[startF,if_pos (.inr (.inr (.inl (by omega))))]
  simp -implicitDefEqProofs only[go_sem,hT,n1,n2,h8,bYcaY0]
  exact DLe.of_eq rfl
 by_cases hn:n<ts.length
 ·rw[startF,if_pos (.inr (.inr (.inr (.inl (by omega)))))]
  simp -implicitDefEqProofs only[go_sem,hT,n1,n2,h8,hn,bYcaY0]
  exact DLe.of_eq rfl
 have hs:startF l.length ts n=if(ts.any fun t=> !storedN l.length t)=true then(fr0 0,1) else(⟨n,0,slOf ts⟩,0):=by
  cases ha:ts.any fun t=> !storedN l.length t
  ·rw[startF,ha,if_neg (by simp; omega)]; rfl
  ·rw[startF,ha,if_pos (.inr (.inr (.inr (.inr rfl))))]; rfl
 simp -implicitDefEqProofs only[go_sem,hT,n1,n2,h8,hn,bYcaY0]
 generalize hz:(D.int .i64 0::D.int .i64 0::_:List D)=z0
 refine loopL F97 (fun i:Nat=>[(0,.slice o (rws eC l)),(6,.ptr b6 0),(8,.ptr b8 0),(31,.slice o2 (rws eT ts)),(32,.int .i64 ts.length),(33,.int .i64 i)]) (fun i=>(({}:St).set b6 z0).set b8 (eFr ⟨n,0,slOf (ts.take i)⟩))
  (fun i=>i≤ts.length∧(ts.take i).any (fun t=> !storedN l.length t)=false) (fun i=>ts.length-i) 0 ⟨Nat.zero_le _,rfl⟩ ?_ ?_ ?_
 ·simp -implicitDefEqProofs only[go_sem,hT,Int.ofNat_zero]
 ·rw[List.take_zero,slOf_nil]; exact St.le.refl _
 clear hT T
 rintro i ⟨hi,hok⟩ T hT
 have hz26:z0.length=26:=by rw[←hz]; rfl
 have hzd:z0.drop 26=[]:=List.drop_eq_nil_of_le (by omega)
 by_cases h2:i<ts.length
 ·have h3:((i:Int)<ts.length)=True:=by simp; omega
  have htake:ts.take (i+1)=ts.take i++[ts[i]]:=List.take_succ_eq_append_getElem h2
  have hR:(rws eT ts)[i]?.getD []=eT ts[i]:=rws_at h2
  have hset:=slOf_set h2 (show i<24 by omega)
  have hin:ts[i]∈ts:=by simp
  generalize ts[i]=t at *
  simp -implicitDefEqProofs only[go_sem,hT,h3,hR,eT,eT_len,za2,n1,n2,za6,za5,zb0,za4,hz26,hzd]
  refine⟨by omega, ?_⟩
  refine za3 (valid105 l o t) ?_
  have hsv:storedN l.length t=(validN l.length t&&decide (t.val≠0∧t.val≠3)):=rfl
  cases hv:validN l.length t
  ·have hst:storedN l.length t=false:=by rw[hsv,hv]; rfl
   simp -implicitDefEqProofs only[go_sem,hT,n1,n2,hz26,hzd,bYcaY1]
   rw[hs,if_pos (List.any_eq_true.2 ⟨t,hin,by simp[hst]⟩)]
   exact DLe.of_eq rfl
  by_cases h0:(t.val:Int)=0
  ·have hst:storedN l.length t=false:=by rw[hsv,hv]; simp; omega
   simp -implicitDefEqProofs only[go_sem,hT,h0,n1,n2,hz26,hzd,bYcaY1]
   rw[hs,if_pos (List.any_eq_true.2 ⟨t,hin,by simp[hst]⟩)]
   exact DLe.of_eq rfl
  by_cases h1:(t.val:Int)=3
  ·have hst:storedN l.length t=false:=by rw[hsv,hv]; simp; omega
   simp -implicitDefEqProofs only[go_sem,hT,h0,h1,n1,n2,hz26,hzd,bYcaY1]
   rw[hs,if_pos (List.any_eq_true.2 ⟨t,hin,by simp[hst]⟩)]
   exact DLe.of_eq rfl
  ·have hst:storedN l.length t=true:=by rw[hsv,hv]; simp; omega
   simp -implicitDefEqProofs only[go_sem,hT,h0,h1,n1,n2,hz26,hzd,Nat.mul_one,fr_set (f:=⟨n,0,slOf (ts.take i)⟩) (i:=i) (by omega),bYcaY1]
   refine⟨by omega,by omega, ?_⟩
   refine⟨i+1,⟨by omega, ?_⟩,by omega, ?_, ?_⟩
   ·rw[htake,List.any_append,hok]; simp[hst]
   ·rw[zc1 (by omega) (by omega)]; simp
   ·rw[hset]; exact St.le.refl _
 ·have h3:((i:Int)<ts.length)=False:=by simp; omega
  rw[List.take_of_length_le (by omega)] at hok
  simp -implicitDefEqProofs only[go_sem,hT,h3,za2,n1,n2,za6,za5,zb0,za4,hz26,hzd,Int.ofNat_zero,List.take_of_length_le (show ts.length≤i by omega)]
  rw[hs,hok]
  exact DLe.of_eq rfl
theorem refStart71 (l:List Cl) (o o2:Own) (ts:List Ty) (n:Int) (hl:ts.length≤140737488355328):PCall Tryz.prog 60 [.slice o (rws eC l),.slice o2 (rws eT ts),.int .i64 n] (.tup [.agg (eFr (startF l.length ts n).1),.int .i64 (startF l.length ts n).2]):=by
 refine F60.pcall' rfl fun T hT=> ?_
 simp -implicitDefEqProofs only[go_sem,c60,hT]
 intro b6
 refine za3 (refEmpty110 n) ?_
 by_cases h:n<0∨16<n
 ·rw[startF,if_pos (h.elim (fun h=> .inl h) fun h=> .inr (.inl h)),emptyF,if_pos h]
  simp -implicitDefEqProofs only[go_sem,hT,za5]
  intro b8 n1 n2
  simp -implicitDefEqProofs only[go_sem,hT,za2,n1,n2,za6,za5,zb0,Int.ofNat_one]
  exact DLe.of_eq rfl
 rw[emptyF,if_neg h]
 simp -implicitDefEqProofs only[go_sem,hT,za5]
 intro b8 n1 n2
 by_cases h8:(8:Int)<ts.length
 ·rw[startF,if_pos (.inr (.inr (.inl (by omega))))]
  simp -implicitDefEqProofs only[go_sem,hT,n1,n2,h8,bYcaY0]
  exact DLe.of_eq rfl
 by_cases hn:n<ts.length
 ·rw[startF,if_pos (.inr (.inr (.inr (.inl (by omega)))))]
  simp -implicitDefEqProofs only[go_sem,hT,n1,n2,h8,hn,bYcaY0]
  exact DLe.of_eq rfl
 have hs:startF l.length ts n=if(ts.any fun t=> !storedN l.length t)=true then(fr0 0,1) else(⟨n,0,slOf ts⟩,0):=by
  cases ha:ts.any fun t=> !storedN l.length t
  ·rw[startF,ha,if_neg (by simp; omega)]; rfl
  ·rw[startF,ha,if_pos (.inr (.inr (.inr (.inr rfl))))]; rfl
 simp -implicitDefEqProofs only[go_sem,hT,n1,n2,h8,hn,bYcaY0]
 generalize hz:(D.int .i64 0::D.int .i64 0::_:List D)=z0
 refine loopL F60 (fun i:Nat=>[(0,.slice o (rws eC l)),(6,.ptr b6 0),(8,.ptr b8 0),(31,.slice o2 (rws eT ts)),(32,.int .i64 ts.length),(33,.int .i64 i)]) (fun i=>(({}:St).set b6 z0).set b8 (eFr ⟨n,0,slOf (ts.take i)⟩))
  (fun i=>i≤ts.length∧(ts.take i).any (fun t=> !storedN l.length t)=false) (fun i=>ts.length-i) 0 ⟨Nat.zero_le _,rfl⟩ ?_ ?_ ?_
 ·simp -implicitDefEqProofs only[go_sem,hT,Int.ofNat_zero]
 ·rw[List.take_zero,slOf_nil]; exact St.le.refl _
 clear hT T
 rintro i ⟨hi,hok⟩ T hT
 have hz26:z0.length=26:=by rw[←hz]; rfl
 have hzd:z0.drop 26=[]:=List.drop_eq_nil_of_le (by omega)
 by_cases h2:i<ts.length
 ·have h3:((i:Int)<ts.length)=True:=by simp; omega
  have htake:ts.take (i+1)=ts.take i++[ts[i]]:=List.take_succ_eq_append_getElem h2
  have hR:(rws eT ts)[i]?.getD []=eT ts[i]:=rws_at h2
  have hset:=slOf_set h2 (show i<24 by omega)
  have hin:ts[i]∈ts:=by simp
  generalize ts[i]=t at *
  simp -implicitDefEqProofs only[go_sem,hT,h3,hR,eT,eT_len,za2,n1,n2,za6,za5,zb0,za4,hz26,hzd]
  refine⟨by omega, ?_⟩
  refine za3 (refStored111 l o t) ?_
  cases hst:storedN l.length t
  ·simp -implicitDefEqProofs only[go_sem,hT,n1,n2,hz26,hzd,bYcaY1]
   rw[hs,if_pos (List.any_eq_true.2 ⟨t,hin,by simp[hst]⟩)]
   exact DLe.of_eq rfl
  ·simp -implicitDefEqProofs only[go_sem,hT,n1,n2,hz26,hzd,Nat.mul_one,fr_set (f:=⟨n,0,slOf (ts.take i)⟩) (i:=i) (by omega),bYcaY1]
   refine⟨by omega,by omega, ?_⟩
   refine⟨i+1,⟨by omega, ?_⟩,by omega, ?_, ?_⟩
   ·rw[htake,List.any_append,hok]; simp[hst]
   ·rw[zc1 (by omega) (by omega)]; simp
   ·rw[hset]; exact St.le.refl _
 ·have h3:((i:Int)<ts.length)=False:=by simp; omega
  rw[List.take_of_length_le (by omega)] at hok
  simp -implicitDefEqProofs only[go_sem,hT,h3,za2,n1,n2,za6,za5,zb0,za4,hz26,hzd,Int.ofNat_zero,List.take_of_length_le (show ts.length≤i by omega)]
  rw[hs,hok]
  exact DLe.of_eq rfl
open Go.Proofs
def c172:CT (Tryz.f172.body.getD .skip):=⟨_,by conv=>lhs; cbv⟩
theorem F172:Fun1 Tryz.prog 172 74 c172.1 [.tmp 2]:=mkT Tryz.func172 rfl (by decide +kernel) Tryz.ntmps172 rfl c172.2 rfl
def c208:CT (Tryz.f208.body.getD .skip):=⟨_,by conv=>lhs; cbv⟩
theorem F208:Fun1 Tryz.prog 208 16 c208.1 [.tmp 3]:=mkT Tryz.func208 rfl (by decide +kernel) Tryz.ntmps208 rfl c208.2 rfl
def c173:AC:=
.seq (rg [oO 2 (.box 25 (tT 0)),oO 3 (.box 38 (tT 1)),oO 4 (.alloc 229),oO 5 (.assign (kI 0))])
 (.seq (.seq (rg [oO 6 (.fieldAddr 38 (tT 3) 1),oO 7 (.load 5 (tT 6)),oO 8 (cF (.func 84) #[tT 7] #[5]),oO 9 (.binOp .eql 3 (tT 8) (kI 0) 3)])
 (.cond (tT 9) (.seq (rg [oO 10 (.build 229 #[]),oN (.store 229 (tT 4) (tT 10)),oO 5 (.assign (kI 40))])
 (.ret))
 (.skip)))
 (.seq (.seq (.reg true [3,2] [⟨⟨some 11,cF (.func 209) #[] #[],none⟩,false,true⟩,⟨⟨some 12,.fieldAddr 38 (tT 3) 1,none⟩,true,true⟩,⟨⟨some 13,.load 5 (tT 12),none⟩,true,true⟩,⟨⟨some 14,.index 262 (tT 11) (tT 13),none⟩,false,true⟩,⟨⟨some 15,.load 25 (tT 2),none⟩,true,true⟩,⟨⟨some 16,.load 38 (tT 3),none⟩,true,false⟩])
 (rg [oO 17 (cF (tT 14) #[tT 15,tT 16] #[25,38]),⟨⟨some 18,.extract (tT 17) 0,none⟩,false,true⟩,oO 19 (.extract (tT 17) 1),oN (.store 229 (tT 4) (tT 18)),oO 5 (.assign (tT 19))]))
 .ret))
theorem F173:Fun1 Tryz.prog 173 20 c173 [.cell 4 229,.tmp 5]:=mkT Tryz.func173 rfl (by decide +kernel) Tryz.ntmps173 rfl (by kernel_rfl) rfl
def c84:CT (Tryz.f84.body.getD .skip):=⟨_,by conv=>lhs; cbv⟩
theorem F84:Fun1 Tryz.prog 84 16 c84.1 [.tmp 2]:=mkT Tryz.func84 rfl (by decide +kernel) Tryz.ntmps84 rfl c84.2 rfl
def c128:CT (Tryz.f128.body.getD .skip):=⟨_,by conv=>lhs; cbv⟩
theorem F128:Fun1 Tryz.prog 128 23 c128.1 [.tmp 2,.tmp 3]:=mkT Tryz.func128 rfl (by decide +kernel) Tryz.ntmps128 rfl c128.2 rfl
def c209:AC:=
.seq (rg [oO 0 (.alloc 262)])
 (.seq (rg [oO 11 (cF (.func 229) #[kB 1] #[81]),oO 12 (cF (.func 229) #[kB 2] #[81]),oO 13 (cF (.func 229) #[kB 4] #[81]),oO 1 (.alloc 266),oO 2 (.alloc 266),oO 3 (.alloc 266),oN (.store 266 (tT 1) (tT 11)),oN (.store 266 (tT 2) (tT 12)),oN (.store 266 (tT 3) (tT 13))])
 (.seq (rg [oO 14 (.load 266 (tT 1)),oO 15 (.load 266 (tT 1)),oO 16 (.buildSlice 227 2 #[(0,.tmp 14),(1,.tmp 15)]),oO 4 (.assign (tT 16))])
 (.seq (rg [oO 17 (cF (.func 230) #[.const (.slice none 0 0)] #[93]),oO 5 (.alloc 158),oN (.store 158 (tT 5) (tT 17))])
 (.seq (rg [oO 6 (.alloc 262)])
 (.seq (.seq (rg [oO 18 (.buildSlice 26 3 #[(0,kB 0),(1,kB 19),(2,kB 32)]),oO 19 (cB .len #[tT 18] #[26]),oO 20 (.move (kI 0))])
 (.block 0 (.loop (.seq (rg [oO 21 (.binOp .lss 3 (tT 20) (tT 19) 3)])
 (.seq (.cond (tT 21) (.skip)
 (.exit 0))
 (.seq (.block 1 (.seq (rg [oO 22 (.indexAddr 26 (tT 18) (tT 20)),oO 23 (.load 5 (tT 22)),oO 8 (.assign (tT 23))])
 (rg [oO 24 (.move (tT 8)),oO 25 (.load 158 (tT 5)),oO 26 (cF (.func 231) #[.const (.slice none 0 0),tT 25] #[227,158]),oO 27 (.indexAddr 262 (tT 6) (tT 24)),oN (.store 261 (tT 27) (tT 26))])))
 (rg [oO 28 (.binOp .add 3 (tT 20) (kI 1) 3),oO 20 (.move (tT 28))])))))))
 (.seq (rg [oO 29 (.buildSlice 93 1 #[(0,kB 1)]),oO 30 (cF (.func 230) #[tT 29] #[93]),oO 31 (cF (.func 231) #[.const (.slice none 0 0),tT 30] #[227,158]),oO 32 (.indexAddr 262 (tT 6) (kB 1)),oN (.store 261 (tT 32) (tT 31))])
 (.seq (rg [oO 33 (.buildSlice 93 1 #[(0,kB 2)]),oO 34 (cF (.func 230) #[tT 33] #[93]),oO 35 (cF (.func 231) #[.const (.slice none 0 0),tT 34] #[227,158]),oO 36 (.indexAddr 262 (tT 6) (kB 2)),oN (.store 261 (tT 36) (tT 35))])
 (.seq (rg [oO 37 (.buildSlice 93 1 #[(0,kB 3)]),oO 38 (cF (.func 230) #[tT 37] #[93]),oO 39 (cF (.func 231) #[.const (.slice none 0 0),tT 38] #[227,158]),oO 40 (.indexAddr 262 (tT 6) (kB 3)),oN (.store 261 (tT 40) (tT 39))])
 (.seq (rg [oO 41 (.buildSlice 93 1 #[(0,kB 0)]),oO 42 (cF (.func 230) #[tT 41] #[93]),oO 43 (cF (.func 231) #[.const (.slice none 0 0),tT 42] #[227,158]),oO 44 (.indexAddr 262 (tT 6) (kB 4)),oN (.store 261 (tT 44) (tT 43))])
 (.seq (rg [oO 45 (.build 266 #[(0,kI 1)]),oO 46 (.buildSlice 227 1 #[(0,.tmp 45)]),oO 47 (.load 158 (tT 5)),oO 48 (cF (.func 231) #[tT 46,tT 47] #[227,158]),oO 49 (.indexAddr 262 (tT 6) (kB 5)),oN (.store 261 (tT 49) (tT 48))])
 (.seq (rg [oO 50 (.build 266 #[(0,kI 0)]),oO 51 (.buildSlice 227 1 #[(0,.tmp 50)]),oO 52 (.load 158 (tT 5)),oO 53 (cF (.func 231) #[tT 51,tT 52] #[227,158]),oO 54 (.indexAddr 262 (tT 6) (kB 6)),oN (.store 261 (tT 54) (tT 53))])
 (.seq (rg [oO 55 (.build 266 #[(0,kI 0)]),oO 56 (.buildSlice 227 1 #[(0,.tmp 55)]),oO 57 (cF (.func 231) #[tT 56,.func 232] #[227,158]),oO 58 (.indexAddr 262 (tT 6) (kB 7)),oN (.store 261 (tT 58) (tT 57))])
 (.seq (rg [oO 59 (.build 266 #[(0,kI 0)]),oO 60 (.build 266 #[(0,kI 0)]),oO 61 (.buildSlice 227 2 #[(0,.tmp 59),(1,.tmp 60)]),oO 62 (cF (.func 231) #[tT 61,.func 233] #[227,158]),oO 63 (.indexAddr 262 (tT 6) (kB 8)),oN (.store 261 (tT 63) (tT 62))])
 (.seq (.seq (rg [oO 64 (.buildSlice 26 5 #[(0,kB 9),(1,kB 10),(2,kB 11),(3,kB 12),(4,kB 13)]),oO 65 (cB .len #[tT 64] #[26]),oO 66 (.move (kI 0))])
 (.block 2 (.loop (.seq (rg [oO 67 (.binOp .lss 3 (tT 66) (tT 65) 3)])
 (.seq (.cond (tT 67) (.skip)
 (.exit 2))
 (.seq (.block 3 (.seq (rg [oO 68 (.indexAddr 26 (tT 64) (tT 66)),oO 69 (.load 5 (tT 68)),oO 10 (.assign (tT 69))])
 (rg [oO 70 (.move (tT 10)),oO 71 (.move (tT 4)),oO 72 (.buildSlice 93 1 #[(0,kB 1)]),oO 73 (cF (.func 230) #[tT 72] #[93]),oO 74 (cF (.func 231) #[tT 71,tT 73] #[227,158]),oO 75 (.indexAddr 262 (tT 6) (tT 70)),oN (.store 261 (tT 75) (tT 74))])))
 (rg [oO 76 (.binOp .add 3 (tT 66) (kI 1) 3),oO 66 (.move (tT 76))])))))))
 (.seq (.seq (.reg true [1] [⟨⟨some 77,.load 266 (tT 1),none⟩,true,true⟩,⟨⟨some 78,.buildSlice 227 1 #[(0,.tmp 77)],none⟩,true,true⟩,oO 79 (.buildSlice 93 1 #[(0,kB 1)]),oO 80 (cF (.func 230) #[tT 79] #[93])])
 (rg [oO 81 (cF (.func 231) #[tT 78,tT 80] #[227,158]),oO 82 (.indexAddr 262 (tT 6) (kB 14)),oN (.store 261 (tT 82) (tT 81))]))
 (.seq (rg [oO 83 (.move (tT 4)),oO 84 (.buildSlice 93 1 #[(0,kB 2)]),oO 85 (cF (.func 230) #[tT 84] #[93]),oO 86 (cF (.func 231) #[tT 83,tT 85] #[227,158]),oO 87 (.indexAddr 262 (tT 6) (kB 15)),oN (.store 261 (tT 87) (tT 86))])
 (.seq (rg [oO 88 (.build 266 #[(0,kI 3)]),oO 89 (.build 266 #[(0,kI 3)]),oO 90 (.buildSlice 227 2 #[(0,.tmp 88),(1,.tmp 89)]),oO 91 (.buildSlice 93 1 #[(0,kB 2)]),oO 92 (cF (.func 230) #[tT 91] #[93]),oO 93 (cF (.func 231) #[tT 90,tT 92] #[227,158]),oO 94 (.indexAddr 262 (tT 6) (kB 16)),oN (.store 261 (tT 94) (tT 93))])
 (.seq (.seq (.reg true [2] [⟨⟨some 95,.load 266 (tT 2),none⟩,true,true⟩,⟨⟨some 96,.buildSlice 227 1 #[(0,.tmp 95)],none⟩,true,true⟩,oO 97 (.buildSlice 93 1 #[(0,kB 2)]),oO 98 (cF (.func 230) #[tT 97] #[93])])
 (rg [oO 99 (cF (.func 231) #[tT 96,tT 98] #[227,158]),oO 100 (.indexAddr 262 (tT 6) (kB 17)),oN (.store 261 (tT 100) (tT 99))]))
 (.seq (rg [oO 101 (.build 266 #[(0,kI 2)]),oO 102 (.build 266 #[(0,kI 2)]),oO 103 (.buildSlice 227 2 #[(0,.tmp 101),(1,.tmp 102)]),oO 104 (.buildSlice 93 1 #[(0,kB 2)]),oO 105 (cF (.func 230) #[tT 104] #[93]),oO 106 (cF (.func 231) #[tT 103,tT 105] #[227,158]),oO 107 (.indexAddr 262 (tT 6) (kB 18)),oN (.store 261 (tT 107) (tT 106))])
 (.seq (rg [oO 108 (.load 266 (tT 2)),oO 109 (.buildSlice 227 1 #[(0,.tmp 108)]),oO 110 (.load 158 (tT 5)),oO 111 (cF (.func 231) #[tT 109,tT 110] #[227,158]),oO 112 (.indexAddr 262 (tT 6) (kB 20)),oN (.store 261 (tT 112) (tT 111))])
 (.seq (rg [oO 113 (.indexAddr 262 (tT 6) (kB 21)),oN (.store 261 (tT 113) (.func 234))])
 (.seq (rg [oO 114 (.makeFunc (.func 235) #[] #[tT 5]),oO 115 (.indexAddr 262 (tT 6) (kB 22)),oN (.store 261 (tT 115) (tT 114))])
 (.seq (rg [oO 116 (cF (.func 237) #[.const (.slice none 0 0),.const (.bool true)] #[227,4]),oO 117 (.indexAddr 262 (tT 6) (kB 23)),oN (.store 261 (tT 117) (tT 116))])
 (.seq (rg [oO 118 (cF (.func 238) #[.const (.bool false)] #[4]),oO 119 (.indexAddr 262 (tT 6) (kB 24)),oN (.store 261 (tT 119) (tT 118))])
 (.seq (rg [oO 120 (cF (.func 238) #[.const (.bool true)] #[4]),oO 121 (.indexAddr 262 (tT 6) (kB 25)),oN (.store 261 (tT 121) (tT 120))])
 (.seq (.seq (.reg true [1] [⟨⟨some 122,.load 266 (tT 1),none⟩,true,true⟩,⟨⟨some 123,.buildSlice 227 1 #[(0,.tmp 122)],none⟩,true,true⟩,oO 124 (.buildSlice 93 1 #[(0,kB 4)]),oO 125 (cF (.func 230) #[tT 124] #[93])])
 (rg [oO 126 (cF (.func 231) #[tT 123,tT 125] #[227,158]),oO 127 (.indexAddr 262 (tT 6) (kB 26)),oN (.store 261 (tT 127) (tT 126))]))
 (.seq (.seq (.reg true [3] [⟨⟨some 128,.load 266 (tT 3),none⟩,true,true⟩,⟨⟨some 129,.buildSlice 227 1 #[(0,.tmp 128)],none⟩,true,true⟩,oO 130 (.buildSlice 93 1 #[(0,kB 1)]),oO 131 (cF (.func 230) #[tT 130] #[93])])
 (rg [oO 132 (cF (.func 231) #[tT 129,tT 131] #[227,158]),oO 133 (.indexAddr 262 (tT 6) (kB 27)),oN (.store 261 (tT 133) (tT 132))]))
 (.seq (.seq (.reg true [3,1] [⟨⟨some 134,.load 266 (tT 3),none⟩,true,true⟩,⟨⟨some 135,.load 266 (tT 1),none⟩,true,true⟩,⟨⟨some 136,.buildSlice 227 2 #[(0,.tmp 134),(1,.tmp 135)],none⟩,true,true⟩,oO 137 (.buildSlice 93 1 #[(0,kB 1)]),oO 138 (cF (.func 230) #[tT 137] #[93])])
 (rg [oO 139 (cF (.func 231) #[tT 136,tT 138] #[227,158]),oO 140 (.indexAddr 262 (tT 6) (kB 28)),oN (.store 261 (tT 140) (tT 139))]))
 (.seq (rg [oO 141 (.load 266 (tT 3)),oO 142 (.load 266 (tT 1)),oO 143 (.load 266 (tT 1)),oO 144 (.buildSlice 227 3 #[(0,.tmp 141),(1,.tmp 142),(2,.tmp 143)]),oO 145 (.load 158 (tT 5)),oO 146 (cF (.func 231) #[tT 144,tT 145] #[227,158]),oO 147 (.indexAddr 262 (tT 6) (kB 29)),oN (.store 261 (tT 147) (tT 146))])
 (.seq (rg [oO 148 (.build 266 #[(0,kI 2)]),oO 149 (.buildSlice 227 1 #[(0,.tmp 148)]),oO 150 (cF (.func 237) #[tT 149,.const (.bool true)] #[227,4]),oO 151 (.indexAddr 262 (tT 6) (kB 30)),oN (.store 261 (tT 151) (tT 150))])
 (.seq (rg [oO 152 (.build 266 #[(0,kI 2)]),oO 153 (.buildSlice 227 1 #[(0,.tmp 152)]),oO 154 (cF (.func 237) #[tT 153,.const (.bool false)] #[227,4]),oO 155 (.indexAddr 262 (tT 6) (kB 31)),oN (.store 261 (tT 155) (tT 154))])
 (.seq (rg [oO 156 (.load 266 (tT 1)),oO 157 (.buildSlice 227 1 #[(0,.tmp 156)]),oO 158 (.load 158 (tT 5)),oO 159 (cF (.func 231) #[tT 157,tT 158] #[227,158]),oO 160 (.indexAddr 262 (tT 6) (kB 33)),oN (.store 261 (tT 160) (tT 159))])
 (.seq (rg [oO 161 (.load 262 (tT 6)),oN (.store 262 (tT 0) (tT 161))])
 .ret)))))))))))))))))))))))))))))))))
theorem F209:Fun1 Tryz.prog 209 162 c209 [.cell 0 262]:=mkT Tryz.func209 rfl (by decide +kernel) Tryz.ntmps209 rfl (by kernel_rfl) rfl
def c229:CT (Tryz.f229.body.getD .skip):=⟨_,by conv=>lhs; cbv⟩
theorem F229:Fun1 Tryz.prog 229 5 c229.1 [.cell 2 266]:=mkT Tryz.func229 rfl (by decide +kernel) Tryz.ntmps229 rfl c229.2 rfl
def c230:CT (Tryz.f230.body.getD .skip):=⟨_,by conv=>lhs; cbv⟩
theorem F230:Fun1 Tryz.prog 230 4 c230.1 [.tmp 2]:=mkT Tryz.func230 rfl (by decide +kernel) Tryz.ntmps230 rfl c230.2 rfl
def c231:CT (Tryz.f231.body.getD .skip):=⟨_,by conv=>lhs; cbv⟩
theorem F231:Fun1 Tryz.prog 231 6 c231.1 [.tmp 4]:=mkT Tryz.func231 rfl (by decide +kernel) Tryz.ntmps231 rfl c231.2 rfl
def c232:CT (Tryz.f232.body.getD .skip):=⟨_,by conv=>lhs; cbv⟩
theorem F232:Fun1 Tryz.prog 232 10 c232.1 [.tmp 2]:=mkT Tryz.func232 rfl (by decide +kernel) Tryz.ntmps232 rfl c232.2 rfl
def c233:CT (Tryz.f233.body.getD .skip):=⟨_,by conv=>lhs; cbv⟩
theorem F233:Fun1 Tryz.prog 233 10 c233.1 [.tmp 2]:=mkT Tryz.func233 rfl (by decide +kernel) Tryz.ntmps233 rfl c233.2 rfl
def c234:CT (Tryz.f234.body.getD .skip):=⟨_,by conv=>lhs; cbv⟩
theorem F234:Fun1 Tryz.prog 234 53 c234.1 [.cell 4 229,.tmp 5]:=mkT Tryz.func234 rfl (by decide +kernel) Tryz.ntmps234 rfl c234.2 rfl
def c235:AC:=
.seq (rg [oO 3 (.box 25 (tT 0)),oO 4 (.box 38 (tT 1)),oO 5 (.alloc 229),oO 6 (.assign (kI 0))])
 (.seq (.seq (.reg true [2] [⟨⟨some 7,.fieldAddr 25 (tT 3) 1,none⟩,false,true⟩,⟨⟨some 8,.load 23 (tT 7),none⟩,false,true⟩,⟨⟨some 9,.fieldAddr 25 (tT 3) 2,none⟩,false,true⟩,⟨⟨some 10,.load 3 (tT 9),none⟩,false,true⟩,⟨⟨some 11,.indexAddr 23 (tT 8) (tT 10),none⟩,false,true⟩,⟨⟨some 12,.fieldAddr 95 (tT 11) 1,none⟩,false,true⟩,⟨⟨some 13,.load 81 (tT 12),none⟩,false,true⟩,⟨⟨some 14,cF (.func 236) #[tT 13] #[81],none⟩,false,true⟩,⟨⟨some 15,.load 158 (tT 2),none⟩,true,false⟩])
 (rg [oO 16 (.build 229 #[(0,.tmp 14),(1,.tmp 15)]),oN (.store 229 (tT 5) (tT 16)),oO 6 (.assign (kI 0))]))
 .ret)
theorem F235:Fun1 Tryz.prog 235 17 c235 [.cell 5 229,.tmp 6]:=mkT Tryz.func235 rfl (by decide +kernel) Tryz.ntmps235 rfl (by kernel_rfl) rfl
def c236:CT (Tryz.f236.body.getD .skip):=⟨_,by conv=>lhs; cbv⟩
theorem F236:Fun1 Tryz.prog 236 8 c236.1 [.tmp 2]:=mkT Tryz.func236 rfl (by decide +kernel) Tryz.ntmps236 rfl c236.2 rfl
def c237:CT (Tryz.f237.body.getD .skip):=⟨_,by conv=>lhs; cbv⟩
theorem F237:Fun1 Tryz.prog 237 6 c237.1 [.tmp 4]:=mkT Tryz.func237 rfl (by decide +kernel) Tryz.ntmps237 rfl c237.2 rfl
def c238:CT (Tryz.f238.body.getD .skip):=⟨_,by conv=>lhs; cbv⟩
theorem F238:Fun1 Tryz.prog 238 4 c238.1 [.tmp 2]:=mkT Tryz.func238 rfl (by decide +kernel) Tryz.ntmps238 rfl c238.2 rfl
def c242:CT (Tryz.f242.body.getD .skip):=⟨_,by conv=>lhs; cbv⟩
theorem F242:Fun1 Tryz.prog 242 5 c242.1 [.tmp 3]:=mkT Tryz.func242 rfl (by decide +kernel) Tryz.ntmps242 rfl c242.2 rfl
def c243:CT (Tryz.f243.body.getD .skip):=⟨_,by conv=>lhs; cbv⟩
theorem F243:Fun1 Tryz.prog 243 11 c243.1 [.cell 6 229,.tmp 7]:=mkT Tryz.func243 rfl (by decide +kernel) Tryz.ntmps243 rfl c243.2 rfl
def c244:AC:=
.seq (rg [oO 4 (.box 25 (tT 0)),oO 5 (.box 38 (tT 1)),oO 6 (.alloc 229),oO 7 (.assign (kI 0))])
 (.seq (.seq (rg [oO 8 (.fieldAddr 38 (tT 5) 2),oO 9 (.load 3 (tT 8)),oO 10 (.binOp .lss 3 (tT 9) (kI 0) 3),oO 11 (.move (tT 10)),oG 12 (.fieldAddr 38 (tT 5) 2) 11 false,oG 13 (.load 3 (tT 12)) 11 false,oG 14 (.fieldAddr 25 (tT 4) 0) 11 false,oG 15 (.load 22 (tT 14)) 11 false,oG 16 (cB .len #[tT 15] #[22]) 11 false,oG 17 (.binOp .geq 3 (tT 13) (tT 16) 3) 11 false,oO 18 (.pick (tT 11) (.const (.bool true)) (tT 17))])
 (.cond (tT 18) (.seq (rg [oO 19 (.build 229 #[]),oN (.store 229 (tT 6) (tT 19)),oO 7 (.assign (kI 72))])
 (.ret))
 (.skip)))
 (.seq (.seq (rg [oO 20 (.load 4 (tT 2)),oO 21 (.unOp .not 4 (tT 20))])
 (.cond (tT 21) (.seq (.seq (.reg true [3] [⟨⟨some 22,.load 227 (tT 3),none⟩,true,true⟩,oO 23 (.buildSlice 93 1 #[(0,kB 2)]),oO 24 (cF (.func 230) #[tT 23] #[93])])
 (rg [oO 25 (.build 229 #[(0,.tmp 22),(1,.tmp 24)]),oN (.store 229 (tT 6) (tT 25)),oO 7 (.assign (kI 0))]))
 (.ret))
 (.skip)))
 (.seq (.seq (.reg true [3] [⟨⟨some 26,.load 227 (tT 3),none⟩,true,true⟩,oO 27 (.fieldAddr 38 (tT 5) 2),oO 28 (.load 3 (tT 27)),oO 29 (cF (.func 245) #[tT 28] #[3]),oO 30 (.buildSlice 93 1 #[(0,.tmp 29)]),oO 31 (cF (.func 230) #[tT 30] #[93])])
 (rg [oO 32 (.build 229 #[(0,.tmp 26),(1,.tmp 31)]),oN (.store 229 (tT 6) (tT 32)),oO 7 (.assign (kI 0))]))
 .ret)))
theorem F244:Fun1 Tryz.prog 244 33 c244 [.cell 6 229,.tmp 7]:=mkT Tryz.func244 rfl (by decide +kernel) Tryz.ntmps244 rfl (by kernel_rfl) rfl
def c245:CT (Tryz.f245.body.getD .skip):=⟨_,by conv=>lhs; cbv⟩
theorem F245:Fun1 Tryz.prog 245 6 c245.1 [.tmp 2]:=mkT Tryz.func245 rfl (by decide +kernel) Tryz.ntmps245 rfl c245.2 rfl
def c246:CT (Tryz.f246.body.getD .skip):=⟨_,by conv=>lhs; cbv⟩
theorem F246:Fun1 Tryz.prog 246 63 c246.1 [.cell 5 229,.tmp 6]:=mkT Tryz.func246 rfl (by decide +kernel) Tryz.ntmps246 rfl c246.2 rfl
def c247:CT (Tryz.f247.body.getD .skip):=⟨_,by conv=>lhs; cbv⟩
theorem F247:Fun1 Tryz.prog 247 30 c247.1 [.tmp 4]:=mkT Tryz.func247 rfl (by decide +kernel) Tryz.ntmps247 rfl c247.2 rfl
def c248:CT (Tryz.f248.body.getD .skip):=⟨_,by conv=>lhs; cbv⟩
theorem F248:Fun1 Tryz.prog 248 8 c248.1 [.tmp 3]:=mkT Tryz.func248 rfl (by decide +kernel) Tryz.ntmps248 rfl c248.2 rfl
def c58:CT (Tryz.f58.body.getD .skip):=⟨_,by conv=>lhs; cbv⟩
theorem F58:Fun1 Tryz.prog 58 72 c58.1 [.tmp 2]:=mkT Tryz.func58 rfl (by decide +kernel) Tryz.ntmps58 rfl c58.2 rfl
def c20:CT (Tryz.f20.body.getD .skip):=⟨_,by conv=>lhs; cbv⟩
theorem F20:Fun1 Tryz.prog 20 16 c20.1 [.tmp 2]:=mkT Tryz.func20 rfl (by decide +kernel) Tryz.ntmps20 rfl c20.2 rfl
def c63:CT (Tryz.f63.body.getD .skip):=⟨_,by conv=>lhs; cbv⟩
theorem F63:Fun1 Tryz.prog 63 22 c63.1 [.tmp 2,.tmp 3]:=mkT Tryz.func63 rfl (by decide +kernel) Tryz.ntmps63 rfl c63.2 rfl
def c147:CT (Tryz.f147.body.getD .skip):=⟨_,by conv=>lhs; cbv⟩
theorem F147:Fun1 Tryz.prog 147 59 c147.1 [.tmp 4]:=mkT Tryz.func147 rfl (by decide +kernel) Tryz.ntmps147 rfl c147.2 rfl
def c181:CT (Tryz.f181.body.getD .skip):=⟨_,by conv=>lhs; cbv⟩
theorem F181:Fun1 Tryz.prog 181 94 c181.1 [.tmp 4]:=mkT Tryz.func181 rfl (by decide +kernel) Tryz.ntmps181 rfl c181.2 rfl
def c183:CT (Tryz.f183.body.getD .skip):=⟨_,by conv=>lhs; cbv⟩
theorem F183:Fun1 Tryz.prog 183 69 c183.1 [.tmp 4]:=mkT Tryz.func183 rfl (by decide +kernel) Tryz.ntmps183 rfl c183.2 rfl
def c216:CT (Tryz.f216.body.getD .skip):=⟨_,by conv=>lhs; cbv⟩
theorem F216:Fun1 Tryz.prog 216 7 c216.1 [.tmp 2]:=mkT Tryz.func216 rfl (by decide +kernel) Tryz.ntmps216 rfl c216.2 rfl
def c217:CT (Tryz.f217.body.getD .skip):=⟨_,by conv=>lhs; cbv⟩
theorem F217:Fun1 Tryz.prog 217 6 c217.1 [.tmp 2]:=mkT Tryz.func217 rfl (by decide +kernel) Tryz.ntmps217 rfl c217.2 rfl
def c101:CT (Tryz.f101.body.getD .skip):=⟨_,by conv=>lhs; cbv⟩
theorem F101:Fun1 Tryz.prog 101 16 c101.1 [.tmp 4]:=mkT Tryz.func101 rfl (by decide +kernel) Tryz.ntmps101 rfl c101.2 rfl
open Go.Proofs
def c107:CT (Tryz.f107.body.getD .skip):=⟨_,by conv=>lhs; cbv⟩
theorem F107:Fun1 Tryz.prog 107 65 c107.1 [.cell 6 84,.tmp 7]:=mkT Tryz.func107 rfl (by decide +kernel) Tryz.ntmps107 rfl c107.2 rfl
def c144:CT (Tryz.f144.body.getD .skip):=⟨_,by conv=>lhs; cbv⟩
theorem F144:Fun1 Tryz.prog 144 101 c144.1 [.cell 6 84,.tmp 7]:=mkT Tryz.func144 rfl (by decide +kernel) Tryz.ntmps144 rfl c144.2 rfl
def c59:CT (Tryz.f59.body.getD .skip):=⟨_,by conv=>lhs; cbv⟩
theorem F59:Fun1 Tryz.prog 59 40 c59.1 [.tmp 4]:=mkT Tryz.func59 rfl (by decide +kernel) Tryz.ntmps59 rfl c59.2 rfl
def c148_10:AC:=
.seq (.seq (rg [oO 126 (.move (tT 9)),oO 127 (cB .len #[tT 126] #[93]),oO 128 (.move (kI 0))])
 (.block 3 (.loop (.seq (rg [oO 129 (.binOp .lss 3 (tT 128) (tT 127) 3)])
 (.seq (.cond (tT 129) (.skip)
 (.exit 3))
 (.seq (.block 4 (rg [oO 131 (.load 84 (tT 4)),oO 132 (cF (.func 184) #[tT 131] #[84]),oO 130 (.move (tT 132)),oO 133 (.extract (tT 130) 0),oO 134 (.extract (tT 130) 1),oO 135 (.extract (tT 130) 2),oN (.store 84 (tT 4) (tT 133))]))
 (rg [oO 136 (.binOp .add 3 (tT 128) (kI 1) 3),oO 128 (.move (tT 136))])))))))
 (.seq (.seq (rg [oO 137 (.fieldAddr 38 (tT 5) 1),oO 138 (.load 5 (tT 137)),oO 139 (.binOp .eql 5 (tT 138) (kB 22) 5),oO 140 (.move (tT 139)),oG 141 (.fieldAddr 84 (tT 4) 1) 140 true,oG 142 (.load 3 (tT 141)) 140 true,oG 143 (.binOp .gtr 3 (tT 142) (kI 0) 3) 140 true,oO 144 (.pick (tT 140) (tT 143) (.const (.bool false)))])
 (.cond (tT 144) (.seq (rg [oO 145 (.load 84 (tT 8)),oN (.store 84 (tT 6) (tT 145)),oO 7 (.assign (kI 73))])
 (.ret))
 (.skip)))
 (.seq (.seq (rg [oO 146 (.fieldAddr 38 (tT 5) 1),oO 147 (.load 5 (tT 146)),oO 148 (.binOp .eql 5 (tT 147) (kB 5) 5)])
 (.cond (tT 148) (.reg true [] [⟨⟨some 149,.fieldAddr 38 (tT 5) 2,none⟩,false,true⟩,⟨⟨some 150,.load 3 (tT 149),none⟩,false,true⟩,⟨⟨some 151,.move (tT 11),none⟩,false,true⟩,⟨⟨some 152,.indexAddr 93 (tT 151) (kI 0),none⟩,false,true⟩,⟨⟨some 153,.load 81 (tT 152),none⟩,false,true⟩,oO 154 (.fieldAddr 84 (tT 4) 2),oO 155 (.indexAddr 82 (tT 154) (tT 150)),oN (.store 81 (tT 155) (tT 153))])
 (.skip)))
 (.seq (.seq (rg [oO 156 (.move (tT 15)),oO 157 (cB .len #[tT 156] #[93]),oO 158 (.move (kI 0))])
 (.block 5 (.loop (.seq (rg [oO 159 (.binOp .lss 3 (tT 158) (tT 157) 3)])
 (.seq (.cond (tT 159) (.skip)
 (.exit 5))
 (.seq (.block 6 (.seq (rg [oO 160 (.indexAddr 93 (tT 156) (tT 158)),oO 161 (.load 81 (tT 160)),oO 17 (.assign (tT 161))])
 (.seq (rg [oO 163 (.load 84 (tT 4)),oO 164 (.move (tT 17)),oO 165 (cF (.func 185) #[tT 163,tT 164] #[84,81]),oO 162 (.move (tT 165)),oO 166 (.extract (tT 162) 0),oO 167 (.extract (tT 162) 1),oO 18 (.alloc 84),oN (.store 84 (tT 18) (tT 166)),oO 19 (.assign (tT 167))])
 (.seq (.seq (rg [oO 168 (.move (tT 19)),oO 169 (.binOp .neq 32 (tT 168) (kI 0) 32)])
 (.cond (tT 169) (.seq (rg [oO 170 (.load 84 (tT 8)),oO 171 (.move (tT 19)),oN (.store 84 (tT 6) (tT 170)),oO 7 (.assign (tT 171))])
 (.ret))
 (.skip)))
 (rg [oO 172 (.load 84 (tT 18)),oN (.store 84 (tT 4) (tT 172))])))))
 (rg [oO 173 (.binOp .add 3 (tT 158) (kI 1) 3),oO 158 (.move (tT 173))])))))))
 (.seq (rg [oO 174 (.load 84 (tT 4)),oN (.store 84 (tT 6) (tT 174)),oO 7 (.assign (kI 0))])
 .ret))))
def c148:AC:=
.seq (rg [oO 3 (.box 25 (tT 0)),oO 4 (.box 84 (tT 1)),oO 5 (.box 38 (tT 2)),oO 6 (.alloc 84),oO 7 (.assign (kI 0))])
 (.seq (rg [oO 20 (.build 84 #[]),oO 8 (.alloc 84),oN (.store 84 (tT 8) (tT 20))])
 (.seq (rg [oO 21 (.load 25 (tT 3)),oO 22 (.load 38 (tT 5)),oO 23 (cF (.func 181) #[tT 21,tT 22] #[25,38]),oO 9 (.assign (tT 23))])
 (.seq (.seq (rg [oO 24 (.fieldAddr 84 (tT 4) 1),oO 25 (.load 3 (tT 24)),oO 26 (.move (tT 9)),oO 27 (cB .len #[tT 26] #[93]),oO 28 (.binOp .lss 3 (tT 25) (tT 27) 3)])
 (.cond (tT 28) (.seq (rg [oO 29 (.load 84 (tT 8)),oN (.store 84 (tT 6) (tT 29)),oO 7 (.assign (kI 30))])
 (.ret))
 (.skip)))
 (.seq (rg [oO 30 (.fieldAddr 84 (tT 4) 0),oO 31 (.load 3 (tT 30)),oO 32 (.fieldAddr 84 (tT 4) 1),oO 33 (.load 3 (tT 32)),oO 34 (.binOp .add 3 (tT 31) (tT 33) 3),oO 35 (.move (tT 9)),oO 36 (cB .len #[tT 35] #[93]),oO 37 (.binOp .sub 3 (tT 34) (tT 36) 3),oO 10 (.assign (tT 37))])
 (.seq (rg [oO 11 (.assign (.const (.slice none 0 0)))])
 (.seq (.seq (rg [oO 38 (.move (tT 9)),oO 39 (cB .len #[tT 38] #[93]),oO 40 (.move (kI 0))])
 (.block 0 (.loop (.seq (rg [oO 41 (.binOp .lss 3 (tT 40) (tT 39) 3)])
 (.seq (.cond (tT 41) (.skip)
 (.exit 0))
 (.seq (.block 1 (.seq (rg [oO 42 (.move (tT 40)),oO 43 (.indexAddr 93 (tT 38) (tT 40)),oO 44 (.load 81 (tT 43)),oO 12 (.assign (tT 42)),oO 13 (.assign (tT 44))])
 (.seq (rg [oO 45 (.move (tT 10)),oO 46 (.move (tT 12)),oO 47 (.binOp .add 3 (tT 45) (tT 46) 3),oO 48 (.fieldAddr 84 (tT 4) 2),oO 49 (.indexAddr 82 (tT 48) (tT 47)),oO 50 (.load 81 (tT 49)),oO 14 (.assign (tT 50))])
 (.seq (.seq (rg [oO 51 (.fieldAddr 25 (tT 3) 0),oO 52 (.load 22 (tT 51)),oO 53 (.move (tT 14)),oO 54 (.move (tT 13)),oO 55 (cF (.func 182) #[tT 52,tT 53,tT 54] #[22,81,81]),oO 56 (.unOp .not 4 (tT 55))])
 (.cond (tT 56) (.seq (rg [oO 57 (.load 84 (tT 8)),oN (.store 84 (tT 6) (tT 57)),oO 7 (.assign (kI 70))])
 (.ret))
 (.skip)))
 (rg [oO 58 (.move (tT 11)),oO 59 (.move (tT 14)),oO 60 (.buildSlice 93 1 #[(0,.tmp 59)]),oO 61 (cB .append #[tT 58,tT 60] #[93,93]),oO 11 (.assign (tT 61))])))))
 (rg [oO 62 (.binOp .add 3 (tT 40) (kI 1) 3),oO 40 (.move (tT 62))])))))))
 (.seq (.seq (.reg true [] [oO 63 (.fieldAddr 38 (tT 5) 1),oO 64 (.load 5 (tT 63)),oO 65 (.binOp .eql 5 (tT 64) (kB 16) 5),oO 66 (.move (tT 65)),⟨⟨some 67,.move (tT 11),some (66,true)⟩,false,true⟩,⟨⟨some 68,.indexAddr 93 (tT 67) (kI 0),some (66,true)⟩,false,true⟩,⟨⟨some 69,.load 81 (tT 68),some (66,true)⟩,false,true⟩,oG 70 (.move (tT 11)) 66 true,oG 71 (.indexAddr 93 (tT 70) (kI 1)) 66 true,oG 72 (.load 81 (tT 71)) 66 true,oG 73 (.binOp .neq 81 (tT 69) (tT 72) 81) 66 true,oG 74 (.move (tT 73)) 66 true,oG 75 (.move (tT 11)) 74 false,oG 76 (.indexAddr 93 (tT 75) (kI 0)) 74 false,oG 77 (.load 81 (tT 76)) 74 false,oG 78 (.binOp .neq 81 (tT 77) (kB 1) 81) 74 false,oG 79 (.move (tT 78)) 74 false,oG 80 (.move (tT 11)) 79 true,oG 81 (.indexAddr 93 (tT 80) (kI 0)) 79 true,oG 82 (.load 81 (tT 81)) 79 true,oG 83 (.binOp .neq 81 (tT 82) (kB 2) 81) 79 true,oG 84 (.pick (tT 79) (tT 83) (.const (.bool false))) 74 false,oG 85 (.pick (tT 74) (.const (.bool true)) (tT 84)) 66 true,oO 86 (.pick (tT 66) (tT 85) (.const (.bool false)))])
 (.cond (tT 86) (.seq (rg [oO 87 (.load 84 (tT 8)),oN (.store 84 (tT 6) (tT 87)),oO 7 (.assign (kI 70))])
 (.ret))
 (.skip)))
 (.seq (rg [oO 88 (.load 25 (tT 3)),oO 89 (.load 38 (tT 5)),oO 90 (cF (.func 183) #[tT 88,tT 89] #[25,38]),oO 15 (.assign (tT 90))])
 (.seq (.seq (rg [oO 91 (.fieldAddr 38 (tT 5) 1),oO 92 (.load 5 (tT 91))])
 (.block 2 (.seq (rg [oO 94 (.binOp .eql 5 (tT 92) (kB 4) 5),oO 93 (.assign (tT 94))])
 (.cond (tT 93) (.seq (.seq (rg [oO 95 (.fieldAddr 38 (tT 5) 2),oO 96 (.load 3 (tT 95)),oO 97 (.fieldAddr 84 (tT 4) 2),oO 98 (.indexAddr 82 (tT 97) (tT 96)),oO 99 (.load 81 (tT 98)),oO 100 (.binOp .eql 81 (tT 99) (kB 0) 81)])
 (.cond (tT 100) (.seq (rg [oO 101 (.load 84 (tT 8)),oN (.store 84 (tT 6) (tT 101)),oO 7 (.assign (kI 70))])
 (.ret))
 (.skip)))
 (rg [oO 102 (.fieldAddr 38 (tT 5) 2),oO 103 (.load 3 (tT 102)),oO 104 (.fieldAddr 84 (tT 4) 2),oO 105 (.indexAddr 82 (tT 104) (tT 103)),oO 106 (.load 81 (tT 105)),oO 107 (.buildSlice 93 1 #[(0,.tmp 106)]),oO 15 (.assign (tT 107))]))
 (.seq (rg [oO 109 (.binOp .eql 5 (tT 92) (kB 7) 5),oO 108 (.assign (tT 109))])
 (.cond (tT 108) (.reg true [] [⟨⟨some 110,.move (tT 11),none⟩,false,true⟩,⟨⟨some 111,.indexAddr 93 (tT 110) (kI 0),none⟩,false,true⟩,⟨⟨some 112,.load 81 (tT 111),none⟩,false,true⟩,oO 113 (.move (tT 11)),oO 114 (.indexAddr 93 (tT 113) (kI 0)),oO 115 (.load 81 (tT 114)),oO 116 (.buildSlice 93 2 #[(0,.tmp 112),(1,.tmp 115)]),oO 15 (.assign (tT 116))])
 (.seq (rg [oO 118 (.binOp .eql 5 (tT 92) (kB 8) 5),oO 117 (.assign (tT 118))])
 (.cond (tT 117) (.reg true [] [⟨⟨some 119,.move (tT 11),none⟩,false,true⟩,⟨⟨some 120,.indexAddr 93 (tT 119) (kI 1),none⟩,false,true⟩,⟨⟨some 121,.load 81 (tT 120),none⟩,false,true⟩,oO 122 (.move (tT 11)),oO 123 (.indexAddr 93 (tT 122) (kI 0)),oO 124 (.load 81 (tT 123)),oO 125 (.buildSlice 93 2 #[(0,.tmp 121),(1,.tmp 124)]),oO 15 (.assign (tT 125))])
 (.skip)))))))))
 c148_10)))))))))
theorem F148:Fun1 Tryz.prog 148 175 c148 [.cell 6 84,.tmp 7]:=mkT Tryz.func148 rfl (by decide +kernel) Tryz.ntmps148 rfl (by kernel_rfl) rfl
def c91:CT (Tryz.f91.body.getD .skip):=⟨_,by conv=>lhs; cbv⟩
theorem F91:Fun1 Tryz.prog 91 67 c91.1 [.tmp 6]:=mkT Tryz.func91 rfl (by decide +kernel) Tryz.ntmps91 rfl c91.2 rfl
def c96:CT (Tryz.f96.body.getD .skip):=⟨_,by conv=>lhs; cbv⟩
theorem F96:Fun1 Tryz.prog 96 26 c96.1 [.tmp 4]:=mkT Tryz.func96 rfl (by decide +kernel) Tryz.ntmps96 rfl c96.2 rfl
def c174:CT (Tryz.f174.body.getD .skip):=⟨_,by conv=>lhs; cbv⟩
theorem F174:Fun1 Tryz.prog 174 59 c174.1 [.tmp 6,.tmp 7]:=mkT Tryz.func174 rfl (by decide +kernel) Tryz.ntmps174 rfl c174.2 rfl
def c175:CT (Tryz.f175.body.getD .skip):=⟨_,by conv=>lhs; cbv⟩
theorem F175:Fun1 Tryz.prog 175 23 c175.1 [.tmp 4,.tmp 5]:=mkT Tryz.func175 rfl (by decide +kernel) Tryz.ntmps175 rfl c175.2 rfl
def c176:CT (Tryz.f176.body.getD .skip):=⟨_,by conv=>lhs; cbv⟩
theorem F176:Fun1 Tryz.prog 176 66 c176.1 [.cell 8 84,.tmp 9]:=mkT Tryz.func176 rfl (by decide +kernel) Tryz.ntmps176 rfl c176.2 rfl
def c102:CT (Tryz.f102.body.getD .skip):=⟨_,by conv=>lhs; cbv⟩
theorem F102:Fun1 Tryz.prog 102 29 c102.1 [.tmp 2]:=mkT Tryz.func102 rfl (by decide +kernel) Tryz.ntmps102 rfl c102.2 rfl
def c182:CT (Tryz.f182.body.getD .skip):=⟨_,by conv=>lhs; cbv⟩
theorem F182:Fun1 Tryz.prog 182 22 c182.1 [.tmp 6]:=mkT Tryz.func182 rfl (by decide +kernel) Tryz.ntmps182 rfl c182.2 rfl
def c184:CT (Tryz.f184.body.getD .skip):=⟨_,by conv=>lhs; cbv⟩
theorem F184:Fun1 Tryz.prog 184 30 c184.1 [.cell 2 84,.tmp 3,.tmp 4]:=mkT Tryz.func184 rfl (by decide +kernel) Tryz.ntmps184 rfl c184.2 rfl
def c185:CT (Tryz.f185.body.getD .skip):=⟨_,by conv=>lhs; cbv⟩
theorem F185:Fun1 Tryz.prog 185 30 c185.1 [.cell 4 84,.tmp 5]:=mkT Tryz.func185 rfl (by decide +kernel) Tryz.ntmps185 rfl c185.2 rfl
def c132:CT (Tryz.f132.body.getD .skip):=⟨_,by conv=>lhs; cbv⟩
theorem F132:Fun1 Tryz.prog 132 17 c132.1 [.tmp 2]:=mkT Tryz.func132 rfl (by decide +kernel) Tryz.ntmps132 rfl c132.2 rfl
def c137:CT (Tryz.f137.body.getD .skip):=⟨_,by conv=>lhs; cbv⟩
theorem F137:Fun1 Tryz.prog 137 24 c137.1 [.tmp 2]:=mkT Tryz.func137 rfl (by decide +kernel) Tryz.ntmps137 rfl c137.2 rfl
def c138:CT (Tryz.f138.body.getD .skip):=⟨_,by conv=>lhs; cbv⟩
theorem F138:Fun1 Tryz.prog 138 20 c138.1 [.cell 2 84]:=mkT Tryz.func138 rfl (by decide +kernel) Tryz.ntmps138 rfl c138.2 rfl
def c210:CT (Tryz.f210.body.getD .skip):=⟨_,by conv=>lhs; cbv⟩
theorem F210:Fun1 Tryz.prog 210 29 c210.1 [.tmp 4,.tmp 5]:=mkT Tryz.func210 rfl (by decide +kernel) Tryz.ntmps210 rfl c210.2 rfl
def c211:CT (Tryz.f211.body.getD .skip):=⟨_,by conv=>lhs; cbv⟩
theorem F211:Fun1 Tryz.prog 211 39 c211.1 [.tmp 8]:=mkT Tryz.func211 rfl (by decide +kernel) Tryz.ntmps211 rfl c211.2 rfl
def c212:CT (Tryz.f212.body.getD .skip):=⟨_,by conv=>lhs; cbv⟩
theorem F212:Fun1 Tryz.prog 212 23 c212.1 [.cell 2 84,.tmp 3,.tmp 4]:=mkT Tryz.func212 rfl (by decide +kernel) Tryz.ntmps212 rfl c212.2 rfl
def c213:CT (Tryz.f213.body.getD .skip):=⟨_,by conv=>lhs; cbv⟩
theorem F213:Fun1 Tryz.prog 213 27 c213.1 [.cell 6 84,.tmp 7]:=mkT Tryz.func213 rfl (by decide +kernel) Tryz.ntmps213 rfl c213.2 rfl
def c214:CT (Tryz.f214.body.getD .skip):=⟨_,by conv=>lhs; cbv⟩
theorem F214:Fun1 Tryz.prog 214 34 c214.1 [.cell 4 84,.tmp 5]:=mkT Tryz.func214 rfl (by decide +kernel) Tryz.ntmps214 rfl c214.2 rfl
def c218:CT (Tryz.f218.body.getD .skip):=⟨_,by conv=>lhs; cbv⟩
theorem F218:Fun1 Tryz.prog 218 17 c218.1 [.cell 2 84]:=mkT Tryz.func218 rfl (by decide +kernel) Tryz.ntmps218 rfl c218.2 rfl
def c227:CT (Tryz.f227.body.getD .skip):=⟨_,by conv=>lhs; cbv⟩
theorem F227:Fun1 Tryz.prog 227 17 c227.1 [.tmp 2]:=mkT Tryz.func227 rfl (by decide +kernel) Tryz.ntmps227 rfl c227.2 rfl
def c207:CT (Tryz.f207.body.getD .skip):=⟨_,by conv=>lhs; cbv⟩
theorem F207:Fun1 Tryz.prog 207 58 c207.1 [.tmp 6]:=mkT Tryz.func207 rfl (by decide +kernel) Tryz.ntmps207 rfl c207.2 rfl
def c228:CT (Tryz.f228.body.getD .skip):=⟨_,by conv=>lhs; cbv⟩
theorem F228:Fun1 Tryz.prog 228 13 c228.1 [.tmp 6]:=mkT Tryz.func228 rfl (by decide +kernel) Tryz.ntmps228 rfl c228.2 rfl
def c241:CT (Tryz.f241.body.getD .skip):=⟨_,by conv=>lhs; cbv⟩
theorem F241:Fun1 Tryz.prog 241 10 c241.1 [.tmp 4]:=mkT Tryz.func241 rfl (by decide +kernel) Tryz.ntmps241 rfl c241.2 rfl
open Go.Proofs
def eU (t:Ty):D:= .int .u8 (t.val:Int)
theorem fr_0 (f:Fr):(eFr f)[0]? =some (.int .i64 f.loc):=rfl
theorem fr_1 (f:Fr):(eFr f)[1]? =some (.int .i64 f.h):=rfl
theorem fr_at (f:Fr) (i:Nat) (h:i<24):(eFr f)[2+i]? =some (.int .u8 (f.sl[i].val:Int)):=by
 rw[show 2+i=i+1+1 by omega]
 simp only[eFr,List.getElem?_cons_succ,List.getElem?_map]
 rw[List.getElem?_eq_getElem (by simpa using h)]
 simp
theorem eqAll_from {m n:Nat} (xs ys:List Ty) (hx:xs.length=n) (hy:ys.length=n):∀(k s:Nat),s+k=n→
  eqAll Tryz.prog (eqV Tryz.prog (m+1)) (xs.map eU) (ys.map eU) ((List.range' s k).map fun i=>(81,i*1))=some (decide (xs.drop s=ys.drop s))
 |0,s,h=>by
  rw[List.drop_eq_nil_of_le (by omega),List.drop_eq_nil_of_le (by omega)]
  rfl
 |k+1,s,h=>by
  have h1:s<xs.length:=by omega
  have h2:s<ys.length:=by omega
  rw[List.range'_succ,List.map_cons,eqAll,Nat.mul_one]
  have p1:partD Tryz.prog 81 (xs.map eU) s=some (eU xs[s]):=by simp[partD,Tryz.agg81,Tryz.sz81,h1]
  have p2:partD Tryz.prog 81 (ys.map eU) s=some (eU ys[s]):=by simp[partD,Tryz.agg81,Tryz.sz81,h2]
  rw[p1,p2,eqAll_from xs ys hx hy k (s+1) (by omega),List.drop_eq_getElem_cons h1,List.drop_eq_getElem_cons h2]
  simp only[eU,eqV_int Tryz.underlying81]
  congr 1
  rw[Bool.eq_iff_iff]
  simp only[Bool.and_eq_true,decide_eq_true_eq,List.cons.injEq,eT_eq]
theorem eq_fr (f g:Fr):eqV Tryz.prog 10 84 (.agg (eFr f)) (.agg (eFr g))=some (decide (f=g)):=by
 have h1:Tryz.prog.stoodInHeld 84=false:=by kernel_rfl
 have h2:(Tryz.prog.info? 81).isSome=true:=by kernel_rfl
 have h3:Tryz.prog.cellsOf 81=1:=by kernel_rfl
 have t:∀f:Fr,((eFr f).drop 2).take 24=f.sl.toList.map eU:=fun f=>by
  rw[List.take_of_length_le (by simp[eFr])]
  rfl
 rw[show(10:Nat)=8+1+1 from rfl,eqV_struct Tryz.underlying84 h1 rfl]
 simp only[fsParts,List.map_cons,List.map_nil,eqAll]
 simp -implicitDefEqProofs only[go_sem,fr_0,fr_1,t,za5,eqV_int Tryz.underlying3]
 rw[eqV_array Tryz.underlying82 h2,h3,List.range_eq_range',eqAll_from f.sl.toList g.sl.toList (by simp) (by simp) 24 0 rfl]
 obtain⟨a,b,c⟩:=f
 obtain⟨a',b',c'⟩:=g
 simp only[List.drop_zero,Bool.and_true]
 congr 1
 rw[Bool.eq_iff_iff]
 simp[Fr.mk.injEq,Vector.toList_inj]
def shapedB (f:Fr):Bool:=decide (0≤f.loc∧f.loc≤16∧0≤f.h∧f.h≤24-f.loc)
theorem shaped123 (f:Fr):PCall Tryz.prog 137 [.agg (eFr f)] (.bool (shapedB f)):=by
 refine F137.pcall' rfl fun T hT=> ?_
 simp -implicitDefEqProofs only[go_sem,c137,hT,za5]
 refine fun b=> ?_
 simp -implicitDefEqProofs only[go_sem,mmB,hT,za5,fr_0,fr_1,gdD]
 refine zf3 ?_
 rw[Bool.eq_iff_iff]
 simp only[shapedB,Bool.and_eq_true,decide_eq_true_eq,and_assoc]
 constructor
 ·rintro⟨h1,h2,h3,h4⟩
  rw[zc1 (by omega) (by omega)] at h4
  exact⟨h1,h2,h3,h4⟩
 ·rintro⟨h1,h2,h3,h4⟩
  rw[zc1 (by omega) (by omega)]
  exact⟨h1,h2,h3,h4⟩
theorem refShape86 (f:Fr):PCall Tryz.prog 102 [.agg (eFr f)] (.bool (shapedB f)):=by
 refine F102.pcall' rfl fun T hT=> ?_
 simp -implicitDefEqProofs only[go_sem,c102,hT,za5]
 refine fun b=> ?_
 simp -implicitDefEqProofs only[go_sem,mmB,hT,za5,fr_0,fr_1,gdD]
 refine zf3 ?_
 rw[Bool.eq_iff_iff]
 simp only[shapedB,Bool.and_eq_true,decide_eq_true_eq,and_assoc]
 constructor
 ·rintro⟨h1,h2,h3,h4,h5⟩
  rw[zc1 (by omega) (by omega)] at h5
  exact⟨h1,h2,h3,by omega⟩
 ·rintro⟨h1,h2,h3,h4⟩
  rw[zc1 (by omega) (by omega)]
  exact⟨h1,h2,h3,by omega,by omega⟩
def bareF (f:Fr):Fr:=⟨f.loc,f.h,Vector.ofFn fun i=>if(i.val:Int)<f.loc+f.h then f.sl[i.val] else 0⟩
theorem fr_tail (f:Fr):(eFr f).drop 2=f.sl.toList.map eU:=rfl
theorem map24 (f:Fr):List.take 24 (List.map eU f.sl.toList)=List.map eU f.sl.toList:=List.take_of_length_le (by simp)
theorem len24 (f:Fr):(List.map eU f.sl.toList).length=24:=by simp
theorem bare_list (f:Fr) {k:Nat} (hk:f.loc+f.h=k) (h24:k≤24):
  List.take (min 24 (k-0)) (List.map eU f.sl.toList)++List.drop (2+(List.take (min 24 (k-0)) (List.map eU f.sl.toList)).length) (D.int .i64 f.loc::D.int .i64 f.h::List.replicate 24 (D.int .u8 0))=List.map eU (bareF f).sl.toList:=by
 have h1:min 24 (k-0)=k:=by omega
 have h2:(List.take k (List.map eU f.sl.toList)).length=k:=by simp; omega
 rw[h1,h2,show 2+k=k+1+1 by omega,List.drop_succ_cons,List.drop_succ_cons,List.drop_replicate]
 apply List.ext_getElem
 ·simp; omega
 ·intro i hi hi'
  have hi24:i<24:=by simpa using hi'
  by_cases hik:i<k
  ·rw[List.getElem_append_left (by rw[h2]; exact hik)]
   simp[bareF,eU,show(i:Int)<f.loc+f.h by omega]
  ·rw[List.getElem_append_right (by rw[h2]; omega)]
   simp[bareF,eU,show ¬(i:Int)<f.loc+f.h by omega]
theorem fr_eq (g:Fr):eFr g=D.int .i64 g.loc::D.int .i64 g.h::List.map eU g.sl.toList:=rfl
theorem bare_loc (f:Fr):(bareF f).loc=f.loc:=by unfold bareF; rfl
theorem bare_h (f:Fr):(bareF f).h=f.h:=by unfold bareF; rfl
theorem fr_bare (f:Fr):(D.int .i64 f.loc::D.int .i64 f.h::List.map eU (bareF f).sl.toList)=eFr (bareF f):=by
 rw[fr_eq (bareF f),bare_loc,bare_h]
theorem bare124 (f:Fr) (hs:shapedB f=true):PCall Tryz.prog 138 [.agg (eFr f)] (.agg (eFr (bareF f))):=by
 simp only[shapedB,decide_eq_true_eq] at hs
 obtain⟨k,hk⟩:∃k:Nat,f.loc+f.h=k:=⟨(f.loc+f.h).toNat,by omega⟩
 have hw:IntKind.wrap .i64 (f.loc+f.h)=(k:Int):=by rw[zc1 (by omega) (by omega),hk]
 refine F138.pcall' rfl fun T hT=> ?_
 simp -implicitDefEqProofs only[go_sem,c138,hT,za5]
 intro b1 b2 n1 n2
 simp -implicitDefEqProofs only[go_sem,hT,za5,fr_0,fr_1,gdD,n1,n2]
 intro b3 m1 m2 m3 m4
 have key:=bare_list f hk (by omega)
 simp only[List.replicate_succ,List.replicate_zero] at key
 simp -implicitDefEqProofs only[go_sem,hT,za5,fr_0,fr_1,gdD,n1,n2,m1,m2,m3,m4,za2,hw,fr_tail,key,map24,len24]
 refine⟨by omega,by omega,by omega,by omega, ?_⟩
 rw[fr_bare]
 exact DLe.refl _
theorem fr_idx (f:Fr) {i:Nat} (h:i<24):(List.map eU f.sl.toList)[i]? =some (.int .u8 (f.sl[i].val:Int)):=by
 rw[List.getElem?_map,List.getElem?_eq_getElem (by simpa using h)]
 simp[eU]
theorem refBare151 (f:Fr) (hs:shapedB f=true):PCall Tryz.prog 218 [.agg (eFr f)] (.agg (eFr (bareF f))):=by
 simp only[shapedB,decide_eq_true_eq] at hs
 obtain⟨k,hk⟩:∃k:Nat,f.loc+f.h=k:=⟨(f.loc+f.h).toNat,by omega⟩
 have hw:IntKind.wrap .i64 (f.loc+f.h)=(k:Int):=by rw[zc1 (by omega) (by omega),hk]
 refine F218.pcall' rfl fun T hT=> ?_
 simp -implicitDefEqProofs only[go_sem,c218,hT,za5]
 intro b1 b2 n1 n2
 simp -implicitDefEqProofs only[go_sem,hT,za5,fr_0,fr_1,gdD,n1,n2,hw]
 generalize hz:(D.int .i64 0::D.int .i64 0::_:List D)=z0
 have hzd:z0.drop 26=[]:=by rw[←hz]; rfl
 have hz26:z0.length=26:=by rw[←hz]; rfl
 let g:Nat→Fr:=fun i=>⟨f.loc,f.h,Vector.ofFn fun j=>if j.val<k∨i≤j.val then f.sl[j.val] else 0⟩
 have g0:g k=f:=by
  obtain⟨a,b,c⟩:=f
  simp only[g,Fr.mk.injEq,true_and]
  apply Vector.ext
  intro j hj
  simp only[Vector.getElem_ofFn]
  rw[if_pos (by omega)]
 have gl:g 24=bareF f:=by
  simp only[g,bareF,Fr.mk.injEq,true_and]
  apply Vector.ext
  intro j hj
  simp only[Vector.getElem_ofFn]
  by_cases hjk:j<k
  ·rw[if_pos (.inl hjk),if_pos (by omega)]
  ·rw[if_neg (by omega),if_neg (by omega)]
 have gs:∀i (h24:i<24),k≤i→(⟨(g i).loc,(g i).h,(g i).sl.set i 0 h24⟩:Fr)=g (i+1):=by
  intro i h24 hi
  simp only[g,Fr.mk.injEq,true_and]
  apply Vector.ext
  intro j hj
  simp only[Vector.getElem_set,Vector.getElem_ofFn]
  split
  ·rename_i he; subst he; rw[if_neg (by omega)]
  ·rename_i he
   by_cases h1:j<k∨i≤j
   ·rw[if_pos h1,if_pos (by omega)]
   ·rw[if_neg h1,if_neg (by omega)]
 clear_value g
 refine loopL F218 (fun i:Nat=>[(1,.ptr b1 0),(2,.ptr b2 0),(3,.int .i64 i)]) (fun i=>(({}:St).set b1 (eFr (g i))).set b2 z0) (fun i=>k≤i∧i≤24) (fun i=>24-i) k ⟨Nat.le_refl _,by omega⟩ ?_ (by rw[g0]; exact St.le.refl _) ?_
 ·simp -implicitDefEqProofs only[go_sem,hT]
 clear hT T
 rintro i ⟨hi,h24⟩ T hT
 by_cases h:i<24
 ·have h1:((i:Int)<24)=True:=by simp; omega
  have hset:=fr_set (f:=g i) (i:=i) h (t:=0)
  have h00:(((0:Ty).val:Nat):Int)=0:=rfl
  rw[gs i h hi,h00] at hset
  simp -implicitDefEqProofs only[go_sem,hT,h1,za5,n1,n2,Nat.mul_one,hset]
  refine⟨by omega,by omega,i+1,⟨by omega,by omega⟩,by omega, ?_, ?_⟩
  ·rw[zc1 (by omega) (by omega)]; simp
  ·rw[Go.AL.set_comm (σ:=({}:St).set b1 (eFr (g i))) (show b2≠b1 from fun e=>by simp_all),za2]
   exact St.le.refl _
 ·have h1:((i:Int)<24)=False:=by simp; omega
  obtain rfl:i=24:=by omega
  simp -implicitDefEqProofs only[go_sem,hT,h1,za5,n1,n2,za4,zb0,hz26,hzd]
  rw[gl]
  exact DLe.refl _
def checkF (c:Nat) (f:Fr):Nat:=if shapedB f=false∨bareF f≠f then 32 else if(f.sl.toList.any fun t=> !validN c t)=true then 22 else 0
theorem check81 (l:List Cl) (o:Own) (f:Fr):PCall Tryz.prog 96 [.slice o (rws eC l),.agg (eFr f)] (.int .i64 (checkF l.length f)):=by
 refine F96.pcall' rfl fun T hT=> ?_
 simp -implicitDefEqProofs only[go_sem,c96,hT,za5]
 intro b3
 simp -implicitDefEqProofs only[go_sem,hT,za5,za4]
 refine⟨by rintro b rfl; simp,za3 (shaped123 f) ?_⟩
 cases hs:shapedB f
 ·simp -implicitDefEqProofs only[go_sem,hT]
  exact DLe.of_eq (by rw[checkF,if_pos (.inl hs)]; rfl)
 simp -implicitDefEqProofs only[go_sem,hT,za5,za4]
 refine za3 (bare124 f hs) ?_
 by_cases hb:bareF f=f
 case neg=>
  simp -implicitDefEqProofs only[go_sem,hT,za5,za4,eq_fr,hb]
  exact DLe.of_eq (by rw[checkF,if_pos (.inr hb)]; rfl)
 have hc:checkF l.length f=if(f.sl.toList.any fun t=> !validN l.length t)=true then 22 else 0:=by
  rw[checkF,if_neg (by simp[hs,hb])]
 rw[hc,hb]
 have hl24:f.sl.toList.length=24:=by simp
 have hl24':f.sl.size=24:=by simp
 simp -implicitDefEqProofs only[go_sem,hT,za5,za4,eq_fr,decide_true,fr_tail,map24,hl24,len24,Nat.le_refl,List.length_map,Vector.length_toList]
 refine loopL F96 (fun i:Nat=>[(0,.slice o (rws eC l)),(17,.agg (List.map eU f.sl.toList)),(18,.int .i64 i)]) (fun _=>{}) (fun i=>i≤24∧((f.sl.toList.take i).any fun t=> !validN l.length t)=false) (fun i=>24-i) 0 ⟨by omega,rfl⟩ ?_ (St.le.nil _) ?_
 ·simp -implicitDefEqProofs only[go_sem,hT,Int.ofNat_zero]
 clear hT T
 rintro i ⟨hi,hok⟩ T hT
 by_cases h:i<24
 ·have h1:((i:Int)<24)=True:=by simp; omega
  have hx:=fr_idx f h
  have hl:i<f.sl.toList.length:=by simpa using h
  have htake:f.sl.toList.take (i+1)=f.sl.toList.take i++[f.sl[i]]:=by rw[List.take_succ_eq_append_getElem hl]; simp
  have hin:f.sl[i]∈f.sl.toList:=by simp
  generalize f.sl[i]=t at *
  simp -implicitDefEqProofs only[go_sem,hT,h1,hx,Nat.mul_one]
  refine⟨by omega,za3 (valid105 l o t) ?_⟩
  cases hv:validN l.length t
  ·simp -implicitDefEqProofs only[go_sem,hT]
   rw[if_pos (List.any_eq_true.2 ⟨t,hin,by simp[hv]⟩)]
   exact DLe.of_eq rfl
  ·simp -implicitDefEqProofs only[go_sem,hT]
   refine⟨i+1,⟨by omega,by rw[htake,List.any_append,hok]; simp[hv]⟩,by omega, ?_,St.le.refl _⟩
   rw[zc1 (by omega) (by omega)]; simp
 ·have h1:((i:Int)<24)=False:=by simp; omega
  rw[List.take_of_length_le (by simp; omega)] at hok
  simp -implicitDefEqProofs only[go_sem,hT,h1]
  rw[if_neg (by simp[hok])]
  exact DLe.of_eq rfl
end Go.AL
