import Derived.Test.YtobmoajkfbigkaaGreatMo
import Derived.Test.YtobmoajkfbigkaaGreatMe
import Derived.Test.YtobmoajkfbigkaaGreatMn
import Derived.Test.YtobmoajkfbigkaaGreatMm
import Derived.Test.YtobmoajkfbigkaaGreatMi
import Derived.Test.YtobmoajkfbigkaaGreatMj
import Derived.Test.YtobmoajkfbigkaaGreatMl
import Derived.Test.YtobmoajkfbigkaaGreatMk
set_option linter.unusedSimpArgs false
set_option linter.unusedVariables false
set_option maxRecDepth 100000
set_option maxHeartbeats 4000000
set_option linter.defProp false
namespace Go.AL
open Go.Proofs
def ins0:Ins:=⟨0,0,0,0⟩
def decIn (b:List Ty) (at':Nat) (op:Ty):Ins:=⟨at',op,opdB ((b.drop (at'+1)).take (wid op.val).1),opdB ((b.drop (at'+1+(wid op.val).1)).take (wid op.val).2)⟩
def decF (b:List Ty) (at':Nat):Ins×Nat:=
 if b.length<at' then(ins0,1)
 else if b.length=at' then(ins0,2)
 else if zf1 ((b[at']?).getD 0).val=0 then(ins0,40)
 else if b.length-at'<zf1 ((b[at']?).getD 0).val then(ins0,2)
 else if((b[at']?).getD 0).val=2∧1<(decIn b at' ((b[at']?).getD 0)).a then(ins0,5)
 else(decIn b at' ((b[at']?).getD 0),0)
theorem zf8:[D.int .i64 0,D.int .u8 0,D.int .i64 0,D.int .i64 0]=eIn ins0:=rfl
theorem sizeOp_le (n:Nat):zf1 n≤6:=by
 have:=wid_le n
 unfold zf1; split <;> omega
theorem wid_vals (n:Nat):((wid n).1=0∨(wid n).1=1∨(wid n).1=2∨(wid n).1=4)∧((wid n).2=0∨(wid n).2=1):=by
 unfold wid; repeat' split
 all_goals simp
def bYfaD0:=aI @zb7 (aI @zb0 (aI @za2 (aI @za6 @zf8)))
def bYfaD1:=aI @zb7 (aI @zb0 (aI @za2 (aI @za6 @gdD)))
theorem refDecode19 (b:List Ty) (o:Own) (at':Nat) (hl:b.length≤140737488355328) (ha:at'≤140737488355328):PCall Tryz.prog 19 [.slice o (rws eT b),.int .i64 at'] (.tup [.agg (eIn (decF b at').1),.int .i64 (decF b at').2]):=by
 have g0:((at':Int)<0)=False:=by simp
 refine F19.pcall' rfl fun T hT=> ?_
 simp -implicitDefEqProofs only[go_sem,c19,hT,bYfaD0]
 intro b4 b6 n1 n2
 by_cases h1:b.length<at'
 ·have q1:((b.length:Int)<at')=True:=by simp; omega
  rw[decF,if_pos h1]
  simp -implicitDefEqProofs only[go_sem,hT,n1,n2,g0,q1,bYfaD0]
  all_goals exact DLe.refl _
 have q1:((b.length:Int)<at')=False:=by simp; omega
 by_cases h2:b.length=at'
 ·have q2:((at':Int)=b.length)=True:=by simp; omega
  rw[decF,if_neg h1,if_pos h2]
  simp -implicitDefEqProofs only[go_sem,hT,n1,n2,g0,q1,q2,bYfaD0]
  all_goals exact DLe.refl _
 have q2:((at':Int)=b.length)=False:=by simp; omega
 have hlt:at'<b.length:=by omega
 have hR:(rws eT b)[at']?.getD []=eT b[at']:=rws_at hlt
 have hget:(b[at']?).getD 0=b[at']:=by rw[List.getElem?_eq_getElem hlt]; rfl
 have hd:decF b at'=if zf1 b[at'].val=0 then(ins0,40) else if b.length-at'<zf1 b[at'].val then(ins0,2) else if b[at'].val=2∧1<(decIn b at' b[at']).a then(ins0,5) else(decIn b at' b[at'],0):=by
  rw[decF,if_neg h1,if_neg h2,hget]
 rw[hd]
 clear hd hget
 generalize b[at']=op at *
 have hsz:=sizeOp_le op.val
 have hso:zf1 op.val≠0→zf1 op.val=1+(wid op.val).1+(wid op.val).2:=fun h=>by
  unfold zf1 at h ⊢; split
  ·rename_i h'; rw[if_pos h'] at h; exact absurd rfl h
  ·rfl
 have hwl:=wid_le op.val
 have wS:IntKind.wrap .i64 ((b.length:Int)-at')=(b.length:Int)-at':=zc2 (by omega) (by omega)
 have b0:(0:Int)≤at'∧(at':Int)<b.length:=by omega
 simp -implicitDefEqProofs only[go_sem,hT,zb7,zb0,za2,za6,n1,n2,g0,q1,q2,hR,eT,eT_len]
 refine⟨b0, ?_⟩
 refine za3 (refSize74 op) ?_
 by_cases h3:zf1 op.val=0
 ·have q3:((zf1 op.val:Int)=0)=True:=by simp; omega
  rw[if_pos h3]
  simp -implicitDefEqProofs only[go_sem,hT,n1,n2,q3,bYfaD0]
  all_goals exact DLe.refl _
 have q3:((zf1 op.val:Int)=0)=False:=by simp; omega
 rw[if_neg h3]
 by_cases h4:b.length-at'<zf1 op.val
 ·have q4:((b.length:Int)-at'<zf1 op.val)=True:=by simp; omega
  rw[if_pos h4]
  simp -implicitDefEqProofs only[go_sem,hT,n1,n2,q3,wS,q4,bYfaD0]
  all_goals exact DLe.refl _
 have q4:((b.length:Int)-at'<zf1 op.val)=False:=by simp; omega
 rw[if_neg h4]
 have hs:=hso h3
 have w1:IntKind.wrap .i64 ((at':Int)+1)=((at'+1:Nat):Int):=by rw[zc2 (by omega) (by omega)]; simp
 have w2:IntKind.wrap .i64 (((at'+1:Nat):Int)+(wid op.val).1)=((at'+1+(wid op.val).1:Nat):Int):=by rw[zc2 (by omega) (by omega)]; simp
 have t1:=refTake64 (b.drop (at'+1)) .no (wid op.val).1 hwl.1 (by rw[List.length_drop]; omega)
 have t2:=refTake64 (b.drop (at'+1+(wid op.val).1)) .no (wid op.val).2 (by omega) (by rw[List.length_drop]; omega)
 have b1:(0:Int)≤((at'+1:Nat):Int)∧((at'+1:Nat):Int)≤b.length:=by omega
 have b2:(0:Int)≤((at'+1+(wid op.val).1:Nat):Int)∧((at'+1+(wid op.val).1:Nat):Int)≤b.length:=by omega
 obtain⟨A,hA⟩:∃A,opdB ((b.drop (at'+1)).take (wid op.val).1)=A:=⟨_,rfl⟩
 obtain⟨B,hB⟩:∃B,opdB ((b.drop (at'+1+(wid op.val).1)).take (wid op.val).2)=B:=⟨_,rfl⟩
 have hdi:decIn b at' op=⟨at',op,A,B⟩:=by rw[decIn,hA,hB]
 rw[hdi]
 rw[hA] at t1
 rw[hB] at t2
 simp -implicitDefEqProofs only[go_sem,hT,zb7,zb0,za2,za6,n1,n2,q3,wS,q4]
 refine za3 (wide113 op) ?_
 simp -implicitDefEqProofs only[go_sem,hT,zb7,zb0,za2,za6,n1,n2,w1,w2,rws_take,rws_drop,List.take_length]
 refine⟨⟨by omega,rows_len eT_len b⟩,za3 t1 ?_⟩
 simp -implicitDefEqProofs only[go_sem,hT,zb7,zb0,za2,za6,n1,n2,w1,w2,rws_take,rws_drop,List.take_length]
 refine⟨⟨by omega,rows_len eT_len b⟩,za3 t2 ?_⟩
 have j2:(eIn ⟨at',op,A,B⟩)[2]? =some (.int .i64 A):=rfl
 simp -implicitDefEqProofs only[go_sem,hT,zb7,zb0,za2,za6,n1,n2]
 intro b11 m1 m2 m3 m4
 have hfold:[D.int .i64 at',D.int .u8 op.val,D.int .i64 A,D.int .i64 B]=eIn ⟨at',op,A,B⟩:=rfl
 by_cases h5:op.val=2
 ·have q5:((op.val:Int)=2)=True:=by simp; omega
  by_cases h6:1<A
  ·have q6:(1<A)=True:=by simp[h6]
   rw[if_pos ⟨h5,h6⟩]
   simp -implicitDefEqProofs only[go_sem,hT,n1,n2,m1,m2,m3,m4,q5,q6,hfold,j2,bYfaD1]
   all_goals exact DLe.refl _
  ·have q6:(1<A)=False:=by simp; omega
   rw[if_neg (fun h=>h6 h.2)]
   simp -implicitDefEqProofs only[go_sem,hT,n1,n2,m1,m2,m3,m4,q5,q6,hfold,j2,bYfaD1]
   all_goals exact DLe.refl _
 ·have q5:((op.val:Int)=2)=False:=by simp; omega
  rw[if_neg (fun h=>h5 h.1)]
  simp -implicitDefEqProofs only[go_sem,hT,n1,n2,m1,m2,m3,m4,q5,hfold,j2,bYfaD1]
  all_goals exact DLe.refl _
open Go.Proofs
theorem ze1 (i:Ins):(eIn i).drop 4=[]:=rfl
def bYfaE0:=aI @zb7 (aI @zb0 (aI @ze1 (aI @anD (aI @za2 (aI @za6 @zf8)))))
def bYfaE1:=aI @zb7 (aI @zb0 (aI @ze1 (aI @anD (aI @za2 (aI @za6 @eT_len)))))
def bYfaE2:=aI @zb7 (aI @zb0 (aI @ze1 (aI @anD (aI @za2 (aI @za6 @gdD)))))
theorem decode82 (b:List Ty) (o:Own) (at':Nat) (hl:b.length≤140737488355328) (ha:at'≤140737488355328):PCall Tryz.prog 82 [.slice o (rws eT b),.int .i64 at'] (.tup [.agg (eIn (decF b at').1),.int .i64 (decF b at').2]):=by
 have g0:((at':Int)<0)=False:=by simp
 refine F82.pcall' rfl fun T hT=> ?_
 simp -implicitDefEqProofs only[go_sem,c82,hT,bYfaE0]
 intro b4 b6 n1 n2
 by_cases h1:b.length<at'
 ·have q1:((b.length:Int)<at')=True:=by simp; omega
  rw[decF,if_pos h1]
  simp -implicitDefEqProofs only[go_sem,hT,n1,n2,g0,q1,bYfaE0]
  all_goals exact DLe.refl _
 have q1:((b.length:Int)<at')=False:=by simp; omega
 by_cases h2:b.length=at'
 ·have q2:((at':Int)=b.length)=True:=by simp; omega
  rw[decF,if_neg h1,if_pos h2]
  simp -implicitDefEqProofs only[go_sem,hT,n1,n2,g0,q1,q2,bYfaE0]
  all_goals exact DLe.refl _
 have q2:((at':Int)=b.length)=False:=by simp; omega
 have hlt:at'<b.length:=by omega
 have hR:(rws eT b)[at']?.getD []=eT b[at']:=rws_at hlt
 have hget:(b[at']?).getD 0=b[at']:=by rw[List.getElem?_eq_getElem hlt]; rfl
 have hd:decF b at'=if zf1 b[at'].val=0 then(ins0,40) else if b.length-at'<zf1 b[at'].val then(ins0,2) else if b[at'].val=2∧1<(decIn b at' b[at']).a then(ins0,5) else(decIn b at' b[at'],0):=by
  rw[decF,if_neg h1,if_neg h2,hget]
 rw[hd]
 clear hd hget
 generalize b[at']=op at *
 have hsz:=sizeOp_le op.val
 have hso:zf1 op.val≠0→zf1 op.val=1+(wid op.val).1+(wid op.val).2:=fun h=>by
  unfold zf1 at h ⊢; split
  ·rename_i h'; rw[if_pos h'] at h; exact absurd rfl h
  ·rfl
 have hwl:=wid_le op.val
 have wS:IntKind.wrap .i64 ((b.length:Int)-at')=(b.length:Int)-at':=zc2 (by omega) (by omega)
 have b0:(0:Int)≤at'∧(at':Int)<b.length:=by omega
 simp -implicitDefEqProofs only[go_sem,hT,n1,n2,g0,q1,q2,hR,eT,bYfaE1]
 refine⟨b0, ?_⟩
 refine za3 (size125 op) ?_
 by_cases h3:zf1 op.val=0
 ·have q3:((zf1 op.val:Int)=0)=True:=by simp; omega
  rw[if_pos h3]
  simp -implicitDefEqProofs only[go_sem,hT,n1,n2,q3,bYfaE0]
  all_goals exact DLe.refl _
 have q3:((zf1 op.val:Int)=0)=False:=by simp; omega
 rw[if_neg h3]
 by_cases h4:b.length-at'<zf1 op.val
 ·have q4:((b.length:Int)-at'<zf1 op.val)=True:=by simp; omega
  rw[if_pos h4]
  simp -implicitDefEqProofs only[go_sem,hT,n1,n2,q3,wS,hR,eT,bYfaE1]
  refine⟨b0,za3 (size125 op) ?_⟩
  simp -implicitDefEqProofs only[go_sem,hT,n1,n2,q4,bYfaE0]
  all_goals exact DLe.refl _
 have q4:((b.length:Int)-at'<zf1 op.val)=False:=by simp; omega
 rw[if_neg h4]
 have hs:=hso h3
 have w1:IntKind.wrap .i64 ((at':Int)+1)=((at'+1:Nat):Int):=by rw[zc2 (by omega) (by omega)]; simp
 have b1:(0:Int)≤((at'+1:Nat):Int)∧((at'+1:Nat):Int)≤b.length:=by omega
 obtain⟨A,hA⟩:∃A,opdB ((b.drop (at'+1)).take (wid op.val).1)=A:=⟨_,rfl⟩
 obtain⟨B,hB⟩:∃B,opdB ((b.drop (at'+1+(wid op.val).1)).take (wid op.val).2)=B:=⟨_,rfl⟩
 have hdi:decIn b at' op=⟨at',op,A,B⟩:=by rw[decIn,hA,hB]
 rw[hdi]
 have t1:=fun bb o=>take127 (b.drop (at'+1)) o (wid op.val).1 bb (wid_vals op.val).1 (by rw[List.length_drop]; omega)
 have t2:=fun bb o=>take127 (b.drop (at'+1+(wid op.val).1)) o (wid op.val).2 bb (by have:=(wid_vals op.val).2; omega) (by rw[List.length_drop]; omega)
 rw[List.drop_drop] at t1
 rw[hA] at t1
 rw[hB] at t2
 simp -implicitDefEqProofs only[go_sem,hT,n1,n2,q3,wS,hR,eT,bYfaE1]
 refine⟨b0,za3 (size125 op) ?_⟩
 simp -implicitDefEqProofs only[go_sem,hT,n1,n2,q4,hR,eT,bYfaE1]
 refine⟨b0,fun b7 m1 m2 m3 m4=> ?_⟩
 simp -implicitDefEqProofs only[go_sem,hT,zb7,zb0,ze1,anD,za2,za6,n1,n2,m1,m2,m3,m4,w1,rws_take,rws_drop,List.take_length]
 refine⟨⟨by omega,rows_len eT_len b⟩,fun b8 k1 k2 k3 k4 k5 k6=> ?_⟩
 simp -implicitDefEqProofs only[go_sem,hT,n1,n2,m1,m2,m3,m4,k1,k2,k3,k4,k5,k6,bYfaE2]
 refine za3 (widths152 op) ?_
 simp -implicitDefEqProofs only[go_sem,hT,zb7,zb0,ze1,anD,za2,za6,n1,n2,m1,m2,m3,m4,k1,k2,k3,k4,k5,k6]
 refine callB_box (b:=b8) (by simp[St.set]) rfl (t1 b8 .no) ?_
 simp -implicitDefEqProofs only[go_sem,hT,n1,n2,m1,m2,m3,m4,k1,k2,k3,k4,k5,k6,bYfaE2]
 refine callB_box (b:=b8) (by simp[St.set,k1]) rfl (t2 b8 .no) ?_
 simp -implicitDefEqProofs only[go_sem,hT,n1,n2,m1,m2,m3,m4,k1,k2,k3,k4,k5,k6,bYfaE2]
 by_cases h5:op.val=2
 ·have q5:((op.val:Int)=2)=True:=by simp; omega
  by_cases h6:1<A
  ·have q6:(1<A)=True:=by simp[h6]
   rw[if_pos ⟨h5,h6⟩]
   simp -implicitDefEqProofs only[go_sem,hT,n1,n2,m1,m2,m3,m4,k1,k2,k3,k4,k5,k6,q5,q6,bYfaE2]
   all_goals exact DLe.refl _
  ·have q6:(1<A)=False:=by simp; omega
   rw[if_neg (fun h=>h6 h.2)]
   simp -implicitDefEqProofs only[go_sem,hT,n1,n2,m1,m2,m3,m4,k1,k2,k3,k4,k5,k6,q5,q6,bYfaE2]
   all_goals exact DLe.refl _
 ·have q5:((op.val:Int)=2)=False:=by simp; omega
  rw[if_neg (fun h=>h5 h.1)]
  simp -implicitDefEqProofs only[go_sem,hT,n1,n2,m1,m2,m3,m4,k1,k2,k3,k4,k5,k6,q5,bYfaE2]
  all_goals exact DLe.refl _
open Go.Proofs
structure Ey where
 pos:Int
 dead:Bool
 fr:Fr
def eEy (e:Ey):List D:= .int .i64 e.pos:: .bool e.dead::eFr e.fr
theorem zb3 (e:Ey):(eEy e).length=28:=by simp[eEy,za5]
theorem za7 (e:Ey):(eEy e).take 28=eEy e:=List.take_of_length_le (by rw[zb3]; exact Nat.le_refl _)
theorem ey_0 (e:Ey):(eEy e)[0]? =some (.int .i64 e.pos):=rfl
theorem ey_1 (e:Ey):(eEy e)[1]? =some (.bool e.dead):=rfl
def ey0:Ey:=⟨0,false,fr0 0⟩
def bt (b:List Ty) (i:Nat):Nat:=((b[i]?).getD 0).val
def word2 (b:List Ty) (p:Nat):Nat:=256*bt b p+bt b (p+1)
def afterE (a last:Int):Nat:=if a<0∨4095<a then 5 else if a=last then 61 else if a<last then 60 else 0
def knownT (t:Ty):Bool:=decide (t.val≤5∨16≤t.val∧t.val≤47)
def headD (b:List Ty):Nat×Nat:=
 if b.length=0∨bt b 0=112∧b.length=1∨bt b 0=112∧bt b 1=118∧b.length=2 then(b.length,2)
 else if bt b 0≠112 then(0,64)
 else if bt b 1≠118 then(1,64)
 else if bt b 2≠1 then(2,64)
 else if b.length<6 then(b.length,2)
 else if 16<bt b 3 then(3,5)
 else if 4096<word2 b 4 then(4,4)
 else(0,0)
theorem known204 (t:Ty):PCall Tryz.prog 204 [.int .u8 t.val] (.bool (knownT t)):=by
 refine F204.pcall' rfl fun T hT=> ?_
 by_cases h1:t.val≤5
 ·have q1:((t.val:Int)≤5)=True:=by simp; omega
  simp -implicitDefEqProofs only[go_sem,c204,hT,q1]
  exact zf3 (by simp[knownT,h1])
 have q1:((t.val:Int)≤5)=False:=by simp; omega
 by_cases h2:16≤t.val
 ·have q2:((16:Int)≤t.val)=True:=by simp; omega
  simp -implicitDefEqProofs only[go_sem,c204,hT,q1,q2]
  exact zf3 (by simp only[knownT,decide_eq_decide]; omega)
 ·have q2:((16:Int)≤t.val)=False:=by simp; omega
  simp -implicitDefEqProofs only[go_sem,c204,hT,q1,q2]
  exact zf3 (by simp only[knownT]; rw[decide_eq_false (by omega)])
theorem isCode149 (t:Ty):PCall Tryz.prog 149 [.int .u8 t.val] (.bool (knownT t)):=by
 refine F149.pcall' rfl fun T hT=> ?_
 by_cases h1:t.val≤5
 ·have q1:((t.val:Int)≤5)=True:=by simp; omega
  simp -implicitDefEqProofs only[go_sem,c149,hT,q1]
  exact zf3 (by simp[knownT,h1])
 have q1:((t.val:Int)≤5)=False:=by simp; omega
 by_cases h2:16≤t.val
 ·have q2:((16:Int)≤t.val)=True:=by simp; omega
  simp -implicitDefEqProofs only[go_sem,c149,hT,q1,q2]
  exact zf3 (by simp only[knownT,decide_eq_decide]; omega)
 ·have q2:((16:Int)≤t.val)=False:=by simp; omega
  simp -implicitDefEqProofs only[go_sem,c149,hT,q1,q2]
  exact zf3 (by simp only[knownT]; rw[decide_eq_false (by omega)])
theorem rises165 (last a:Int):PCall Tryz.prog 165 [.int .i64 last,.int .i64 a] (.int .i64 (afterE a last)):=by
 refine F165.pcall' rfl fun T hT=> ?_
 by_cases h1:a<0
 ·rw[afterE,if_pos (Or.inl h1)]
  simp -implicitDefEqProofs only[go_sem,c165,hT,h1]
  all_goals exact DLe.refl _
 by_cases h2:4095<a
 ·have q2:((4096:Int)≤a)=True:=by simp; omega
  rw[afterE,if_pos (Or.inr h2)]
  simp -implicitDefEqProofs only[go_sem,c165,hT,h1,q2]
  all_goals exact DLe.refl _
 have q2:((4096:Int)≤a)=False:=by simp; omega
 rw[afterE,if_neg (by omega)]
 by_cases h3:a=last
 ·rw[if_pos h3]
  subst h3
  simp -implicitDefEqProofs only[go_sem,c165,hT,h1,q2]
  all_goals exact DLe.refl _
 rw[if_neg h3]
 by_cases h4:a<last
 ·rw[if_pos h4]
  simp -implicitDefEqProofs only[go_sem,c165,hT,h1,q2,h3,h4]
  all_goals exact DLe.refl _
 ·rw[if_neg h4]
  simp -implicitDefEqProofs only[go_sem,c165,hT,h1,q2,h3,h4]
  all_goals exact DLe.refl _
theorem after108 (last a:Int):PCall Tryz.prog 108 [.int .i64 a,.int .i64 last] (.int .i64 (afterE a last)):=by
 refine F108.pcall' rfl fun T hT=> ?_
 by_cases h1:a<0
 ·rw[afterE,if_pos (Or.inl h1)]
  simp -implicitDefEqProofs only[go_sem,c108,hT,h1]
  all_goals exact DLe.refl _
 by_cases h2:4095<a
 ·have q2:((4095:Int)<a)=True:=by simp; omega
  rw[afterE,if_pos (Or.inr h2)]
  simp -implicitDefEqProofs only[go_sem,c108,hT,h1,q2]
  all_goals exact DLe.refl _
 have q2:((4095:Int)<a)=False:=by simp; omega
 rw[afterE,if_neg (by omega)]
 by_cases h3:a=last
 ·rw[if_pos h3]
  subst h3
  simp -implicitDefEqProofs only[go_sem,c108,hT,h1,q2]
  all_goals exact DLe.refl _
 rw[if_neg h3]
 by_cases h4:a<last
 ·rw[if_pos h4]
  simp -implicitDefEqProofs only[go_sem,c108,hT,h1,q2,h3,h4]
  all_goals exact DLe.refl _
 ·rw[if_neg h4]
  simp -implicitDefEqProofs only[go_sem,c108,hT,h1,q2,h3,h4]
  all_goals exact DLe.refl _
open Go.Proofs
open Go.Proofs
theorem ey_zero:[D.int .i64 0,D.bool false,D.int .i64 0,D.int .i64 0,D.int .u8 0,D.int .u8 0,D.int .u8 0,D.int .u8 0,D.int .u8 0,D.int .u8 0,D.int .u8 0,D.int .u8 0,D.int .u8 0,D.int .u8 0,D.int .u8 0,D.int .u8 0,D.int .u8 0,D.int .u8 0,D.int .u8 0,D.int .u8 0,D.int .u8 0,D.int .u8 0,D.int .u8 0,D.int .u8 0,D.int .u8 0,D.int .u8 0,D.int .u8 0,D.int .u8 0]=eEy ey0:=rfl
theorem ey_dead (z:Int):[D.int .i64 z,D.bool true,D.int .i64 0,D.int .i64 0,D.int .u8 0,D.int .u8 0,D.int .u8 0,D.int .u8 0,D.int .u8 0,D.int .u8 0,D.int .u8 0,D.int .u8 0,D.int .u8 0,D.int .u8 0,D.int .u8 0,D.int .u8 0,D.int .u8 0,D.int .u8 0,D.int .u8 0,D.int .u8 0,D.int .u8 0,D.int .u8 0,D.int .u8 0,D.int .u8 0,D.int .u8 0,D.int .u8 0,D.int .u8 0,D.int .u8 0]=eEy ⟨z,true,fr0 0⟩:=rfl
open Go.Proofs
theorem eEy_frz (e:Ey):(eEy e).map frz=eEy e:=by simp[eEy,eFr,frz]
open Go.Proofs
theorem zc1 {r o:Nat}:nilcD (.ptr r o)=some (.ptr r o):=rfl
theorem ey_2 (e:Ey):(eEy e)[2]? =some (.int .i64 e.fr.loc):=rfl
theorem ey_3 (e:Ey):(eEy e)[3]? =some (.int .i64 e.fr.h):=rfl
open Go.Proofs
open Go.Proofs
end Go.AL
namespace Go.AL
def findE (l:List Ey) (a:Int):Option Ey:=l.find? fun x=>decide (x.pos=a)
def psOf (e:En):List Ty:=((e.sgs[e.fn.toNat]?).map (·.ps)).getD []
def Rise (l:List Ey):Prop:=l.Pairwise fun x y=>x.pos<y.pos
theorem rise_cons {x:Ey} {r:List Ey} (h:Rise (x::r)):(∀y∈r,x.pos<y.pos)∧Rise r:=List.pairwise_cons.1 h
end Go.AL
namespace Go.AL
theorem decF_ok {b:List Ty} {p:Nat} (h:(decF b p).2=0):p<b.length∧(decF b p).1=decIn b p ((b[p]?).getD 0)∧1≤zf1 (decF b p).1.op.val∧p+zf1 (decF b p).1.op.val≤b.length:=by
 unfold decF at h ⊢
 split; · rename_i h1; rw[if_pos h1] at h; simp at h
 rename_i h1; rw[if_neg h1] at h
 split; · rename_i h2; rw[if_pos h2] at h; simp at h
 rename_i h2; rw[if_neg h2] at h
 split; · rename_i h3; rw[if_pos h3] at h; simp at h
 rename_i h3; rw[if_neg h3] at h
 split; · rename_i h4; rw[if_pos h4] at h; simp at h
 rename_i h4; rw[if_neg h4] at h
 split; · rename_i h5; rw[if_pos h5] at h; simp at h
 refine⟨by omega,rfl, ?_, ?_⟩
 ·show 1≤zf1 ((b[p]?).getD 0).val; omega
 ·show p+zf1 ((b[p]?).getD 0).val≤b.length; omega
open Go.Proofs
structure IS where
 has:List Bool
 fr:List Fr
 fresh:List Bool
 tk:List Nat
def onD (i:Ins) (n:Nat):List Int×Nat:=
 let behind:Int:=i.pos+zf1 i.op.val
 if jumpsB i.op.val=true∧(n:Int)≤i.a then([],50)
 else if endsB i.op.val=false∧behind=n then([],51)
 else((if jumpsB i.op.val=true∧(endsB i.op.val=true∨i.a<behind) then [i.a] else [])++(if endsB i.op.val=false then [behind] else [])++
  (if jumpsB i.op.val=true∧endsB i.op.val=false∧behind<i.a then [i.a] else []),0)
def overB (tk:List Nat) (a size:Nat):Bool:=(List.range tk.length).any fun x=>decide (0<(tk[x]?).getD 0∧x≠a∧a<x+(tk[x]?).getD 0∧x<a+size)
def handD (l:List Cl) (s:IS) (a:Nat) (f:Fr):IS×Nat:=
 if(s.has[a]?).getD false=false then(⟨s.has.set a true,s.fr.set a f,s.fresh.set a true,s.tk⟩,0)
 else if(mergeF l ((s.fr[a]?).getD (fr0 0)) f).2≠0 then(s,(mergeF l ((s.fr[a]?).getD (fr0 0)) f).2)
 else if(mergeF l ((s.fr[a]?).getD (fr0 0)) f).1≠(s.fr[a]?).getD (fr0 0) then(⟨s.has,s.fr.set a (mergeF l ((s.fr[a]?).getD (fr0 0)) f).1,s.fresh.set a true,s.tk⟩,0)
 else(s,0)
def handsD (l:List Cl) (f:Fr):List Int→IS→IS×Int×Nat
 |[],s=>(s,0,0)
 |a::r,s=>if(handD l s a.toNat f).2≠0 then((handD l s a.toNat f).1,a,(handD l s a.toNat f).2) else handsD l f r (handD l s a.toNat f).1
def roundD (e:En) (b:List Ty) (s:IS) (a:Nat):IS×Int×Nat:=
 let s1:IS:={s with fresh:=s.fresh.set a false}
 if a=b.length then(s1,a,51)
 else if(decF b a).2≠0 then(s1,a,(decF b a).2)
 else if overB s.tk a (zf1 (decF b a).1.op.val)=true then(s1,a,80)
 else
  let s2:IS:={s1 with tk:=s.tk.set a (zf1 (decF b a).1.op.val)}
  if(applyR e ((s.fr[a]?).getD (fr0 0)) (decF b a).1).2≠0 then(s2,a,(applyR e ((s.fr[a]?).getD (fr0 0)) (decF b a).1).2)
  else if(onD (decF b a).1 b.length).2≠0 then(s2,a,(onD (decF b a).1 b.length).2)
  else handsD e.cs (applyR e ((s.fr[a]?).getD (fr0 0)) (decF b a).1).1 (onD (decF b a).1 b.length).1 s2
def leastD (l:List Bool):Int:=match l.findIdx? id with|some i=>i|none=> -1
open Go.Proofs
def c68:CT (Tryz.f68.body.getD .skip):=⟨_,by conv=>lhs; cbv⟩
theorem F68:Fun1 Tryz.prog 68 17 c68.1 [.tmp 2]:=mkT Tryz.func68 rfl (by decide +kernel) Tryz.ntmps68 rfl c68.2 rfl
def c69:CT (Tryz.f69.body.getD .skip):=⟨_,by conv=>lhs; cbv⟩
theorem F69:Fun1 Tryz.prog 69 97 c69.1 [.tmp 8,.tmp 9]:=mkT Tryz.func69 rfl (by decide +kernel) Tryz.ntmps69 rfl c69.2 rfl
def c111:CT (Tryz.f111.body.getD .skip):=⟨_,by conv=>lhs; cbv⟩
theorem F111:Fun1 Tryz.prog 111 44 c111.1 [.tmp 6]:=mkT Tryz.func111 rfl (by decide +kernel) Tryz.ntmps111 rfl c111.2 rfl
def c112:CT (Tryz.f112.body.getD .skip):=⟨_,by conv=>lhs; cbv⟩
theorem F112:Fun1 Tryz.prog 112 73 c112.1 [.tmp 4,.tmp 5]:=mkT Tryz.func112 rfl (by decide +kernel) Tryz.ntmps112 rfl c112.2 rfl
def c113:AC:=
.seq (rg [oO 4 (.box 126 (tT 0)),oO 7 (.box 84 (tT 3)),oO 8 (.assign (kI 0))])
 (.seq (.seq (rg [oO 11 (.fieldAddr 126 (tT 4) 0),oO 12 (.load 123 (tT 11)),oO 13 (.move (tT 2)),oO 14 (.indexAddr 123 (tT 12) (tT 13)),oO 15 (.load 4 (tT 14)),oO 16 (.unOp .not 4 (tT 15))])
 (.cond (tT 16) (.seq (.seq (.reg true [4,7] [⟨⟨some 17,.fieldAddr 126 (tT 4) 0,none⟩,false,true⟩,⟨⟨some 18,.load 123 (tT 17),none⟩,false,true⟩,⟨⟨some 19,.move (tT 2),none⟩,false,true⟩,⟨⟨some 20,.fieldAddr 126 (tT 4) 1,none⟩,true,true⟩,⟨⟨some 21,.load 124 (tT 20),none⟩,true,true⟩,⟨⟨some 22,.move (tT 2),none⟩,true,true⟩,⟨⟨some 23,.fieldAddr 126 (tT 4) 2,none⟩,true,true⟩,⟨⟨some 24,.load 123 (tT 23),none⟩,true,true⟩,⟨⟨some 25,.move (tT 2),none⟩,true,true⟩,⟨⟨some 26,.load 84 (tT 7),none⟩,true,true⟩,oO 27 (.indexAddr 123 (tT 18) (tT 19)),oN (.store 4 (tT 27) (.const (.bool true))),oO 28 (.indexAddr 124 (tT 21) (tT 22)),oN (.store 84 (tT 28) (tT 26))])
 (rg [oO 29 (.indexAddr 123 (tT 24) (tT 25)),oN (.store 4 (tT 29) (.const (.bool true)))]))
 (.seq (rg [oO 8 (.assign (kI 0))])
 (.ret)))
 (.skip)))
 (.seq (.reg true [] [⟨⟨some 31,.move (tT 1),none⟩,false,true⟩,⟨⟨some 32,.fieldAddr 126 (tT 4) 1,none⟩,false,true⟩,⟨⟨some 33,.load 124 (tT 32),none⟩,false,true⟩,⟨⟨some 34,.move (tT 2),none⟩,false,true⟩,⟨⟨some 35,.indexAddr 124 (tT 33) (tT 34),none⟩,false,true⟩,⟨⟨some 36,.load 84 (tT 35),none⟩,false,true⟩,⟨⟨some 37,.load 84 (tT 7),none⟩,false,true⟩,⟨⟨some 38,cF (.func 151) #[tT 31,tT 36,tT 37] #[22,84,84],none⟩,false,true⟩,⟨⟨some 30,.move (tT 38),none⟩,false,true⟩,⟨⟨some 39,.extract (tT 30) 0,none⟩,false,true⟩,⟨⟨some 40,.extract (tT 30) 1,none⟩,true,true⟩,⟨⟨some 9,.alloc 84,none⟩,true,false⟩,oN (.store 84 (tT 9) (tT 39)),oO 10 (.assign (tT 40))])
 (.seq (.seq (rg [oO 41 (.move (tT 10)),oO 42 (.binOp .neq 32 (tT 41) (kI 0) 32)])
 (.cond (tT 42) (.seq (rg [oO 43 (.move (tT 10)),oO 8 (.assign (tT 43))])
 (.ret))
 (.skip)))
 (.seq (.seq (.reg true [] [⟨⟨some 44,.load 84 (tT 9),none⟩,false,true⟩,⟨⟨some 45,.fieldAddr 126 (tT 4) 1,none⟩,false,true⟩,⟨⟨some 46,.load 124 (tT 45),none⟩,false,true⟩,oO 47 (.move (tT 2)),oO 48 (.indexAddr 124 (tT 46) (tT 47)),oO 49 (.load 84 (tT 48)),oO 50 (.binOp .neq 84 (tT 44) (tT 49) 84)])
 (.cond (tT 50) (.seq (.reg true [4] [⟨⟨some 51,.fieldAddr 126 (tT 4) 1,none⟩,false,true⟩,⟨⟨some 52,.load 124 (tT 51),none⟩,false,true⟩,⟨⟨some 53,.move (tT 2),none⟩,false,true⟩,⟨⟨some 54,.fieldAddr 126 (tT 4) 2,none⟩,true,true⟩,⟨⟨some 55,.load 123 (tT 54),none⟩,true,true⟩,⟨⟨some 56,.move (tT 2),none⟩,true,true⟩,oO 57 (.load 84 (tT 9)),oO 58 (.indexAddr 124 (tT 52) (tT 53)),oN (.store 84 (tT 58) (tT 57))])
 (rg [oO 59 (.indexAddr 123 (tT 55) (tT 56)),oN (.store 4 (tT 59) (.const (.bool true)))]))
 (.skip)))
 (.seq (rg [oO 8 (.assign (kI 0))])
 .ret)))))
theorem F113:Fun1 Tryz.prog 113 60 c113 [.tmp 8]:=mkT Tryz.func113 rfl (by decide +kernel) Tryz.ntmps113 rfl (by kernel_rfl) rfl
open Go.Proofs
def eN (n:Nat):List D:=[.int .i64 n]
open Go.Proofs
def fl {α:Type} (enc:α→List D) (xs:List α):List D:=(rws enc xs).flatten
section
variable {α : Type} {enc : α → List D} {s : Nat}
theorem fl_nil:fl enc []=[]:=rfl
theorem fl_cons (x:α) (xs:List α):fl enc (x::xs)=enc x++fl enc xs:=rfl
theorem fl_app (xs ys:List α):fl enc (xs++ys)=fl enc xs++fl enc ys:=by simp[fl,rws]
theorem fl_len (h:∀x,(enc x).length=s):∀xs:List α,(fl enc xs).length=xs.length*s
 |[]=>by simp[fl_nil]
 |x::xs=>by rw[fl_cons,List.length_append,h,fl_len h xs,List.length_cons,Nat.add_mul,Nat.one_mul,Nat.add_comm]
theorem fl_parts (h:∀x,(enc x).length=s) {xs:List α} {i:Nat} (hi:i<xs.length):fl enc xs=fl enc (xs.take i)++(enc xs[i]++fl enc (xs.drop (i+1)))∧(fl enc (xs.take i)).length=i*s:=by
 refine⟨?_,by rw[fl_len h,List.length_take,Nat.min_eq_left (by omega)]⟩
 rw[←fl_cons,←fl_app]
 congr 1
 rw[List.getElem_cons_drop,List.take_append_drop]
theorem fl_at (h:∀x,(enc x).length=s) {xs:List α} {i:Nat} (hi:i<xs.length):((fl enc xs).drop (i*s)).take s=enc xs[i]:=by
 obtain⟨h1,h2⟩:=fl_parts h hi
 rw[h1,List.drop_left' h2,List.take_left' (h _)]
theorem fl_set (h:∀x,(enc x).length=s) {xs:List α} {i:Nat} (hi:i<xs.length) (y:α):(fl enc xs).take (i*s)++enc y++(fl enc xs).drop (i*s+s)=fl enc (xs.set i y):=by
 obtain⟨h1,h2⟩:=fl_parts h hi
 have h3:(fl enc xs).take (i*s)=fl enc (xs.take i):=by rw[h1,List.take_left' h2]
 have h4:(fl enc xs).drop (i*s+s)=fl enc (xs.drop (i+1)):=by rw[h1,←List.drop_drop,List.drop_left' h2,List.drop_left' (h _)]
 rw[h3,h4,List.append_assoc,←fl_cons,←fl_app,List.set_eq_take_append_cons_drop,if_pos hi]
end
def eBo (b:Bool):List D:=[.bool b]
theorem fl_bo (xs:List Bool):fl eBo xs=xs.map .bool:=by induction xs with|nil=>rfl|cons x xs ih=>rw[fl_cons,ih]; rfl
theorem fl_boAt {xs:List Bool} {i:Nat} (h:i<xs.length):(fl eBo xs)[i]? =some (.bool ((xs[i]?).getD false)):=by
 rw[fl_bo,List.getElem?_map,List.getElem?_eq_getElem h]; rfl
theorem fl_eN (xs:List Nat):fl eN xs=xs.map fun n:Nat=>D.int .i64 n:=by induction xs with|nil=>rfl|cons x xs ih=>rw[fl_cons,ih]; rfl
theorem fl_eNAt {xs:List Nat} {i:Nat} (h:i<xs.length):(fl eN xs)[i]? =some (.int .i64 (((xs[i]?).getD 0:Nat):Int)):=by
 rw[fl_eN,List.getElem?_map,List.getElem?_eq_getElem h]; rfl
structure QB where
 a:Nat
 b:Nat
 c:Nat
 d:Nat
structure QB.ne (q:QB):Prop where
 ab:q.a≠q.b
 ac:q.a≠q.c
 ad:q.a≠q.d
 bc:q.b≠q.c
 bd:q.b≠q.d
 cd:q.c≠q.d
def stD (q:QB) (m:Nat):List D:=[.bsl q.a 0 m m,.bsl q.b 0 m m,.bsl q.c 0 m m,.bsl q.d 0 m m]
def stI (q:QB) (s:IS):St:=(((({}:St).set q.a (fl eBo s.has)).set q.b (fl eFr s.fr)).set q.c (fl eBo s.fresh)).set q.d (fl eN s.tk)
section
variable {q : QB} {s : IS}
theorem stI_a (h:q.ne):(stI q s).box q.a=some (fl eBo s.has):=by simp[stI,St.set,h.ab,h.ac,h.ad]
theorem stI_b (h:q.ne):(stI q s).box q.b=some (fl eFr s.fr):=by simp[stI,St.set,h.bc,h.bd]
theorem stI_c (h:q.ne):(stI q s).box q.c=some (fl eBo s.fresh):=by simp[stI,St.set,h.cd]
theorem stI_d:(stI q s).box q.d=some (fl eN s.tk):=by simp[stI,St.set]
theorem stI_has {x:Nat}:(stI q s).has x↔x=q.a∨x=q.b∨x=q.c∨x=q.d:=by
 simp only[stI,set_has]
 have:=St.not_has_nil x
 constructor
 ·rintro(h|h|h|h|h)
  ·exact .inr (.inr (.inr h))
  ·exact .inr (.inr (.inl h))
  ·exact .inr (.inl h)
  ·exact .inl h
  ·exact absurd h this
 ·rintro(h|h|h|h)
  ·exact .inr (.inr (.inr (.inl h)))
  ·exact .inr (.inr (.inl h))
  ·exact .inr (.inl h)
  ·exact .inl h
theorem stI_ne {x:Nat} (h:¬(stI q s).has x):¬x=q.a∧¬x=q.b∧¬x=q.c∧¬x=q.d:=
 ⟨fun e=>h (stI_has.2 (.inl e)),fun e=>h (stI_has.2 (.inr (.inl e))),fun e=>h (stI_has.2 (.inr (.inr (.inl e)))),fun e=>h (stI_has.2 (.inr (.inr (.inr e))))⟩
end
structure IS.sz (s:IS) (m:Nat):Prop where
 a:s.has.length=m
 b:s.fr.length=m
 c:s.fresh.length=m
 d:s.tk.length=m
theorem least_at {l:List Bool} {k:Nat} (h:k<l.length) (hk:(l[k]?).getD false=true) (hb:∀j<k,(l[j]?).getD false=false):leastD l=k:=by
 unfold leastD
 have:l.findIdx? id=some k:=by
  rw[List.findIdx?_eq_some_iff_getElem]
  refine⟨h,by simpa[h] using hk,fun j hj=> ?_⟩
  have:=hb j hj
  rw[List.getElem?_eq_getElem (by omega)] at this
  simpa using this
 rw[this]
theorem least_no {l:List Bool} (hb:∀j<l.length,(l[j]?).getD false=false):leastD l= -1:=by
 unfold leastD
 have:l.findIdx? id=none:=by
  rw[List.findIdx?_eq_none_iff]
  intro x hx
  obtain⟨j,hj,rfl⟩:=List.mem_iff_getElem.1 hx
  have:=hb j hj
  rw[List.getElem?_eq_getElem hj] at this
  simpa using this
 rw[this]
theorem least68 (q:QB) (h:q.ne) (s:IS) (m:Nat) (hs:s.sz m) (hm:m≤5000):RCall Tryz.prog 68 [.agg (stD q m)] (stI q s) fun d s'=>d= .int .i64 (leastD s.fresh)∧s'=stI q s:=by
 have kc:=stI_c (s:=s) h
 refine F68.rcall rfl fun T hT=> ?_
 simp -implicitDefEqProofs only[go_sem,c68,hT,stD]
 intro b1 hb1
 obtain⟨n1,n2,n3,n4⟩:=stI_ne hb1
 have k1:((stI q s).set b1 [.bsl q.a 0 m m,.bsl q.b 0 m m,.bsl q.c 0 m m,.bsl q.d 0 m m]).box q.c=some (fl eBo s.fresh):=by rw[St.set_box,if_neg (Ne.symm n3)]; exact kc
 refine loopL F68 (fun i:Nat=>[(1,.ptr b1 0),(3,.int .i64 i)]) (fun _=>(stI q s).set b1 [.bsl q.a 0 m m,.bsl q.b 0 m m,.bsl q.c 0 m m,.bsl q.d 0 m m]) (fun i=>i≤m∧∀j<i,(s.fresh[j]?).getD false=false) (fun i=>m-i) 0 ⟨by omega,by omega⟩ ?_ (St.le.refl _) ?_
 ·simp -implicitDefEqProofs only[go_sem,hT,Int.ofNat_zero]
 clear hT T
 intro i ⟨hi,hl⟩ T hT
 by_cases h1:i<m
 ·have h2:((i:Int)<m)=True:=eq_true (by omega)
  have hx:=fl_boAt (xs:=s.fresh) (i:=i) (by rw[hs.c]; exact h1)
  have hnext:IntKind.wrap .i64 ((i:Int)+1)=((i+1:Nat):Int):=by rw[zc2 (by omega) (by omega)]; simp
  cases hf:(s.fresh[i]?).getD false
  ·simp -implicitDefEqProofs only[go_sem,hT,h2,k1,hx,hf,hnext,n1,n2,n3,n4,Ne.symm n1,Ne.symm n2,Ne.symm n3,Ne.symm n4,gdD,Nat.mul_one,Nat.add_zero,Nat.zero_add]
   refine⟨by omega,i+1,⟨by omega,fun j hj=> ?_⟩,by omega,rfl,St.le.refl _⟩
   rcases Nat.lt_succ_iff_lt_or_eq.1 hj with h|rfl
   ·exact hl j h
   ·exact hf
  ·simp -implicitDefEqProofs only[go_sem,hT,h2,k1,hx,hf,hnext,n1,n2,n3,n4,Ne.symm n1,Ne.symm n2,Ne.symm n3,Ne.symm n4,gdD,Nat.mul_one,Nat.add_zero,Nat.zero_add]
   exact⟨by omega,_,_,DLe.refl _,le_add hb1,by rw[least_at (by rw[hs.c]; exact h1) hf hl],rfl⟩
 ·have h2:((i:Int)<m)=False:=eq_false (by omega)
  simp -implicitDefEqProofs only[go_sem,hT,h2,k1,n1,n2,n3,n4,Ne.symm n1,Ne.symm n2,Ne.symm n3,Ne.symm n4]
  exact⟨_,_,DLe.refl _,le_add hb1,by rw[least_no (fun j hj=>hl j (by rw[hs.c] at hj; omega))],rfl⟩
open Go.Proofs
def overAt (tk:List Nat) (a size x:Nat):Bool:=decide (0<(tk[x]?).getD 0∧x≠a∧a<x+(tk[x]?).getD 0∧x<a+size)
theorem over_yes {tk:List Nat} {a size x:Nat} (hx:x<tk.length) (h:overAt tk a size x=true):overB tk a size=true:=by
 unfold overB
 exact List.any_eq_true.2 ⟨x,List.mem_range.2 hx,h⟩
theorem over_no {tk:List Nat} {a size:Nat} (h:∀x<tk.length,overAt tk a size x=false):overB tk a size=false:=by
 unfold overB
 rw[List.any_eq_false]
 intro x hx
 rw[Bool.not_eq_true]
 exact h x (List.mem_range.1 hx)
theorem overlaps111 (q:QB) (h:q.ne) (s:IS) (m:Nat) (hs:s.sz m) (hm:m≤5000) (a size:Nat) (ha:a≤5000) (hz:size≤5000) (ht:∀x<m,(s.tk[x]?).getD 0≤5000):
  RCall Tryz.prog 111 [.agg (stD q m),.int .i64 a,.int .i64 size] (stI q s) fun d s'=>d= .bool (overB s.tk a size)∧s'=stI q s:=by
 have kc:=stI_d (q:=q) (s:=s)
 refine F111.rcall rfl fun T hT=> ?_
 simp -implicitDefEqProofs only[go_sem,c111,hT,stD]
 intro b1 hb1
 obtain⟨n1,n2,n3,n4⟩:=stI_ne hb1
 have k1:((stI q s).set b1 [.bsl q.a 0 m m,.bsl q.b 0 m m,.bsl q.c 0 m m,.bsl q.d 0 m m]).box q.d=some (fl eN s.tk):=by rw[St.set_box,if_neg (Ne.symm n4)]; exact kc
 refine loopL F111 (fun i:Nat=>[(1,.int .i64 a),(2,.int .i64 size),(3,.ptr b1 0),(7,.int .i64 i)]) (fun _=>(stI q s).set b1 [.bsl q.a 0 m m,.bsl q.b 0 m m,.bsl q.c 0 m m,.bsl q.d 0 m m]) (fun i=>i≤m∧∀j<i,overAt s.tk a size j=false) (fun i=>m-i) 0 ⟨by omega,by omega⟩ ?_ (St.le.refl _) ?_
 ·simp -implicitDefEqProofs only[go_sem,hT,Int.ofNat_zero]
 clear hT T
 intro i ⟨hi,hl⟩ T hT
 by_cases h1:i<m
 ·have h2:((i:Int)<m)=True:=eq_true (by omega)
  have hx:=fl_eNAt (xs:=s.tk) (i:=i) (by rw[hs.d]; exact h1)
  have hti:=ht i h1
  generalize htx:(s.tk[i]?).getD 0=z at *
  have w1:IntKind.wrap .i64 ((i:Int)+z)=(i:Int)+z:=zc2 (by omega) (by omega)
  have w2:IntKind.wrap .i64 ((a:Int)+size)=(a:Int)+size:=zc2 (by omega) (by omega)
  have hnext:IntKind.wrap .i64 ((i:Int)+1)=((i+1:Nat):Int):=by rw[zc2 (by omega) (by omega)]; simp
  simp -implicitDefEqProofs only[go_sem,mmB,hT,h2,k1,hx,w1,w2,hnext,n1,n2,n3,n4,Ne.symm n1,Ne.symm n2,Ne.symm n3,Ne.symm n4,gdD,Nat.mul_one,Nat.add_zero,Nat.zero_add]
  refine⟨by omega, ?_, ?_⟩
  ·intro _; omega
  rw[show(decide ((0:Int)<z)&& !decide ((i:Int)=a)&&decide ((a:Int)<i+z)&&decide ((i:Int)<a+size))=overAt s.tk a size i by
   unfold overAt; rw[htx,Bool.eq_iff_iff]; simp; omega]
  cases hc:overAt s.tk a size i
  ·simp -implicitDefEqProofs only[go_sem,hT,hnext]
   refine⟨i+1,⟨by omega,fun j hj=> ?_⟩,by omega,rfl,St.le.refl _⟩
   rcases Nat.lt_succ_iff_lt_or_eq.1 hj with h|rfl
   ·exact hl j h
   ·exact hc
  ·simp -implicitDefEqProofs only[go_sem,hT]
   exact⟨_,_,DLe.refl _,le_add hb1,by rw[over_yes (by rw[hs.d]; exact h1) hc],rfl⟩
 ·have h2:((i:Int)<m)=False:=eq_false (by omega)
  simp -implicitDefEqProofs only[go_sem,mmB,hT,h2,k1,n1,n2,n3,n4,Ne.symm n1,Ne.symm n2,Ne.symm n3,Ne.symm n4]
  exact⟨_,_,DLe.refl _,le_add hb1,by rw[over_no (fun j hj=>hl j (by rw[hs.d] at hj; omega))],rfl⟩
theorem on112 (i:Ins) (n:Nat) (hp:0≤i.pos∧i.pos≤5000):PCall Tryz.prog 112 [.agg (eIn i),.int .i64 n] (.tup [.slice .no (rws eI (onD i n).1),.int .i64 (onD i n).2]):=by
 have hsz:=sizeOp_le i.op.val
 have w1:IntKind.wrap .i64 (i.pos+(zf1 i.op.val:Int))=i.pos+zf1 i.op.val:=zc2 (by omega) (by omega)
 refine F112.pcall' rfl fun T hT=> ?_
 simp -implicitDefEqProofs only[go_sem,mmB,c112,hT,eIn]
 intro b2
 refine⟨fun _ h=>h,za3 (refSize74 i.op) ?_⟩
 simp -implicitDefEqProofs only[go_sem,mmB,hT,w1]
 refine za3 (refJumps22 i.op) ?_
 simp -implicitDefEqProofs only[go_sem,mmB,hT]
 refine za3 (refEnds41 i.op) ?_
 by_cases ht:jumpsB i.op.val=true∧(n:Int)≤i.a
 ·obtain⟨hj,hn⟩:=ht
  have h1:((n:Int)≤i.a)=True:=eq_true hn
  rw[show onD i n=([],50) by rw[onD,if_pos ⟨hj,hn⟩]]
  simp -implicitDefEqProofs only[go_sem,mmB,hT,hj,h1]
  exact DLe.tup (.cons (DLe.slice _ _) (.cons (DLe.refl _) .nil))
 have h0:(jumpsB i.op.val&&decide ((n:Int)≤i.a))=false:=by rw[Bool.eq_false_iff]; simpa using ht
 by_cases hf:endsB i.op.val=false∧i.pos+(zf1 i.op.val:Int)=n
 ·obtain⟨hj,hn⟩:=hf
  rw[show onD i n=([],51) by rw[onD,if_neg ht,if_pos ⟨hj,hn⟩]]
  have h1:(i.pos+(zf1 i.op.val:Int)=n)=True:=eq_true hn
  simp -implicitDefEqProofs only[go_sem,mmB,hT,h0,hj,h1]
  exact DLe.tup (.cons (DLe.slice _ _) (.cons (DLe.refl _) .nil))
 cases hj:jumpsB i.op.val <;> cases he:endsB i.op.val
 ·have h1:(i.pos+(zf1 i.op.val:Int)=n)=False:=eq_false fun h=>hf ⟨he,h⟩
  rw[show onD i n=([i.pos+(zf1 i.op.val:Int)],0) by rw[onD,if_neg ht,if_neg hf,hj,he]; simp]
  simp -implicitDefEqProofs only[go_sem,mmB,hT,hj,he,h1,frz]
  exact⟨fun r h=>by rw[h]; rfl,fun _ _ _=>DLe.tup (.cons (DLe.slice _ _) (.cons (DLe.refl _) .nil))⟩
 ·rw[show onD i n=([],0) by rw[onD,if_neg ht,if_neg hf,hj,he]; simp]
  simp -implicitDefEqProofs only[go_sem,mmB,hT,hj,he]
  exact DLe.tup (.cons (DLe.slice _ _) (.cons (DLe.refl _) .nil))
 ·have h1:((n:Int)≤i.a)=False:=eq_false fun h=>ht ⟨hj,h⟩
  have h2:(i.pos+(zf1 i.op.val:Int)=n)=False:=eq_false fun h=>hf ⟨he,h⟩
  have hD:onD i n=((if i.a<i.pos+(zf1 i.op.val:Int) then [i.a] else [])++[i.pos+(zf1 i.op.val:Int)]++(if i.pos+(zf1 i.op.val:Int)<i.a then [i.a] else []),0):=by
   rw[onD,if_neg ht,if_neg hf,hj,he]; simp
  rw[hD]
  by_cases c1:i.a<i.pos+(zf1 i.op.val:Int)
  ·rw[if_pos c1,if_neg (by omega)]
   have d1:(i.a<i.pos+(zf1 i.op.val:Int))=True:=eq_true c1
   have d2:(i.pos+(zf1 i.op.val:Int)<i.a)=False:=eq_false (by omega)
   simp -implicitDefEqProofs only[go_sem,mmB,hT,hj,he,h1,h2,d1,frz,d2]
   exact⟨fun r h=>by rw[h]; rfl,fun _ _ _=>⟨fun r h=>by rw[h]; rfl,fun _ _ _=>DLe.tup (.cons (DLe.slice _ _) (.cons (DLe.refl _) .nil))⟩⟩
  by_cases c2:i.pos+(zf1 i.op.val:Int)<i.a
  ·rw[if_neg c1,if_pos c2]
   have d1:(i.a<i.pos+(zf1 i.op.val:Int))=False:=eq_false c1
   have d2:(i.pos+(zf1 i.op.val:Int)<i.a)=True:=eq_true c2
   simp -implicitDefEqProofs only[go_sem,mmB,hT,hj,he,h1,h2,d1,frz,d2]
   exact⟨fun r h=>by rw[h]; rfl,fun _ _ _=>⟨fun r h=>by rw[h]; rfl,fun _ _ _=>DLe.tup (.cons (DLe.slice _ _) (.cons (DLe.refl _) .nil))⟩⟩
  ·rw[if_neg c1,if_neg c2]
   have d1:(i.a<i.pos+(zf1 i.op.val:Int))=False:=eq_false c1
   have d2:(i.pos+(zf1 i.op.val:Int)<i.a)=False:=eq_false c2
   simp -implicitDefEqProofs only[go_sem,mmB,hT,hj,he,h1,h2,d1,frz,d2]
   exact⟨fun r h=>by rw[h]; rfl,fun _ _ _=>DLe.tup (.cons (DLe.slice _ _) (.cons (DLe.refl _) .nil))⟩
 ·have h1:((n:Int)≤i.a)=False:=eq_false fun h=>ht ⟨hj,h⟩
  rw[show onD i n=([i.a],0) by rw[onD,if_neg ht,if_neg hf,hj,he]; simp]
  simp -implicitDefEqProofs only[go_sem,mmB,hT,hj,he,h1,frz]
  exact⟨fun r h=>by rw[h]; rfl,fun _ _ _=>DLe.tup (.cons (DLe.slice _ _) (.cons (DLe.refl _) .nil))⟩
open Go.Proofs
section
variable {q : QB} {s : IS}
theorem stI_setA (h:q.ne) (v:List Bool):(stI q s).set q.a (fl eBo v)=stI q ⟨v,s.fr,s.fresh,s.tk⟩:=by
 unfold stI
 rw[set_comm (Ne.symm h.ad),set_comm (Ne.symm h.ac),set_comm (Ne.symm h.ab),za2]
theorem stI_setB (h:q.ne) (v:List Fr):(stI q s).set q.b (fl eFr v)=stI q ⟨s.has,v,s.fresh,s.tk⟩:=by
 unfold stI
 rw[set_comm (Ne.symm h.bd),set_comm (Ne.symm h.bc),za2]
theorem stI_setC (h:q.ne) (v:List Bool):(stI q s).set q.c (fl eBo v)=stI q ⟨s.has,s.fr,v,s.tk⟩:=by
 unfold stI
 rw[set_comm (Ne.symm h.cd),za2]
theorem stI_setD (v:List Nat):(stI q s).set q.d (fl eN v)=stI q ⟨s.has,s.fr,s.fresh,v⟩:=by
 unfold stI
 rw[za2]
end
def bYhbD0:=aI @zb8 (aI @zc0 (aI @zb2 (aI @zb1 (aI @za5 (aI @za4 (aI @fr_0 (aI @fr_1 @gdD)))))))
theorem hand113 (q:QB) (h:q.ne) (s:IS) (m:Nat) (hs:s.sz m) (hm:m≤5000) (l:List Cl) (o:Own) (hf:Falls l l.length) (hl:l.length*48≤140737488355328) (a:Nat) (ha:a<m) (f:Fr):
  RCall Tryz.prog 113 [.agg (stD q m),.slice o (rws eC l),.int .i64 a,.agg (eFr f)] (stI q s) fun d s'=>d= .int .i64 (handD l s a f).2∧s'=stI q (handD l s a f).1:=by
 have ka:=stI_a (s:=s) h
 have kb:=stI_b (s:=s) h
 have kc:=stI_c (s:=s) h
 refine F113.rcall rfl fun T hT=> ?_
 simp -implicitDefEqProofs only[go_sem,mmB,c113,hT,stD,bYhbD0]
 intro b4 hb4 b7 n7 n8 hb7
 obtain⟨n1,n2,n3,n4⟩:=stI_ne hb4
 obtain⟨p1,p2,p3,p4⟩:=stI_ne hb7
 have hx:=fl_boAt (xs:=s.has) (i:=a) (by rw[hs.a]; exact ha)
 have hfl:(fl eFr s.fr).length=m*26:=by rw[fl_len za5,hs.b]
 have hget:((fl eFr s.fr).drop (a*26)).take 26=eFr ((s.fr[a]?).getD (fr0 0)):=by
  rw[fl_at za5 (by rw[hs.b]; exact ha),List.getElem?_eq_getElem (by rw[hs.b]; exact ha)]; rfl
 have hput:∀g,(fl eFr s.fr).take (a*26)++eFr g++(fl eFr s.fr).drop (a*26+26)=fl eFr (s.fr.set a g):=fun g=>fl_set za5 (by rw[hs.b]; exact ha) g
 have hpa:∀g,(fl eBo s.has).take a++[D.bool g]++(fl eBo s.has).drop (a+1)=fl eBo (s.has.set a g):=fun g=>by
  have:=fl_set (enc:=eBo) (s:=1) (fun x=>rfl) (xs:=s.has) (i:=a) (by rw[hs.a]; exact ha) g
  rwa[Nat.mul_one] at this
 have hpc:∀g,(fl eBo s.fresh).take a++[D.bool g]++(fl eBo s.fresh).drop (a+1)=fl eBo (s.fresh.set a g):=fun g=>by
  have:=fl_set (enc:=eBo) (s:=1) (fun x=>rfl) (xs:=s.fresh) (i:=a) (by rw[hs.c]; exact ha) g
  rwa[Nat.mul_one] at this
 have hla:(fl eBo s.has).length=m:=by rw[fl_len (s:=1) (fun x=>rfl),hs.a,Nat.mul_one]
 have hlc:(fl eBo s.fresh).length=m:=by rw[fl_len (s:=1) (fun x=>rfl),hs.c,Nat.mul_one]
 have base:St.le (stI q s) (((stI q s).set b4 [.bsl q.a 0 m m,.bsl q.b 0 m m,.bsl q.c 0 m m,.bsl q.d 0 m m]).set b7 (eFr f)):=(le_add hb4).trans (le_add (by rw[set_has]; exact fun h=>h.elim n7 hb7))
 have hfa:(26≤((fl eFr s.fr).drop (a*26)).length)=True:=eq_true (by rw[List.length_drop,hfl]; omega)
 cases hh:(s.has[a]?).getD false
 ·have hD:handD l s a f=(⟨s.has.set a true,s.fr.set a f,s.fresh.set a true,s.tk⟩,0):=by rw[handD,if_pos hh]
  simp -implicitDefEqProofs only[go_sem,mmB,hT,n1,n2,n3,n4,Ne.symm n1,Ne.symm n2,Ne.symm n3,Ne.symm n4,p1,p2,p3,p4,Ne.symm p1,Ne.symm p2,Ne.symm p3,Ne.symm p4,n7,n8,h.ab,h.ac,h.bc,Ne.symm h.ab,Ne.symm h.ac,Ne.symm h.bc,Nat.mul_one,Nat.add_zero,Nat.zero_add,ka,kb,kc,hx,hh,bYhbD0]
  refine⟨⟨by omega,by omega⟩, ?_⟩
  simp -implicitDefEqProofs only[go_sem,mmB,hT,n1,n2,n3,n4,Ne.symm n1,Ne.symm n2,Ne.symm n3,Ne.symm n4,p1,p2,p3,p4,Ne.symm p1,Ne.symm p2,Ne.symm p3,Ne.symm p4,n7,n8,h.ab,h.ac,h.bc,Ne.symm h.ab,Ne.symm h.ac,Ne.symm h.bc,Nat.mul_one,Nat.add_zero,Nat.zero_add,ka,kb,kc,hx,hh,hput,hpa,hpc,hla,hlc,hfl,bYhbD0]
  refine⟨fun b hb hc=> ?_,⟨by omega,by omega⟩,by omega,⟨by omega,by omega⟩,by omega,⟨by omega,by omega⟩,by omega,_,_,DLe.refl _, ?_,by rw[hD]; rfl,rfl⟩
  ·rcases hb with rfl|rfl
   ·exact hc.2.1 rfl
   ·exact hc.1 rfl
  rw[hD]
  have:=le_set (b:=q.c) (cs:=fl eBo (s.fresh.set a true)) (le_set (b:=q.b) (cs:=fl eFr (s.fr.set a f)) (le_set (b:=q.a) (cs:=fl eBo (s.has.set a true)) base))
  rw[stI_setA h,stI_setB h,stI_setC h] at this
  exact this
 ·simp -implicitDefEqProofs only[go_sem,mmB,hT,n1,n2,n3,n4,Ne.symm n1,Ne.symm n2,Ne.symm n3,Ne.symm n4,p1,p2,p3,p4,Ne.symm p1,Ne.symm p2,Ne.symm p3,Ne.symm p4,n7,n8,h.ab,h.ac,h.bc,Ne.symm h.ab,Ne.symm h.ac,Ne.symm h.bc,Nat.mul_one,Nat.add_zero,Nat.zero_add,ka,kb,kc,hx,hh,bYhbD0]
  refine⟨⟨by omega,by omega⟩, ?_⟩
  simp -implicitDefEqProofs only[go_sem,mmB,hT,n1,n2,n3,n4,Ne.symm n1,Ne.symm n2,Ne.symm n3,Ne.symm n4,p1,p2,p3,p4,Ne.symm p1,Ne.symm p2,Ne.symm p3,Ne.symm p4,n7,n8,h.ab,h.ac,h.bc,Ne.symm h.ab,Ne.symm h.ac,Ne.symm h.bc,Nat.mul_one,Nat.add_zero,Nat.zero_add,ka,kb,kc,hx,hh,hget,hfl,hfa,bYhbD0]
  refine⟨⟨by omega,by omega⟩, ?_⟩
  refine za3 (refMergeF151 l o _ _ hf hl) ?_
  simp -implicitDefEqProofs only[go_sem,mmB,hT,n1,n2,n3,n4,Ne.symm n1,Ne.symm n2,Ne.symm n3,Ne.symm n4,p1,p2,p3,p4,Ne.symm p1,Ne.symm p2,Ne.symm p3,Ne.symm p4,n7,n8,h.ab,h.ac,h.bc,Ne.symm h.ab,Ne.symm h.ac,Ne.symm h.bc,Nat.mul_one,Nat.add_zero,Nat.zero_add,ka,kb,kc,hx,hh,hget,hfl,hfa,bYhbD0]
  intro b9 r5 r6 r7 r8 hb9
  obtain⟨r1,r2,r3,r4⟩:=stI_ne hb9
  have hb9':∀x y,¬(((stI q s).set b4 x).set b7 y).has b9:=fun x y=>by
   rw[set_has,set_has]
   rintro(h|h|h)
   ·exact r5 h
   ·exact r7 h
   ·exact hb9 h
  by_cases he:(mergeF l ((s.fr[a]?).getD (fr0 0)) f).2=0
  case neg=>
   have he':((((mergeF l ((s.fr[a]?).getD (fr0 0)) f).2:Nat):Int)=0)=False:=eq_false (by omega)
   simp -implicitDefEqProofs only[go_sem,mmB,hT,he',za2]
   refine⟨_,_,DLe.refl _,base.trans (le_add (hb9' _ _)), ?_, ?_⟩
   ·rw[handD,if_neg (by rw[hh]; simp),if_pos he]
   ·rw[handD,if_neg (by rw[hh]; simp),if_pos he]
  have he':((((mergeF l ((s.fr[a]?).getD (fr0 0)) f).2:Nat):Int)=0)=True:=eq_true (by omega)
  simp -implicitDefEqProofs only[go_sem,mmB,hT,zb8,zc0,zb2,zb1,za5,za4,fr_0,fr_1,gdD,n1,n2,n3,n4,Ne.symm n1,Ne.symm n2,Ne.symm n3,Ne.symm n4,p1,p2,p3,p4,Ne.symm p1,Ne.symm p2,Ne.symm p3,Ne.symm p4,n7,n8,h.ab,h.ac,h.bc,Ne.symm h.ab,Ne.symm h.ac,Ne.symm h.bc,r1,r2,r3,r4,r5,r6,r7,r8,Ne.symm r1,Ne.symm r2,Ne.symm r3,Ne.symm r4,Nat.mul_one,Nat.add_zero,Nat.zero_add,ka,kb,kc,hget,hfl,hfa,he',eq_fr,za2]
  refine⟨⟨by omega,by omega⟩,fun _ b hb hc=>hc.2.2.1 hb,fun _=>⟨by omega,by omega⟩,fun _=>by omega,fun _=>⟨by omega,by omega⟩,fun _=>by rw[hlc]; omega, ?_⟩
  by_cases hm2:(mergeF l ((s.fr[a]?).getD (fr0 0)) f).1=(s.fr[a]?).getD (fr0 0)
  ·have hD:handD l s a f=(s,0):=by rw[handD,if_neg (by rw[hh]; simp),if_neg (by omega),if_neg (by simpa using hm2)]
   rw[hD,show(!decide ((mergeF l ((s.fr[a]?).getD (fr0 0)) f).1=(s.fr[a]?).getD (fr0 0)))=false by simp[hm2]]
   exact⟨_,_,DLe.refl _,base.trans (le_add (hb9' _ _)),rfl,rfl⟩
  ·have hD:handD l s a f=(⟨s.has,s.fr.set a (mergeF l ((s.fr[a]?).getD (fr0 0)) f).1,s.fresh.set a true,s.tk⟩,0):=by rw[handD,if_neg (by rw[hh]; simp),if_neg (by omega),if_pos hm2]
   rw[hD,show(!decide ((mergeF l ((s.fr[a]?).getD (fr0 0)) f).1=(s.fr[a]?).getD (fr0 0)))=true by simp[hm2],hput,hpc]
   refine⟨_,_,DLe.refl _, ?_,rfl,rfl⟩
   have:=le_set (b:=q.c) (cs:=fl eBo (s.fresh.set a true)) (le_set (b:=q.b) (cs:=fl eFr (s.fr.set a (mergeF l ((s.fr[a]?).getD (fr0 0)) f).1)) (base.trans (le_add (cs:=eFr (mergeF l ((s.fr[a]?).getD (fr0 0)) f).1) (hb9' _ _))))
   rw[stI_setB h,stI_setC h] at this
   exact this
open Go.Proofs
open Go.Proofs
theorem in_1 (i:Ins):(eIn i)[1]? =some (.int .u8 i.op.val):=rfl
theorem in_2 (i:Ins):(eIn i)[2]? =some (.int .i64 i.a):=rfl
open Go.Proofs
theorem can_sig {e:En} (h:canB e=true):∃hs:e.fn.toNat<e.sgs.length,0≤e.fn∧psOf e=e.sgs[e.fn.toNat].ps∧(psOf e).length≤8∧∀t∈psOf e,storedN e.cs.length t=true:=by
 unfold canB at h
 simp only[Bool.and_eq_true,decide_eq_true_eq,List.all_eq_true] at h
 obtain⟨⟨h1,h2,h3,h4⟩,h5⟩:=h
 have hs:e.fn.toNat<e.sgs.length:=by omega
 have hp:psOf e=e.sgs[e.fn.toNat].ps:=by unfold psOf; rw[List.getElem?_eq_getElem hs]; rfl
 have:=h5 _ (List.getElem_mem hs)
 unfold sigMayB at this
 simp only[Bool.and_eq_true,decide_eq_true_eq,Bool.not_eq_true',List.any_eq_false] at this
 refine⟨hs,h3,hp,by rw[hp]; exact this.1.1,fun t ht=> ?_⟩
 rw[hp] at ht
 have:=this.1.2 t ht
 simpa using this
theorem start_ok {e:En} {n:Int} (h:canB e=true) (h1:¬n<(psOf e).length) (h2:¬16<n):(startF e.cs.length (psOf e) n).2=0:=by
 obtain⟨_,_,_,h3,h4⟩:=can_sig h
 unfold startF
 rw[if_neg]
 rintro(h|h|h|h|h)
 ·omega
 ·exact h2 h
 ·omega
 ·exact h1 h
 ·simp only[List.any_eq_true,Bool.not_eq_true'] at h
  obtain⟨t,ht,h⟩:=h
  rw[h4 t ht] at h; cases h
theorem can_falls {e:En} (hw:WideE e) (h:canB e=true):Falls e.cs e.cs.length:=by
 unfold canB at h
 simp only[Bool.and_eq_true,decide_eq_true_eq] at h
 exact(check_right h.1.1).falls
open Go.Proofs
open Go.Proofs
open Go.Proofs
open Go.Proofs
open Go.Proofs
theorem in_0 (i:Ins):(eIn i)[0]? =some (.int .i64 i.pos):=rfl
open Go.Proofs
open Go.Proofs
theorem le_putL:∀{l:List LI} {s σ:St},St.le s σ→offL s l→St.le s (putL σ l)
 |[],_,_,h,_=>h
 |i::l,s,σ,h,hl=>le_putL (l:=l) (by
   cases i with
   |bx b c=>exact⟨fun x y hx=>by
     have:x≠b:=fun he=>hl.1 (by rw[←he]; exact .inl (by simp[hx]))
     simp only[LI.put,St.set,if_neg this]; exact h.box x y hx,fun x y hx=>h.buf x y hx,fun x y hx=>h.mp x y hx⟩
   |gr z n o=>
    cases o with
    |none=>exact h
    |some b=>exact⟨fun x y hx=>h.box x y hx,fun x y hx=>by
      have:x≠b:=fun he=>hl.1 b rfl (by rw[←he]; exact .inr (.inl (by simp[hx])))
      simp only[LI.put,grS,St.setBuf,if_neg this]; exact h.buf x y hx,fun x y hx=>h.mp x y hx⟩) hl.2
end Go.AL
