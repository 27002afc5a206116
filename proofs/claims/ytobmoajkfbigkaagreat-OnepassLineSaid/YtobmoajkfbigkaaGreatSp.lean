import Derived.Test.YtobmoajkfbigkaaGreatSo
import Derived.Test.YtobmoajkfbigkaaGreatSn
import Derived.Test.YtobmoajkfbigkaaGreatSe
set_option linter.unusedSimpArgs false
set_option linter.unusedVariables false
set_option maxRecDepth 100000
set_option maxHeartbeats 4000000
set_option linter.defProp false
namespace Go.AL
open Go.Proofs
theorem le_out {σ σ':St} {b:Nat} {cs:List D} (h:St.le σ σ') (hb:¬σ.has b):St.le σ (σ'.set b cs):=⟨fun x c hx=>by
  have hne:x≠b:=fun e=>hb (by subst e; exact .inl (by simp[hx]))
  rw[St.set_box,if_neg hne]; exact h.box x c hx,h.buf,h.mp⟩
theorem zc2 {r o:Nat}:nilcD (.ptr r o)=some (.ptr r o):=rfl
theorem eRd_len {b:List Ty} {p:Nat} {last:Int} {left n bad err:Nat}:(eRd b p last left n bad err).length=8:=rfl
theorem rd_0 {b:List Ty} {p:Nat} {last:Int} {left n bad err:Nat}:(eRd b p last left n bad err)[0]? =some (.slice .no (rws eT b)):=rfl
theorem rd_1 {b:List Ty} {p:Nat} {last:Int} {left n bad err:Nat}:(eRd b p last left n bad err)[1]? =some (.int .i64 p):=rfl
theorem rd_3 {b:List Ty} {p:Nat} {last:Int} {left n bad err:Nat}:(eRd b p last left n bad err)[3]? =some (.int .i64 left):=rfl
theorem rd_5 {b:List Ty} {p:Nat} {last:Int} {left n bad err:Nat}:(eRd b p last left n bad err)[5]? =some (.int .i64 bad):=rfl
theorem rd_6 {b:List Ty} {p:Nat} {last:Int} {left n bad err:Nat}:(eRd b p last left n bad err)[6]? =some (.int .i64 err):=rfl
theorem rd_7 {b:List Ty} {p:Nat} {last:Int} {left n bad err:Nat}:(eRd b p last left n bad err)[7]? =some (.bool true):=rfl
theorem ey_word (z:Int):[D.int .i64 z,D.bool false,D.int .i64 0,D.int .i64 0,D.int .u8 0,D.int .u8 0,D.int .u8 0,D.int .u8 0,D.int .u8 0,D.int .u8 0,D.int .u8 0,D.int .u8 0,D.int .u8 0,D.int .u8 0,D.int .u8 0,D.int .u8 0,D.int .u8 0,D.int .u8 0,D.int .u8 0,D.int .u8 0,D.int .u8 0,D.int .u8 0,D.int .u8 0,D.int .u8 0,D.int .u8 0,D.int .u8 0,D.int .u8 0,D.int .u8 0]=eEy ⟨z,false,fr0 0⟩:=rfl
theorem ey_set1 {z:Int} {d d':Bool} {f:Fr}:(eEy ⟨z,d,f⟩).take 1++[D.bool d']++(eEy ⟨z,d,f⟩).drop 2=eEy ⟨z,d',f⟩:=rfl
theorem ey_set2 {z l l' h:Int} {d:Bool} {s:Vector Ty 24}:(eEy ⟨z,d,⟨l,h,s⟩⟩).take 2++[D.int .i64 l']++(eEy ⟨z,d,⟨l,h,s⟩⟩).drop 3=eEy ⟨z,d,⟨l',h,s⟩⟩:=rfl
theorem ey_set3 {z l h h':Int} {d:Bool} {s:Vector Ty 24}:(eEy ⟨z,d,⟨l,h,s⟩⟩).take 3++[D.int .i64 h']++(eEy ⟨z,d,⟨l,h,s⟩⟩).drop 4=eEy ⟨z,d,⟨l,h',s⟩⟩:=rfl
theorem ey_set4 {z l h:Int} {d:Bool} {s:Vector Ty 24} {i:Nat} (hi:i<24) {t:Ty}:(eEy ⟨z,d,⟨l,h,s⟩⟩).take (4+i)++[D.int .u8 (t.val:Int)]++(eEy ⟨z,d,⟨l,h,s⟩⟩).drop (4+i+1)=eEy ⟨z,d,⟨l,h,s.set i t⟩⟩:=by
 have h1:=fr_set (f:=⟨l,h,s⟩) hi (t:=t)
 simp only at h1
 rw[show eEy ⟨z,d,⟨l,h,s.set i t⟩⟩=D.int .i64 z::D.bool d::eFr ⟨l,h,s.set i t⟩ from rfl,←h1]
 simp only[eEy,show 4+i=(2+i)+2 by omega,show 2+i+2+1=(2+i+1)+2 by omega,List.take_succ_cons,List.drop_succ_cons,List.cons_append]
theorem ey_2 (e:Ey):(eEy e)[2]? =some (.int .i64 e.fr.loc):=rfl
theorem ey_3 (e:Ey):(eEy e)[3]? =some (.int .i64 e.fr.h):=rfl
theorem fr0_eq:fr0 0=⟨0,0,slOf []⟩:=by rw[slOf_nil]; rfl
def bYfbF0:=aI @zb4 (aI @za8 (aI @zb7 (aI @za5 (aI @za4 (aI @zb0 (aI @anD (aI @za2 (aI @za6 (aI @eRd_len (aI @rd_0 (aI @rd_1 (aI @gdD (aI @zc2 (aI @ey_0 (aI @ey_1 (aI @ey_2 (aI @ey_3 @ey_zero)))))))))))))))))
def bYfbF1:=aI @zb4 (aI @za8 (aI @zb7 (aI @za5 (aI @za4 (aI @zb0 (aI @anD (aI @za2 (aI @za6 (aI @eRd_len (aI @rd_0 (aI @rd_1 (aI @gdD (aI @zc2 (aI @ey_0 (aI @ey_1 (aI @ey_2 @ey_3))))))))))))))))
theorem entry205 (b:List Ty) (r p:Nat) (last:Int) (left n bad err:Nat) (hl:b.length≤140737488355328) (h6:4≤b.length) (hp:p≤b.length):
  RCall Tryz.prog 205 [.ptr r 0] (({}:St).set r (eRd b p last left n bad err)) fun d s'=>d= .tup [.agg (eEy (entD b (bt b 3) p last).1),.int .i64 (entD b (bt b 3) p last).2.1,.int .i64 (entD b (bt b 3) p last).2.2]∧s'=({}:St).set r (eRd b p last left n bad err):=by
 have v2:IntKind.wrap .i64 ((p:Int)+2)=((p+2:Nat):Int):=wrapN (by simp) (by omega)
 have v3:IntKind.wrap .i64 (((p+2:Nat):Int)+1)=((p+3:Nat):Int):=wrapN (by omega) (by omega)
 have v4:IntKind.wrap .i64 (((p+3:Nat):Int)+1)=((p+4:Nat):Int):=wrapN (by omega) (by omega)
 refine F205.rcall rfl fun T hT=> ?_
 obtain⟨C,hC⟩:∃C,eRd b p last left n bad err=C:=⟨_,rfl⟩
 have hC0:C[0]? =some (.slice .no (rws eT b)):=by rw[←hC]; rfl
 have hC1:C[1]? =some (.int .i64 p):=by rw[←hC]; rfl
 have hC2:C[2]? =some (.int .i64 last):=by rw[←hC]; rfl
 have hCl:C.length=8:=by rw[←hC]; rfl
 rw[hC]
 simp -implicitDefEqProofs only[go_sem,c205,hT,hC0,hC1,hC2,hCl,bYfbF0]
 intro b2 n1 n2
 refine⟨fun x hx=>by simp[hx], ?_⟩
 have wS:IntKind.wrap .i64 ((b.length:Int)-p)=(b.length:Int)-p:=zc1 (by omega) (by omega)
 simp -implicitDefEqProofs only[go_sem,hT,hC0,hC1,hC2,hCl,n1,n2,wS,bYfbF0]
 intro b5 n3 n4 n5 n6
 refine⟨n5, ?_⟩
 have z2:¬(({}:St).set r C).has b2:=by rw[has_set,has_nil]; simp; omega
 have z5:¬(({}:St).set r C).has b5:=by rw[has_set,has_nil]; simp; omega
 obtain⟨loc,hloc⟩:∃loc,bt b 3=loc:=⟨_,rfl⟩
 have hb3:=bt_lt b 3
 have hRl:=bt_at (b:=b) (i:=3) (by omega)
 rw[hloc] at hRl hb3
 rw[hloc]
 clear hloc
 by_cases h1:b.length<p+2
 ·have q1:((b.length:Int)-p<2)=True:=by simp; omega
  rw[entD,if_pos h1]
  simp -implicitDefEqProofs only[go_sem,hT,hC0,hC1,hC2,hCl,wS,q1,n1,n2,n3,n4,n5,n6,bYfbF0]
  exact⟨_,_,DLe.refl _,le_out (le_out (le_out (St.le.refl _) z2) z5) z2,rfl,rfl⟩
 have q1:((b.length:Int)-p<2)=False:=by simp; omega
 obtain⟨ae,hae⟩:∃ae,afterE (word2 b p) last=ae:=⟨_,rfl⟩
 obtain⟨z,hz⟩:∃z,word2 b p=z:=⟨_,rfl⟩
 have hd:entD b loc p last=if ae≠0 then(ey0,p,ae)
   else if b.length=p+2 then(ey0,p+2,2)
   else if 1<bt b (p+2) then(ey0,p+2,63)
   else if bt b (p+2)=0 then(⟨z,true,fr0 0⟩,p+3,0)
   else if b.length=p+3 then(ey0,p+3,2)
   else if 24<loc+bt b (p+3) then(ey0,p+3,65)
   else if(scanT b (p+4) (loc+bt b (p+3))).2≠0 then(ey0,scanT b (p+4) (loc+bt b (p+3)))
   else(⟨z,false,⟨loc,bt b (p+3),slOf ((b.drop (p+4)).take (loc+bt b (p+3)))⟩⟩,p+4+(loc+bt b (p+3)),0):=by
  rw[entD,if_neg h1,hae,hz]
 have hw4:word2 (b.drop p) 0=z:=by rw[←hz]; simp[word2,bt,List.getElem?_drop]
 have hw:PCall Tryz.prog 167 [.slice .no (rws eT (b.drop p))] (.int .i64 z):=by rw[←hw4]; exact word167 _ _ (by rw[List.length_drop]; omega)
 rw[hd]
 have hri:=rises165 last z
 rw[hz] at hae
 rw[hae] at hri
 clear hd hae hz hw4
 simp -implicitDefEqProofs only[go_sem,hT,zb4,za8,zb7,za5,za4,zb0,anD,za2,za6,eRd_len,rd_0,rd_1,gdD,zc2,ey_0,ey_1,ey_2,ey_3,hC0,hC1,hC2,hCl,wS,q1,n1,n2,n3,n4,n5,n6,rws_take,rws_drop,List.take_length]
 refine⟨⟨by omega,rows_len eT_len b⟩,za3 hw ?_⟩
 simp -implicitDefEqProofs only[go_sem,hT,hC0,hC1,hC2,hCl,n1,n2,n3,n4,n5,n6,bYfbF1]
 intro b8 n7 n8 n9 n10 n11 n12
 have z8:¬(({}:St).set r C).has b8:=by rw[has_set,has_nil]; simp; omega
 simp -implicitDefEqProofs only[go_sem,hT,zb4,za8,zb7,za5,za4,zb0,anD,za2,za6,eRd_len,rd_0,rd_1,gdD,zc2,ey_0,ey_1,ey_2,ey_3,hC0,hC1,hC2,hCl,n1,n2,n3,n4,n5,n6,n7,n8,n9,n10,n11,n12,ey_word]
 refine za3 hri ?_
 by_cases h2:ae=0
 case neg=>
  have q2:((ae:Int)=0)=False:=by simp; omega
  rw[if_pos h2]
  simp -implicitDefEqProofs only[go_sem,hT,hC0,hC1,hC2,hCl,n1,n2,n3,n4,n5,n6,n7,n8,n9,n10,n11,n12,q2,bYfbF0]
  exact⟨_,_,DLe.refl _,le_out (le_out (le_out (le_out (St.le.refl _) z2) z5) z8) z2,rfl,rfl⟩
 have q2:((ae:Int)=0)=True:=by simp; omega
 rw[if_neg (by simp[h2])]
 by_cases h3:b.length=p+2
 ·have q3:(((p+2:Nat):Int)=b.length)=True:=by simp; omega
  rw[if_pos h3]
  simp -implicitDefEqProofs only[go_sem,hT,hC0,hC1,hC2,hCl,n1,n2,n3,n4,n5,n6,n7,n8,n9,n10,n11,n12,v2,q2,q3,bYfbF0]
  exact⟨_,_,DLe.refl _,le_out (le_out (le_out (le_out (St.le.refl _) z2) z5) z8) z2,rfl,rfl⟩
 have q3:(((p+2:Nat):Int)=b.length)=False:=by simp; omega
 have hR2:=bt_at (b:=b) (i:=p+2) (by omega)
 have hb2:=bt_lt b (p+2)
 have g2:(0:Int)≤(p+2:Nat)∧((p+2:Nat):Int)<b.length:=by omega
 rw[if_neg h3]
 by_cases h4:1<bt b (p+2)
 ·have q4:((1:Int)<bt b (p+2))=True:=by simp; omega
  rw[if_pos h4]
  simp -implicitDefEqProofs only[go_sem,hT,hC0,hC1,hC2,hCl,n1,n2,n3,n4,n5,n6,n7,n8,n9,n10,n11,n12,v2,q2,q3,q4,hR2,rws_one eT_len,bYfbF0]
  exact⟨g2,_,_,DLe.refl _,le_out (le_out (le_out (le_out (St.le.refl _) z2) z5) z8) z2,rfl,rfl⟩
 have q4:((1:Int)<bt b (p+2))=False:=by simp; omega
 rw[if_neg h4]
 by_cases h5:bt b (p+2)=0
 ·have q5:((bt b (p+2):Int)=0)=True:=by simp; omega
  rw[if_pos h5]
  simp -implicitDefEqProofs only[go_sem,hT,zb4,za8,zb7,za5,za4,zb0,anD,za2,za6,eRd_len,rd_0,rd_1,gdD,zc2,ey_0,ey_1,ey_2,ey_3,hC0,hC1,hC2,hCl,n1,n2,n3,n4,n5,n6,n7,n8,n9,n10,n11,n12,v2,v3,q2,q3,q4,q5,hR2,ey_set1,rws_one eT_len]
  exact⟨g2,g2,_,_,DLe.refl _,le_out (le_out (le_out (le_out (St.le.refl _) z2) z5) z8) z2,rfl,rfl⟩
 have q5:((bt b (p+2):Int)=0)=False:=by simp; omega
 rw[if_neg h5]
 by_cases h6:b.length=p+3
 ·have q6:(((p+3:Nat):Int)=b.length)=True:=by simp; omega
  rw[if_pos h6]
  simp -implicitDefEqProofs only[go_sem,hT,hC0,hC1,hC2,hCl,n1,n2,n3,n4,n5,n6,n7,n8,n9,n10,n11,n12,v2,v3,q2,q3,q4,q5,q6,hR2,rws_one eT_len,bYfbF0]
  exact⟨g2,g2,_,_,DLe.refl _,le_out (le_out (le_out (le_out (St.le.refl _) z2) z5) z8) z2,rfl,rfl⟩
 have q6:(((p+3:Nat):Int)=b.length)=False:=by simp; omega
 have hR3:=bt_at (b:=b) (i:=p+3) (by omega)
 have hb3':=bt_lt b (p+3)
 have g3:(0:Int)≤(p+3:Nat)∧((p+3:Nat):Int)<b.length:=by omega
 rw[if_neg h6]
 obtain⟨dp,hdp⟩:∃dp,bt b (p+3)=dp:=⟨_,rfl⟩
 rw[hdp] at hR3 hb3' ⊢
 clear hdp
 have u3:IntKind.wrap .i64 (dp:Int)=dp:=zc1 (by omega) (by omega)
 have uL:IntKind.wrap .i64 (loc:Int)=loc:=zc1 (by omega) (by omega)
 have g3':(3:Int)<b.length:=by omega
 obtain⟨n,hn⟩:∃n,loc+dp=n:=⟨_,rfl⟩
 rw[hn]
 have uN:IntKind.wrap .i64 ((loc:Int)+dp)=(n:Int):=wrapN (by omega) (by omega)
 simp -implicitDefEqProofs only[go_sem,hT,zb4,za8,zb7,za5,za4,zb0,anD,za2,za6,eRd_len,rd_0,rd_1,gdD,zc2,ey_0,ey_1,ey_2,ey_3,hC0,hC1,hC2,hCl,n1,n2,n3,n4,n5,n6,n7,n8,n9,n10,n11,n12,v2,v3,q2,q3,q4,q5,q6,hR2,hR3,hRl,u3,uL,rws_one eT_len,fr0_eq,ey_set2,ey_set3]
 refine⟨g2,g2,g3',g3, ?_⟩
 have hle:∀{x y w u:List D},St.le (({}:St).set r C) ((((((({}:St).set r C).set b2 x).set b5 y).set b8 w)).set b2 u):=le_out (le_out (le_out (le_out (St.le.refl _) z2) z5) z8) z2
 by_cases h7:24<n
 ·have q7:((24:Int)<n)=True:=by simp; omega
  rw[if_pos h7]
  simp -implicitDefEqProofs only[go_sem,hT,hC0,hC1,hC2,hCl,n1,n2,n3,n4,n5,n6,n7,n8,n9,n10,n11,n12,uN,q7,bYfbF0]
  exact⟨_,_,DLe.refl _,hle,rfl,rfl⟩
 have q7:((24:Int)<n)=False:=by simp; omega
 rw[if_neg h7]
 have hn24:n≤24:=by omega
 simp -implicitDefEqProofs only[go_sem,hT,hC0,hC1,hC2,hCl,n1,n2,n3,n4,n5,n6,n7,n8,n9,n10,n11,n12,uN,q7,v4,bYfbF1]
 refine loopL F205 (fun i:Nat=>[(0,.ptr r 0),(2,.ptr b2 0),(3,.int .i64 0),(4,.int .i64 0),(5,.ptr b5 0),(6,.slice .no (rws eT b)),(7,.int .i64 (p+4+i:Nat)),(8,.ptr b8 0),(10,.int .i64 n),(104,.int .i64 n),(105,.int .i64 i)]) (fun i=>(((({}:St).set r C).set b2 (eEy ey0)).set b5 (eEy ey0)).set b8 (eEy ⟨z,false,⟨loc,dp,slOf ((b.drop (p+4)).take i)⟩⟩)) (fun i=>i≤n∧p+4+i≤b.length∧scanT b (p+4) n=scanT b (p+4+i) (n-i)) (fun i=>n-i) 0 ⟨by omega,by omega,rfl⟩ ?_ (St.le.refl _) ?_
 ·simp -implicitDefEqProofs only[go_sem,hT,Int.ofNat_zero,Nat.add_zero]
 clear hT T
 rintro i ⟨hi,hpi,hsc⟩ T hT
 by_cases h:i<n
 ·have p1:((i:Int)<n)=True:=by simp; omega
  have w4:IntKind.wrap .i64 ((i:Int)+1)=((i+1:Nat):Int):=wrapN (by simp) (by omega)
  have w5:IntKind.wrap .i64 (((p+4+i:Nat):Int)+1)=((p+4+(i+1):Nat):Int):=wrapN (by omega) (by omega)
  have hsn:n-i=(n-(i+1))+1:=by omega
  rw[hsn,scanT] at hsc
  by_cases h8:b.length≤p+4+i
  ·have q8:(((p+4+i:Nat):Int)=b.length)=True:=by simp; omega
   rw[if_pos h8,show b.length=p+4+i by omega] at hsc
   rw[hsc,if_pos (by simp)]
   simp -implicitDefEqProofs only[go_sem,hT,hC0,hC1,hC2,hCl,n1,n2,n3,n4,n5,n6,n7,n8,n9,n10,n11,n12,p1,q8,bYfbF0]
   exact⟨_,_,DLe.refl _,hle,rfl,rfl⟩
  have q8:(((p+4+i:Nat):Int)=b.length)=False:=by simp; omega
  rw[if_neg h8] at hsc
  have hR4:=rws_at (enc:=eT) (xs:=b) (i:=p+4+i) (by omega)
  have hg:(b[p+4+i]?).getD 0=b[p+4+i]:=by rw[List.getElem?_eq_getElem (by omega)]; rfl
  rw[hg] at hsc
  have g4:(0:Int)≤(p+4+i:Nat)∧((p+4+i:Nat):Int)<b.length:=by omega
  simp -implicitDefEqProofs only[go_sem,hT,zb4,za8,zb7,za5,za4,zb0,anD,za2,za6,eRd_len,rd_0,rd_1,gdD,zc2,ey_0,ey_1,ey_2,ey_3,hC0,hC1,hC2,hCl,n1,n2,n3,n4,n5,n6,n7,n8,n9,n10,n11,n12,p1,q8,hR4,eT,eT_len]
  refine⟨g4,za3 (known204 _) ?_⟩
  have hset:=slOf_set (ts:=b.drop (p+4)) (i:=i) (by rw[List.length_drop]; omega) (by omega)
  have hdg:(b.drop (p+4))[i]'(by rw[List.length_drop]; omega)=b[p+4+i]:=by simp
  rw[hdg] at hset
  generalize b[p+4+i]=x at *
  by_cases h9:knownT x=true
  ·rw[if_pos h9] at hsc
   simp -implicitDefEqProofs only[go_sem,hT,zb4,za8,zb7,za5,za4,zb0,anD,za2,za6,eRd_len,rd_0,rd_1,gdD,zc2,ey_0,ey_1,ey_2,ey_3,hC0,hC1,hC2,hCl,n1,n2,n3,n4,n5,n6,n7,n8,n9,n10,n11,n12,p1,q8,hR4,eT,eT_len,h9]
   rw[Nat.mul_one,ey_set4 (by omega)]
   rw[hset]
   refine⟨g4,by omega,by omega,i+1,⟨by omega,by omega, ?_⟩,by omega,⟨by rw[w5],by rw[w4]⟩,St.le.refl _⟩
   rw[hsc]; rfl
  ·have h9:knownT x=false:=by simpa using h9
   rw[if_neg (by simp[h9])] at hsc
   rw[hsc,if_pos (by simp)]
   simp -implicitDefEqProofs only[go_sem,hT,zb4,za8,zb7,za5,za4,zb0,anD,za2,za6,eRd_len,rd_0,rd_1,gdD,zc2,ey_0,ey_1,ey_2,ey_3,hC0,hC1,hC2,hCl,n1,n2,n3,n4,n5,n6,n7,n8,n9,n10,n11,n12,p1,q8,hR4,eT,eT_len,h9,ey_zero]
   exact⟨_,_,DLe.refl _,hle,rfl,rfl⟩
 ·have p1:((i:Int)<n)=False:=by simp; omega
  have hin:i=n:=by omega
  subst hin
  rw[Nat.sub_self,scanT] at hsc
  rw[hsc,if_neg (by simp)]
  simp -implicitDefEqProofs only[go_sem,hT,hC0,hC1,hC2,hCl,n1,n2,n3,n4,n5,n6,n7,n8,n9,n10,n11,n12,p1,bYfbF1]
  exact⟨_,_,DLe.refl _,hle,rfl,rfl⟩
open Go.Proofs
section
variable {b : List Ty} {p : Nat} {last : Int} {left n bad err : Nat}
theorem rd_s1 {q:Nat}:(eRd b p last left n bad err).take 1++[D.int .i64 q]++(eRd b p last left n bad err).drop 2=eRd b q last left n bad err:=rfl
theorem rd_s2 {z:Int}:(eRd b p last left n bad err).take 2++[D.int .i64 z]++(eRd b p last left n bad err).drop 3=eRd b p z left n bad err:=rfl
theorem rd_s3 {q:Nat}:(eRd b p last left n bad err).take 3++[D.int .i64 q]++(eRd b p last left n bad err).drop 4=eRd b p last q n bad err:=rfl
theorem rd_s5 {q:Nat}:(eRd b p last left n bad err).take 5++[D.int .i64 q]++(eRd b p last left n bad err).drop 6=eRd b p last left n q err:=rfl
theorem rd_s6 {q:Nat}:(eRd b p last left n bad err).take 6++[D.int .i64 q]++(eRd b p last left n bad err).drop 7=eRd b p last left n bad q:=rfl
theorem rd_s6':(eRd b p last left n bad err).take 6++[D.int .i64 3]++(eRd b p last left n bad err).drop 7=eRd b p last left n bad 3:=rfl
end
def nextR (b:List Ty) (r p:Nat) (last:Int) (left n:Nat) (d:D) (s:St):Prop:=
 if left=0 then
  if p<b.length then d= .tup [.agg (eEy ey0),.bool false,.int .i64 3]∧s=({}:St).set r (eRd b p last 0 n p 3)
  else d= .tup [.agg (eEy ey0),.bool false,.int .i64 0]∧s=({}:St).set r (eRd b p last 0 n 0 0)
 else if(entD b (bt b 3) p last).2.2≠0 then
  d= .tup [.agg (eEy ey0),.bool false,.int .i64 (entD b (bt b 3) p last).2.2]∧s=({}:St).set r (eRd b p last left n (entD b (bt b 3) p last).2.1 (entD b (bt b 3) p last).2.2)
 else d= .tup [.agg (eEy (entD b (bt b 3) p last).1),.bool true,.int .i64 0]∧s=({}:St).set r (eRd b (entD b (bt b 3) p last).2.1 (entD b (bt b 3) p last).1.pos (left-1) n 0 0)
theorem le_one {r:Nat} {C:List D} {σ:St} (h:σ.box r=some C):St.le (({}:St).set r C) σ:=⟨fun x c hx=>by
  by_cases he:x=r
  ·subst he; simp[St.set] at hx; rw[←hx]; exact h
  ·simp[St.set,he] at hx,fun x c hx=>by simp[St.set] at hx,fun x c hx=>by simp[St.set] at hx⟩
def bYfbG0:=aI @zb4 (aI @za8 (aI @zb7 (aI @anD (aI @za2 (aI @za6 (aI @eRd_len (aI @rd_0 (aI @rd_1 (aI @rd_3 (aI @rd_5 (aI @rd_6 (aI @rd_7 (aI @gdD (aI @zc2 (aI @Int.ofNat_zero @ey_zero)))))))))))))))
theorem next169 (b:List Ty) (r p:Nat) (last:Int) (left n:Nat) (hl:b.length≤140737488355328) (h6:4≤b.length) (hp:p≤b.length) (hleft:left≤4096):
  RCall Tryz.prog 169 [.ptr r 0] (({}:St).set r (eRd b p last left n 0 0)) (nextR b r p last left n):=by
 refine F169.rcall rfl fun T hT=> ?_
 simp -implicitDefEqProofs only[go_sem,c169,hT,bYfbG0]
 intro b2 n1 n2 b5 n3 n4 n5 n6
 have z2:∀C,¬(({}:St).set r C).has b2:=fun C=>by rw[has_set,has_nil]; simp; omega
 have z5:∀C,¬(({}:St).set r C).has b5:=fun C=>by rw[has_set,has_nil]; simp; omega
 by_cases h1:left=0
 ·have q1:((left:Int)=0)=True:=by simp; omega
  by_cases h2:p<b.length
  ·have q2:((p:Int)<b.length)=True:=by simp; omega
   rw[show nextR b r p last left n=fun d s=>d= .tup [.agg (eEy ey0),.bool false,.int .i64 3]∧s=({}:St).set r (eRd b p last 0 n p 3) by funext d s; rw[nextR,if_pos h1,if_pos h2]]
   subst h1
   simp -implicitDefEqProofs only[go_sem,hT,zb4,za8,zb7,anD,za2,za6,eRd_len,rd_0,rd_1,rd_3,rd_5,rd_6,rd_7,gdD,zc2,Int.ofNat_zero,n1,n2,n3,n4,n5,n6,q1,q2,rd_s5,rd_s6',ey_zero]
   refine⟨fun x hx=>by simp[hx],_,_,DLe.refl _,le_one ?_,rfl,rfl⟩
   simp[St.set,n1,n2,n3,n4,n5,n6]
  ·have q2:((p:Int)<b.length)=False:=by simp; omega
   rw[show nextR b r p last left n=fun d s=>d= .tup [.agg (eEy ey0),.bool false,.int .i64 0]∧s=({}:St).set r (eRd b p last 0 n 0 0) by funext d s; rw[nextR,if_pos h1,if_neg h2]]
   subst h1
   simp -implicitDefEqProofs only[go_sem,hT,zb4,za8,zb7,anD,za2,za6,eRd_len,rd_0,rd_1,rd_3,rd_5,rd_6,rd_7,gdD,zc2,Int.ofNat_zero,n1,n2,n3,n4,n5,n6,q1,q2,rd_s5,rd_s6',ey_zero]
   refine⟨_,_,DLe.refl _,le_one ?_,rfl,rfl⟩
   simp[St.set,n1,n2,n3,n4,n5,n6]
 have q1:((left:Int)=0)=False:=by simp; omega
 simp -implicitDefEqProofs only[go_sem,hT,n1,n2,n3,n4,n5,n6,q1,bYfbG0]
 refine callB_box (b:=r) (by simp[St.set,n1,n2,n3,n4,n5,n6]) rfl (entry205 b r p last left n 0 0 hl h6 hp) ?_
 have hpl:=entD_place (b:=b) (loc:=bt b 3) (p:=p) (last:=last)
 obtain⟨e,he⟩:∃e,entD b (bt b 3) p last=e:=⟨_,rfl⟩
 obtain⟨e,q,err⟩:=e
 rw[he] at hpl ⊢
 simp only at hpl ⊢
 by_cases h3:err=0
 case neg=>
  have q3:((err:Int)=0)=False:=by simp; omega
  rw[show nextR b r p last left n=fun d s=>d= .tup [.agg (eEy ey0),.bool false,.int .i64 err]∧s=({}:St).set r (eRd b p last left n q err) by funext d s; rw[nextR,if_neg h1,he,if_pos h3]]
  simp -implicitDefEqProofs only[go_sem,hT,n1,n2,n3,n4,n5,n6,q1,q3,bYfbG0]
  intro b6 n7 n8 n9 n10 n11 n12
  simp -implicitDefEqProofs only[go_sem,hT,zb4,za8,zb7,anD,za2,za6,eRd_len,rd_0,rd_1,rd_3,rd_5,rd_6,rd_7,gdD,zc2,Int.ofNat_zero,n1,n2,n3,n4,n5,n6,n7,n8,n9,n10,n11,n12,q1,q3,ey_zero,rd_s5,rd_s6]
  refine⟨_,_,DLe.refl _,le_one ?_,rfl,rfl⟩
  simp[St.set,n1,n2,n3,n4,n5,n6,n7,n8,n9,n10,n11,n12]
 have q3:((err:Int)=0)=True:=by simp; omega
 obtain⟨hpq,hqb⟩:=hpl h3
 have wl:IntKind.wrap .i64 ((left:Int)-1)=((left-1:Nat):Int):=wrapN (by omega) (by omega)
 rw[show nextR b r p last left n=fun d s=>d= .tup [.agg (eEy e),.bool true,.int .i64 0]∧s=({}:St).set r (eRd b q e.pos (left-1) n 0 0) by funext d s; rw[nextR,if_neg h1,he,if_neg (by simp[h3])]]
 simp -implicitDefEqProofs only[go_sem,hT,n1,n2,n3,n4,n5,n6,q1,q3,wl,bYfbG0]
 intro b6 n7 n8 n9 n10 n11 n12
 simp -implicitDefEqProofs only[go_sem,hT,zb4,za8,zb7,anD,za2,za6,eRd_len,rd_0,rd_1,rd_3,rd_5,rd_6,rd_7,gdD,zc2,Int.ofNat_zero,n1,n2,n3,n4,n5,n6,n7,n8,n9,n10,n11,n12,q1,q3,wl,ey_zero,ey_0,rd_s1,rd_s2,rd_s3]
 refine⟨fun x hx=>by simp[hx],_,_,DLe.refl _,le_one ?_,rfl,rfl⟩
 simp[St.set,n1,n2,n3,n4,n5,n6,n7,n8,n9,n10,n11,n12]
open Go.Proofs
theorem locals135 (b:List Ty) (r p:Nat) (last:Int) (left n bad err:Nat) (h6:4≤b.length):
  RCall Tryz.prog 135 [.ptr r 0] (({}:St).set r (eRd b p last left n bad err)) fun d s'=>d= .int .i64 (bt b 3)∧s'=({}:St).set r (eRd b p last left n bad err):=by
 have hR3:=bt_at (b:=b) (i:=3) (by omega)
 have hb3:=bt_lt b 3
 have u3:IntKind.wrap .i64 (bt b 3:Int)=bt b 3:=zc1 (by omega) (by omega)
 refine F135.rcall rfl fun T hT=> ?_
 simp -implicitDefEqProofs only[go_sem,c135,hT,eRd_len,rd_0,rd_7,zc2,rws_one eT_len,gdD,hR3,u3]
 exact⟨by omega,_,_,DLe.refl _,St.le.refl _,rfl,rfl⟩
theorem all136 (r:Nat):RCall Tryz.prog 136 [.ptr r 0] {} fun d s'=>∃bc,d= .func (.func 168) [] [.ptr bc 0]∧s'=({}:St).set bc [.ptr r 0]:=by
 refine F136.rcall rfl fun T hT=> ?_
 simp -implicitDefEqProofs only[go_sem,c136,hT]
 intro bc
 exact⟨_,_,DLe.refl _,St.le.refl _,bc,rfl,rfl⟩
end Go.AL
namespace Go.AL
inductive Rz (α:Type) where
 |ok (x:α)
 |no (at':Int) (why:Nat)
structure PS where
 p:Nat
 fr:Fr
 live:Bool
 cmp:Nat
 fet:List Nat
def findE (l:List Ey) (a:Int):Option Ey:=l.find? fun x=>decide (x.pos=a)
def nextP (l:List Ey) (n p:Nat):Nat:=match l.find? fun x=>decide ((p:Int)+1≤x.pos) with
 |some y=>if y.pos<n then y.pos.toNat else n
 |none=>n
def strayE (l:List Ey) (p q:Nat):Option Ey:=l.find? fun x=>decide ((p:Int)<x.pos∧x.pos<q)
def comeD (cs:List Cl) (l:List Ey) (n:Nat) (s:PS):Rz (PS×Bool):=
 match findE l s.p with
 |none=>if s.live=true then .ok (s,true) else .no s.p 90
 |some x=>
  if s.live=true∧x.dead=true then .no s.p 91
  else if s.live=true∧subFr cs s.fr x.fr=false then .no s.p 92
  else if x.dead=true then .ok ({s with p:=nextP l n s.p},false)
  else .ok ({s with fr:=x.fr,live:=true,cmp:=s.cmp+(if s.live=true then 1 else 0)},true)
def endD (n p q:Nat) (op:Nat) (fr:Fr) (cmp:Nat) (fet:List Nat):Rz PS:=
 if endsB op=true then .ok ⟨q,fr,false,cmp,fet⟩ else if n≤q then .no p 51 else .ok ⟨q,fr,true,cmp,fet⟩
def jumpD (cs:List Cl) (l:List Ey) (n p:Nat) (a:Int) (fr:Fr):Option Nat:=
 if n≤a then some 50 else match findE l a with
 |none=>some 90
 |some x=>if x.dead=true then some 91 else if subFr cs fr x.fr=false then some 92 else none
def fetD (e:En) (b:List Ty) (l:List Ey) (s:PS):Rz PS:=
 if(decF b s.p).2≠0 then .no s.p (decF b s.p).2
 else match strayE l s.p (s.p+zf1 (decF b s.p).1.op.val) with
 |some x=> .no x.pos 93
 |none=>
  if(applyR e s.fr (decF b s.p).1).2≠0 then .no s.p (applyR e s.fr (decF b s.p).1).2
  else if jumpsB (decF b s.p).1.op.val=true then
   match jumpD e.cs l b.length s.p (decF b s.p).1.a (applyR e s.fr (decF b s.p).1).1 with
   |some w=> .no s.p w
   |none=>endD b.length s.p (s.p+zf1 (decF b s.p).1.op.val) (decF b s.p).1.op.val (applyR e s.fr (decF b s.p).1).1 (s.cmp+1) (s.fet++[s.p])
  else endD b.length s.p (s.p+zf1 (decF b s.p).1.op.val) (decF b s.p).1.op.val (applyR e s.fr (decF b s.p).1).1 s.cmp (s.fet++[s.p])
def runD (e:En) (b:List Ty) (l:List Ey):Nat→PS→Rz PS
 |0,s=> .ok s
 |k+1,s=>if b.length≤s.p then .ok s else match comeD e.cs l b.length s with
  | .no a w=> .no a w
  | .ok (s',false)=>runD e b l k s'
  | .ok (s',true)=>match fetD e b l s' with
   | .no a w=> .no a w
   | .ok s''=>runD e b l k s''
def psOf (e:En):List Ty:=((e.sgs[e.fn.toNat]?).map (·.ps)).getD []
def startS (e:En) (n:Int):PS:=⟨0,(startF e.cs.length (psOf e) n).1,true,0,[]⟩
def badE (e:En) (l:List Ey):Option Ey:=l.find? fun x=> !x.dead&&decide (checkF e.cs.length x.fr≠0)
def lateE (l:List Ey) (n:Nat):Option Ey:=l.find? fun x=>decide ((n:Int)≤x.pos)
def beginD (e:En) (n:Int) (m:Nat) (c:List Ty):Option (Int×Nat):=
 if canB e=false∨n<(psOf e).length∨16<n then some (0,1)
 else if 4096<m then some (0,4)
 else if m=0 then some (0,51)
 else if(decC c).2.2≠0 then some ((decC c).2.1,(decC c).2.2)
 else match badE e (decC c).1.es with
 |some x=>some (x.pos,65)
 |none=>if((decC c).1.loc:Int)≠n then some (0,32) else none
def checkD (e:En) (n:Int) (b c:List Ty):(Nat×List Nat)×Int×Nat:=
 match beginD e n b.length c with
 |some (a,w)=>((0,[]),a,w)
 |none=>match runD e b (decC c).1.es (b.length+1) (startS e n) with
  | .no a w=>((0,[]),a,w)
  | .ok s=>match lateE (decC c).1.es b.length with
   |some x=>((0,[]),x.pos,93)
   |none=>((s.cmp,s.fet),0,0)
def Rise (l:List Ey):Prop:=l.Pairwise fun x y=>x.pos<y.pos
def cnt (l:List Ey) (a:Int):Nat:=l.countP fun x=>decide (x.pos<a)
theorem cnt_cons (x:Ey) (r:List Ey) (a:Int):cnt (x::r) a=cnt r a+if x.pos<a then 1 else 0:=by simp[cnt,List.countP_cons]
theorem rise_cons {x:Ey} {r:List Ey} (h:Rise (x::r)):(∀y∈r,x.pos<y.pos)∧Rise r:=List.pairwise_cons.1 h
theorem cnt_zero {l:List Ey} {a:Int} (h:∀y∈l,a≤y.pos):cnt l a=0:=by
 simp only[cnt,List.countP_eq_zero,decide_eq_true_eq]
 exact fun y hy=>by have:=h y hy; omega
theorem cnt_le (l:List Ey) (a:Int):cnt l a≤l.length:=List.countP_le_length
theorem cnt_iff:∀{l:List Ey} (h:Rise l) {a:Int} {i:Nat} (hi:i<l.length),l[i].pos<a↔i<cnt l a
 |[],_,_,i,hi=>by simp at hi
 |x::r,h,a,i,hi=>by
  obtain⟨h1,h2⟩:=rise_cons h
  rw[cnt_cons]
  by_cases hx:x.pos<a
  ·rw[if_pos hx]
   cases i with
   |zero=>simpa using hx
   |succ i=>
    have:=cnt_iff h2 (a:=a) (i:=i) (by simpa using hi)
    simp only[List.getElem_cons_succ]
    omega
  ·rw[if_neg hx,cnt_zero fun y hy=>by have:=h1 y hy; omega]
   cases i with
   |zero=>simpa using hx
   |succ i=>
    have:=h1 (r[i]'(by simpa using hi)) (List.getElem_mem _)
    simp only[List.getElem_cons_succ]
    omega
theorem find_ge:∀{l:List Ey} (h:Rise l) (a:Int),l.find? (fun x=>decide (a≤x.pos))=l[cnt l a]?
 |[],_,_=>rfl
 |x::r,h,a=>by
  obtain⟨h1,h2⟩:=rise_cons h
  rw[cnt_cons]
  by_cases hx:x.pos<a
  ·rw[if_pos hx,List.find?_cons_of_neg (by simp; omega),find_ge h2]
   simp
  ·rw[if_neg hx,List.find?_cons_of_pos (by simp; omega),cnt_zero fun y hy=>by have:=h1 y hy; omega]
   simp
theorem find_none {l:List Ey} {f:Ey→Bool} (h:∀y∈l,f y=false):l.find? f=none:=by
 rw[List.find?_eq_none]; intro y hy; simp[h y hy]
theorem findE_cnt:∀{l:List Ey} (h:Rise l) (a:Int),findE l a=(l[cnt l a]?).bind fun x=>if x.pos=a then some x else none
 |[],_,_=>rfl
 |x::r,h,a=>by
  obtain⟨h1,h2⟩:=rise_cons h
  have ih:=findE_cnt h2 a
  unfold findE at ih ⊢
  rw[cnt_cons]
  by_cases hx:x.pos<a
  ·rw[if_pos hx,List.find?_cons_of_neg (by simp; omega),ih]
   simp
  ·rw[if_neg hx,cnt_zero fun y hy=>by have:=h1 y hy; omega]
   by_cases he:x.pos=a
   ·rw[List.find?_cons_of_pos (by simp[he])]; simp[he]
   ·rw[List.find?_cons_of_neg (by simp[he]),find_none fun y hy=>by have:=h1 y hy; simp; omega]
    simp[he]
theorem strayE_cnt:∀{l:List Ey} (h:Rise l) (p q:Nat),strayE l p q=(l[cnt l ((p:Int)+1)]?).bind fun x=>if x.pos<q then some x else none
 |[],_,_,_=>rfl
 |x::r,h,p,q=>by
  obtain⟨h1,h2⟩:=rise_cons h
  have ih:=strayE_cnt h2 p q
  unfold strayE at ih ⊢
  rw[cnt_cons]
  by_cases hx:x.pos<(p:Int)+1
  ·rw[if_pos hx,List.find?_cons_of_neg (by simp; omega),ih]
   simp
  ·rw[if_neg hx,cnt_zero fun y hy=>by have:=h1 y hy; omega]
   by_cases he:x.pos<q
   ·rw[List.find?_cons_of_pos (by simp; omega)]; simp[he]
   ·rw[List.find?_cons_of_neg (by simp; omega),find_none fun y hy=>by have:=h1 y hy; simp; omega]
    simp[he]
theorem cnt_succ {l:List Ey} (h:Rise l) (a:Int):cnt l (a+1)=cnt l a+if(findE l a).isSome=true then 1 else 0:=by
 induction l with
 |nil=>rfl
 |cons x r ih=>
  obtain⟨h1,h2⟩:=rise_cons h
  rw[cnt_cons,cnt_cons,ih h2]
  unfold findE
  by_cases hx:x.pos=a
  ·have h0:List.find? (fun x=>decide (x.pos=a)) r=none:=find_none fun y hy=>by have:=h1 y hy; simp; omega
   rw[List.find?_cons_of_pos (by simp[hx]),if_pos (show x.pos<a+1 by omega),if_neg (show ¬x.pos<a by omega)]
   simp[findE,h0]
  ·rw[List.find?_cons_of_neg (by simp[hx])]
   by_cases hy:x.pos<a
   ·rw[if_pos (show x.pos<a+1 by omega),if_pos hy]; omega
   ·rw[if_neg (show ¬x.pos<a+1 by omega),if_neg hy]; omega
theorem nextP_cnt {l:List Ey} (h:Rise l) (n p:Nat):nextP l n p=match l[cnt l ((p:Int)+1)]? with|some y=>if y.pos<n then y.pos.toNat else n|none=>n:=by
 unfold nextP; rw[find_ge h]
theorem entD_pos {b:List Ty} {loc p:Nat} {last:Int} (h:(entD b loc p last).2.2=0):last<(entD b loc p last).1.pos∧0≤(entD b loc p last).1.pos∧(entD b loc p last).1.pos<4096:=by
 have ha:afterE (word2 b p) last=0:=by
  unfold entD at h
  split at h; · exact absurd h (by simp)
  split at h
  ·rename_i h2; exact absurd h h2
  ·rename_i h2; exact Classical.not_not.1 h2
 have hp:(entD b loc p last).1.pos=word2 b p:=by
  unfold entD at h ⊢
  split; · rename_i h1; rw[if_pos h1] at h; exact absurd h (by simp)
  rename_i h1; rw[if_neg h1] at h
  split; · rename_i h2; rw[if_pos h2] at h; exact absurd h h2
  rename_i h2; rw[if_neg h2] at h
  split; · rename_i h3; rw[if_pos h3] at h; exact absurd h (by simp)
  rename_i h3; rw[if_neg h3] at h
  split; · rename_i h4; rw[if_pos h4] at h; exact absurd h (by simp)
  rename_i h4; rw[if_neg h4] at h
  split; · rfl
  rename_i h5; rw[if_neg h5] at h
  split; · rename_i h6; rw[if_pos h6] at h; exact absurd h (by simp)
  rename_i h6; rw[if_neg h6] at h
  split; · rename_i h7; rw[if_pos h7] at h; exact absurd h (by simp)
  rename_i h7; rw[if_neg h7] at h
  split; · rename_i h8; rw[if_pos h8] at h; exact absurd h h8
  rfl
 rw[hp]
 unfold afterE at ha
 split at ha; · cases ha
 split at ha; · cases ha
 split at ha; · cases ha
 omega
theorem decP_rise (b:List Ty) (loc:Nat):∀(n p:Nat) (last:Int),Rise (esOf (decP b loc n p last).1)∧(∀x∈esOf (decP b loc n p last).1,last<x.pos∧0≤x.pos∧x.pos<4096)∧(esOf (decP b loc n p last).1).length≤n
 |0,p,last=>by simp[decP,esOf,Rise]
 |n+1,p,last=>by
  rw[decP]
  split
  ·simp[esOf,Rise]
  ·rename_i h
   have h0:(entD b loc p last).2.2=0:=Classical.not_not.1 h
   obtain⟨h1,h2,h3⟩:=entD_pos h0
   obtain⟨i1,i2,i3⟩:=decP_rise b loc n (entD b loc p last).2.1 (entD b loc p last).1.pos
   refine⟨List.pairwise_cons.2 ⟨fun y hy=>(i2 y hy).1,i1⟩,fun x hx=> ?_,by simpa[esOf] using i3⟩
   simp only[esOf,List.map_cons,List.mem_cons] at hx
   rcases hx with rfl|hx
   ·exact⟨h1,h2,h3⟩
   ·have:=i2 x hx; omega
theorem decC_rise (b:List Ty):Rise (decC b).1.es∧(∀x∈(decC b).1.es,0≤x.pos∧x.pos<4096)∧(decC b).1.es.length≤4096∧(decC b).1.loc≤255:=by
 unfold decC
 split
 ·simp[ct0,Rise]
 ·rename_i h
  have h0:(toldD b).2.2=0:=Classical.not_not.1 h
  have hb:=bt_lt b 3
  unfold toldD at h0 ⊢
  split
  ·simp only[esOf,List.map_nil,List.not_mem_nil,false_implies,implies_true,List.length_nil,true_and]; exact⟨List.Pairwise.nil,by omega,by omega⟩
  rename_i h1
  obtain⟨_,_,hw⟩:=headD_zero (Classical.not_not.1 h1)
  obtain⟨i1,i2,i3⟩:=decP_rise b (bt b 3) (word2 b 4) 6 (-1)
  have i4:bt b 3≤255:=by omega
  have i5:(esOf (decP b (bt b 3) (word2 b 4) 6 (-1)).1).length≤4096:=by omega
  have i2':∀x∈esOf (decP b (bt b 3) (word2 b 4) 6 (-1)).1,0≤x.pos∧x.pos<4096:=fun x hx=>(i2 x hx).2
  split
  ·exact⟨i1,i2',i5,i4⟩
  split
  ·exact⟨i1,i2',i5,i4⟩
  ·exact⟨i1,i2',i5,i4⟩
end Go.AL
namespace Go.AL
theorem runD_inv {e:En} {b:List Ty} {l:List Ey} {J J':PS→Prop} (h1:∀s s',s.p<b.length→J s→comeD e.cs l b.length s= .ok (s',false)→J s')
  (h2:∀s s',s.p<b.length→J s→comeD e.cs l b.length s= .ok (s',true)→J' s') (h3:∀s s',J' s→fetD e b l s= .ok s'→J s'):∀(k:Nat) (s s':PS),J s→runD e b l k s= .ok s'→J s'
 |0,s,s',hJ,h=>by simp only[runD,Rz.ok.injEq] at h; subst h; exact hJ
 |k+1,s,s',hJ,h=>by
  rw[runD] at h
  split at h
  ·simp only[Rz.ok.injEq] at h; subst h; exact hJ
  rename_i hp
  split at h
  ·cases h
  ·rename_i s1 hc; exact runD_inv h1 h2 h3 k s1 s' (h1 s s1 (by omega) hJ hc) h
  ·rename_i s1 hc
   split at h
   ·cases h
   ·rename_i s2 hf; exact runD_inv h1 h2 h3 k s2 s' (h3 s1 s2 (h2 s s1 (by omega) hJ hc) hf) h
theorem come_off {cs:List Cl} {l:List Ey} {n:Nat} {s s':PS} (h:comeD cs l n s= .ok (s',false)):s.live=false∧s'={s with p:=nextP l n s.p}∧∃x,findE l s.p=some x∧x.dead=true:=by
 unfold comeD at h
 split at h
 ·split at h <;> simp at h
 ·rename_i x hx
  split at h; · cases h
  split at h; · cases h
  rename_i h1 h2
  split at h
  ·rename_i hd
   simp only[Rz.ok.injEq,Prod.mk.injEq,and_true] at h
   exact⟨by simpa[hd] using h1,h.symm,x,hx,hd⟩
  ·simp at h
theorem come_on {cs:List Cl} {l:List Ey} {n:Nat} {s s':PS} (h:comeD cs l n s= .ok (s',true)):s'.p=s.p∧s'.live=true∧s'.fet=s.fet∧s'.cmp≤s.cmp+(if s.live=true then 1 else 0)∧((findE l s.p=none∧s'=s)∨∃x,findE l s.p=some x∧x.dead=false∧s'.fr=x.fr):=by
 unfold comeD at h
 split at h
 ·rename_i hx
  split at h
  ·rename_i hl
   simp only[Rz.ok.injEq,Prod.mk.injEq,and_true] at h
   subst h
   exact⟨rfl,hl,rfl,by omega,.inl ⟨hx,rfl⟩⟩
  ·cases h
 ·rename_i x hx
  split at h; · cases h
  split at h; · cases h
  split at h
  ·simp at h
  ·rename_i hd
   simp only[Rz.ok.injEq,Prod.mk.injEq,and_true] at h
   subst h
   exact⟨rfl,rfl,rfl,Nat.le_refl _,.inr ⟨x,hx,by simpa using hd,rfl⟩⟩
theorem end_ok {n p q op:Nat} {fr:Fr} {cmp:Nat} {fet:List Nat} {s:PS} (h:endD n p q op fr cmp fet= .ok s):s=⟨q,fr, !endsB op,cmp,fet⟩∧(endsB op=false→q<n):=by
 unfold endD at h
 split at h
 ·rename_i he; simp only[Rz.ok.injEq] at h; subst h; simp[he]
 ·rename_i he
  split at h
  ·cases h
  ·rename_i hq; simp only[Rz.ok.injEq] at h; subst h; simp only[Bool.not_eq_true] at he; simp[he]; omega
theorem fet_ok {e:En} {b:List Ty} {l:List Ey} {s s':PS} (h:fetD e b l s= .ok s'):
  (decF b s.p).2=0∧strayE l s.p (s.p+zf1 (decF b s.p).1.op.val)=none∧(applyR e s.fr (decF b s.p).1).2=0∧
  (jumpsB (decF b s.p).1.op.val=true→jumpD e.cs l b.length s.p (decF b s.p).1.a (applyR e s.fr (decF b s.p).1).1=none)∧
  (endsB (decF b s.p).1.op.val=false→s.p+zf1 (decF b s.p).1.op.val<b.length)∧
  s'=⟨s.p+zf1 (decF b s.p).1.op.val,(applyR e s.fr (decF b s.p).1).1, !endsB (decF b s.p).1.op.val,s.cmp+(if jumpsB (decF b s.p).1.op.val=true then 1 else 0),s.fet++[s.p]⟩:=by
 unfold fetD at h
 split at h; · cases h
 rename_i h1
 split at h; · cases h
 rename_i h2
 split at h; · cases h
 rename_i h3
 split at h
 ·rename_i hj
  split at h; · cases h
  rename_i h4
  obtain⟨h5,h6⟩:=end_ok h
  exact⟨Classical.not_not.1 h1,h2,Classical.not_not.1 h3,fun _=>h4,h6,by rw[h5,if_pos hj]⟩
 ·rename_i hj
  obtain⟨h5,h6⟩:=end_ok h
  exact⟨Classical.not_not.1 h1,h2,Classical.not_not.1 h3,fun hh=>absurd hh hj,h6,by rw[h5,if_neg hj]; rfl⟩
theorem decF_ok {b:List Ty} {p:Nat} (h:(decF b p).2=0):p<b.length∧(decF b p).1=decIn b p ((b[p]?).getD 0)∧1≤zf1 (decF b p).1.op.val∧p+zf1 (decF b p).1.op.val≤b.length:=by
 unfold decF at h ⊢
 split; · rename_i h1; rw[if_pos h1] at h; simp at h
 rename_i h1; rw[if_neg h1] at h
 split; · rename_i h2; rw[if_pos h2] at h; simp at h
 rename_i h2; rw[if_neg h2] at h
 split; · rename_i h3; rw[if_pos h3] at h; simp at h
 rename_i h3; rw[if_neg h3] at h
 split; · rename_i h4; rw[if_pos h4] at h; simp at h
 rename_i h4; rw[if_neg h4] at h
 split; · rename_i h5; rw[if_pos h5] at h; simp at h
 refine⟨by omega,rfl, ?_, ?_⟩
 ·show 1≤zf1 ((b[p]?).getD 0).val; omega
 ·show p+zf1 ((b[p]?).getD 0).val≤b.length; omega
theorem nextP_gt {l:List Ey} {n p:Nat} (h:p<n):p<nextP l n p∧nextP l n p≤n:=by
 unfold nextP
 split
 ·rename_i y hy
  have:=List.find?_some hy
  simp only[decide_eq_true_eq] at this
  split <;> omega
 ·omega
theorem nextP_spec (l:List Ey) (n p:Nat):nextP l n p=n∨∃y∈l,(p:Int)+1≤y.pos∧y.pos<n∧nextP l n p=y.pos.toNat:=by
 unfold nextP
 split
 ·rename_i y hy
  have:=List.find?_some hy
  simp only[decide_eq_true_eq] at this
  split
  ·rename_i h; exact .inr ⟨y,List.mem_of_find?_eq_some hy,this,h,rfl⟩
  ·exact .inl rfl
 ·exact .inl rfl
theorem runD_end {e:En} {b:List Ty} {l:List Ey}:∀(k:Nat) (s s':PS),b.length<s.p+k→runD e b l k s= .ok s'→b.length≤s'.p
 |0,s,s',hk,h=>by simp only[runD,Rz.ok.injEq] at h; subst h; omega
 |k+1,s,s',hk,h=>by
  rw[runD] at h
  split at h
  ·simp only[Rz.ok.injEq] at h; subst h; assumption
  rename_i hp
  split at h
  ·cases h
  ·rename_i s1 hc
   have:=(nextP_gt (l:=l) (n:=b.length) (p:=s.p) (by omega)).1
   have hp1:s1.p=nextP l b.length s.p:=by rw[(come_off hc).2.1]
   exact runD_end k s1 s' (by omega) h
  ·rename_i s1 hc
   split at h
   ·cases h
   ·rename_i s2 hf
    obtain⟨f1,_,_,_,_,f6⟩:=fet_ok hf
    have:=(decF_ok f1).2.2.1
    have hp1:=(come_on hc).1
    have hp2:s2.p=s1.p+zf1 (decF b s1.p).1.op.val:=by rw[f6]
    exact runD_end k s2 s' (by omega) h
theorem stray_none {l:List Ey} {p q:Nat} (h:strayE l p q=none):∀x∈l,¬((p:Int)<x.pos∧x.pos<q):=fun x hx=>by
 have:=List.find?_eq_none.1 h x hx
 simpa using this
theorem jump_no {cs:List Cl} {l:List Ey} {n p:Nat} {a:Int} {f:Fr} {w:Nat} (h:jumpD cs l n p a f=some w):w≠0:=by
 unfold jumpD at h
 split at h; · cases h; decide
 split at h; · cases h; decide
 split at h; · cases h; decide
 split at h; · cases h; decide
 cases h
theorem fet_no {e:En} {b:List Ty} {l:List Ey} {s:PS} {a:Int} {w:Nat} (h:fetD e b l s= .no a w):w≠0:=by
 unfold fetD endD at h
 split at h; · rename_i h1; cases h; exact h1
 split at h; · cases h; decide
 split at h; · rename_i h1; cases h; exact h1
 split at h
 ·split at h; · rename_i hj; cases h; exact jump_no hj
  split at h; · cases h
  split at h; · cases h; decide
  cases h
 ·split at h; · cases h
  split at h; · cases h; decide
  cases h
theorem come_no {cs:List Cl} {l:List Ey} {n:Nat} {s:PS} {a:Int} {w:Nat} (h:comeD cs l n s= .no a w):w≠0:=by
 unfold comeD at h
 split at h
 ·split at h; · cases h
  cases h; decide
 ·split at h; · cases h; decide
  split at h; · cases h; decide
  split at h <;> cases h
theorem runD_no {e:En} {b:List Ty} {l:List Ey} {a:Int} {w:Nat}:∀(k:Nat) (s:PS),runD e b l k s= .no a w→w≠0
 |0,s,h=>by cases h
 |k+1,s,h=>by
  rw[runD] at h
  split at h; · cases h
  split at h
  ·rename_i hc; cases h; exact come_no hc
  ·exact runD_no k _ h
  ·split at h
   ·rename_i hf; cases h; exact fet_no hf
   ·exact runD_no k _ h
open Go.Proofs
structure IS where
 has:List Bool
 fr:List Fr
 fresh:List Bool
 tk:List Nat
def onD (i:Ins) (n:Nat):List Int×Nat:=
 let behind:Int:=i.pos+zf1 i.op.val
 if jumpsB i.op.val=true∧(n:Int)≤i.a then([],50)
 else if endsB i.op.val=false∧behind=n then([],51)
 else((if jumpsB i.op.val=true∧(endsB i.op.val=true∨i.a<behind) then [i.a] else [])++(if endsB i.op.val=false then [behind] else [])++
  (if jumpsB i.op.val=true∧endsB i.op.val=false∧behind<i.a then [i.a] else []),0)
def overB (tk:List Nat) (a size:Nat):Bool:=(List.range tk.length).any fun x=>decide (0<(tk[x]?).getD 0∧x≠a∧a<x+(tk[x]?).getD 0∧x<a+size)
def handD (l:List Cl) (s:IS) (a:Nat) (f:Fr):IS×Nat:=
 if(s.has[a]?).getD false=false then(⟨s.has.set a true,s.fr.set a f,s.fresh.set a true,s.tk⟩,0)
 else if(mergeF l ((s.fr[a]?).getD (fr0 0)) f).2≠0 then(s,(mergeF l ((s.fr[a]?).getD (fr0 0)) f).2)
 else if(mergeF l ((s.fr[a]?).getD (fr0 0)) f).1≠(s.fr[a]?).getD (fr0 0) then(⟨s.has,s.fr.set a (mergeF l ((s.fr[a]?).getD (fr0 0)) f).1,s.fresh.set a true,s.tk⟩,0)
 else(s,0)
def handsD (l:List Cl) (f:Fr):List Int→IS→IS×Int×Nat
 |[],s=>(s,0,0)
 |a::r,s=>if(handD l s a.toNat f).2≠0 then((handD l s a.toNat f).1,a,(handD l s a.toNat f).2) else handsD l f r (handD l s a.toNat f).1
def roundD (e:En) (b:List Ty) (s:IS) (a:Nat):IS×Int×Nat:=
 let s1:IS:={s with fresh:=s.fresh.set a false}
 if a=b.length then(s1,a,51)
 else if(decF b a).2≠0 then(s1,a,(decF b a).2)
 else if overB s.tk a (zf1 (decF b a).1.op.val)=true then(s1,a,80)
 else
  let s2:IS:={s1 with tk:=s.tk.set a (zf1 (decF b a).1.op.val)}
  if(applyR e ((s.fr[a]?).getD (fr0 0)) (decF b a).1).2≠0 then(s2,a,(applyR e ((s.fr[a]?).getD (fr0 0)) (decF b a).1).2)
  else if(onD (decF b a).1 b.length).2≠0 then(s2,a,(onD (decF b a).1 b.length).2)
  else handsD e.cs (applyR e ((s.fr[a]?).getD (fr0 0)) (decF b a).1).1 (onD (decF b a).1 b.length).1 s2
def leastD (l:List Bool):Int:=match l.findIdx? id with|some i=>i|none=> -1
open Go.Proofs
def c68:CT (Tryz.f68.body.getD .skip):=⟨_,by conv=>lhs; cbv⟩
theorem F68:Fun1 Tryz.prog 68 17 c68.1 [.tmp 2]:=mkT Tryz.func68 rfl (by decide +kernel) Tryz.ntmps68 rfl c68.2 rfl
def c69:CT (Tryz.f69.body.getD .skip):=⟨_,by conv=>lhs; cbv⟩
theorem F69:Fun1 Tryz.prog 69 97 c69.1 [.tmp 8,.tmp 9]:=mkT Tryz.func69 rfl (by decide +kernel) Tryz.ntmps69 rfl c69.2 rfl
def c111:CT (Tryz.f111.body.getD .skip):=⟨_,by conv=>lhs; cbv⟩
theorem F111:Fun1 Tryz.prog 111 44 c111.1 [.tmp 6]:=mkT Tryz.func111 rfl (by decide +kernel) Tryz.ntmps111 rfl c111.2 rfl
def c112:CT (Tryz.f112.body.getD .skip):=⟨_,by conv=>lhs; cbv⟩
theorem F112:Fun1 Tryz.prog 112 73 c112.1 [.tmp 4,.tmp 5]:=mkT Tryz.func112 rfl (by decide +kernel) Tryz.ntmps112 rfl c112.2 rfl
def c113:AC:=
.seq (rg [oO 4 (.box 126 (tT 0)),oO 7 (.box 84 (tT 3)),oO 8 (.assign (kI 0))])
 (.seq (.seq (rg [oO 11 (.fieldAddr 126 (tT 4) 0),oO 12 (.load 123 (tT 11)),oO 13 (.move (tT 2)),oO 14 (.indexAddr 123 (tT 12) (tT 13)),oO 15 (.load 4 (tT 14)),oO 16 (.unOp .not 4 (tT 15))])
 (.cond (tT 16) (.seq (.seq (.reg true [4,7] [⟨⟨some 17,.fieldAddr 126 (tT 4) 0,none⟩,false,true⟩,⟨⟨some 18,.load 123 (tT 17),none⟩,false,true⟩,⟨⟨some 19,.move (tT 2),none⟩,false,true⟩,⟨⟨some 20,.fieldAddr 126 (tT 4) 1,none⟩,true,true⟩,⟨⟨some 21,.load 124 (tT 20),none⟩,true,true⟩,⟨⟨some 22,.move (tT 2),none⟩,true,true⟩,⟨⟨some 23,.fieldAddr 126 (tT 4) 2,none⟩,true,true⟩,⟨⟨some 24,.load 123 (tT 23),none⟩,true,true⟩,⟨⟨some 25,.move (tT 2),none⟩,true,true⟩,⟨⟨some 26,.load 84 (tT 7),none⟩,true,true⟩,oO 27 (.indexAddr 123 (tT 18) (tT 19)),oN (.store 4 (tT 27) (.const (.bool true))),oO 28 (.indexAddr 124 (tT 21) (tT 22)),oN (.store 84 (tT 28) (tT 26))])
 (rg [oO 29 (.indexAddr 123 (tT 24) (tT 25)),oN (.store 4 (tT 29) (.const (.bool true)))]))
 (.seq (rg [oO 8 (.assign (kI 0))])
 (.ret)))
 (.skip)))
 (.seq (.reg true [] [⟨⟨some 31,.move (tT 1),none⟩,false,true⟩,⟨⟨some 32,.fieldAddr 126 (tT 4) 1,none⟩,false,true⟩,⟨⟨some 33,.load 124 (tT 32),none⟩,false,true⟩,⟨⟨some 34,.move (tT 2),none⟩,false,true⟩,⟨⟨some 35,.indexAddr 124 (tT 33) (tT 34),none⟩,false,true⟩,⟨⟨some 36,.load 84 (tT 35),none⟩,false,true⟩,⟨⟨some 37,.load 84 (tT 7),none⟩,false,true⟩,⟨⟨some 38,cF (.func 151) #[tT 31,tT 36,tT 37] #[22,84,84],none⟩,false,true⟩,⟨⟨some 30,.move (tT 38),none⟩,false,true⟩,⟨⟨some 39,.extract (tT 30) 0,none⟩,false,true⟩,⟨⟨some 40,.extract (tT 30) 1,none⟩,true,true⟩,⟨⟨some 9,.alloc 84,none⟩,true,false⟩,oN (.store 84 (tT 9) (tT 39)),oO 10 (.assign (tT 40))])
 (.seq (.seq (rg [oO 41 (.move (tT 10)),oO 42 (.binOp .neq 32 (tT 41) (kI 0) 32)])
 (.cond (tT 42) (.seq (rg [oO 43 (.move (tT 10)),oO 8 (.assign (tT 43))])
 (.ret))
 (.skip)))
 (.seq (.seq (.reg true [] [⟨⟨some 44,.load 84 (tT 9),none⟩,false,true⟩,⟨⟨some 45,.fieldAddr 126 (tT 4) 1,none⟩,false,true⟩,⟨⟨some 46,.load 124 (tT 45),none⟩,false,true⟩,oO 47 (.move (tT 2)),oO 48 (.indexAddr 124 (tT 46) (tT 47)),oO 49 (.load 84 (tT 48)),oO 50 (.binOp .neq 84 (tT 44) (tT 49) 84)])
 (.cond (tT 50) (.seq (.reg true [4] [⟨⟨some 51,.fieldAddr 126 (tT 4) 1,none⟩,false,true⟩,⟨⟨some 52,.load 124 (tT 51),none⟩,false,true⟩,⟨⟨some 53,.move (tT 2),none⟩,false,true⟩,⟨⟨some 54,.fieldAddr 126 (tT 4) 2,none⟩,true,true⟩,⟨⟨some 55,.load 123 (tT 54),none⟩,true,true⟩,⟨⟨some 56,.move (tT 2),none⟩,true,true⟩,oO 57 (.load 84 (tT 9)),oO 58 (.indexAddr 124 (tT 52) (tT 53)),oN (.store 84 (tT 58) (tT 57))])
 (rg [oO 59 (.indexAddr 123 (tT 55) (tT 56)),oN (.store 4 (tT 59) (.const (.bool true)))]))
 (.skip)))
 (.seq (rg [oO 8 (.assign (kI 0))])
 .ret)))))
theorem F113:Fun1 Tryz.prog 113 60 c113 [.tmp 8]:=mkT Tryz.func113 rfl (by decide +kernel) Tryz.ntmps113 rfl (by kernel_rfl) rfl
open Go.Proofs
def eN (n:Nat):List D:=[.int .i64 n]
open Go.Proofs
def fl {α:Type} (enc:α→List D) (xs:List α):List D:=(rws enc xs).flatten
section
variable {α : Type} {enc : α → List D} {s : Nat}
theorem fl_nil:fl enc []=[]:=rfl
theorem fl_cons (x:α) (xs:List α):fl enc (x::xs)=enc x++fl enc xs:=rfl
theorem fl_app (xs ys:List α):fl enc (xs++ys)=fl enc xs++fl enc ys:=by simp[fl,rws]
theorem fl_len (h:∀x,(enc x).length=s):∀xs:List α,(fl enc xs).length=xs.length*s
 |[]=>by simp[fl_nil]
 |x::xs=>by rw[fl_cons,List.length_append,h,fl_len h xs,List.length_cons,Nat.add_mul,Nat.one_mul,Nat.add_comm]
theorem fl_parts (h:∀x,(enc x).length=s) {xs:List α} {i:Nat} (hi:i<xs.length):fl enc xs=fl enc (xs.take i)++(enc xs[i]++fl enc (xs.drop (i+1)))∧(fl enc (xs.take i)).length=i*s:=by
 refine⟨?_,by rw[fl_len h,List.length_take,Nat.min_eq_left (by omega)]⟩
 rw[←fl_cons,←fl_app]
 congr 1
 rw[List.getElem_cons_drop,List.take_append_drop]
theorem fl_at (h:∀x,(enc x).length=s) {xs:List α} {i:Nat} (hi:i<xs.length):((fl enc xs).drop (i*s)).take s=enc xs[i]:=by
 obtain⟨h1,h2⟩:=fl_parts h hi
 rw[h1,List.drop_left' h2,List.take_left' (h _)]
theorem fl_set (h:∀x,(enc x).length=s) {xs:List α} {i:Nat} (hi:i<xs.length) (y:α):(fl enc xs).take (i*s)++enc y++(fl enc xs).drop (i*s+s)=fl enc (xs.set i y):=by
 obtain⟨h1,h2⟩:=fl_parts h hi
 have h3:(fl enc xs).take (i*s)=fl enc (xs.take i):=by rw[h1,List.take_left' h2]
 have h4:(fl enc xs).drop (i*s+s)=fl enc (xs.drop (i+1)):=by rw[h1,←List.drop_drop,List.drop_left' h2,List.drop_left' (h _)]
 rw[h3,h4,List.append_assoc,←fl_cons,←fl_app,List.set_eq_take_append_cons_drop,if_pos hi]
end
def eBo (b:Bool):List D:=[.bool b]
theorem fl_bo (xs:List Bool):fl eBo xs=xs.map .bool:=by induction xs with|nil=>rfl|cons x xs ih=>rw[fl_cons,ih]; rfl
theorem fl_boAt {xs:List Bool} {i:Nat} (h:i<xs.length):(fl eBo xs)[i]? =some (.bool ((xs[i]?).getD false)):=by
 rw[fl_bo,List.getElem?_map,List.getElem?_eq_getElem h]; rfl
theorem fl_eN (xs:List Nat):fl eN xs=xs.map fun n:Nat=>D.int .i64 n:=by induction xs with|nil=>rfl|cons x xs ih=>rw[fl_cons,ih]; rfl
theorem fl_eNAt {xs:List Nat} {i:Nat} (h:i<xs.length):(fl eN xs)[i]? =some (.int .i64 (((xs[i]?).getD 0:Nat):Int)):=by
 rw[fl_eN,List.getElem?_map,List.getElem?_eq_getElem h]; rfl
structure QB where
 a:Nat
 b:Nat
 c:Nat
 d:Nat
structure QB.ne (q:QB):Prop where
 ab:q.a≠q.b
 ac:q.a≠q.c
 ad:q.a≠q.d
 bc:q.b≠q.c
 bd:q.b≠q.d
 cd:q.c≠q.d
def stD (q:QB) (m:Nat):List D:=[.bsl q.a 0 m m,.bsl q.b 0 m m,.bsl q.c 0 m m,.bsl q.d 0 m m]
def stI (q:QB) (s:IS):St:=(((({}:St).set q.a (fl eBo s.has)).set q.b (fl eFr s.fr)).set q.c (fl eBo s.fresh)).set q.d (fl eN s.tk)
section
variable {q : QB} {s : IS}
theorem stI_a (h:q.ne):(stI q s).box q.a=some (fl eBo s.has):=by simp[stI,St.set,h.ab,h.ac,h.ad]
theorem stI_b (h:q.ne):(stI q s).box q.b=some (fl eFr s.fr):=by simp[stI,St.set,h.bc,h.bd]
theorem stI_c (h:q.ne):(stI q s).box q.c=some (fl eBo s.fresh):=by simp[stI,St.set,h.cd]
theorem stI_d:(stI q s).box q.d=some (fl eN s.tk):=by simp[stI,St.set]
theorem stI_has {x:Nat}:(stI q s).has x↔x=q.a∨x=q.b∨x=q.c∨x=q.d:=by
 simp only[stI,set_has]
 have:=St.not_has_nil x
 constructor
 ·rintro(h|h|h|h|h)
  ·exact .inr (.inr (.inr h))
  ·exact .inr (.inr (.inl h))
  ·exact .inr (.inl h)
  ·exact .inl h
  ·exact absurd h this
 ·rintro(h|h|h|h)
  ·exact .inr (.inr (.inr (.inl h)))
  ·exact .inr (.inr (.inl h))
  ·exact .inr (.inl h)
  ·exact .inl h
theorem stI_ne {x:Nat} (h:¬(stI q s).has x):¬x=q.a∧¬x=q.b∧¬x=q.c∧¬x=q.d:=
 ⟨fun e=>h (stI_has.2 (.inl e)),fun e=>h (stI_has.2 (.inr (.inl e))),fun e=>h (stI_has.2 (.inr (.inr (.inl e)))),fun e=>h (stI_has.2 (.inr (.inr (.inr e))))⟩
end
structure IS.sz (s:IS) (m:Nat):Prop where
 a:s.has.length=m
 b:s.fr.length=m
 c:s.fresh.length=m
 d:s.tk.length=m
theorem least_at {l:List Bool} {k:Nat} (h:k<l.length) (hk:(l[k]?).getD false=true) (hb:∀j<k,(l[j]?).getD false=false):leastD l=k:=by
 unfold leastD
 have:l.findIdx? id=some k:=by
  rw[List.findIdx?_eq_some_iff_getElem]
  refine⟨h,by simpa[h] using hk,fun j hj=> ?_⟩
  have:=hb j hj
  rw[List.getElem?_eq_getElem (by omega)] at this
  simpa using this
 rw[this]
theorem least_no {l:List Bool} (hb:∀j<l.length,(l[j]?).getD false=false):leastD l= -1:=by
 unfold leastD
 have:l.findIdx? id=none:=by
  rw[List.findIdx?_eq_none_iff]
  intro x hx
  obtain⟨j,hj,rfl⟩:=List.mem_iff_getElem.1 hx
  have:=hb j hj
  rw[List.getElem?_eq_getElem hj] at this
  simpa using this
 rw[this]
theorem least68 (q:QB) (h:q.ne) (s:IS) (m:Nat) (hs:s.sz m) (hm:m≤5000):RCall Tryz.prog 68 [.agg (stD q m)] (stI q s) fun d s'=>d= .int .i64 (leastD s.fresh)∧s'=stI q s:=by
 have kc:=stI_c (s:=s) h
 refine F68.rcall rfl fun T hT=> ?_
 simp -implicitDefEqProofs only[go_sem,c68,hT,stD]
 intro b1 hb1
 obtain⟨n1,n2,n3,n4⟩:=stI_ne hb1
 have k1:((stI q s).set b1 [.bsl q.a 0 m m,.bsl q.b 0 m m,.bsl q.c 0 m m,.bsl q.d 0 m m]).box q.c=some (fl eBo s.fresh):=by rw[St.set_box,if_neg (Ne.symm n3)]; exact kc
 refine loopL F68 (fun i:Nat=>[(1,.ptr b1 0),(3,.int .i64 i)]) (fun _=>(stI q s).set b1 [.bsl q.a 0 m m,.bsl q.b 0 m m,.bsl q.c 0 m m,.bsl q.d 0 m m]) (fun i=>i≤m∧∀j<i,(s.fresh[j]?).getD false=false) (fun i=>m-i) 0 ⟨by omega,by omega⟩ ?_ (St.le.refl _) ?_
 ·simp -implicitDefEqProofs only[go_sem,hT,Int.ofNat_zero]
 clear hT T
 intro i ⟨hi,hl⟩ T hT
 by_cases h1:i<m
 ·have h2:((i:Int)<m)=True:=eq_true (by omega)
  have hx:=fl_boAt (xs:=s.fresh) (i:=i) (by rw[hs.c]; exact h1)
  have hnext:IntKind.wrap .i64 ((i:Int)+1)=((i+1:Nat):Int):=by rw[zc1 (by omega) (by omega)]; simp
  cases hf:(s.fresh[i]?).getD false
  ·simp -implicitDefEqProofs only[go_sem,hT,h2,k1,hx,hf,hnext,n1,n2,n3,n4,Ne.symm n1,Ne.symm n2,Ne.symm n3,Ne.symm n4,gdD,Nat.mul_one,Nat.add_zero,Nat.zero_add]
   refine⟨by omega,i+1,⟨by omega,fun j hj=> ?_⟩,by omega,rfl,St.le.refl _⟩
   rcases Nat.lt_succ_iff_lt_or_eq.1 hj with h|rfl
   ·exact hl j h
   ·exact hf
  ·simp -implicitDefEqProofs only[go_sem,hT,h2,k1,hx,hf,hnext,n1,n2,n3,n4,Ne.symm n1,Ne.symm n2,Ne.symm n3,Ne.symm n4,gdD,Nat.mul_one,Nat.add_zero,Nat.zero_add]
   exact⟨by omega,_,_,DLe.refl _,le_add hb1,by rw[least_at (by rw[hs.c]; exact h1) hf hl],rfl⟩
 ·have h2:((i:Int)<m)=False:=eq_false (by omega)
  simp -implicitDefEqProofs only[go_sem,hT,h2,k1,n1,n2,n3,n4,Ne.symm n1,Ne.symm n2,Ne.symm n3,Ne.symm n4]
  exact⟨_,_,DLe.refl _,le_add hb1,by rw[least_no (fun j hj=>hl j (by rw[hs.c] at hj; omega))],rfl⟩
end Go.AL
