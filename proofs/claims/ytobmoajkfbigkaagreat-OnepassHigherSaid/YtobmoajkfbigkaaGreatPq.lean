import Derived.Test.YtobmoajkfbigkaaGreatPp
set_option linter.unusedSimpArgs false
set_option linter.unusedVariables false
set_option maxRecDepth 100000
set_option maxHeartbeats 4000000
set_option linter.defProp false
namespace Go.AL
open Go.Proofs
theorem scanT_pass (b:List Ty):∀n q,(scanT b q n).2=0→q+n≤b.length∨n=0:=by
 intro n
 induction n with
 |zero=>intro q _; right; rfl
 |succ n ih=>
  intro q h
  rw[scanT] at h
  split at h
  ·exact absurd h (by simp)
  ·split at h
   ·have:=ih _ h; omega
   ·exact absurd h (by simp)
theorem wrapN {a:Int} {n:Nat} (h:a=n) (hn:n≤9223372036854775807):IntKind.wrap .i64 a=(n:Int):=by rw[h]; exact zc1 (by omega) (by omega)
theorem ey_zero:[D.int .i64 0,D.bool false,D.int .i64 0,D.int .i64 0,D.int .u8 0,D.int .u8 0,D.int .u8 0,D.int .u8 0,D.int .u8 0,D.int .u8 0,D.int .u8 0,D.int .u8 0,D.int .u8 0,D.int .u8 0,D.int .u8 0,D.int .u8 0,D.int .u8 0,D.int .u8 0,D.int .u8 0,D.int .u8 0,D.int .u8 0,D.int .u8 0,D.int .u8 0,D.int .u8 0,D.int .u8 0,D.int .u8 0,D.int .u8 0,D.int .u8 0]=eEy ey0:=rfl
theorem ey_dead (z:Int):[D.int .i64 z,D.bool true,D.int .i64 0,D.int .i64 0,D.int .u8 0,D.int .u8 0,D.int .u8 0,D.int .u8 0,D.int .u8 0,D.int .u8 0,D.int .u8 0,D.int .u8 0,D.int .u8 0,D.int .u8 0,D.int .u8 0,D.int .u8 0,D.int .u8 0,D.int .u8 0,D.int .u8 0,D.int .u8 0,D.int .u8 0,D.int .u8 0,D.int .u8 0,D.int .u8 0,D.int .u8 0,D.int .u8 0,D.int .u8 0,D.int .u8 0]=eEy ⟨z,true,fr0 0⟩:=rfl
theorem fr_new (y z:Int):[D.int .i64 y,D.int .i64 z,D.int .u8 0,D.int .u8 0,D.int .u8 0,D.int .u8 0,D.int .u8 0,D.int .u8 0,D.int .u8 0,D.int .u8 0,D.int .u8 0,D.int .u8 0,D.int .u8 0,D.int .u8 0,D.int .u8 0,D.int .u8 0,D.int .u8 0,D.int .u8 0,D.int .u8 0,D.int .u8 0,D.int .u8 0,D.int .u8 0,D.int .u8 0,D.int .u8 0,D.int .u8 0,D.int .u8 0]=eFr ⟨y,z,slOf []⟩:=by rw[slOf_nil]; rfl
def bYfbD0:=aI @zb4 (aI @za9 (aI @zb0 (aI @za6 (aI @za4 (aI @za7 (aI @anD (aI @za2 (aI @za5 @ey_zero))))))))
def bYfbD1:=aI @zb4 (aI @za9 (aI @zb0 (aI @za6 (aI @za4 (aI @za7 (aI @anD (aI @za2 @za5)))))))
def bYfbD2:=aI @zb4 (aI @za9 (aI @zb0 (aI @za6 (aI @za4 (aI @za7 (aI @anD (aI @za2 (aI @za5 @eT_len))))))))
theorem one117 (b:List Ty) (o:Own) (loc p:Nat) (last:Int) (hl:b.length≤140737488355328) (hp:p≤b.length) (hloc:loc≤16):
  PCall Tryz.prog 117 [.slice o (rws eT b),.int .i64 loc,.int .i64 p,.int .i64 last] (.tup [.agg (eEy (entD b loc p last).1),.int .i64 (entD b loc p last).2.1,.int .i64 (entD b loc p last).2.2]):=by
 have v1:IntKind.wrap .i64 ((p:Int)+1)=((p+1:Nat):Int):=wrapN (by simp) (by omega)
 have v2:IntKind.wrap .i64 ((p:Int)+2)=((p+2:Nat):Int):=wrapN (by simp) (by omega)
 have v3:IntKind.wrap .i64 ((p:Int)+3)=((p+3:Nat):Int):=wrapN (by simp) (by omega)
 have v4:IntKind.wrap .i64 ((p:Int)+4)=((p+4:Nat):Int):=wrapN (by simp) (by omega)
 refine F117.pcall' rfl fun T hT=> ?_
 simp -implicitDefEqProofs only[go_sem,c117,hT,bYfbD0]
 intro b8 b11 n1 n2
 by_cases h1:b.length<p+2
 ·have q1:((b.length:Int)≤(p+1:Nat))=True:=by simp; omega
  rw[entD,if_pos h1]
  simp -implicitDefEqProofs only[go_sem,hT,v1,q1,n1,n2,bYfbD0]
  exact DLe.refl _
 have q1:((b.length:Int)≤(p+1:Nat))=False:=by simp; omega
 have hb0:=bt_lt b p
 have hb1:=bt_lt b (p+1)
 have u0:IntKind.wrap .i64 (bt b p:Int)=bt b p:=zc1 (by omega) (by omega)
 have u1:IntKind.wrap .i64 (bt b (p+1):Int)=bt b (p+1):=zc1 (by omega) (by omega)
 have um:IntKind.wrap .i64 (256*(bt b p:Int))=256*(bt b p:Int):=zc1 (by omega) (by omega)
 have ua:IntKind.wrap .i64 (256*(bt b p:Int)+bt b (p+1))=(word2 b p:Nat):=by rw[zc1 (by omega) (by omega),word2]; simp
 have hR0:=bt_at (b:=b) (i:=p) (by omega)
 have hR1:=bt_at (b:=b) (i:=p+1) (by omega)
 have hw2:word2 b p<65536:=by rw[word2]; omega
 simp -implicitDefEqProofs only[go_sem,hT,v1,q1,n1,n2,hR0,hR1,u0,u1,um,ua,rws_one eT_len,bYfbD1]
 refine⟨by omega,by omega,za3 (after108 last (word2 b p)) ?_⟩
 obtain⟨ae,hae⟩:∃ae,afterE (word2 b p) last=ae:=⟨_,rfl⟩
 obtain⟨z,hz⟩:∃z,word2 b p=z:=⟨_,rfl⟩
 have hd:entD b loc p last=if ae≠0 then(ey0,p,ae)
   else if b.length=p+2 then(ey0,p+2,2)
   else if 1<bt b (p+2) then(ey0,p+2,63)
   else if bt b (p+2)=0 then(⟨z,true,fr0 0⟩,p+3,0)
   else if b.length=p+3 then(ey0,p+3,2)
   else if 24<loc+bt b (p+3) then(ey0,p+3,65)
   else if(scanT b (p+4) (loc+bt b (p+3))).2≠0 then(ey0,scanT b (p+4) (loc+bt b (p+3)))
   else(⟨z,false,⟨loc,bt b (p+3),slOf ((b.drop (p+4)).take (loc+bt b (p+3)))⟩⟩,p+4+(loc+bt b (p+3)),0):=by
  rw[entD,if_neg h1,hae,hz]
 rw[hd,hae,hz]
 clear hd hae
 rw[hz] at ua hw2
 clear hz
 by_cases h2:ae=0
 case neg=>
  have q2:((ae:Int)=0)=False:=by simp; omega
  rw[if_pos h2]
  simp -implicitDefEqProofs only[go_sem,hT,n1,n2,q2,bYfbD0]
 have q2:((ae:Int)=0)=True:=by simp; omega
 rw[if_neg (by simp[h2])]
 by_cases h3:b.length=p+2
 ·have q3:((b.length:Int)≤(p+2:Nat))=True:=by simp; omega
  rw[if_pos h3]
  simp -implicitDefEqProofs only[go_sem,hT,n1,n2,v2,q2,q3,bYfbD0]
  rw[h3]
  exact DLe.refl _
 have q3:((b.length:Int)≤(p+2:Nat))=False:=by simp; omega
 have hR2:=bt_at (b:=b) (i:=p+2) (by omega)
 have hb2:=bt_lt b (p+2)
 rw[if_neg h3]
 by_cases h4:1<bt b (p+2)
 ·have q4:((1:Int)<bt b (p+2))=True:=by simp; omega
  rw[if_pos h4]
  simp -implicitDefEqProofs only[go_sem,hT,n1,n2,v2,q2,q3,q4,hR2,rws_one eT_len,bYfbD0]
  exact⟨by omega,DLe.refl _⟩
 have q4:((1:Int)<bt b (p+2))=False:=by simp; omega
 rw[if_neg h4]
 by_cases h5:bt b (p+2)=0
 ·have q5:((bt b (p+2):Int)=0)=True:=by simp; omega
  rw[if_pos h5]
  simp -implicitDefEqProofs only[go_sem,hT,zb4,za9,zb0,za6,za4,za7,anD,za2,za5,n1,n2,v2,v3,q2,q3,q4,q5,hR2,ey_dead,rws_one eT_len]
  exact⟨by omega,by omega,DLe.refl _⟩
 have q5:((bt b (p+2):Int)=0)=False:=by simp; omega
 rw[if_neg h5]
 by_cases h6:b.length=p+3
 ·have q6:((b.length:Int)≤(p+3:Nat))=True:=by simp; omega
  rw[if_pos h6]
  simp -implicitDefEqProofs only[go_sem,hT,n1,n2,v2,v3,q2,q3,q4,q5,q6,hR2,rws_one eT_len,bYfbD0]
  rw[h6]
  exact⟨by omega,by omega,DLe.refl _⟩
 have q6:((b.length:Int)≤(p+3:Nat))=False:=by simp; omega
 have hR3:=bt_at (b:=b) (i:=p+3) (by omega)
 have hb3:=bt_lt b (p+3)
 rw[if_neg h6]
 obtain⟨dp,hdp⟩:∃dp,bt b (p+3)=dp:=⟨_,rfl⟩
 rw[hdp] at hR3 hb3 ⊢
 clear hdp
 have u3:IntKind.wrap .i64 (dp:Int)=dp:=zc1 (by omega) (by omega)
 have uL:IntKind.wrap .i64 ((24:Int)-loc)=((24-loc:Nat):Int):=wrapN (by omega) (by omega)
 by_cases h7:24<loc+dp
 ·have q7:(((24-loc:Nat):Int)<dp)=True:=by simp; omega
  rw[if_pos h7]
  simp -implicitDefEqProofs only[go_sem,hT,n1,n2,v2,v3,q2,q3,q4,q5,q6,hR2,hR3,u3,uL,q7,rws_one eT_len,bYfbD0]
  exact⟨by omega,by omega,by omega,DLe.refl _⟩
 have q7:(((24-loc:Nat):Int)<dp)=False:=by simp; omega
 rw[if_neg h7]
 simp -implicitDefEqProofs only[go_sem,hT,n1,n2,v2,v3,q2,q3,q4,q5,q6,hR2,hR3,u3,uL,q7,rws_one eT_len,bYfbD1]
 refine⟨by omega,by omega,by omega,fun b15 m1 m2 m3 m4=> ?_⟩
 obtain⟨n,hn⟩:∃n,loc+dp=n:=⟨_,rfl⟩
 have hn24:n≤24:=by omega
 rw[hn]
 have uN:IntKind.wrap .i64 ((loc:Int)+dp)=(n:Int):=wrapN (by omega) (by omega)
 simp -implicitDefEqProofs only[go_sem,hT,zb4,za9,zb0,za6,za4,za7,anD,za2,za5,n1,n2,m1,m2,m3,m4,fr_new]
 refine loopL F117 (fun i:Nat=>[(0,.slice o (rws eT b)),(1,.int .i64 loc),(2,.int .i64 p),(8,.ptr b8 0),(11,.ptr b11 0),(12,.int .i64 z),(14,.int .i64 dp),(15,.ptr b15 0),(16,.int .i64 i)]) (fun i=>((({}:St).set b8 (eEy ey0)).set b11 (eEy ey0)).set b15 (eFr ⟨loc,dp,slOf ((b.drop (p+4)).take i)⟩)) (fun i=>i≤n∧scanT b (p+4) n=scanT b (p+4+i) (n-i)) (fun i=>n-i) 0 ⟨by omega,rfl⟩ ?_ (St.le.refl _) ?_
 ·simp -implicitDefEqProofs only[go_sem,hT,Int.ofNat_zero]
 clear hT T
 rintro i ⟨hi,hsc⟩ T hT
 by_cases h:i<n
 ·have p1:((i:Int)<n)=True:=by simp; omega
  have w4:IntKind.wrap .i64 ((i:Int)+1)=((i+1:Nat):Int):=wrapN (by simp) (by omega)
  have wp:IntKind.wrap .i64 (((p+4:Nat):Int)+i)=((p+4+i:Nat):Int):=wrapN (by simp) (by omega)
  have hsn:n-i=(n-(i+1))+1:=by omega
  rw[hsn,scanT] at hsc
  by_cases h8:b.length≤p+4+i
  ·have q8:((b.length:Int)≤(p+4+i:Nat))=True:=by simp; omega
   rw[if_pos h8] at hsc
   rw[hsc,if_pos (by simp)]
   simp -implicitDefEqProofs only[go_sem,hT,n1,n2,m1,m2,m3,m4,v4,uN,p1,wp,q8,bYfbD1]
   exact DLe.refl _
  have q8:((b.length:Int)≤(p+4+i:Nat))=False:=by simp; omega
  rw[if_neg h8] at hsc
  have hR4:=rws_at (enc:=eT) (xs:=b) (i:=p+4+i) (by omega)
  have hg:(b[p+4+i]?).getD 0=b[p+4+i]:=by rw[List.getElem?_eq_getElem (by omega)]; rfl
  rw[hg] at hsc
  simp -implicitDefEqProofs only[go_sem,hT,n1,n2,m1,m2,m3,m4,v4,uN,p1,wp,q8,hR4,eT,bYfbD2]
  refine⟨by omega,za3 (isCode149 _) ?_⟩
  have hset:=slOf_set (ts:=b.drop (p+4)) (i:=i) (by rw[List.length_drop]; omega) (by omega)
  have hdg:(b.drop (p+4))[i]'(by rw[List.length_drop]; omega)=b[p+4+i]:=by simp
  rw[hdg] at hset
  generalize b[p+4+i]=x at *
  by_cases h9:knownT x=true
  ·rw[if_pos h9] at hsc
   simp -implicitDefEqProofs only[go_sem,hT,n1,n2,m1,m2,m3,m4,v4,uN,p1,wp,q8,hR4,eT,h9,bYfbD2]
   rw[Nat.mul_one,fr_set (by omega)]
   dsimp only
   rw[hset]
   refine⟨by omega,by omega,by omega,i+1,⟨by omega, ?_⟩,by omega,by rw[w4],St.le.refl _⟩
   rw[hsc]; rfl
  ·have h9:knownT x=false:=by simpa using h9
   rw[if_neg (by simp[h9])] at hsc
   rw[hsc,if_pos (by simp)]
   simp -implicitDefEqProofs only[go_sem,hT,n1,n2,m1,m2,m3,m4,v4,uN,p1,wp,q8,hR4,eT,h9,bYfbD2]
   exact DLe.refl _
 ·have p1:((i:Int)<n)=False:=by simp; omega
  have hin:i=n:=by omega
  subst hin
  rw[Nat.sub_self,scanT] at hsc
  rw[hsc,if_neg (by simp)]
  have e1:IntKind.wrap .i64 (((p+4:Nat):Int)+loc)=((p+4+loc:Nat):Int):=wrapN (by simp) (by omega)
  have e2:IntKind.wrap .i64 (((p+4+loc:Nat):Int)+dp)=((p+4+i:Nat):Int):=wrapN (by omega) (by omega)
  simp -implicitDefEqProofs only[go_sem,hT,n1,n2,m1,m2,m3,m4,v4,uN,p1,e1,e2,bYfbD1]
  exact DLe.refl _
open Go.Proofs
theorem grS_comm {s n s' n':Nat} {o o':Option Nat} {σ:St} (h:∀b,o=some b→o'≠some b):grS s n o (grS s' n' o' σ)=grS s' n' o' (grS s n o σ):=by
 cases o with
 |none=>rfl
 |some b=>
  cases o' with
  |none=>rfl
  |some b'=>
   have hne:b'≠b:=fun e=>h b rfl (by rw[e])
   simp only[grS,St.setBuf]
   congr 1
   funext x
   by_cases h1:x=b
   ·subst h1; simp[Ne.symm hne]
   ·by_cases h2:x=b'
    ·subst h2; simp[h1]
    ·simp[h1,h2]
theorem grN_ne {s n:Nat} {o o':Option Nat} {σ:St} (h:grN o (grS s n o' σ)):∀b,o=some b→o'≠some b:=fun b hb he=>h b hb (by rw[grS_has]; exact .inl he)
theorem entD_place {b:List Ty} {loc p:Nat} {last:Int} (h:(entD b loc p last).2.2=0):p<(entD b loc p last).2.1∧(entD b loc p last).2.1≤b.length:=by
 unfold entD at h ⊢
 split; · rename_i h1; rw[if_pos h1] at h; exact absurd h (by simp)
 rename_i h1; rw[if_neg h1] at h
 split; · rename_i h2; rw[if_pos h2] at h; exact absurd h (by simpa using h2)
 rename_i h2; rw[if_neg h2] at h
 split; · rename_i h3; rw[if_pos h3] at h; exact absurd h (by simp)
 rename_i h3; rw[if_neg h3] at h
 split; · rename_i h4; rw[if_pos h4] at h; exact absurd h (by simp)
 rename_i h4; rw[if_neg h4] at h
 split; · rename_i h5; simp only; omega
 rename_i h5; rw[if_neg h5] at h
 split; · rename_i h6; rw[if_pos h6] at h; exact absurd h (by simp)
 rename_i h6; rw[if_neg h6] at h
 split; · rename_i h7; rw[if_pos h7] at h; exact absurd h (by simp)
 rename_i h7; rw[if_neg h7] at h
 split; · rename_i h8; rw[if_pos h8] at h; exact absurd h (by simpa using h8)
 rename_i h8
 have:=scanT_pass b (loc+bt b (p+3)) (p+4) (by simpa using h8)
 simp only
 omega
theorem headD_zero {b:List Ty} (h:(headD b).2=0):6≤b.length∧bt b 3≤16∧word2 b 4≤4096:=by
 unfold headD at h
 split at h; · exact absurd h (by simp)
 split at h; · exact absurd h (by simp)
 split at h; · exact absurd h (by simp)
 split at h; · exact absurd h (by simp)
 split at h; · exact absurd h (by simp)
 split at h; · exact absurd h (by simp)
 split at h; · exact absurd h (by simp)
 omega
theorem eEy_frz (e:Ey):(eEy e).map frz=eEy e:=by simp[eEy,eFr,frz]
def bYfbE0:=aI @zb4 (aI @za9 (aI @zb0 (aI @anD (aI @za2 @za5))))
theorem told72 (b:List Ty) (o:Own) (hl:b.length≤140737488355328):
  PCall Tryz.prog 72 [.slice o (rws eT b)] (.tup [.slice .no (rws eEy (esOf (toldD b).1)),.slice .no (rws eI (endsOf (toldD b).1)),.int .i64 (toldD b).2.1,.int .i64 (toldD b).2.2]):=by
 refine F72.pcall' rfl fun T hT=> ?_
 simp -implicitDefEqProofs only[go_sem,c72,hT,bYfbE0]
 refine za3 (refHead116 b o hl) ?_
 by_cases h0:(headD b).2=0
 case neg=>
  have q0:(((headD b).2:Int)=0)=False:=by simp; omega
  rw[toldD,if_pos h0]
  simp -implicitDefEqProofs only[go_sem,hT,q0,bYfbE0]
  exact DLe.tup (.cons (DLe.slice _ _) (.cons (DLe.slice _ _) (.cons (.refl _) (.cons (.refl _) .nil))))
 have q0:(((headD b).2:Int)=0)=True:=by simp; omega
 have hr:headR b=(bt b 3,word2 b 4):=by rw[headR,if_pos h0]
 have hd:toldD b=if(decP b (bt b 3) (word2 b 4) 6 (-1)).2.2≠0 then decP b (bt b 3) (word2 b 4) 6 (-1)
   else if(decP b (bt b 3) (word2 b 4) 6 (-1)).2.1<b.length then((decP b (bt b 3) (word2 b 4) 6 (-1)).1,(decP b (bt b 3) (word2 b 4) 6 (-1)).2.1,3)
   else((decP b (bt b 3) (word2 b 4) 6 (-1)).1,0,0):=by rw[toldD,if_neg (by simp[h0])]
 obtain⟨hb6,hloc,hcnt⟩:=headD_zero h0
 rw[hd,hr]
 clear hd hr
 simp -implicitDefEqProofs only[go_sem,hT,q0,bYfbE0]
 generalize bt b 3=loc at *
 generalize word2 b 4=cnt at *
 obtain⟨R,hR⟩:∃R,decP b loc cnt 6 (-1)=R:=⟨_,rfl⟩
 rw[hR]
 refine loopL F72 (fun x:List (Ey×Nat)×Nat×Int×Option Nat×Option Nat=>[(0,.slice o (rws eT b)),(6,.int .i64 loc),(7,.int .i64 cnt),(8,.int .i64 x.2.1),(10,grD 28 x.2.2.2.1 (rws eEy (esOf x.1))),(11,grD 1 x.2.2.2.2 (rws eI (endsOf x.1))),(12,.int .i64 x.2.2.1),(13,.int .i64 x.1.length)])
  (fun x=>grS 28 x.1.length x.2.2.2.1 (grS 1 x.1.length x.2.2.2.2 {}))
  (fun x=>x.1.length≤cnt∧x.2.1≤b.length∧R=(x.1++(decP b loc (cnt-x.1.length) x.2.1 x.2.2.1).1,(decP b loc (cnt-x.1.length) x.2.1 x.2.2.1).2)∧(x.2.2.2.1=none→x.1.length=0)∧(x.2.2.2.2=none→x.1.length=0)∧grN x.2.2.2.1 (grS 1 x.1.length x.2.2.2.2 {}))
  (fun x=>cnt-x.1.length) ([],6,-1,none,none) ⟨by simp,hb6,by simp[←hR],fun _=>rfl,fun _=>rfl,grN_none⟩ ?_ (St.le.refl _) ?_
 ·simp -implicitDefEqProofs only[go_sem,hT,Int.ofNat_zero]
  exact⟨rfl,rfl,rfl⟩
 clear hT T
 rintro⟨L,p,last,o1,o2⟩ ⟨hL,hp,hRx,hn1,hn2,hg⟩ T hT
 simp only at hL hp hRx hn1 hn2 hg hT ⊢
 by_cases h:L.length<cnt
 ·have p1:((L.length:Int)<cnt)=True:=by simp; omega
  simp -implicitDefEqProofs only[go_sem,hT,p1,bYfbE0]
  refine za3 (one117 b o loc p last hl hp hloc) ?_
  have hsn:cnt-L.length=(cnt-(L.length+1))+1:=by omega
  rw[hsn,decP] at hRx
  have hpl:=entD_place (b:=b) (loc:=loc) (p:=p) (last:=last)
  generalize entD b loc p last=e at *
  obtain⟨e,q,err⟩:=e
  simp only at hRx hpl ⊢
  by_cases h8:err=0
  case neg=>
   have q8:((err:Int)=0)=False:=by simp; omega
   rw[if_pos h8] at hRx
   rw[hRx,if_pos h8,List.append_nil]
   simp -implicitDefEqProofs only[go_sem,hT,bYfbE0]
   intro b14 hb14
   simp -implicitDefEqProofs only[go_sem,hT,zb4,za9,zb0,anD,za2,za5,q8,ey_zero]
   exact DLe.tup (.cons grD_le (.cons grD_le (.cons (.refl _) (.cons (.refl _) .nil))))
  rw[if_neg (by simp[h8])] at hRx
  have q8:((err:Int)=0)=True:=by simp; omega
  obtain⟨hpq,hqb⟩:=hpl h8
  simp -implicitDefEqProofs only[go_sem,hT,bYfbE0]
  intro b14 hb14
  simp -implicitDefEqProofs only[go_sem,hT,zb4,za9,zb0,anD,za2,za5,q8,grS_set,ey_0]
  obtain⟨σ0,hσ0⟩:∃σ0,(({}:St).set b14 (eEy e))=σ0:=⟨_,rfl⟩
  have h14:∀x,σ0.has x→x=b14:=fun x hx=>by rw[←hσ0,has_set,has_nil] at hx; simp at hx; omega
  have h14b:σ0.box b14=some (eEy e):=by rw[←hσ0,St.set_box]; simp
  rw[hσ0]
  have ho1:o1≠some b14:=fun he=>hb14 (by rw[grS_has]; exact .inl he)
  have ho2:o2≠some b14:=fun he=>hb14 (by rw[grS_has]; right; rw[grS_has]; exact .inl he)
  have hgA:grN o1 (grS 1 L.length o2 σ0):=fun x hx hin=>by
   rw[grS_has] at hin
   rcases hin with hin|hin
   ·exact hg x hx (by rw[grS_has]; exact .inl hin)
   ·exact ho1 (h14 x hin▸hx)
  refine app_gr' Tryz.sli50 Tryz.sz86 Tryz.by86 Tryz.zero86 rfl (n:=L.length) (m:=1) (base:=grS 1 L.length o2 σ0) (by simp[rws,esOf]) rfl (St.le.refl _) hgA hn1 (by simp[zb4]) (by omega) fun o1' σ1 hbox1 hle1 hg1 hno1=> ?_
  simp -implicitDefEqProofs only[go_sem,hT,q8,bYfbE0]
  have hc:∀x,o2=some x→o1'≠some x:=fun x hx he=>grN_ne hg1 x he hx
  refine app_gr' Tryz.sli29 Tryz.sz3 Tryz.by3 Tryz.zero3 rfl (n:=L.length) (m:=1) (base:=grS 28 (L.length+1) o1' σ0) (by simp[rws,endsOf]) rfl (by rw[grS_comm hc]; exact hle1) (fun x hx hin=> ?_) hn2 (by simp) (by omega) fun o2' σ2 hbox2 hle2 hg2 hno2=> ?_
  ·rw[grS_has] at hin
   rcases hin with hin|hin
   ·exact hc x hx hin
   ·exact ho2 (h14 x hin▸hx)
  have hbx:σ2.box b14=some (eEy e):=by rw[hbox2,hbox1,grS_boxa,grS_boxa,h14b]
  simp -implicitDefEqProofs only[go_sem,hT,zb4,za9,zb0,anD,za2,za5,q8,hbx,ey_0]
  have hc2:∀x,o1'=some x→o2'≠some x:=fun x hx he=>grN_ne hg2 x he hx
  have w4:IntKind.wrap .i64 ((L.length:Int)+1)=((L.length+1:Nat):Int):=wrapN (by simp) (by omega)
  refine⟨(L++[(e,q)],q,e.pos,o1',o2'),⟨by simp; omega,hqb, ?_,fun h=>by simpa using hno1 h,fun h=>by simpa using hno2 h, ?_⟩,by simp; omega, ?_, ?_⟩
  ·simp[hRx]
  ·exact fun x hx hin=>by
    rw[grS_has] at hin
    rcases hin with hin|hin
    ·exact hc2 x hx hin
    ·exact St.not_has_nil x hin
  ·rw[w4]
   simp[esOf,endsOf,rws,eI,eEy_frz,za9,frz]
  ·rw[grS_comm hc2]
   refine(le_grS (le_grS (St.le.nil σ0))).trans ?_
   simpa using hle2
 ·have p1:((L.length:Int)<cnt)=False:=by simp; omega
  have hz:cnt-L.length=0:=by omega
  rw[hz,decP] at hRx
  rw[hRx,if_neg (by simp),List.append_nil]
  by_cases h9:p<b.length
  ·have q9:((p:Int)<b.length)=True:=by simp; omega
   rw[if_pos h9]
   simp -implicitDefEqProofs only[go_sem,hT,p1,q9,bYfbE0]
   exact DLe.tup (.cons grD_le (.cons grD_le (.cons (.refl _) (.cons (.refl _) .nil))))
  ·have q9:((p:Int)<b.length)=False:=by simp; omega
   rw[if_neg h9]
   simp -implicitDefEqProofs only[go_sem,hT,p1,q9,bYfbE0]
   exact DLe.tup (.cons grD_le (.cons grD_le (.cons (.refl _) (.cons (.refl _) .nil))))
theorem eCt_len (c:Ct):(eCt c).length=2:=rfl
theorem eCt_nil:DLes [D.int .i64 0,D.slice .nil []] (eCt ct0):= .cons (.refl _) (.cons (DLe.slice _ _) .nil)
theorem refDecode31 (b:List Ty) (o:Own) (hl:b.length≤140737488355328):
  PCall Tryz.prog 31 [.slice o (rws eT b)] (.tup [.agg (eCt (decC b).1),.int .i64 (decC b).2.1,.int .i64 (decC b).2.2]):=by
 refine F31.pcall' rfl fun T hT=> ?_
 simp -implicitDefEqProofs only[go_sem,c31,hT,eCt_len,anD,za2,za5]
 intro b2
 refine za3 (told72 b o hl) ?_
 by_cases h0:(toldD b).2.2=0
 case neg=>
  have q0:(((toldD b).2.2:Int)=0)=False:=by simp; omega
  rw[decC,if_pos h0]
  simp -implicitDefEqProofs only[go_sem,hT,eCt_len,anD,za2,za5,q0]
  exact DLe.tup (.cons (DLe.agg eCt_nil) (.cons (.refl _) (.cons (.refl _) .nil)))
 have q0:(((toldD b).2.2:Int)=0)=True:=by simp; omega
 have hh:(headD b).2=0:=by
  rw[toldD] at h0
  split at h0
  ·rename_i h; exact absurd h0 h
  ·rename_i h; simpa using h
 obtain⟨hb6,hloc,hcnt⟩:=headD_zero hh
 have hR3:=bt_at (b:=b) (i:=3) (by omega)
 have u3:IntKind.wrap .i64 (bt b 3:Int)=bt b 3:=zc1 (by omega) (by omega)
 rw[decC,if_neg (by simp[h0])]
 simp -implicitDefEqProofs only[go_sem,hT,eCt_len,anD,za2,za5,q0,hR3,u3,rws_one eT_len]
 exact⟨by omega,DLe.refl _⟩
open Go.Proofs
theorem le_out {σ σ':St} {b:Nat} {cs:List D} (h:St.le σ σ') (hb:¬σ.has b):St.le σ (σ'.set b cs):=⟨fun x c hx=>by
  have hne:x≠b:=fun e=>hb (by subst e; exact .inl (by simp[hx]))
  rw[St.set_box,if_neg hne]; exact h.box x c hx,h.buf,h.mp⟩
theorem zc2 {r o:Nat}:nilcD (.ptr r o)=some (.ptr r o):=rfl
theorem eRd_len {b:List Ty} {p:Nat} {last:Int} {left n bad err:Nat}:(eRd b p last left n bad err).length=8:=rfl
theorem rd_0 {b:List Ty} {p:Nat} {last:Int} {left n bad err:Nat}:(eRd b p last left n bad err)[0]? =some (.slice .no (rws eT b)):=rfl
theorem rd_1 {b:List Ty} {p:Nat} {last:Int} {left n bad err:Nat}:(eRd b p last left n bad err)[1]? =some (.int .i64 p):=rfl
theorem rd_3 {b:List Ty} {p:Nat} {last:Int} {left n bad err:Nat}:(eRd b p last left n bad err)[3]? =some (.int .i64 left):=rfl
theorem rd_5 {b:List Ty} {p:Nat} {last:Int} {left n bad err:Nat}:(eRd b p last left n bad err)[5]? =some (.int .i64 bad):=rfl
theorem rd_6 {b:List Ty} {p:Nat} {last:Int} {left n bad err:Nat}:(eRd b p last left n bad err)[6]? =some (.int .i64 err):=rfl
theorem rd_7 {b:List Ty} {p:Nat} {last:Int} {left n bad err:Nat}:(eRd b p last left n bad err)[7]? =some (.bool true):=rfl
theorem ey_word (z:Int):[D.int .i64 z,D.bool false,D.int .i64 0,D.int .i64 0,D.int .u8 0,D.int .u8 0,D.int .u8 0,D.int .u8 0,D.int .u8 0,D.int .u8 0,D.int .u8 0,D.int .u8 0,D.int .u8 0,D.int .u8 0,D.int .u8 0,D.int .u8 0,D.int .u8 0,D.int .u8 0,D.int .u8 0,D.int .u8 0,D.int .u8 0,D.int .u8 0,D.int .u8 0,D.int .u8 0,D.int .u8 0,D.int .u8 0,D.int .u8 0,D.int .u8 0]=eEy ⟨z,false,fr0 0⟩:=rfl
theorem ey_set1 {z:Int} {d d':Bool} {f:Fr}:(eEy ⟨z,d,f⟩).take 1++[D.bool d']++(eEy ⟨z,d,f⟩).drop 2=eEy ⟨z,d',f⟩:=rfl
theorem ey_set2 {z l l' h:Int} {d:Bool} {s:Vector Ty 24}:(eEy ⟨z,d,⟨l,h,s⟩⟩).take 2++[D.int .i64 l']++(eEy ⟨z,d,⟨l,h,s⟩⟩).drop 3=eEy ⟨z,d,⟨l',h,s⟩⟩:=rfl
theorem ey_set3 {z l h h':Int} {d:Bool} {s:Vector Ty 24}:(eEy ⟨z,d,⟨l,h,s⟩⟩).take 3++[D.int .i64 h']++(eEy ⟨z,d,⟨l,h,s⟩⟩).drop 4=eEy ⟨z,d,⟨l,h',s⟩⟩:=rfl
theorem ey_set4 {z l h:Int} {d:Bool} {s:Vector Ty 24} {i:Nat} (hi:i<24) {t:Ty}:(eEy ⟨z,d,⟨l,h,s⟩⟩).take (4+i)++[D.int .u8 (t.val:Int)]++(eEy ⟨z,d,⟨l,h,s⟩⟩).drop (4+i+1)=eEy ⟨z,d,⟨l,h,s.set i t⟩⟩:=by
 have h1:=fr_set (f:=⟨l,h,s⟩) hi (t:=t)
 simp only at h1
 rw[show eEy ⟨z,d,⟨l,h,s.set i t⟩⟩=D.int .i64 z::D.bool d::eFr ⟨l,h,s.set i t⟩ from rfl,←h1]
 simp only[eEy,show 4+i=(2+i)+2 by omega,show 2+i+2+1=(2+i+1)+2 by omega,List.take_succ_cons,List.drop_succ_cons,List.cons_append]
theorem ey_2 (e:Ey):(eEy e)[2]? =some (.int .i64 e.fr.loc):=rfl
theorem ey_3 (e:Ey):(eEy e)[3]? =some (.int .i64 e.fr.h):=rfl
theorem fr0_eq:fr0 0=⟨0,0,slOf []⟩:=by rw[slOf_nil]; rfl
def bYfbF0:=aI @zb4 (aI @za9 (aI @zb0 (aI @za6 (aI @za4 (aI @za7 (aI @anD (aI @za2 (aI @za5 (aI @eRd_len (aI @rd_0 (aI @rd_1 (aI @gdD (aI @zc2 (aI @ey_0 (aI @ey_1 (aI @ey_2 (aI @ey_3 @ey_zero)))))))))))))))))
def bYfbF1:=aI @zb4 (aI @za9 (aI @zb0 (aI @za6 (aI @za4 (aI @za7 (aI @anD (aI @za2 (aI @za5 (aI @eRd_len (aI @rd_0 (aI @rd_1 (aI @gdD (aI @zc2 (aI @ey_0 (aI @ey_1 (aI @ey_2 @ey_3))))))))))))))))
theorem entry205 (b:List Ty) (r p:Nat) (last:Int) (left n bad err:Nat) (hl:b.length≤140737488355328) (h6:4≤b.length) (hp:p≤b.length):
  RCall Tryz.prog 205 [.ptr r 0] (({}:St).set r (eRd b p last left n bad err)) fun d s'=>d= .tup [.agg (eEy (entD b (bt b 3) p last).1),.int .i64 (entD b (bt b 3) p last).2.1,.int .i64 (entD b (bt b 3) p last).2.2]∧s'=({}:St).set r (eRd b p last left n bad err):=by
 have v2:IntKind.wrap .i64 ((p:Int)+2)=((p+2:Nat):Int):=wrapN (by simp) (by omega)
 have v3:IntKind.wrap .i64 (((p+2:Nat):Int)+1)=((p+3:Nat):Int):=wrapN (by omega) (by omega)
 have v4:IntKind.wrap .i64 (((p+3:Nat):Int)+1)=((p+4:Nat):Int):=wrapN (by omega) (by omega)
 refine F205.rcall rfl fun T hT=> ?_
 obtain⟨C,hC⟩:∃C,eRd b p last left n bad err=C:=⟨_,rfl⟩
 have hC0:C[0]? =some (.slice .no (rws eT b)):=by rw[←hC]; rfl
 have hC1:C[1]? =some (.int .i64 p):=by rw[←hC]; rfl
 have hC2:C[2]? =some (.int .i64 last):=by rw[←hC]; rfl
 have hCl:C.length=8:=by rw[←hC]; rfl
 rw[hC]
 simp -implicitDefEqProofs only[go_sem,c205,hT,hC0,hC1,hC2,hCl,bYfbF0]
 intro b2 n1 n2
 refine⟨fun x hx=>by simp[hx], ?_⟩
 have wS:IntKind.wrap .i64 ((b.length:Int)-p)=(b.length:Int)-p:=zc1 (by omega) (by omega)
 simp -implicitDefEqProofs only[go_sem,hT,hC0,hC1,hC2,hCl,n1,n2,wS,bYfbF0]
 intro b5 n3 n4 n5 n6
 refine⟨n5, ?_⟩
 have z2:¬(({}:St).set r C).has b2:=by rw[has_set,has_nil]; simp; omega
 have z5:¬(({}:St).set r C).has b5:=by rw[has_set,has_nil]; simp; omega
 obtain⟨loc,hloc⟩:∃loc,bt b 3=loc:=⟨_,rfl⟩
 have hb3:=bt_lt b 3
 have hRl:=bt_at (b:=b) (i:=3) (by omega)
 rw[hloc] at hRl hb3
 rw[hloc]
 clear hloc
 by_cases h1:b.length<p+2
 ·have q1:((b.length:Int)-p<2)=True:=by simp; omega
  rw[entD,if_pos h1]
  simp -implicitDefEqProofs only[go_sem,hT,hC0,hC1,hC2,hCl,wS,q1,n1,n2,n3,n4,n5,n6,bYfbF0]
  exact⟨_,_,DLe.refl _,le_out (le_out (le_out (St.le.refl _) z2) z5) z2,rfl,rfl⟩
 have q1:((b.length:Int)-p<2)=False:=by simp; omega
 obtain⟨ae,hae⟩:∃ae,afterE (word2 b p) last=ae:=⟨_,rfl⟩
 obtain⟨z,hz⟩:∃z,word2 b p=z:=⟨_,rfl⟩
 have hd:entD b loc p last=if ae≠0 then(ey0,p,ae)
   else if b.length=p+2 then(ey0,p+2,2)
   else if 1<bt b (p+2) then(ey0,p+2,63)
   else if bt b (p+2)=0 then(⟨z,true,fr0 0⟩,p+3,0)
   else if b.length=p+3 then(ey0,p+3,2)
   else if 24<loc+bt b (p+3) then(ey0,p+3,65)
   else if(scanT b (p+4) (loc+bt b (p+3))).2≠0 then(ey0,scanT b (p+4) (loc+bt b (p+3)))
   else(⟨z,false,⟨loc,bt b (p+3),slOf ((b.drop (p+4)).take (loc+bt b (p+3)))⟩⟩,p+4+(loc+bt b (p+3)),0):=by
  rw[entD,if_neg h1,hae,hz]
 have hw4:word2 (b.drop p) 0=z:=by rw[←hz]; simp[word2,bt,List.getElem?_drop]
 have hw:PCall Tryz.prog 167 [.slice .no (rws eT (b.drop p))] (.int .i64 z):=by rw[←hw4]; exact word167 _ _ (by rw[List.length_drop]; omega)
 rw[hd]
 have hri:=rises165 last z
 rw[hz] at hae
 rw[hae] at hri
 clear hd hae hz hw4
 simp -implicitDefEqProofs only[go_sem,hT,zb4,za9,zb0,za6,za4,za7,anD,za2,za5,eRd_len,rd_0,rd_1,gdD,zc2,ey_0,ey_1,ey_2,ey_3,hC0,hC1,hC2,hCl,wS,q1,n1,n2,n3,n4,n5,n6,rws_take,rws_drop,List.take_length]
 refine⟨⟨by omega,rows_len eT_len b⟩,za3 hw ?_⟩
 simp -implicitDefEqProofs only[go_sem,hT,hC0,hC1,hC2,hCl,n1,n2,n3,n4,n5,n6,bYfbF1]
 intro b8 n7 n8 n9 n10 n11 n12
 have z8:¬(({}:St).set r C).has b8:=by rw[has_set,has_nil]; simp; omega
 simp -implicitDefEqProofs only[go_sem,hT,zb4,za9,zb0,za6,za4,za7,anD,za2,za5,eRd_len,rd_0,rd_1,gdD,zc2,ey_0,ey_1,ey_2,ey_3,hC0,hC1,hC2,hCl,n1,n2,n3,n4,n5,n6,n7,n8,n9,n10,n11,n12,ey_word]
 refine za3 hri ?_
 by_cases h2:ae=0
 case neg=>
  have q2:((ae:Int)=0)=False:=by simp; omega
  rw[if_pos h2]
  simp -implicitDefEqProofs only[go_sem,hT,hC0,hC1,hC2,hCl,n1,n2,n3,n4,n5,n6,n7,n8,n9,n10,n11,n12,q2,bYfbF0]
  exact⟨_,_,DLe.refl _,le_out (le_out (le_out (le_out (St.le.refl _) z2) z5) z8) z2,rfl,rfl⟩
 have q2:((ae:Int)=0)=True:=by simp; omega
 rw[if_neg (by simp[h2])]
 by_cases h3:b.length=p+2
 ·have q3:(((p+2:Nat):Int)=b.length)=True:=by simp; omega
  rw[if_pos h3]
  simp -implicitDefEqProofs only[go_sem,hT,hC0,hC1,hC2,hCl,n1,n2,n3,n4,n5,n6,n7,n8,n9,n10,n11,n12,v2,q2,q3,bYfbF0]
  exact⟨_,_,DLe.refl _,le_out (le_out (le_out (le_out (St.le.refl _) z2) z5) z8) z2,rfl,rfl⟩
 have q3:(((p+2:Nat):Int)=b.length)=False:=by simp; omega
 have hR2:=bt_at (b:=b) (i:=p+2) (by omega)
 have hb2:=bt_lt b (p+2)
 have g2:(0:Int)≤(p+2:Nat)∧((p+2:Nat):Int)<b.length:=by omega
 rw[if_neg h3]
 by_cases h4:1<bt b (p+2)
 ·have q4:((1:Int)<bt b (p+2))=True:=by simp; omega
  rw[if_pos h4]
  simp -implicitDefEqProofs only[go_sem,hT,hC0,hC1,hC2,hCl,n1,n2,n3,n4,n5,n6,n7,n8,n9,n10,n11,n12,v2,q2,q3,q4,hR2,rws_one eT_len,bYfbF0]
  exact⟨g2,_,_,DLe.refl _,le_out (le_out (le_out (le_out (St.le.refl _) z2) z5) z8) z2,rfl,rfl⟩
 have q4:((1:Int)<bt b (p+2))=False:=by simp; omega
 rw[if_neg h4]
 by_cases h5:bt b (p+2)=0
 ·have q5:((bt b (p+2):Int)=0)=True:=by simp; omega
  rw[if_pos h5]
  simp -implicitDefEqProofs only[go_sem,hT,zb4,za9,zb0,za6,za4,za7,anD,za2,za5,eRd_len,rd_0,rd_1,gdD,zc2,ey_0,ey_1,ey_2,ey_3,hC0,hC1,hC2,hCl,n1,n2,n3,n4,n5,n6,n7,n8,n9,n10,n11,n12,v2,v3,q2,q3,q4,q5,hR2,ey_set1,rws_one eT_len]
  exact⟨g2,g2,_,_,DLe.refl _,le_out (le_out (le_out (le_out (St.le.refl _) z2) z5) z8) z2,rfl,rfl⟩
 have q5:((bt b (p+2):Int)=0)=False:=by simp; omega
 rw[if_neg h5]
 by_cases h6:b.length=p+3
 ·have q6:(((p+3:Nat):Int)=b.length)=True:=by simp; omega
  rw[if_pos h6]
  simp -implicitDefEqProofs only[go_sem,hT,hC0,hC1,hC2,hCl,n1,n2,n3,n4,n5,n6,n7,n8,n9,n10,n11,n12,v2,v3,q2,q3,q4,q5,q6,hR2,rws_one eT_len,bYfbF0]
  exact⟨g2,g2,_,_,DLe.refl _,le_out (le_out (le_out (le_out (St.le.refl _) z2) z5) z8) z2,rfl,rfl⟩
 have q6:(((p+3:Nat):Int)=b.length)=False:=by simp; omega
 have hR3:=bt_at (b:=b) (i:=p+3) (by omega)
 have hb3':=bt_lt b (p+3)
 have g3:(0:Int)≤(p+3:Nat)∧((p+3:Nat):Int)<b.length:=by omega
 rw[if_neg h6]
 obtain⟨dp,hdp⟩:∃dp,bt b (p+3)=dp:=⟨_,rfl⟩
 rw[hdp] at hR3 hb3' ⊢
 clear hdp
 have u3:IntKind.wrap .i64 (dp:Int)=dp:=zc1 (by omega) (by omega)
 have uL:IntKind.wrap .i64 (loc:Int)=loc:=zc1 (by omega) (by omega)
 have g3':(3:Int)<b.length:=by omega
 obtain⟨n,hn⟩:∃n,loc+dp=n:=⟨_,rfl⟩
 rw[hn]
 have uN:IntKind.wrap .i64 ((loc:Int)+dp)=(n:Int):=wrapN (by omega) (by omega)
 simp -implicitDefEqProofs only[go_sem,hT,zb4,za9,zb0,za6,za4,za7,anD,za2,za5,eRd_len,rd_0,rd_1,gdD,zc2,ey_0,ey_1,ey_2,ey_3,hC0,hC1,hC2,hCl,n1,n2,n3,n4,n5,n6,n7,n8,n9,n10,n11,n12,v2,v3,q2,q3,q4,q5,q6,hR2,hR3,hRl,u3,uL,rws_one eT_len,fr0_eq,ey_set2,ey_set3]
 refine⟨g2,g2,g3',g3, ?_⟩
 have hle:∀{x y w u:List D},St.le (({}:St).set r C) ((((((({}:St).set r C).set b2 x).set b5 y).set b8 w)).set b2 u):=le_out (le_out (le_out (le_out (St.le.refl _) z2) z5) z8) z2
 by_cases h7:24<n
 ·have q7:((24:Int)<n)=True:=by simp; omega
  rw[if_pos h7]
  simp -implicitDefEqProofs only[go_sem,hT,hC0,hC1,hC2,hCl,n1,n2,n3,n4,n5,n6,n7,n8,n9,n10,n11,n12,uN,q7,bYfbF0]
  exact⟨_,_,DLe.refl _,hle,rfl,rfl⟩
 have q7:((24:Int)<n)=False:=by simp; omega
 rw[if_neg h7]
 have hn24:n≤24:=by omega
 simp -implicitDefEqProofs only[go_sem,hT,hC0,hC1,hC2,hCl,n1,n2,n3,n4,n5,n6,n7,n8,n9,n10,n11,n12,uN,q7,v4,bYfbF1]
 refine loopL F205 (fun i:Nat=>[(0,.ptr r 0),(2,.ptr b2 0),(3,.int .i64 0),(4,.int .i64 0),(5,.ptr b5 0),(6,.slice .no (rws eT b)),(7,.int .i64 (p+4+i:Nat)),(8,.ptr b8 0),(10,.int .i64 n),(104,.int .i64 n),(105,.int .i64 i)]) (fun i=>(((({}:St).set r C).set b2 (eEy ey0)).set b5 (eEy ey0)).set b8 (eEy ⟨z,false,⟨loc,dp,slOf ((b.drop (p+4)).take i)⟩⟩)) (fun i=>i≤n∧p+4+i≤b.length∧scanT b (p+4) n=scanT b (p+4+i) (n-i)) (fun i=>n-i) 0 ⟨by omega,by omega,rfl⟩ ?_ (St.le.refl _) ?_
 ·simp -implicitDefEqProofs only[go_sem,hT,Int.ofNat_zero,Nat.add_zero]
 clear hT T
 rintro i ⟨hi,hpi,hsc⟩ T hT
 by_cases h:i<n
 ·have p1:((i:Int)<n)=True:=by simp; omega
  have w4:IntKind.wrap .i64 ((i:Int)+1)=((i+1:Nat):Int):=wrapN (by simp) (by omega)
  have w5:IntKind.wrap .i64 (((p+4+i:Nat):Int)+1)=((p+4+(i+1):Nat):Int):=wrapN (by omega) (by omega)
  have hsn:n-i=(n-(i+1))+1:=by omega
  rw[hsn,scanT] at hsc
  by_cases h8:b.length≤p+4+i
  ·have q8:(((p+4+i:Nat):Int)=b.length)=True:=by simp; omega
   rw[if_pos h8,show b.length=p+4+i by omega] at hsc
   rw[hsc,if_pos (by simp)]
   simp -implicitDefEqProofs only[go_sem,hT,hC0,hC1,hC2,hCl,n1,n2,n3,n4,n5,n6,n7,n8,n9,n10,n11,n12,p1,q8,bYfbF0]
   exact⟨_,_,DLe.refl _,hle,rfl,rfl⟩
  have q8:(((p+4+i:Nat):Int)=b.length)=False:=by simp; omega
  rw[if_neg h8] at hsc
  have hR4:=rws_at (enc:=eT) (xs:=b) (i:=p+4+i) (by omega)
  have hg:(b[p+4+i]?).getD 0=b[p+4+i]:=by rw[List.getElem?_eq_getElem (by omega)]; rfl
  rw[hg] at hsc
  have g4:(0:Int)≤(p+4+i:Nat)∧((p+4+i:Nat):Int)<b.length:=by omega
  simp -implicitDefEqProofs only[go_sem,hT,zb4,za9,zb0,za6,za4,za7,anD,za2,za5,eRd_len,rd_0,rd_1,gdD,zc2,ey_0,ey_1,ey_2,ey_3,hC0,hC1,hC2,hCl,n1,n2,n3,n4,n5,n6,n7,n8,n9,n10,n11,n12,p1,q8,hR4,eT,eT_len]
  refine⟨g4,za3 (known204 _) ?_⟩
  have hset:=slOf_set (ts:=b.drop (p+4)) (i:=i) (by rw[List.length_drop]; omega) (by omega)
  have hdg:(b.drop (p+4))[i]'(by rw[List.length_drop]; omega)=b[p+4+i]:=by simp
  rw[hdg] at hset
  generalize b[p+4+i]=x at *
  by_cases h9:knownT x=true
  ·rw[if_pos h9] at hsc
   simp -implicitDefEqProofs only[go_sem,hT,zb4,za9,zb0,za6,za4,za7,anD,za2,za5,eRd_len,rd_0,rd_1,gdD,zc2,ey_0,ey_1,ey_2,ey_3,hC0,hC1,hC2,hCl,n1,n2,n3,n4,n5,n6,n7,n8,n9,n10,n11,n12,p1,q8,hR4,eT,eT_len,h9]
   rw[Nat.mul_one,ey_set4 (by omega)]
   rw[hset]
   refine⟨g4,by omega,by omega,i+1,⟨by omega,by omega, ?_⟩,by omega,⟨by rw[w5],by rw[w4]⟩,St.le.refl _⟩
   rw[hsc]; rfl
  ·have h9:knownT x=false:=by simpa using h9
   rw[if_neg (by simp[h9])] at hsc
   rw[hsc,if_pos (by simp)]
   simp -implicitDefEqProofs only[go_sem,hT,zb4,za9,zb0,za6,za4,za7,anD,za2,za5,eRd_len,rd_0,rd_1,gdD,zc2,ey_0,ey_1,ey_2,ey_3,hC0,hC1,hC2,hCl,n1,n2,n3,n4,n5,n6,n7,n8,n9,n10,n11,n12,p1,q8,hR4,eT,eT_len,h9,ey_zero]
   exact⟨_,_,DLe.refl _,hle,rfl,rfl⟩
 ·have p1:((i:Int)<n)=False:=by simp; omega
  have hin:i=n:=by omega
  subst hin
  rw[Nat.sub_self,scanT] at hsc
  rw[hsc,if_neg (by simp)]
  simp -implicitDefEqProofs only[go_sem,hT,hC0,hC1,hC2,hCl,n1,n2,n3,n4,n5,n6,n7,n8,n9,n10,n11,n12,p1,bYfbF1]
  exact⟨_,_,DLe.refl _,hle,rfl,rfl⟩
open Go.Proofs
section
variable {b : List Ty} {p : Nat} {last : Int} {left n bad err : Nat}
theorem rd_s1 {q:Nat}:(eRd b p last left n bad err).take 1++[D.int .i64 q]++(eRd b p last left n bad err).drop 2=eRd b q last left n bad err:=rfl
theorem rd_s2 {z:Int}:(eRd b p last left n bad err).take 2++[D.int .i64 z]++(eRd b p last left n bad err).drop 3=eRd b p z left n bad err:=rfl
theorem rd_s3 {q:Nat}:(eRd b p last left n bad err).take 3++[D.int .i64 q]++(eRd b p last left n bad err).drop 4=eRd b p last q n bad err:=rfl
theorem rd_s5 {q:Nat}:(eRd b p last left n bad err).take 5++[D.int .i64 q]++(eRd b p last left n bad err).drop 6=eRd b p last left n q err:=rfl
theorem rd_s6 {q:Nat}:(eRd b p last left n bad err).take 6++[D.int .i64 q]++(eRd b p last left n bad err).drop 7=eRd b p last left n bad q:=rfl
theorem rd_s6':(eRd b p last left n bad err).take 6++[D.int .i64 3]++(eRd b p last left n bad err).drop 7=eRd b p last left n bad 3:=rfl
end
def nextR (b:List Ty) (r p:Nat) (last:Int) (left n:Nat) (d:D) (s:St):Prop:=
 if left=0 then
  if p<b.length then d= .tup [.agg (eEy ey0),.bool false,.int .i64 3]∧s=({}:St).set r (eRd b p last 0 n p 3)
  else d= .tup [.agg (eEy ey0),.bool false,.int .i64 0]∧s=({}:St).set r (eRd b p last 0 n 0 0)
 else if(entD b (bt b 3) p last).2.2≠0 then
  d= .tup [.agg (eEy ey0),.bool false,.int .i64 (entD b (bt b 3) p last).2.2]∧s=({}:St).set r (eRd b p last left n (entD b (bt b 3) p last).2.1 (entD b (bt b 3) p last).2.2)
 else d= .tup [.agg (eEy (entD b (bt b 3) p last).1),.bool true,.int .i64 0]∧s=({}:St).set r (eRd b (entD b (bt b 3) p last).2.1 (entD b (bt b 3) p last).1.pos (left-1) n 0 0)
theorem le_one {r:Nat} {C:List D} {σ:St} (h:σ.box r=some C):St.le (({}:St).set r C) σ:=⟨fun x c hx=>by
  by_cases he:x=r
  ·subst he; simp[St.set] at hx; rw[←hx]; exact h
  ·simp[St.set,he] at hx,fun x c hx=>by simp[St.set] at hx,fun x c hx=>by simp[St.set] at hx⟩
def bYfbG0:=aI @zb4 (aI @za9 (aI @zb0 (aI @anD (aI @za2 (aI @za5 (aI @eRd_len (aI @rd_0 (aI @rd_1 (aI @rd_3 (aI @rd_5 (aI @rd_6 (aI @rd_7 (aI @gdD (aI @zc2 (aI @Int.ofNat_zero @ey_zero)))))))))))))))
theorem next169 (b:List Ty) (r p:Nat) (last:Int) (left n:Nat) (hl:b.length≤140737488355328) (h6:4≤b.length) (hp:p≤b.length) (hleft:left≤4096):
  RCall Tryz.prog 169 [.ptr r 0] (({}:St).set r (eRd b p last left n 0 0)) (nextR b r p last left n):=by
 refine F169.rcall rfl fun T hT=> ?_
 simp -implicitDefEqProofs only[go_sem,c169,hT,bYfbG0]
 intro b2 n1 n2 b5 n3 n4 n5 n6
 have z2:∀C,¬(({}:St).set r C).has b2:=fun C=>by rw[has_set,has_nil]; simp; omega
 have z5:∀C,¬(({}:St).set r C).has b5:=fun C=>by rw[has_set,has_nil]; simp; omega
 by_cases h1:left=0
 ·have q1:((left:Int)=0)=True:=by simp; omega
  by_cases h2:p<b.length
  ·have q2:((p:Int)<b.length)=True:=by simp; omega
   rw[show nextR b r p last left n=fun d s=>d= .tup [.agg (eEy ey0),.bool false,.int .i64 3]∧s=({}:St).set r (eRd b p last 0 n p 3) by funext d s; rw[nextR,if_pos h1,if_pos h2]]
   subst h1
   simp -implicitDefEqProofs only[go_sem,hT,zb4,za9,zb0,anD,za2,za5,eRd_len,rd_0,rd_1,rd_3,rd_5,rd_6,rd_7,gdD,zc2,Int.ofNat_zero,n1,n2,n3,n4,n5,n6,q1,q2,rd_s5,rd_s6',ey_zero]
   refine⟨fun x hx=>by simp[hx],_,_,DLe.refl _,le_one ?_,rfl,rfl⟩
   simp[St.set,n1,n2,n3,n4,n5,n6]
  ·have q2:((p:Int)<b.length)=False:=by simp; omega
   rw[show nextR b r p last left n=fun d s=>d= .tup [.agg (eEy ey0),.bool false,.int .i64 0]∧s=({}:St).set r (eRd b p last 0 n 0 0) by funext d s; rw[nextR,if_pos h1,if_neg h2]]
   subst h1
   simp -implicitDefEqProofs only[go_sem,hT,zb4,za9,zb0,anD,za2,za5,eRd_len,rd_0,rd_1,rd_3,rd_5,rd_6,rd_7,gdD,zc2,Int.ofNat_zero,n1,n2,n3,n4,n5,n6,q1,q2,rd_s5,rd_s6',ey_zero]
   refine⟨_,_,DLe.refl _,le_one ?_,rfl,rfl⟩
   simp[St.set,n1,n2,n3,n4,n5,n6]
 have q1:((left:Int)=0)=False:=by simp; omega
 simp -implicitDefEqProofs only[go_sem,hT,n1,n2,n3,n4,n5,n6,q1,bYfbG0]
 refine callB_box (b:=r) (by simp[St.set,n1,n2,n3,n4,n5,n6]) rfl (entry205 b r p last left n 0 0 hl h6 hp) ?_
 have hpl:=entD_place (b:=b) (loc:=bt b 3) (p:=p) (last:=last)
 obtain⟨e,he⟩:∃e,entD b (bt b 3) p last=e:=⟨_,rfl⟩
 obtain⟨e,q,err⟩:=e
 rw[he] at hpl ⊢
 simp only at hpl ⊢
 by_cases h3:err=0
 case neg=>
  have q3:((err:Int)=0)=False:=by simp; omega
  rw[show nextR b r p last left n=fun d s=>d= .tup [.agg (eEy ey0),.bool false,.int .i64 err]∧s=({}:St).set r (eRd b p last left n q err) by funext d s; rw[nextR,if_neg h1,he,if_pos h3]]
  simp -implicitDefEqProofs only[go_sem,hT,n1,n2,n3,n4,n5,n6,q1,q3,bYfbG0]
  intro b6 n7 n8 n9 n10 n11 n12
  simp -implicitDefEqProofs only[go_sem,hT,zb4,za9,zb0,anD,za2,za5,eRd_len,rd_0,rd_1,rd_3,rd_5,rd_6,rd_7,gdD,zc2,Int.ofNat_zero,n1,n2,n3,n4,n5,n6,n7,n8,n9,n10,n11,n12,q1,q3,ey_zero,rd_s5,rd_s6]
  refine⟨_,_,DLe.refl _,le_one ?_,rfl,rfl⟩
  simp[St.set,n1,n2,n3,n4,n5,n6,n7,n8,n9,n10,n11,n12]
 have q3:((err:Int)=0)=True:=by simp; omega
 obtain⟨hpq,hqb⟩:=hpl h3
 have wl:IntKind.wrap .i64 ((left:Int)-1)=((left-1:Nat):Int):=wrapN (by omega) (by omega)
 rw[show nextR b r p last left n=fun d s=>d= .tup [.agg (eEy e),.bool true,.int .i64 0]∧s=({}:St).set r (eRd b q e.pos (left-1) n 0 0) by funext d s; rw[nextR,if_neg h1,he,if_neg (by simp[h3])]]
 simp -implicitDefEqProofs only[go_sem,hT,n1,n2,n3,n4,n5,n6,q1,q3,wl,bYfbG0]
 intro b6 n7 n8 n9 n10 n11 n12
 simp -implicitDefEqProofs only[go_sem,hT,zb4,za9,zb0,anD,za2,za5,eRd_len,rd_0,rd_1,rd_3,rd_5,rd_6,rd_7,gdD,zc2,Int.ofNat_zero,n1,n2,n3,n4,n5,n6,n7,n8,n9,n10,n11,n12,q1,q3,wl,ey_zero,ey_0,rd_s1,rd_s2,rd_s3]
 refine⟨fun x hx=>by simp[hx],_,_,DLe.refl _,le_one ?_,rfl,rfl⟩
 simp[St.set,n1,n2,n3,n4,n5,n6,n7,n8,n9,n10,n11,n12]
open Go.Proofs
theorem locals135 (b:List Ty) (r p:Nat) (last:Int) (left n bad err:Nat) (h6:4≤b.length):
  RCall Tryz.prog 135 [.ptr r 0] (({}:St).set r (eRd b p last left n bad err)) fun d s'=>d= .int .i64 (bt b 3)∧s'=({}:St).set r (eRd b p last left n bad err):=by
 have hR3:=bt_at (b:=b) (i:=3) (by omega)
 have hb3:=bt_lt b 3
 have u3:IntKind.wrap .i64 (bt b 3:Int)=bt b 3:=zc1 (by omega) (by omega)
 refine F135.rcall rfl fun T hT=> ?_
 simp -implicitDefEqProofs only[go_sem,c135,hT,eRd_len,rd_0,rd_7,zc2,rws_one eT_len,gdD,hR3,u3]
 exact⟨by omega,_,_,DLe.refl _,St.le.refl _,rfl,rfl⟩
theorem all136 (r:Nat):RCall Tryz.prog 136 [.ptr r 0] {} fun d s'=>∃bc,d= .func (.func 168) [] [.ptr bc 0]∧s'=({}:St).set bc [.ptr r 0]:=by
 refine F136.rcall rfl fun T hT=> ?_
 simp -implicitDefEqProofs only[go_sem,c136,hT]
 intro bc
 exact⟨_,_,DLe.refl _,St.le.refl _,bc,rfl,rfl⟩
end Go.AL
namespace Go.AL
inductive Rz (α:Type) where
 |ok (x:α)
 |no (at':Int) (why:Nat)
structure PS where
 p:Nat
 fr:Fr
 live:Bool
 cmp:Nat
 fet:List Nat
def findE (l:List Ey) (a:Int):Option Ey:=l.find? fun x=>decide (x.pos=a)
def nextP (l:List Ey) (n p:Nat):Nat:=match l.find? fun x=>decide ((p:Int)+1≤x.pos) with
 |some y=>if y.pos<n then y.pos.toNat else n
 |none=>n
def strayE (l:List Ey) (p q:Nat):Option Ey:=l.find? fun x=>decide ((p:Int)<x.pos∧x.pos<q)
def comeD (cs:List Cl) (l:List Ey) (n:Nat) (s:PS):Rz (PS×Bool):=
 match findE l s.p with
 |none=>if s.live=true then .ok (s,true) else .no s.p 90
 |some x=>
  if s.live=true∧x.dead=true then .no s.p 91
  else if s.live=true∧subFr cs s.fr x.fr=false then .no s.p 92
  else if x.dead=true then .ok ({s with p:=nextP l n s.p},false)
  else .ok ({s with fr:=x.fr,live:=true,cmp:=s.cmp+(if s.live=true then 1 else 0)},true)
def endD (n p q:Nat) (op:Nat) (fr:Fr) (cmp:Nat) (fet:List Nat):Rz PS:=
 if endsB op=true then .ok ⟨q,fr,false,cmp,fet⟩ else if n≤q then .no p 51 else .ok ⟨q,fr,true,cmp,fet⟩
def jumpD (cs:List Cl) (l:List Ey) (n p:Nat) (a:Int) (fr:Fr):Option Nat:=
 if n≤a then some 50 else match findE l a with
 |none=>some 90
 |some x=>if x.dead=true then some 91 else if subFr cs fr x.fr=false then some 92 else none
def fetD (e:En) (b:List Ty) (l:List Ey) (s:PS):Rz PS:=
 if(decF b s.p).2≠0 then .no s.p (decF b s.p).2
 else match strayE l s.p (s.p+zf3 (decF b s.p).1.op.val) with
 |some x=> .no x.pos 93
 |none=>
  if(applyR e s.fr (decF b s.p).1).2≠0 then .no s.p (applyR e s.fr (decF b s.p).1).2
  else if jumpsB (decF b s.p).1.op.val=true then
   match jumpD e.cs l b.length s.p (decF b s.p).1.a (applyR e s.fr (decF b s.p).1).1 with
   |some w=> .no s.p w
   |none=>endD b.length s.p (s.p+zf3 (decF b s.p).1.op.val) (decF b s.p).1.op.val (applyR e s.fr (decF b s.p).1).1 (s.cmp+1) (s.fet++[s.p])
  else endD b.length s.p (s.p+zf3 (decF b s.p).1.op.val) (decF b s.p).1.op.val (applyR e s.fr (decF b s.p).1).1 s.cmp (s.fet++[s.p])
def runD (e:En) (b:List Ty) (l:List Ey):Nat→PS→Rz PS
 |0,s=> .ok s
 |k+1,s=>if b.length≤s.p then .ok s else match comeD e.cs l b.length s with
  | .no a w=> .no a w
  | .ok (s',false)=>runD e b l k s'
  | .ok (s',true)=>match fetD e b l s' with
   | .no a w=> .no a w
   | .ok s''=>runD e b l k s''
def psOf (e:En):List Ty:=((e.sgs[e.fn.toNat]?).map (·.ps)).getD []
def startS (e:En) (n:Int):PS:=⟨0,(startF e.cs.length (psOf e) n).1,true,0,[]⟩
def badE (e:En) (l:List Ey):Option Ey:=l.find? fun x=> !x.dead&&decide (checkF e.cs.length x.fr≠0)
def lateE (l:List Ey) (n:Nat):Option Ey:=l.find? fun x=>decide ((n:Int)≤x.pos)
def beginD (e:En) (n:Int) (m:Nat) (c:List Ty):Option (Int×Nat):=
 if canB e=false∨n<(psOf e).length∨16<n then some (0,1)
 else if 4096<m then some (0,4)
 else if m=0 then some (0,51)
 else if(decC c).2.2≠0 then some ((decC c).2.1,(decC c).2.2)
 else match badE e (decC c).1.es with
 |some x=>some (x.pos,65)
 |none=>if((decC c).1.loc:Int)≠n then some (0,32) else none
def checkD (e:En) (n:Int) (b c:List Ty):(Nat×List Nat)×Int×Nat:=
 match beginD e n b.length c with
 |some (a,w)=>((0,[]),a,w)
 |none=>match runD e b (decC c).1.es (b.length+1) (startS e n) with
  | .no a w=>((0,[]),a,w)
  | .ok s=>match lateE (decC c).1.es b.length with
   |some x=>((0,[]),x.pos,93)
   |none=>((s.cmp,s.fet),0,0)
def Rise (l:List Ey):Prop:=l.Pairwise fun x y=>x.pos<y.pos
def cnt (l:List Ey) (a:Int):Nat:=l.countP fun x=>decide (x.pos<a)
theorem cnt_cons (x:Ey) (r:List Ey) (a:Int):cnt (x::r) a=cnt r a+if x.pos<a then 1 else 0:=by simp[cnt,List.countP_cons]
theorem rise_cons {x:Ey} {r:List Ey} (h:Rise (x::r)):(∀y∈r,x.pos<y.pos)∧Rise r:=List.pairwise_cons.1 h
theorem cnt_zero {l:List Ey} {a:Int} (h:∀y∈l,a≤y.pos):cnt l a=0:=by
 simp only[cnt,List.countP_eq_zero,decide_eq_true_eq]
 exact fun y hy=>by have:=h y hy; omega
theorem cnt_le (l:List Ey) (a:Int):cnt l a≤l.length:=List.countP_le_length
theorem cnt_iff:∀{l:List Ey} (h:Rise l) {a:Int} {i:Nat} (hi:i<l.length),l[i].pos<a↔i<cnt l a
 |[],_,_,i,hi=>by simp at hi
 |x::r,h,a,i,hi=>by
  obtain⟨h1,h2⟩:=rise_cons h
  rw[cnt_cons]
  by_cases hx:x.pos<a
  ·rw[if_pos hx]
   cases i with
   |zero=>simpa using hx
   |succ i=>
    have:=cnt_iff h2 (a:=a) (i:=i) (by simpa using hi)
    simp only[List.getElem_cons_succ]
    omega
  ·rw[if_neg hx,cnt_zero fun y hy=>by have:=h1 y hy; omega]
   cases i with
   |zero=>simpa using hx
   |succ i=>
    have:=h1 (r[i]'(by simpa using hi)) (List.getElem_mem _)
    simp only[List.getElem_cons_succ]
    omega
theorem find_ge:∀{l:List Ey} (h:Rise l) (a:Int),l.find? (fun x=>decide (a≤x.pos))=l[cnt l a]?
 |[],_,_=>rfl
 |x::r,h,a=>by
  obtain⟨h1,h2⟩:=rise_cons h
  rw[cnt_cons]
  by_cases hx:x.pos<a
  ·rw[if_pos hx,List.find?_cons_of_neg (by simp; omega),find_ge h2]
   simp
  ·rw[if_neg hx,List.find?_cons_of_pos (by simp; omega),cnt_zero fun y hy=>by have:=h1 y hy; omega]
   simp
theorem find_none {l:List Ey} {f:Ey→Bool} (h:∀y∈l,f y=false):l.find? f=none:=by
 rw[List.find?_eq_none]; intro y hy; simp[h y hy]
theorem findE_cnt:∀{l:List Ey} (h:Rise l) (a:Int),findE l a=(l[cnt l a]?).bind fun x=>if x.pos=a then some x else none
 |[],_,_=>rfl
 |x::r,h,a=>by
  obtain⟨h1,h2⟩:=rise_cons h
  have ih:=findE_cnt h2 a
  unfold findE at ih ⊢
  rw[cnt_cons]
  by_cases hx:x.pos<a
  ·rw[if_pos hx,List.find?_cons_of_neg (by simp; omega),ih]
   simp
  ·rw[if_neg hx,cnt_zero fun y hy=>by have:=h1 y hy; omega]
   by_cases he:x.pos=a
   ·rw[List.find?_cons_of_pos (by simp[he])]; simp[he]
   ·rw[List.find?_cons_of_neg (by simp[he]),find_none fun y hy=>by have:=h1 y hy; simp; omega]
    simp[he]
theorem strayE_cnt:∀{l:List Ey} (h:Rise l) (p q:Nat),strayE l p q=(l[cnt l ((p:Int)+1)]?).bind fun x=>if x.pos<q then some x else none
 |[],_,_,_=>rfl
 |x::r,h,p,q=>by
  obtain⟨h1,h2⟩:=rise_cons h
  have ih:=strayE_cnt h2 p q
  unfold strayE at ih ⊢
  rw[cnt_cons]
  by_cases hx:x.pos<(p:Int)+1
  ·rw[if_pos hx,List.find?_cons_of_neg (by simp; omega),ih]
   simp
  ·rw[if_neg hx,cnt_zero fun y hy=>by have:=h1 y hy; omega]
   by_cases he:x.pos<q
   ·rw[List.find?_cons_of_pos (by simp; omega)]; simp[he]
   ·rw[List.find?_cons_of_neg (by simp; omega),find_none fun y hy=>by have:=h1 y hy; simp; omega]
    simp[he]
theorem cnt_succ {l:List Ey} (h:Rise l) (a:Int):cnt l (a+1)=cnt l a+if(findE l a).isSome=true then 1 else 0:=by
 induction l with
 |nil=>rfl
 |cons x r ih=>
  obtain⟨h1,h2⟩:=rise_cons h
  rw[cnt_cons,cnt_cons,ih h2]
  unfold findE
  by_cases hx:x.pos=a
  ·have h0:List.find? (fun x=>decide (x.pos=a)) r=none:=find_none fun y hy=>by have:=h1 y hy; simp; omega
   rw[List.find?_cons_of_pos (by simp[hx]),if_pos (show x.pos<a+1 by omega),if_neg (show ¬x.pos<a by omega)]
   simp[findE,h0]
  ·rw[List.find?_cons_of_neg (by simp[hx])]
   by_cases hy:x.pos<a
   ·rw[if_pos (show x.pos<a+1 by omega),if_pos hy]; omega
   ·rw[if_neg (show ¬x.pos<a+1 by omega),if_neg hy]; omega
theorem nextP_cnt {l:List Ey} (h:Rise l) (n p:Nat):nextP l n p=match l[cnt l ((p:Int)+1)]? with|some y=>if y.pos<n then y.pos.toNat else n|none=>n:=by
 unfold nextP; rw[find_ge h]
theorem entD_pos {b:List Ty} {loc p:Nat} {last:Int} (h:(entD b loc p last).2.2=0):last<(entD b loc p last).1.pos∧0≤(entD b loc p last).1.pos∧(entD b loc p last).1.pos<4096:=by
 have ha:afterE (word2 b p) last=0:=by
  unfold entD at h
  split at h; · exact absurd h (by simp)
  split at h
  ·rename_i h2; exact absurd h h2
  ·rename_i h2; exact Classical.not_not.1 h2
 have hp:(entD b loc p last).1.pos=word2 b p:=by
  unfold entD at h ⊢
  split; · rename_i h1; rw[if_pos h1] at h; exact absurd h (by simp)
  rename_i h1; rw[if_neg h1] at h
  split; · rename_i h2; rw[if_pos h2] at h; exact absurd h h2
  rename_i h2; rw[if_neg h2] at h
  split; · rename_i h3; rw[if_pos h3] at h; exact absurd h (by simp)
  rename_i h3; rw[if_neg h3] at h
  split; · rename_i h4; rw[if_pos h4] at h; exact absurd h (by simp)
  rename_i h4; rw[if_neg h4] at h
  split; · rfl
  rename_i h5; rw[if_neg h5] at h
  split; · rename_i h6; rw[if_pos h6] at h; exact absurd h (by simp)
  rename_i h6; rw[if_neg h6] at h
  split; · rename_i h7; rw[if_pos h7] at h; exact absurd h (by simp)
  rename_i h7; rw[if_neg h7] at h
  split; · rename_i h8; rw[if_pos h8] at h; exact absurd h h8
  rfl
 rw[hp]
 unfold afterE at ha
 split at ha; · cases ha
 split at ha; · cases ha
 split at ha; · cases ha
 omega
theorem decP_rise (b:List Ty) (loc:Nat):∀(n p:Nat) (last:Int),Rise (esOf (decP b loc n p last).1)∧(∀x∈esOf (decP b loc n p last).1,last<x.pos∧0≤x.pos∧x.pos<4096)∧(esOf (decP b loc n p last).1).length≤n
 |0,p,last=>by simp[decP,esOf,Rise]
 |n+1,p,last=>by
  rw[decP]
  split
  ·simp[esOf,Rise]
  ·rename_i h
   have h0:(entD b loc p last).2.2=0:=Classical.not_not.1 h
   obtain⟨h1,h2,h3⟩:=entD_pos h0
   obtain⟨i1,i2,i3⟩:=decP_rise b loc n (entD b loc p last).2.1 (entD b loc p last).1.pos
   refine⟨List.pairwise_cons.2 ⟨fun y hy=>(i2 y hy).1,i1⟩,fun x hx=> ?_,by simpa[esOf] using i3⟩
   simp only[esOf,List.map_cons,List.mem_cons] at hx
   rcases hx with rfl|hx
   ·exact⟨h1,h2,h3⟩
   ·have:=i2 x hx; omega
theorem decC_rise (b:List Ty):Rise (decC b).1.es∧(∀x∈(decC b).1.es,0≤x.pos∧x.pos<4096)∧(decC b).1.es.length≤4096∧(decC b).1.loc≤255:=by
 unfold decC
 split
 ·simp[ct0,Rise]
 ·rename_i h
  have h0:(toldD b).2.2=0:=Classical.not_not.1 h
  have hb:=bt_lt b 3
  unfold toldD at h0 ⊢
  split
  ·simp only[esOf,List.map_nil,List.not_mem_nil,false_implies,implies_true,List.length_nil,true_and]; exact⟨List.Pairwise.nil,by omega,by omega⟩
  rename_i h1
  obtain⟨_,_,hw⟩:=headD_zero (Classical.not_not.1 h1)
  obtain⟨i1,i2,i3⟩:=decP_rise b (bt b 3) (word2 b 4) 6 (-1)
  have i4:bt b 3≤255:=by omega
  have i5:(esOf (decP b (bt b 3) (word2 b 4) 6 (-1)).1).length≤4096:=by omega
  have i2':∀x∈esOf (decP b (bt b 3) (word2 b 4) 6 (-1)).1,0≤x.pos∧x.pos<4096:=fun x hx=>(i2 x hx).2
  split
  ·exact⟨i1,i2',i5,i4⟩
  split
  ·exact⟨i1,i2',i5,i4⟩
  ·exact⟨i1,i2',i5,i4⟩
end Go.AL
