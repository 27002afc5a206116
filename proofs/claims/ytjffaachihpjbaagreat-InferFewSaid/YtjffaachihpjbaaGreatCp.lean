import Derived.Test.YtjffaachihpjbaaGreatCo
import Derived.Test.YtjffaachihpjbaaGreatCn
import Derived.Test.YtjffaachihpjbaaGreatCe
import Derived.Test.YtjffaachihpjbaaGreatCm
import Derived.Test.YtjffaachihpjbaaGreatCl
import Derived.Test.YtjffaachihpjbaaGreatCi
import Derived.Test.YtjffaachihpjbaaGreatCj
import Derived.Test.YtjffaachihpjbaaGreatCk
set_option linter.unusedSimpArgs false
set_option linter.unusedVariables false
set_option maxRecDepth 100000
set_option maxHeartbeats 4000000
set_option linter.defProp false
namespace Go.AL
open Go.Proofs
theorem scanT_pass (b:List Ty):∀n q,(scanT b q n).2=0→q+n≤b.length∨n=0:=by
 intro n
 induction n with
 |zero=>intro q _; right; rfl
 |succ n ih=>
  intro q h
  rw[scanT] at h
  split at h
  ·exact absurd h (by simp)
  ·split at h
   ·have:=ih _ h; omega
   ·exact absurd h (by simp)
theorem wrapN {a:Int} {n:Nat} (h:a=n) (hn:n≤9223372036854775807):IntKind.wrap .i64 a=(n:Int):=by rw[h]; exact zb7 (by omega) (by omega)
theorem ey_zero:[D.int .i64 0,D.bool false,D.int .i64 0,D.int .i64 0,D.int .u8 0,D.int .u8 0,D.int .u8 0,D.int .u8 0,D.int .u8 0,D.int .u8 0,D.int .u8 0,D.int .u8 0,D.int .u8 0,D.int .u8 0,D.int .u8 0,D.int .u8 0,D.int .u8 0,D.int .u8 0,D.int .u8 0,D.int .u8 0,D.int .u8 0,D.int .u8 0,D.int .u8 0,D.int .u8 0,D.int .u8 0,D.int .u8 0,D.int .u8 0,D.int .u8 0]=eEy ey0:=rfl
theorem ey_dead (z:Int):[D.int .i64 z,D.bool true,D.int .i64 0,D.int .i64 0,D.int .u8 0,D.int .u8 0,D.int .u8 0,D.int .u8 0,D.int .u8 0,D.int .u8 0,D.int .u8 0,D.int .u8 0,D.int .u8 0,D.int .u8 0,D.int .u8 0,D.int .u8 0,D.int .u8 0,D.int .u8 0,D.int .u8 0,D.int .u8 0,D.int .u8 0,D.int .u8 0,D.int .u8 0,D.int .u8 0,D.int .u8 0,D.int .u8 0,D.int .u8 0,D.int .u8 0]=eEy ⟨z,true,fr0 0⟩:=rfl
theorem fr_new (y z:Int):[D.int .i64 y,D.int .i64 z,D.int .u8 0,D.int .u8 0,D.int .u8 0,D.int .u8 0,D.int .u8 0,D.int .u8 0,D.int .u8 0,D.int .u8 0,D.int .u8 0,D.int .u8 0,D.int .u8 0,D.int .u8 0,D.int .u8 0,D.int .u8 0,D.int .u8 0,D.int .u8 0,D.int .u8 0,D.int .u8 0,D.int .u8 0,D.int .u8 0,D.int .u8 0,D.int .u8 0,D.int .u8 0,D.int .u8 0]=eFr ⟨y,z,slOf []⟩:=by rw[slOf_nil]; rfl
def bXfbD0:=aI @zf4 (aI @ze8 (aI @eEy_drop (aI @za6 (aI @za5 (aI @ze6 (aI @anD (aI @za4 (aI @zb0 @ey_zero))))))))
def bXfbD1:=aI @zf4 (aI @ze8 (aI @eEy_drop (aI @za6 (aI @za5 (aI @ze6 (aI @anD (aI @za4 @zb0)))))))
def bXfbD2:=aI @zf4 (aI @ze8 (aI @eEy_drop (aI @za6 (aI @za5 (aI @ze6 (aI @anD (aI @za4 (aI @zb0 @eT_len))))))))
theorem one117 (b:List Ty) (o:Own) (loc p:Nat) (last:Int) (hl:b.length≤140737488355328) (hp:p≤b.length) (hloc:loc≤16):
  PCall Tryz.prog 75 [.slice o (rws eT b),.int .i64 loc,.int .i64 p,.int .i64 last] (.tup [.agg (eEy (entD b loc p last).1),.int .i64 (entD b loc p last).2.1,.int .i64 (entD b loc p last).2.2]):=by
 have v1:IntKind.wrap .i64 ((p:Int)+1)=((p+1:Nat):Int):=wrapN (by simp) (by omega)
 have v2:IntKind.wrap .i64 ((p:Int)+2)=((p+2:Nat):Int):=wrapN (by simp) (by omega)
 have v3:IntKind.wrap .i64 ((p:Int)+3)=((p+3:Nat):Int):=wrapN (by simp) (by omega)
 have v4:IntKind.wrap .i64 ((p:Int)+4)=((p+4:Nat):Int):=wrapN (by simp) (by omega)
 refine F75.pcall' rfl fun T hT=> ?_
 simp -implicitDefEqProofs only[go_sem,c75,hT,bXfbD0]
 intro b8 b11 n1 n2
 by_cases h1:b.length<p+2
 ·have q1:((b.length:Int)≤(p+1:Nat))=True:=by simp; omega
  rw[entD,if_pos h1]
  simp -implicitDefEqProofs only[go_sem,hT,v1,q1,n1,n2,bXfbD0]
  exact DLe.refl _
 have q1:((b.length:Int)≤(p+1:Nat))=False:=by simp; omega
 have hb0:=bt_lt b p
 have hb1:=bt_lt b (p+1)
 have u0:IntKind.wrap .i64 (bt b p:Int)=bt b p:=zb7 (by omega) (by omega)
 have u1:IntKind.wrap .i64 (bt b (p+1):Int)=bt b (p+1):=zb7 (by omega) (by omega)
 have um:IntKind.wrap .i64 (256*(bt b p:Int))=256*(bt b p:Int):=zb7 (by omega) (by omega)
 have ua:IntKind.wrap .i64 (256*(bt b p:Int)+bt b (p+1))=(word2 b p:Nat):=by rw[zb7 (by omega) (by omega),word2]; simp
 have hR0:=bt_at (b:=b) (i:=p) (by omega)
 have hR1:=bt_at (b:=b) (i:=p+1) (by omega)
 have hw2:word2 b p<65536:=by rw[word2]; omega
 simp -implicitDefEqProofs only[go_sem,hT,v1,q1,n1,n2,hR0,hR1,u0,u1,um,ua,bXfbD1]
 refine⟨by omega,by omega,za3 (after108 last (word2 b p)) ?_⟩
 obtain⟨ae,hae⟩:∃ae,afterE (word2 b p) last=ae:=⟨_,rfl⟩
 obtain⟨z,hz⟩:∃z,word2 b p=z:=⟨_,rfl⟩
 have hd:entD b loc p last=if ae≠0 then(ey0,p,ae)
   else if b.length=p+2 then(ey0,p+2,2)
   else if 1<bt b (p+2) then(ey0,p+2,63)
   else if bt b (p+2)=0 then(⟨z,true,fr0 0⟩,p+3,0)
   else if b.length=p+3 then(ey0,p+3,2)
   else if 24<loc+bt b (p+3) then(ey0,p+3,65)
   else if(scanT b (p+4) (loc+bt b (p+3))).2≠0 then(ey0,scanT b (p+4) (loc+bt b (p+3)))
   else(⟨z,false,⟨loc,bt b (p+3),slOf ((b.drop (p+4)).take (loc+bt b (p+3)))⟩⟩,p+4+(loc+bt b (p+3)),0):=by
  rw[entD,if_neg h1,hae,hz]
 rw[hd,hae,hz]
 clear hd hae
 rw[hz] at ua hw2
 clear hz
 by_cases h2:ae=0
 case neg=>
  have q2:((ae:Int)=0)=False:=by simp; omega
  rw[if_pos h2]
  simp -implicitDefEqProofs only[go_sem,hT,n1,n2,q2,bXfbD0]
 have q2:((ae:Int)=0)=True:=by simp; omega
 rw[if_neg (by simp[h2])]
 by_cases h3:b.length=p+2
 ·have q3:((b.length:Int)≤(p+2:Nat))=True:=by simp; omega
  rw[if_pos h3]
  simp -implicitDefEqProofs only[go_sem,hT,n1,n2,v2,q2,q3,bXfbD0]
  rw[h3]
  exact DLe.refl _
 have q3:((b.length:Int)≤(p+2:Nat))=False:=by simp; omega
 have hR2:=bt_at (b:=b) (i:=p+2) (by omega)
 have hb2:=bt_lt b (p+2)
 rw[if_neg h3]
 by_cases h4:1<bt b (p+2)
 ·have q4:((1:Int)<bt b (p+2))=True:=by simp; omega
  rw[if_pos h4]
  simp -implicitDefEqProofs only[go_sem,hT,n1,n2,v2,q2,q3,q4,hR2,bXfbD0]
  exact⟨by omega,DLe.refl _⟩
 have q4:((1:Int)<bt b (p+2))=False:=by simp; omega
 rw[if_neg h4]
 by_cases h5:bt b (p+2)=0
 ·have q5:((bt b (p+2):Int)=0)=True:=by simp; omega
  rw[if_pos h5]
  simp -implicitDefEqProofs only[go_sem,hT,zf4,ze8,eEy_drop,za6,za5,ze6,anD,za4,zb0,n1,n2,v2,v3,q2,q3,q4,q5,hR2,ey_dead]
  exact⟨by omega,by omega,DLe.refl _⟩
 have q5:((bt b (p+2):Int)=0)=False:=by simp; omega
 rw[if_neg h5]
 by_cases h6:b.length=p+3
 ·have q6:((b.length:Int)≤(p+3:Nat))=True:=by simp; omega
  rw[if_pos h6]
  simp -implicitDefEqProofs only[go_sem,hT,n1,n2,v2,v3,q2,q3,q4,q5,q6,hR2,bXfbD0]
  rw[h6]
  exact⟨by omega,by omega,DLe.refl _⟩
 have q6:((b.length:Int)≤(p+3:Nat))=False:=by simp; omega
 have hR3:=bt_at (b:=b) (i:=p+3) (by omega)
 have hb3:=bt_lt b (p+3)
 rw[if_neg h6]
 obtain⟨dp,hdp⟩:∃dp,bt b (p+3)=dp:=⟨_,rfl⟩
 rw[hdp] at hR3 hb3 ⊢
 clear hdp
 have u3:IntKind.wrap .i64 (dp:Int)=dp:=zb7 (by omega) (by omega)
 have uL:IntKind.wrap .i64 ((24:Int)-loc)=((24-loc:Nat):Int):=wrapN (by omega) (by omega)
 by_cases h7:24<loc+dp
 ·have q7:(((24-loc:Nat):Int)<dp)=True:=by simp; omega
  rw[if_pos h7]
  simp -implicitDefEqProofs only[go_sem,hT,n1,n2,v2,v3,q2,q3,q4,q5,q6,hR2,hR3,u3,uL,q7,bXfbD0]
  exact⟨by omega,by omega,by omega,DLe.refl _⟩
 have q7:(((24-loc:Nat):Int)<dp)=False:=by simp; omega
 rw[if_neg h7]
 simp -implicitDefEqProofs only[go_sem,hT,n1,n2,v2,v3,q2,q3,q4,q5,q6,hR2,hR3,u3,uL,q7,bXfbD1]
 refine⟨by omega,by omega,by omega,fun b15 m1 m2 m3 m4=> ?_⟩
 obtain⟨n,hn⟩:∃n,loc+dp=n:=⟨_,rfl⟩
 have hn24:n≤24:=by omega
 rw[hn]
 have uN:IntKind.wrap .i64 ((loc:Int)+dp)=(n:Int):=wrapN (by omega) (by omega)
 simp -implicitDefEqProofs only[go_sem,hT,zf4,ze8,eEy_drop,za6,za5,ze6,anD,za4,zb0,n1,n2,m1,m2,m3,m4,fr_new]
 refine loopL F75 (fun i:Nat=>[(0,.slice o (rws eT b)),(1,.int .i64 loc),(2,.int .i64 p),(8,.ptr b8 0),(11,.ptr b11 0),(12,.int .i64 z),(14,.int .i64 dp),(15,.ptr b15 0),(16,.int .i64 i)]) (fun i=>((({}:St).set b8 (eEy ey0)).set b11 (eEy ey0)).set b15 (eFr ⟨loc,dp,slOf ((b.drop (p+4)).take i)⟩)) (fun i=>i≤n∧scanT b (p+4) n=scanT b (p+4+i) (n-i)) (fun i=>n-i) 0 ⟨by omega,rfl⟩ ?_ (St.le.refl _) ?_
 ·simp -implicitDefEqProofs only[go_sem,hT,Int.ofNat_zero]
 clear hT T
 rintro i ⟨hi,hsc⟩ T hT
 by_cases h:i<n
 ·have p1:((i:Int)<n)=True:=by simp; omega
  have w4:IntKind.wrap .i64 ((i:Int)+1)=((i+1:Nat):Int):=wrapN (by simp) (by omega)
  have wp:IntKind.wrap .i64 (((p+4:Nat):Int)+i)=((p+4+i:Nat):Int):=wrapN (by simp) (by omega)
  have hsn:n-i=(n-(i+1))+1:=by omega
  rw[hsn,scanT] at hsc
  by_cases h8:b.length≤p+4+i
  ·have q8:((b.length:Int)≤(p+4+i:Nat))=True:=by simp; omega
   rw[if_pos h8] at hsc
   rw[hsc,if_pos (by simp)]
   simp -implicitDefEqProofs only[go_sem,hT,n1,n2,m1,m2,m3,m4,v4,uN,p1,wp,q8,bXfbD1]
   exact DLe.refl _
  have q8:((b.length:Int)≤(p+4+i:Nat))=False:=by simp; omega
  rw[if_neg h8] at hsc
  have hR4:=rws_at (enc:=eT) (xs:=b) (i:=p+4+i) (by omega)
  have hg:(b[p+4+i]?).getD 0=b[p+4+i]:=by rw[List.getElem?_eq_getElem (by omega)]; rfl
  rw[hg] at hsc
  simp -implicitDefEqProofs only[go_sem,hT,n1,n2,m1,m2,m3,m4,v4,uN,p1,wp,q8,hR4,eT,bXfbD2]
  refine⟨by omega,za3 (isCode149 _) ?_⟩
  have hset:=slOf_set (ts:=b.drop (p+4)) (i:=i) (by rw[List.length_drop]; omega) (by omega)
  have hdg:(b.drop (p+4))[i]'(by rw[List.length_drop]; omega)=b[p+4+i]:=by simp
  rw[hdg] at hset
  generalize b[p+4+i]=x at *
  by_cases h9:knownT x=true
  ·rw[if_pos h9] at hsc
   simp -implicitDefEqProofs only[go_sem,hT,n1,n2,m1,m2,m3,m4,v4,uN,p1,wp,q8,hR4,eT,h9,bXfbD2]
   rw[Nat.mul_one,fr_set (by omega)]
   dsimp only
   rw[hset]
   refine⟨by omega,by omega,by omega,i+1,⟨by omega, ?_⟩,by omega,by rw[w4],St.le.refl _⟩
   rw[hsc]; rfl
  ·have h9:knownT x=false:=by simpa using h9
   rw[if_neg (by simp[h9])] at hsc
   rw[hsc,if_pos (by simp)]
   simp -implicitDefEqProofs only[go_sem,hT,n1,n2,m1,m2,m3,m4,v4,uN,p1,wp,q8,hR4,eT,h9,bXfbD2]
   exact DLe.refl _
 ·have p1:((i:Int)<n)=False:=by simp; omega
  have hin:i=n:=by omega
  subst hin
  rw[Nat.sub_self,scanT] at hsc
  rw[hsc,if_neg (by simp)]
  have e1:IntKind.wrap .i64 (((p+4:Nat):Int)+loc)=((p+4+loc:Nat):Int):=wrapN (by simp) (by omega)
  have e2:IntKind.wrap .i64 (((p+4+loc:Nat):Int)+dp)=((p+4+i:Nat):Int):=wrapN (by omega) (by omega)
  simp -implicitDefEqProofs only[go_sem,hT,n1,n2,m1,m2,m3,m4,v4,uN,p1,e1,e2,bXfbD1]
  exact DLe.refl _
open Go.Proofs
theorem grS_comm {s n s' n':Nat} {o o':Option Nat} {σ:St} (h:∀b,o=some b→o'≠some b):grS s n o (grS s' n' o' σ)=grS s' n' o' (grS s n o σ):=by
 cases o with
 |none=>rfl
 |some b=>
  cases o' with
  |none=>rfl
  |some b'=>
   have hne:b'≠b:=fun e=>h b rfl (by rw[e])
   simp only[grS,St.setBuf]
   congr 1
   funext x
   by_cases h1:x=b
   ·subst h1; simp[Ne.symm hne]
   ·by_cases h2:x=b'
    ·subst h2; simp[h1]
    ·simp[h1,h2]
theorem grN_ne {s n:Nat} {o o':Option Nat} {σ:St} (h:grN o (grS s n o' σ)):∀b,o=some b→o'≠some b:=fun b hb he=>h b hb (by rw[grS_has]; exact .inl he)
theorem entD_place {b:List Ty} {loc p:Nat} {last:Int} (h:(entD b loc p last).2.2=0):p<(entD b loc p last).2.1∧(entD b loc p last).2.1≤b.length:=by
 unfold entD at h ⊢
 split; · rename_i h1; rw[if_pos h1] at h; exact absurd h (by simp)
 rename_i h1; rw[if_neg h1] at h
 split; · rename_i h2; rw[if_pos h2] at h; exact absurd h (by simpa using h2)
 rename_i h2; rw[if_neg h2] at h
 split; · rename_i h3; rw[if_pos h3] at h; exact absurd h (by simp)
 rename_i h3; rw[if_neg h3] at h
 split; · rename_i h4; rw[if_pos h4] at h; exact absurd h (by simp)
 rename_i h4; rw[if_neg h4] at h
 split; · rename_i h5; simp only; omega
 rename_i h5; rw[if_neg h5] at h
 split; · rename_i h6; rw[if_pos h6] at h; exact absurd h (by simp)
 rename_i h6; rw[if_neg h6] at h
 split; · rename_i h7; rw[if_pos h7] at h; exact absurd h (by simp)
 rename_i h7; rw[if_neg h7] at h
 split; · rename_i h8; rw[if_pos h8] at h; exact absurd h (by simpa using h8)
 rename_i h8
 have:=scanT_pass b (loc+bt b (p+3)) (p+4) (by simpa using h8)
 simp only
 omega
theorem headD_zero {b:List Ty} (h:(headD b).2=0):6≤b.length∧bt b 3≤16∧word2 b 4≤4096:=by
 unfold headD at h
 split at h; · exact absurd h (by simp)
 split at h; · exact absurd h (by simp)
 split at h; · exact absurd h (by simp)
 split at h; · exact absurd h (by simp)
 split at h; · exact absurd h (by simp)
 split at h; · exact absurd h (by simp)
 split at h; · exact absurd h (by simp)
 omega
theorem eEy_frz (e:Ey):(eEy e).map frz=eEy e:=by simp[eEy,eFr,frz]
def bXfbE0:=aI @zf4 (aI @ze8 (aI @eEy_drop (aI @anD (aI @za4 @zb0))))
theorem told72 (b:List Ty) (o:Own) (hl:b.length≤140737488355328):
  PCall Tryz.prog 50 [.slice o (rws eT b)] (.tup [.slice .no (rws eEy (esOf (toldD b).1)),.slice .no (rws eI (endsOf (toldD b).1)),.int .i64 (toldD b).2.1,.int .i64 (toldD b).2.2]):=by
 refine F50.pcall' rfl fun T hT=> ?_
 simp -implicitDefEqProofs only[go_sem,c50,hT,bXfbE0]
 refine za3 (refHead116 b o hl) ?_
 by_cases h0:(headD b).2=0
 case neg=>
  have q0:(((headD b).2:Int)=0)=False:=by simp; omega
  rw[toldD,if_pos h0]
  simp -implicitDefEqProofs only[go_sem,hT,q0,bXfbE0]
  exact DLe.tup (.cons (DLe.slice _ _) (.cons (DLe.slice _ _) (.cons (.refl _) (.cons (.refl _) .nil))))
 have q0:(((headD b).2:Int)=0)=True:=by simp; omega
 have hr:headR b=(bt b 3,word2 b 4):=by rw[headR,if_pos h0]
 have hd:toldD b=if(decP b (bt b 3) (word2 b 4) 6 (-1)).2.2≠0 then decP b (bt b 3) (word2 b 4) 6 (-1)
   else if(decP b (bt b 3) (word2 b 4) 6 (-1)).2.1<b.length then((decP b (bt b 3) (word2 b 4) 6 (-1)).1,(decP b (bt b 3) (word2 b 4) 6 (-1)).2.1,3)
   else((decP b (bt b 3) (word2 b 4) 6 (-1)).1,0,0):=by rw[toldD,if_neg (by simp[h0])]
 obtain⟨hb6,hloc,hcnt⟩:=headD_zero h0
 rw[hd,hr]
 clear hd hr
 simp -implicitDefEqProofs only[go_sem,hT,q0,bXfbE0]
 generalize bt b 3=loc at *
 generalize word2 b 4=cnt at *
 obtain⟨R,hR⟩:∃R,decP b loc cnt 6 (-1)=R:=⟨_,rfl⟩
 rw[hR]
 refine loopL F50 (fun x:List (Ey×Nat)×Nat×Int×Option Nat×Option Nat=>[(0,.slice o (rws eT b)),(6,.int .i64 loc),(7,.int .i64 cnt),(8,.int .i64 x.2.1),(10,grD 28 x.2.2.2.1 (rws eEy (esOf x.1))),(11,grD 1 x.2.2.2.2 (rws eI (endsOf x.1))),(12,.int .i64 x.2.2.1),(13,.int .i64 x.1.length)])
  (fun x=>grS 28 x.1.length x.2.2.2.1 (grS 1 x.1.length x.2.2.2.2 {}))
  (fun x=>x.1.length≤cnt∧x.2.1≤b.length∧R=(x.1++(decP b loc (cnt-x.1.length) x.2.1 x.2.2.1).1,(decP b loc (cnt-x.1.length) x.2.1 x.2.2.1).2)∧(x.2.2.2.1=none→x.1.length=0)∧(x.2.2.2.2=none→x.1.length=0)∧grN x.2.2.2.1 (grS 1 x.1.length x.2.2.2.2 {}))
  (fun x=>cnt-x.1.length) ([],6,-1,none,none) ⟨by simp,hb6,by simp[←hR],fun _=>rfl,fun _=>rfl,grN_none⟩ ?_ (St.le.refl _) ?_
 ·simp -implicitDefEqProofs only[go_sem,hT,Int.ofNat_zero]
  exact⟨rfl,rfl,rfl⟩
 clear hT T
 rintro⟨L,p,last,o1,o2⟩ ⟨hL,hp,hRx,hn1,hn2,hg⟩ T hT
 simp only at hL hp hRx hn1 hn2 hg hT ⊢
 by_cases h:L.length<cnt
 ·have p1:((L.length:Int)<cnt)=True:=by simp; omega
  simp -implicitDefEqProofs only[go_sem,hT,p1,bXfbE0]
  refine za3 (one117 b o loc p last hl hp hloc) ?_
  have hsn:cnt-L.length=(cnt-(L.length+1))+1:=by omega
  rw[hsn,decP] at hRx
  have hpl:=entD_place (b:=b) (loc:=loc) (p:=p) (last:=last)
  generalize entD b loc p last=e at *
  obtain⟨e,q,err⟩:=e
  simp only at hRx hpl ⊢
  by_cases h8:err=0
  case neg=>
   have q8:((err:Int)=0)=False:=by simp; omega
   rw[if_pos h8] at hRx
   rw[hRx,if_pos h8,List.append_nil]
   simp -implicitDefEqProofs only[go_sem,hT,bXfbE0]
   intro b14 hb14
   simp -implicitDefEqProofs only[go_sem,hT,zf4,ze8,eEy_drop,anD,za4,zb0,q8,ey_zero]
   exact DLe.tup (.cons grD_le (.cons grD_le (.cons (.refl _) (.cons (.refl _) .nil))))
  rw[if_neg (by simp[h8])] at hRx
  have q8:((err:Int)=0)=True:=by simp; omega
  obtain⟨hpq,hqb⟩:=hpl h8
  simp -implicitDefEqProofs only[go_sem,hT,bXfbE0]
  intro b14 hb14
  simp -implicitDefEqProofs only[go_sem,hT,zf4,ze8,eEy_drop,anD,za4,zb0,q8,grS_set,ey_0]
  obtain⟨σ0,hσ0⟩:∃σ0,(({}:St).set b14 (eEy e))=σ0:=⟨_,rfl⟩
  have h14:∀x,σ0.has x→x=b14:=fun x hx=>by rw[←hσ0,has_set,has_nil] at hx; simp at hx; omega
  have h14b:σ0.box b14=some (eEy e):=by rw[←hσ0,St.set_box]; simp
  rw[hσ0]
  have ho1:o1≠some b14:=fun he=>hb14 (by rw[grS_has]; exact .inl he)
  have ho2:o2≠some b14:=fun he=>hb14 (by rw[grS_has]; right; rw[grS_has]; exact .inl he)
  have hgA:grN o1 (grS 1 L.length o2 σ0):=fun x hx hin=>by
   rw[grS_has] at hin
   rcases hin with hin|hin
   ·exact hg x hx (by rw[grS_has]; exact .inl hin)
   ·exact ho1 (h14 x hin▸hx)
  refine app_gr' Tryz.sli30 Tryz.sz40 Tryz.by40 Tryz.zero40 rfl (n:=L.length) (m:=1) (base:=grS 1 L.length o2 σ0) (by simp[rws,esOf]) rfl (St.le.refl _) hgA hn1 (by simp[zf4]) (by omega) fun o1' σ1 hbox1 hle1 hg1 hno1=> ?_
  simp -implicitDefEqProofs only[go_sem,hT,q8,bXfbE0]
  have hc:∀x,o2=some x→o1'≠some x:=fun x hx he=>grN_ne hg1 x he hx
  refine app_gr' Tryz.sli57 Tryz.sz3 Tryz.by3 Tryz.zero3 rfl (n:=L.length) (m:=1) (base:=grS 28 (L.length+1) o1' σ0) (by simp[rws,endsOf]) rfl (by rw[grS_comm hc]; exact hle1) (fun x hx hin=> ?_) hn2 (by simp) (by omega) fun o2' σ2 hbox2 hle2 hg2 hno2=> ?_
  ·rw[grS_has] at hin
   rcases hin with hin|hin
   ·exact hc x hx hin
   ·exact ho2 (h14 x hin▸hx)
  have hbx:σ2.box b14=some (eEy e):=by rw[hbox2,hbox1,grS_boxa,grS_boxa,h14b]
  simp -implicitDefEqProofs only[go_sem,hT,zf4,ze8,eEy_drop,anD,za4,zb0,q8,hbx,ey_0]
  have hc2:∀x,o1'=some x→o2'≠some x:=fun x hx he=>grN_ne hg2 x he hx
  have w4:IntKind.wrap .i64 ((L.length:Int)+1)=((L.length+1:Nat):Int):=wrapN (by simp) (by omega)
  refine⟨(L++[(e,q)],q,e.pos,o1',o2'),⟨by simp; omega,hqb, ?_,fun h=>by simpa using hno1 h,fun h=>by simpa using hno2 h, ?_⟩,by simp; omega, ?_, ?_⟩
  ·simp[hRx]
  ·exact fun x hx hin=>by
    rw[grS_has] at hin
    rcases hin with hin|hin
    ·exact hc2 x hx hin
    ·exact St.not_has_nil x hin
  ·rw[w4]
   simp[esOf,endsOf,rws,eI,eEy_frz,ze8,frz]
  ·rw[grS_comm hc2]
   refine(le_grS (le_grS (St.le.nil σ0))).trans ?_
   simpa using hle2
 ·have p1:((L.length:Int)<cnt)=False:=by simp; omega
  have hz:cnt-L.length=0:=by omega
  rw[hz,decP] at hRx
  rw[hRx,if_neg (by simp),List.append_nil]
  by_cases h9:p<b.length
  ·have q9:((p:Int)<b.length)=True:=by simp; omega
   rw[if_pos h9]
   simp -implicitDefEqProofs only[go_sem,hT,p1,q9,bXfbE0]
   exact DLe.tup (.cons grD_le (.cons grD_le (.cons (.refl _) (.cons (.refl _) .nil))))
  ·have q9:((p:Int)<b.length)=False:=by simp; omega
   rw[if_neg h9]
   simp -implicitDefEqProofs only[go_sem,hT,p1,q9,bXfbE0]
   exact DLe.tup (.cons grD_le (.cons grD_le (.cons (.refl _) (.cons (.refl _) .nil))))
theorem eCt_len (c:Ct):(eCt c).length=2:=rfl
theorem eCt_nil:DLes [D.int .i64 0,D.slice .nil []] (eCt ct0):= .cons (.refl _) (.cons (DLe.slice _ _) .nil)
theorem refDecode31 (b:List Ty) (o:Own) (hl:b.length≤140737488355328):
  PCall Tryz.prog 22 [.slice o (rws eT b)] (.tup [.agg (eCt (decC b).1),.int .i64 (decC b).2.1,.int .i64 (decC b).2.2]):=by
 refine F22.pcall' rfl fun T hT=> ?_
 simp -implicitDefEqProofs only[go_sem,c22,hT,eCt_len,anD,za4,zb0]
 intro b2
 refine za3 (told72 b o hl) ?_
 by_cases h0:(toldD b).2.2=0
 case neg=>
  have q0:(((toldD b).2.2:Int)=0)=False:=by simp; omega
  rw[decC,if_pos h0]
  simp -implicitDefEqProofs only[go_sem,hT,eCt_len,anD,za4,zb0,q0]
  exact DLe.tup (.cons (DLe.agg eCt_nil) (.cons (.refl _) (.cons (.refl _) .nil)))
 have q0:(((toldD b).2.2:Int)=0)=True:=by simp; omega
 have hh:(headD b).2=0:=by
  rw[toldD] at h0
  split at h0
  ·rename_i h; exact absurd h0 h
  ·rename_i h; simpa using h
 obtain⟨hb6,hloc,hcnt⟩:=headD_zero hh
 have hR3:=bt_at (b:=b) (i:=3) (by omega)
 have u3:IntKind.wrap .i64 (bt b 3:Int)=bt b 3:=zb7 (by omega) (by omega)
 rw[decC,if_neg (by simp[h0])]
 simp -implicitDefEqProofs only[go_sem,hT,eCt_len,anD,za4,zb0,q0,hR3,u3]
 exact⟨by omega,DLe.refl _⟩
open Go.Proofs
theorem nilc_p {r o:Nat}:nilcD (.ptr r o)=some (.ptr r o):=rfl
theorem ey_3 (e:Ey):(eEy e)[3]? =some (.int .i64 e.fr.h):=rfl
open Go.Proofs
open Go.Proofs
end Go.AL
namespace Go.AL
def psOf (e:En):List Ty:=((e.sgs[e.fn.toNat]?).map (·.ps)).getD []
def Rise (l:List Ey):Prop:=l.Pairwise fun x y=>x.pos<y.pos
theorem rise_cons {x:Ey} {r:List Ey} (h:Rise (x::r)):(∀y∈r,x.pos<y.pos)∧Rise r:=List.pairwise_cons.1 h
end Go.AL
namespace Go.AL
theorem decF_ok {b:List Ty} {p:Nat} (h:(decF b p).2=0):p<b.length∧(decF b p).1=decIn b p ((b[p]?).getD 0)∧1≤ze7 (decF b p).1.op.val∧p+ze7 (decF b p).1.op.val≤b.length:=by
 unfold decF at h ⊢
 split; · rename_i h1; rw[if_pos h1] at h; simp at h
 rename_i h1; rw[if_neg h1] at h
 split; · rename_i h2; rw[if_pos h2] at h; simp at h
 rename_i h2; rw[if_neg h2] at h
 split; · rename_i h3; rw[if_pos h3] at h; simp at h
 rename_i h3; rw[if_neg h3] at h
 split; · rename_i h4; rw[if_pos h4] at h; simp at h
 rename_i h4; rw[if_neg h4] at h
 split; · rename_i h5; rw[if_pos h5] at h; simp at h
 refine⟨by omega,rfl, ?_, ?_⟩
 ·show 1≤ze7 ((b[p]?).getD 0).val; omega
 ·show p+ze7 ((b[p]?).getD 0).val≤b.length; omega
open Go.Proofs
structure IS where
 has:List Bool
 fr:List Fr
 fresh:List Bool
 tk:List Nat
def onD (i:Ins) (n:Nat):List Int×Nat:=
 let behind:Int:=i.pos+ze7 i.op.val
 if jumpsB i.op.val=true∧(n:Int)≤i.a then([],50)
 else if endsB i.op.val=false∧behind=n then([],51)
 else((if jumpsB i.op.val=true∧(endsB i.op.val=true∨i.a<behind) then [i.a] else [])++(if endsB i.op.val=false then [behind] else [])++
  (if jumpsB i.op.val=true∧endsB i.op.val=false∧behind<i.a then [i.a] else []),0)
def overB (tk:List Nat) (a size:Nat):Bool:=(List.range tk.length).any fun x=>decide (0<(tk[x]?).getD 0∧x≠a∧a<x+(tk[x]?).getD 0∧x<a+size)
def handD (l:List Cl) (s:IS) (a:Nat) (f:Fr):IS×Nat:=
 if(s.has[a]?).getD false=false then(⟨s.has.set a true,s.fr.set a f,s.fresh.set a true,s.tk⟩,0)
 else if(mergeF l ((s.fr[a]?).getD (fr0 0)) f).2≠0 then(s,(mergeF l ((s.fr[a]?).getD (fr0 0)) f).2)
 else if(mergeF l ((s.fr[a]?).getD (fr0 0)) f).1≠(s.fr[a]?).getD (fr0 0) then(⟨s.has,s.fr.set a (mergeF l ((s.fr[a]?).getD (fr0 0)) f).1,s.fresh.set a true,s.tk⟩,0)
 else(s,0)
def handsD (l:List Cl) (f:Fr):List Int→IS→IS×Int×Nat
 |[],s=>(s,0,0)
 |a::r,s=>if(handD l s a.toNat f).2≠0 then((handD l s a.toNat f).1,a,(handD l s a.toNat f).2) else handsD l f r (handD l s a.toNat f).1
def roundD (e:En) (b:List Ty) (s:IS) (a:Nat):IS×Int×Nat:=
 let s1:IS:={s with fresh:=s.fresh.set a false}
 if a=b.length then(s1,a,51)
 else if(decF b a).2≠0 then(s1,a,(decF b a).2)
 else if overB s.tk a (ze7 (decF b a).1.op.val)=true then(s1,a,80)
 else
  let s2:IS:={s1 with tk:=s.tk.set a (ze7 (decF b a).1.op.val)}
  if(applyR e ((s.fr[a]?).getD (fr0 0)) (decF b a).1).2≠0 then(s2,a,(applyR e ((s.fr[a]?).getD (fr0 0)) (decF b a).1).2)
  else if(onD (decF b a).1 b.length).2≠0 then(s2,a,(onD (decF b a).1 b.length).2)
  else handsD e.cs (applyR e ((s.fr[a]?).getD (fr0 0)) (decF b a).1).1 (onD (decF b a).1 b.length).1 s2
def leastD (l:List Bool):Int:=match l.findIdx? id with|some i=>i|none=> -1
open Go.Proofs
def c52:CT (Tryz.f52.body.getD .skip):=⟨_,by conv=>lhs; cbv⟩
theorem F52:Fun1 Tryz.prog 52 17 c52.1 [.tmp 2]:=mkT Tryz.func52 rfl (by decide +kernel) Tryz.ntmps52 rfl c52.2 rfl
def c53:CT (Tryz.f53.body.getD .skip):=⟨_,by conv=>lhs; cbv⟩
theorem F53:Fun1 Tryz.prog 53 97 c53.1 [.tmp 8,.tmp 9]:=mkT Tryz.func53 rfl (by decide +kernel) Tryz.ntmps53 rfl c53.2 rfl
def c78:CT (Tryz.f78.body.getD .skip):=⟨_,by conv=>lhs; cbv⟩
theorem F78:Fun1 Tryz.prog 78 44 c78.1 [.tmp 6]:=mkT Tryz.func78 rfl (by decide +kernel) Tryz.ntmps78 rfl c78.2 rfl
def c79:CT (Tryz.f79.body.getD .skip):=⟨_,by conv=>lhs; cbv⟩
theorem F79:Fun1 Tryz.prog 79 73 c79.1 [.tmp 4,.tmp 5]:=mkT Tryz.func79 rfl (by decide +kernel) Tryz.ntmps79 rfl c79.2 rfl
def c80:AC:=
.seq (rg [oO 4 (.box 111 (tT 0)),oO 7 (.box 38 (tT 3)),oO 8 (.assign (kI 0))])
 (.seq (.seq (rg [oO 11 (.fieldAddr 111 (tT 4) 0),oO 12 (.load 99 (tT 11)),oO 13 (.move (tT 2)),oO 14 (.indexAddr 99 (tT 12) (tT 13)),oO 15 (.load 4 (tT 14)),oO 16 (.unOp .not 4 (tT 15))])
 (.cond (tT 16) (.seq (.seq (.reg true [4,7] [⟨⟨some 17,.fieldAddr 111 (tT 4) 0,none⟩,false,true⟩,⟨⟨some 18,.load 99 (tT 17),none⟩,false,true⟩,⟨⟨some 19,.move (tT 2),none⟩,false,true⟩,⟨⟨some 20,.fieldAddr 111 (tT 4) 1,none⟩,true,true⟩,⟨⟨some 21,.load 109 (tT 20),none⟩,true,true⟩,⟨⟨some 22,.move (tT 2),none⟩,true,true⟩,⟨⟨some 23,.fieldAddr 111 (tT 4) 2,none⟩,true,true⟩,⟨⟨some 24,.load 99 (tT 23),none⟩,true,true⟩,⟨⟨some 25,.move (tT 2),none⟩,true,true⟩,⟨⟨some 26,.load 38 (tT 7),none⟩,true,true⟩,oO 27 (.indexAddr 99 (tT 18) (tT 19)),oN (.store 4 (tT 27) (.const (.bool true))),oO 28 (.indexAddr 109 (tT 21) (tT 22)),oN (.store 38 (tT 28) (tT 26))])
 (rg [oO 29 (.indexAddr 99 (tT 24) (tT 25)),oN (.store 4 (tT 29) (.const (.bool true)))]))
 (.seq (rg [oO 8 (.assign (kI 0))])
 (.ret)))
 (.skip)))
 (.seq (.reg true [] [⟨⟨some 31,.move (tT 1),none⟩,false,true⟩,⟨⟨some 32,.fieldAddr 111 (tT 4) 1,none⟩,false,true⟩,⟨⟨some 33,.load 109 (tT 32),none⟩,false,true⟩,⟨⟨some 34,.move (tT 2),none⟩,false,true⟩,⟨⟨some 35,.indexAddr 109 (tT 33) (tT 34),none⟩,false,true⟩,⟨⟨some 36,.load 38 (tT 35),none⟩,false,true⟩,⟨⟨some 37,.load 38 (tT 7),none⟩,false,true⟩,⟨⟨some 38,cF (.func 107) #[tT 31,tT 36,tT 37] #[22,38,38],none⟩,false,true⟩,⟨⟨some 30,.move (tT 38),none⟩,false,true⟩,⟨⟨some 39,.extract (tT 30) 0,none⟩,false,true⟩,⟨⟨some 40,.extract (tT 30) 1,none⟩,true,true⟩,⟨⟨some 9,.alloc 38,none⟩,true,false⟩,oN (.store 38 (tT 9) (tT 39)),oO 10 (.assign (tT 40))])
 (.seq (.seq (rg [oO 41 (.move (tT 10)),oO 42 (.binOp .neq 31 (tT 41) (kI 0) 31)])
 (.cond (tT 42) (.seq (rg [oO 43 (.move (tT 10)),oO 8 (.assign (tT 43))])
 (.ret))
 (.skip)))
 (.seq (.seq (.reg true [] [⟨⟨some 44,.load 38 (tT 9),none⟩,false,true⟩,⟨⟨some 45,.fieldAddr 111 (tT 4) 1,none⟩,false,true⟩,⟨⟨some 46,.load 109 (tT 45),none⟩,false,true⟩,oO 47 (.move (tT 2)),oO 48 (.indexAddr 109 (tT 46) (tT 47)),oO 49 (.load 38 (tT 48)),oO 50 (.binOp .neq 38 (tT 44) (tT 49) 38)])
 (.cond (tT 50) (.seq (.reg true [4] [⟨⟨some 51,.fieldAddr 111 (tT 4) 1,none⟩,false,true⟩,⟨⟨some 52,.load 109 (tT 51),none⟩,false,true⟩,⟨⟨some 53,.move (tT 2),none⟩,false,true⟩,⟨⟨some 54,.fieldAddr 111 (tT 4) 2,none⟩,true,true⟩,⟨⟨some 55,.load 99 (tT 54),none⟩,true,true⟩,⟨⟨some 56,.move (tT 2),none⟩,true,true⟩,oO 57 (.load 38 (tT 9)),oO 58 (.indexAddr 109 (tT 52) (tT 53)),oN (.store 38 (tT 58) (tT 57))])
 (rg [oO 59 (.indexAddr 99 (tT 55) (tT 56)),oN (.store 4 (tT 59) (.const (.bool true)))]))
 (.skip)))
 (.seq (rg [oO 8 (.assign (kI 0))])
 .ret)))))
theorem F80:Fun1 Tryz.prog 80 60 c80 [.tmp 8]:=mkT Tryz.func80 rfl (by decide +kernel) Tryz.ntmps80 rfl (by kernel_rfl) rfl
open Go.Proofs
def eN (n:Nat):List D:=[.int .i64 n]
open Go.Proofs
def fl {α:Type} (enc:α→List D) (xs:List α):List D:=(rws enc xs).flatten
section
variable {α : Type} {enc : α → List D} {s : Nat}
theorem fl_nil:fl enc []=[]:=rfl
theorem fl_cons (x:α) (xs:List α):fl enc (x::xs)=enc x++fl enc xs:=rfl
theorem fl_app (xs ys:List α):fl enc (xs++ys)=fl enc xs++fl enc ys:=by simp[fl,rws]
theorem fl_len (h:∀x,(enc x).length=s):∀xs:List α,(fl enc xs).length=xs.length*s
 |[]=>by simp[fl_nil]
 |x::xs=>by rw[fl_cons,List.length_append,h,fl_len h xs,List.length_cons,Nat.add_mul,Nat.one_mul,Nat.add_comm]
theorem fl_parts (h:∀x,(enc x).length=s) {xs:List α} {i:Nat} (hi:i<xs.length):fl enc xs=fl enc (xs.take i)++(enc xs[i]++fl enc (xs.drop (i+1)))∧(fl enc (xs.take i)).length=i*s:=by
 refine⟨?_,by rw[fl_len h,List.length_take,Nat.min_eq_left (by omega)]⟩
 rw[←fl_cons,←fl_app]
 congr 1
 rw[List.getElem_cons_drop,List.take_append_drop]
theorem fl_at (h:∀x,(enc x).length=s) {xs:List α} {i:Nat} (hi:i<xs.length):((fl enc xs).drop (i*s)).take s=enc xs[i]:=by
 obtain⟨h1,h2⟩:=fl_parts h hi
 rw[h1,List.drop_left' h2,List.take_left' (h _)]
theorem fl_set (h:∀x,(enc x).length=s) {xs:List α} {i:Nat} (hi:i<xs.length) (y:α):(fl enc xs).take (i*s)++enc y++(fl enc xs).drop (i*s+s)=fl enc (xs.set i y):=by
 obtain⟨h1,h2⟩:=fl_parts h hi
 have h3:(fl enc xs).take (i*s)=fl enc (xs.take i):=by rw[h1,List.take_left' h2]
 have h4:(fl enc xs).drop (i*s+s)=fl enc (xs.drop (i+1)):=by rw[h1,←List.drop_drop,List.drop_left' h2,List.drop_left' (h _)]
 rw[h3,h4,List.append_assoc,←fl_cons,←fl_app,List.set_eq_take_append_cons_drop,if_pos hi]
end
def eBo (b:Bool):List D:=[.bool b]
theorem fl_bo (xs:List Bool):fl eBo xs=xs.map .bool:=by induction xs with|nil=>rfl|cons x xs ih=>rw[fl_cons,ih]; rfl
theorem fl_boAt {xs:List Bool} {i:Nat} (h:i<xs.length):(fl eBo xs)[i]? =some (.bool ((xs[i]?).getD false)):=by
 rw[fl_bo,List.getElem?_map,List.getElem?_eq_getElem h]; rfl
theorem fl_eN (xs:List Nat):fl eN xs=xs.map fun n:Nat=>D.int .i64 n:=by induction xs with|nil=>rfl|cons x xs ih=>rw[fl_cons,ih]; rfl
theorem fl_eNAt {xs:List Nat} {i:Nat} (h:i<xs.length):(fl eN xs)[i]? =some (.int .i64 (((xs[i]?).getD 0:Nat):Int)):=by
 rw[fl_eN,List.getElem?_map,List.getElem?_eq_getElem h]; rfl
structure QB where
 a:Nat
 b:Nat
 c:Nat
 d:Nat
structure QB.ne (q:QB):Prop where
 ab:q.a≠q.b
 ac:q.a≠q.c
 ad:q.a≠q.d
 bc:q.b≠q.c
 bd:q.b≠q.d
 cd:q.c≠q.d
def stD (q:QB) (m:Nat):List D:=[.bsl q.a 0 m m,.bsl q.b 0 m m,.bsl q.c 0 m m,.bsl q.d 0 m m]
def stI (q:QB) (s:IS):St:=(((({}:St).set q.a (fl eBo s.has)).set q.b (fl eFr s.fr)).set q.c (fl eBo s.fresh)).set q.d (fl eN s.tk)
section
variable {q : QB} {s : IS}
theorem stI_a (h:q.ne):(stI q s).box q.a=some (fl eBo s.has):=by simp[stI,St.set,h.ab,h.ac,h.ad]
theorem stI_b (h:q.ne):(stI q s).box q.b=some (fl eFr s.fr):=by simp[stI,St.set,h.bc,h.bd]
theorem stI_c (h:q.ne):(stI q s).box q.c=some (fl eBo s.fresh):=by simp[stI,St.set,h.cd]
theorem stI_d:(stI q s).box q.d=some (fl eN s.tk):=by simp[stI,St.set]
theorem stI_has {x:Nat}:(stI q s).has x↔x=q.a∨x=q.b∨x=q.c∨x=q.d:=by
 simp only[stI,set_has]
 have:=St.not_has_nil x
 constructor
 ·rintro(h|h|h|h|h)
  ·exact .inr (.inr (.inr h))
  ·exact .inr (.inr (.inl h))
  ·exact .inr (.inl h)
  ·exact .inl h
  ·exact absurd h this
 ·rintro(h|h|h|h)
  ·exact .inr (.inr (.inr (.inl h)))
  ·exact .inr (.inr (.inl h))
  ·exact .inr (.inl h)
  ·exact .inl h
theorem stI_ne {x:Nat} (h:¬(stI q s).has x):¬x=q.a∧¬x=q.b∧¬x=q.c∧¬x=q.d:=
 ⟨fun e=>h (stI_has.2 (.inl e)),fun e=>h (stI_has.2 (.inr (.inl e))),fun e=>h (stI_has.2 (.inr (.inr (.inl e)))),fun e=>h (stI_has.2 (.inr (.inr (.inr e))))⟩
end
structure IS.sz (s:IS) (m:Nat):Prop where
 a:s.has.length=m
 b:s.fr.length=m
 c:s.fresh.length=m
 d:s.tk.length=m
theorem least_at {l:List Bool} {k:Nat} (h:k<l.length) (hk:(l[k]?).getD false=true) (hb:∀j<k,(l[j]?).getD false=false):leastD l=k:=by
 unfold leastD
 have:l.findIdx? id=some k:=by
  rw[List.findIdx?_eq_some_iff_getElem]
  refine⟨h,by simpa[h] using hk,fun j hj=> ?_⟩
  have:=hb j hj
  rw[List.getElem?_eq_getElem (by omega)] at this
  simpa using this
 rw[this]
theorem least_no {l:List Bool} (hb:∀j<l.length,(l[j]?).getD false=false):leastD l= -1:=by
 unfold leastD
 have:l.findIdx? id=none:=by
  rw[List.findIdx?_eq_none_iff]
  intro x hx
  obtain⟨j,hj,rfl⟩:=List.mem_iff_getElem.1 hx
  have:=hb j hj
  rw[List.getElem?_eq_getElem hj] at this
  simpa using this
 rw[this]
theorem least68 (q:QB) (h:q.ne) (s:IS) (m:Nat) (hs:s.sz m) (hm:m≤5000):RCall Tryz.prog 52 [.agg (stD q m)] (stI q s) fun d s'=>d= .int .i64 (leastD s.fresh)∧s'=stI q s:=by
 have kc:=stI_c (s:=s) h
 refine F52.rcall rfl fun T hT=> ?_
 simp -implicitDefEqProofs only[go_sem,c52,hT,stD]
 intro b1 hb1
 obtain⟨n1,n2,n3,n4⟩:=stI_ne hb1
 have k1:((stI q s).set b1 [.bsl q.a 0 m m,.bsl q.b 0 m m,.bsl q.c 0 m m,.bsl q.d 0 m m]).box q.c=some (fl eBo s.fresh):=by rw[St.set_box,if_neg (Ne.symm n3)]; exact kc
 refine loopL F52 (fun i:Nat=>[(1,.ptr b1 0),(3,.int .i64 i)]) (fun _=>(stI q s).set b1 [.bsl q.a 0 m m,.bsl q.b 0 m m,.bsl q.c 0 m m,.bsl q.d 0 m m]) (fun i=>i≤m∧∀j<i,(s.fresh[j]?).getD false=false) (fun i=>m-i) 0 ⟨by omega,by omega⟩ ?_ (St.le.refl _) ?_
 ·simp -implicitDefEqProofs only[go_sem,hT,Int.ofNat_zero]
 clear hT T
 intro i ⟨hi,hl⟩ T hT
 by_cases h1:i<m
 ·have h2:((i:Int)<m)=True:=eq_true (by omega)
  have hx:=fl_boAt (xs:=s.fresh) (i:=i) (by rw[hs.c]; exact h1)
  have hnext:IntKind.wrap .i64 ((i:Int)+1)=((i+1:Nat):Int):=by rw[zb7 (by omega) (by omega)]; simp
  cases hf:(s.fresh[i]?).getD false
  ·simp -implicitDefEqProofs only[go_sem,hT,h2,k1,hx,hf,hnext,n1,n2,n3,n4,Ne.symm n1,Ne.symm n2,Ne.symm n3,Ne.symm n4,gdD,Nat.mul_one,Nat.add_zero,Nat.zero_add]
   refine⟨by omega,i+1,⟨by omega,fun j hj=> ?_⟩,by omega,rfl,St.le.refl _⟩
   rcases Nat.lt_succ_iff_lt_or_eq.1 hj with h|rfl
   ·exact hl j h
   ·exact hf
  ·simp -implicitDefEqProofs only[go_sem,hT,h2,k1,hx,hf,hnext,n1,n2,n3,n4,Ne.symm n1,Ne.symm n2,Ne.symm n3,Ne.symm n4,gdD,Nat.mul_one,Nat.add_zero,Nat.zero_add]
   exact⟨by omega,_,_,DLe.refl _,le_add hb1,by rw[least_at (by rw[hs.c]; exact h1) hf hl],rfl⟩
 ·have h2:((i:Int)<m)=False:=eq_false (by omega)
  simp -implicitDefEqProofs only[go_sem,hT,h2,k1,n1,n2,n3,n4,Ne.symm n1,Ne.symm n2,Ne.symm n3,Ne.symm n4]
  exact⟨_,_,DLe.refl _,le_add hb1,by rw[least_no (fun j hj=>hl j (by rw[hs.c] at hj; omega))],rfl⟩
open Go.Proofs
def overAt (tk:List Nat) (a size x:Nat):Bool:=decide (0<(tk[x]?).getD 0∧x≠a∧a<x+(tk[x]?).getD 0∧x<a+size)
theorem over_yes {tk:List Nat} {a size x:Nat} (hx:x<tk.length) (h:overAt tk a size x=true):overB tk a size=true:=by
 unfold overB
 exact List.any_eq_true.2 ⟨x,List.mem_range.2 hx,h⟩
theorem over_no {tk:List Nat} {a size:Nat} (h:∀x<tk.length,overAt tk a size x=false):overB tk a size=false:=by
 unfold overB
 rw[List.any_eq_false]
 intro x hx
 rw[Bool.not_eq_true]
 exact h x (List.mem_range.1 hx)
theorem overlaps111 (q:QB) (h:q.ne) (s:IS) (m:Nat) (hs:s.sz m) (hm:m≤5000) (a size:Nat) (ha:a≤5000) (hz:size≤5000) (ht:∀x<m,(s.tk[x]?).getD 0≤5000):
  RCall Tryz.prog 78 [.agg (stD q m),.int .i64 a,.int .i64 size] (stI q s) fun d s'=>d= .bool (overB s.tk a size)∧s'=stI q s:=by
 have kc:=stI_d (q:=q) (s:=s)
 refine F78.rcall rfl fun T hT=> ?_
 simp -implicitDefEqProofs only[go_sem,c78,hT,stD]
 intro b1 hb1
 obtain⟨n1,n2,n3,n4⟩:=stI_ne hb1
 have k1:((stI q s).set b1 [.bsl q.a 0 m m,.bsl q.b 0 m m,.bsl q.c 0 m m,.bsl q.d 0 m m]).box q.d=some (fl eN s.tk):=by rw[St.set_box,if_neg (Ne.symm n4)]; exact kc
 refine loopL F78 (fun i:Nat=>[(1,.int .i64 a),(2,.int .i64 size),(3,.ptr b1 0),(7,.int .i64 i)]) (fun _=>(stI q s).set b1 [.bsl q.a 0 m m,.bsl q.b 0 m m,.bsl q.c 0 m m,.bsl q.d 0 m m]) (fun i=>i≤m∧∀j<i,overAt s.tk a size j=false) (fun i=>m-i) 0 ⟨by omega,by omega⟩ ?_ (St.le.refl _) ?_
 ·simp -implicitDefEqProofs only[go_sem,hT,Int.ofNat_zero]
 clear hT T
 intro i ⟨hi,hl⟩ T hT
 by_cases h1:i<m
 ·have h2:((i:Int)<m)=True:=eq_true (by omega)
  have hx:=fl_eNAt (xs:=s.tk) (i:=i) (by rw[hs.d]; exact h1)
  have hti:=ht i h1
  generalize htx:(s.tk[i]?).getD 0=z at *
  have w1:IntKind.wrap .i64 ((i:Int)+z)=(i:Int)+z:=zb7 (by omega) (by omega)
  have w2:IntKind.wrap .i64 ((a:Int)+size)=(a:Int)+size:=zb7 (by omega) (by omega)
  have hnext:IntKind.wrap .i64 ((i:Int)+1)=((i+1:Nat):Int):=by rw[zb7 (by omega) (by omega)]; simp
  simp -implicitDefEqProofs only[go_sem,mmB,hT,h2,k1,hx,w1,w2,hnext,n1,n2,n3,n4,Ne.symm n1,Ne.symm n2,Ne.symm n3,Ne.symm n4,gdD,Nat.mul_one,Nat.add_zero,Nat.zero_add]
  refine⟨by omega, ?_, ?_⟩
  ·intro _; omega
  rw[show(decide ((0:Int)<z)&& !decide ((i:Int)=a)&&decide ((a:Int)<i+z)&&decide ((i:Int)<a+size))=overAt s.tk a size i by
   unfold overAt; rw[htx,Bool.eq_iff_iff]; simp; omega]
  cases hc:overAt s.tk a size i
  ·simp -implicitDefEqProofs only[go_sem,hT,hnext]
   refine⟨i+1,⟨by omega,fun j hj=> ?_⟩,by omega,rfl,St.le.refl _⟩
   rcases Nat.lt_succ_iff_lt_or_eq.1 hj with h|rfl
   ·exact hl j h
   ·exact hc
  ·simp -implicitDefEqProofs only[go_sem,hT]
   exact⟨_,_,DLe.refl _,le_add hb1,by rw[over_yes (by rw[hs.d]; exact h1) hc],rfl⟩
 ·have h2:((i:Int)<m)=False:=eq_false (by omega)
  simp -implicitDefEqProofs only[go_sem,mmB,hT,h2,k1,n1,n2,n3,n4,Ne.symm n1,Ne.symm n2,Ne.symm n3,Ne.symm n4]
  exact⟨_,_,DLe.refl _,le_add hb1,by rw[over_no (fun j hj=>hl j (by rw[hs.d] at hj; omega))],rfl⟩
theorem on112 (i:Ins) (n:Nat) (hp:0≤i.pos∧i.pos≤5000):PCall Tryz.prog 79 [.agg (eIn i),.int .i64 n] (.tup [.slice .no (rws eI (onD i n).1),.int .i64 (onD i n).2]):=by
 have hsz:=sizeOp_le i.op.val
 have w1:IntKind.wrap .i64 (i.pos+(ze7 i.op.val:Int))=i.pos+ze7 i.op.val:=zb7 (by omega) (by omega)
 refine F79.pcall' rfl fun T hT=> ?_
 simp -implicitDefEqProofs only[go_sem,mmB,c79,hT,eIn]
 intro b2
 refine⟨fun _ h=>h,za3 (refSize74 i.op) ?_⟩
 simp -implicitDefEqProofs only[go_sem,mmB,hT,w1]
 refine za3 (refJumps22 i.op) ?_
 simp -implicitDefEqProofs only[go_sem,mmB,hT]
 refine za3 (refEnds41 i.op) ?_
 by_cases ht:jumpsB i.op.val=true∧(n:Int)≤i.a
 ·obtain⟨hj,hn⟩:=ht
  have h1:((n:Int)≤i.a)=True:=eq_true hn
  rw[show onD i n=([],50) by rw[onD,if_pos ⟨hj,hn⟩]]
  simp -implicitDefEqProofs only[go_sem,mmB,hT,hj,h1]
  exact DLe.tup (.cons (DLe.slice _ _) (.cons (DLe.refl _) .nil))
 have h0:(jumpsB i.op.val&&decide ((n:Int)≤i.a))=false:=by rw[Bool.eq_false_iff]; simpa using ht
 by_cases hf:endsB i.op.val=false∧i.pos+(ze7 i.op.val:Int)=n
 ·obtain⟨hj,hn⟩:=hf
  rw[show onD i n=([],51) by rw[onD,if_neg ht,if_pos ⟨hj,hn⟩]]
  have h1:(i.pos+(ze7 i.op.val:Int)=n)=True:=eq_true hn
  simp -implicitDefEqProofs only[go_sem,mmB,hT,h0,hj,h1]
  exact DLe.tup (.cons (DLe.slice _ _) (.cons (DLe.refl _) .nil))
 cases hj:jumpsB i.op.val <;> cases he:endsB i.op.val
 ·have h1:(i.pos+(ze7 i.op.val:Int)=n)=False:=eq_false fun h=>hf ⟨he,h⟩
  rw[show onD i n=([i.pos+(ze7 i.op.val:Int)],0) by rw[onD,if_neg ht,if_neg hf,hj,he]; simp]
  simp -implicitDefEqProofs only[go_sem,mmB,hT,hj,he,h1,frz]
  exact⟨fun r h=>by rw[h]; rfl,fun _ _ _=>DLe.tup (.cons (DLe.slice _ _) (.cons (DLe.refl _) .nil))⟩
 ·rw[show onD i n=([],0) by rw[onD,if_neg ht,if_neg hf,hj,he]; simp]
  simp -implicitDefEqProofs only[go_sem,mmB,hT,hj,he]
  exact DLe.tup (.cons (DLe.slice _ _) (.cons (DLe.refl _) .nil))
 ·have h1:((n:Int)≤i.a)=False:=eq_false fun h=>ht ⟨hj,h⟩
  have h2:(i.pos+(ze7 i.op.val:Int)=n)=False:=eq_false fun h=>hf ⟨he,h⟩
  have hD:onD i n=((if i.a<i.pos+(ze7 i.op.val:Int) then [i.a] else [])++[i.pos+(ze7 i.op.val:Int)]++(if i.pos+(ze7 i.op.val:Int)<i.a then [i.a] else []),0):=by
   rw[onD,if_neg ht,if_neg hf,hj,he]; simp
  rw[hD]
  by_cases c1:i.a<i.pos+(ze7 i.op.val:Int)
  ·rw[if_pos c1,if_neg (by omega)]
   have d1:(i.a<i.pos+(ze7 i.op.val:Int))=True:=eq_true c1
   have d2:(i.pos+(ze7 i.op.val:Int)<i.a)=False:=eq_false (by omega)
   simp -implicitDefEqProofs only[go_sem,mmB,hT,hj,he,h1,h2,d1,frz,d2]
   exact⟨fun r h=>by rw[h]; rfl,fun _ _ _=>⟨fun r h=>by rw[h]; rfl,fun _ _ _=>DLe.tup (.cons (DLe.slice _ _) (.cons (DLe.refl _) .nil))⟩⟩
  by_cases c2:i.pos+(ze7 i.op.val:Int)<i.a
  ·rw[if_neg c1,if_pos c2]
   have d1:(i.a<i.pos+(ze7 i.op.val:Int))=False:=eq_false c1
   have d2:(i.pos+(ze7 i.op.val:Int)<i.a)=True:=eq_true c2
   simp -implicitDefEqProofs only[go_sem,mmB,hT,hj,he,h1,h2,d1,frz,d2]
   exact⟨fun r h=>by rw[h]; rfl,fun _ _ _=>⟨fun r h=>by rw[h]; rfl,fun _ _ _=>DLe.tup (.cons (DLe.slice _ _) (.cons (DLe.refl _) .nil))⟩⟩
  ·rw[if_neg c1,if_neg c2]
   have d1:(i.a<i.pos+(ze7 i.op.val:Int))=False:=eq_false c1
   have d2:(i.pos+(ze7 i.op.val:Int)<i.a)=False:=eq_false c2
   simp -implicitDefEqProofs only[go_sem,mmB,hT,hj,he,h1,h2,d1,frz,d2]
   exact⟨fun r h=>by rw[h]; rfl,fun _ _ _=>DLe.tup (.cons (DLe.slice _ _) (.cons (DLe.refl _) .nil))⟩
 ·have h1:((n:Int)≤i.a)=False:=eq_false fun h=>ht ⟨hj,h⟩
  rw[show onD i n=([i.a],0) by rw[onD,if_neg ht,if_neg hf,hj,he]; simp]
  simp -implicitDefEqProofs only[go_sem,mmB,hT,hj,he,h1,frz]
  exact⟨fun r h=>by rw[h]; rfl,fun _ _ _=>DLe.tup (.cons (DLe.slice _ _) (.cons (DLe.refl _) .nil))⟩
open Go.Proofs
section
variable {q : QB} {s : IS}
theorem stI_setA (h:q.ne) (v:List Bool):(stI q s).set q.a (fl eBo v)=stI q ⟨v,s.fr,s.fresh,s.tk⟩:=by
 unfold stI
 rw[set_comm (Ne.symm h.ad),set_comm (Ne.symm h.ac),set_comm (Ne.symm h.ab),za4]
theorem stI_setB (h:q.ne) (v:List Fr):(stI q s).set q.b (fl eFr v)=stI q ⟨s.has,v,s.fresh,s.tk⟩:=by
 unfold stI
 rw[set_comm (Ne.symm h.bd),set_comm (Ne.symm h.bc),za4]
theorem stI_setC (h:q.ne) (v:List Bool):(stI q s).set q.c (fl eBo v)=stI q ⟨s.has,s.fr,v,s.tk⟩:=by
 unfold stI
 rw[set_comm (Ne.symm h.cd),za4]
theorem stI_setD (v:List Nat):(stI q s).set q.d (fl eN v)=stI q ⟨s.has,s.fr,s.fresh,v⟩:=by
 unfold stI
 rw[za4]
end
def bXhbD0:=aI @zb3 (aI @zb4 (aI @za8 (aI @za7 (aI @za6 (aI @za5 (aI @fr_0 (aI @fr_1 @gdD)))))))
theorem hand113 (q:QB) (h:q.ne) (s:IS) (m:Nat) (hs:s.sz m) (hm:m≤5000) (l:List Cl) (o:Own) (hf:Falls l l.length) (hl:l.length*48≤140737488355328) (a:Nat) (ha:a<m) (f:Fr):
  RCall Tryz.prog 80 [.agg (stD q m),.slice o (rws eC l),.int .i64 a,.agg (eFr f)] (stI q s) fun d s'=>d= .int .i64 (handD l s a f).2∧s'=stI q (handD l s a f).1:=by
 have ka:=stI_a (s:=s) h
 have kb:=stI_b (s:=s) h
 have kc:=stI_c (s:=s) h
 refine F80.rcall rfl fun T hT=> ?_
 simp -implicitDefEqProofs only[go_sem,mmB,c80,hT,stD,bXhbD0]
 intro b4 hb4 b7 n7 n8 hb7
 obtain⟨n1,n2,n3,n4⟩:=stI_ne hb4
 obtain⟨p1,p2,p3,p4⟩:=stI_ne hb7
 have hx:=fl_boAt (xs:=s.has) (i:=a) (by rw[hs.a]; exact ha)
 have hfl:(fl eFr s.fr).length=m*26:=by rw[fl_len za6,hs.b]
 have hget:((fl eFr s.fr).drop (a*26)).take 26=eFr ((s.fr[a]?).getD (fr0 0)):=by
  rw[fl_at za6 (by rw[hs.b]; exact ha),List.getElem?_eq_getElem (by rw[hs.b]; exact ha)]; rfl
 have hput:∀g,(fl eFr s.fr).take (a*26)++eFr g++(fl eFr s.fr).drop (a*26+26)=fl eFr (s.fr.set a g):=fun g=>fl_set za6 (by rw[hs.b]; exact ha) g
 have hpa:∀g,(fl eBo s.has).take a++[D.bool g]++(fl eBo s.has).drop (a+1)=fl eBo (s.has.set a g):=fun g=>by
  have:=fl_set (enc:=eBo) (s:=1) (fun x=>rfl) (xs:=s.has) (i:=a) (by rw[hs.a]; exact ha) g
  rwa[Nat.mul_one] at this
 have hpc:∀g,(fl eBo s.fresh).take a++[D.bool g]++(fl eBo s.fresh).drop (a+1)=fl eBo (s.fresh.set a g):=fun g=>by
  have:=fl_set (enc:=eBo) (s:=1) (fun x=>rfl) (xs:=s.fresh) (i:=a) (by rw[hs.c]; exact ha) g
  rwa[Nat.mul_one] at this
 have hla:(fl eBo s.has).length=m:=by rw[fl_len (s:=1) (fun x=>rfl),hs.a,Nat.mul_one]
 have hlc:(fl eBo s.fresh).length=m:=by rw[fl_len (s:=1) (fun x=>rfl),hs.c,Nat.mul_one]
 have base:St.le (stI q s) (((stI q s).set b4 [.bsl q.a 0 m m,.bsl q.b 0 m m,.bsl q.c 0 m m,.bsl q.d 0 m m]).set b7 (eFr f)):=(le_add hb4).trans (le_add (by rw[set_has]; exact fun h=>h.elim n7 hb7))
 have hfa:(26≤((fl eFr s.fr).drop (a*26)).length)=True:=eq_true (by rw[List.length_drop,hfl]; omega)
 cases hh:(s.has[a]?).getD false
 ·have hD:handD l s a f=(⟨s.has.set a true,s.fr.set a f,s.fresh.set a true,s.tk⟩,0):=by rw[handD,if_pos hh]
  simp -implicitDefEqProofs only[go_sem,mmB,hT,n1,n2,n3,n4,Ne.symm n1,Ne.symm n2,Ne.symm n3,Ne.symm n4,p1,p2,p3,p4,Ne.symm p1,Ne.symm p2,Ne.symm p3,Ne.symm p4,n7,n8,h.ab,h.ac,h.bc,Ne.symm h.ab,Ne.symm h.ac,Ne.symm h.bc,Nat.mul_one,Nat.add_zero,Nat.zero_add,ka,kb,kc,hx,hh,bXhbD0]
  refine⟨⟨by omega,by omega⟩, ?_⟩
  simp -implicitDefEqProofs only[go_sem,mmB,hT,n1,n2,n3,n4,Ne.symm n1,Ne.symm n2,Ne.symm n3,Ne.symm n4,p1,p2,p3,p4,Ne.symm p1,Ne.symm p2,Ne.symm p3,Ne.symm p4,n7,n8,h.ab,h.ac,h.bc,Ne.symm h.ab,Ne.symm h.ac,Ne.symm h.bc,Nat.mul_one,Nat.add_zero,Nat.zero_add,ka,kb,kc,hx,hh,hput,hpa,hpc,hla,hlc,hfl,bXhbD0]
  refine⟨fun b hb hc=> ?_,⟨by omega,by omega⟩,by omega,⟨by omega,by omega⟩,by omega,⟨by omega,by omega⟩,by omega,_,_,DLe.refl _, ?_,by rw[hD]; rfl,rfl⟩
  ·rcases hb with rfl|rfl
   ·exact hc.2.1 rfl
   ·exact hc.1 rfl
  rw[hD]
  have:=le_set (b:=q.c) (cs:=fl eBo (s.fresh.set a true)) (le_set (b:=q.b) (cs:=fl eFr (s.fr.set a f)) (le_set (b:=q.a) (cs:=fl eBo (s.has.set a true)) base))
  rw[stI_setA h,stI_setB h,stI_setC h] at this
  exact this
 ·simp -implicitDefEqProofs only[go_sem,mmB,hT,n1,n2,n3,n4,Ne.symm n1,Ne.symm n2,Ne.symm n3,Ne.symm n4,p1,p2,p3,p4,Ne.symm p1,Ne.symm p2,Ne.symm p3,Ne.symm p4,n7,n8,h.ab,h.ac,h.bc,Ne.symm h.ab,Ne.symm h.ac,Ne.symm h.bc,Nat.mul_one,Nat.add_zero,Nat.zero_add,ka,kb,kc,hx,hh,bXhbD0]
  refine⟨⟨by omega,by omega⟩, ?_⟩
  simp -implicitDefEqProofs only[go_sem,mmB,hT,n1,n2,n3,n4,Ne.symm n1,Ne.symm n2,Ne.symm n3,Ne.symm n4,p1,p2,p3,p4,Ne.symm p1,Ne.symm p2,Ne.symm p3,Ne.symm p4,n7,n8,h.ab,h.ac,h.bc,Ne.symm h.ab,Ne.symm h.ac,Ne.symm h.bc,Nat.mul_one,Nat.add_zero,Nat.zero_add,ka,kb,kc,hx,hh,hget,hfl,hfa,bXhbD0]
  refine⟨⟨by omega,by omega⟩, ?_⟩
  refine za3 (refMergeF151 l o _ _ hf hl) ?_
  simp -implicitDefEqProofs only[go_sem,mmB,hT,n1,n2,n3,n4,Ne.symm n1,Ne.symm n2,Ne.symm n3,Ne.symm n4,p1,p2,p3,p4,Ne.symm p1,Ne.symm p2,Ne.symm p3,Ne.symm p4,n7,n8,h.ab,h.ac,h.bc,Ne.symm h.ab,Ne.symm h.ac,Ne.symm h.bc,Nat.mul_one,Nat.add_zero,Nat.zero_add,ka,kb,kc,hx,hh,hget,hfl,hfa,bXhbD0]
  intro b9 r5 r6 r7 r8 hb9
  obtain⟨r1,r2,r3,r4⟩:=stI_ne hb9
  have hb9':∀x y,¬(((stI q s).set b4 x).set b7 y).has b9:=fun x y=>by
   rw[set_has,set_has]
   rintro(h|h|h)
   ·exact r5 h
   ·exact r7 h
   ·exact hb9 h
  by_cases he:(mergeF l ((s.fr[a]?).getD (fr0 0)) f).2=0
  case neg=>
   have he':((((mergeF l ((s.fr[a]?).getD (fr0 0)) f).2:Nat):Int)=0)=False:=eq_false (by omega)
   simp -implicitDefEqProofs only[go_sem,mmB,hT,he',za4]
   refine⟨_,_,DLe.refl _,base.trans (le_add (hb9' _ _)), ?_, ?_⟩
   ·rw[handD,if_neg (by rw[hh]; simp),if_pos he]
   ·rw[handD,if_neg (by rw[hh]; simp),if_pos he]
  have he':((((mergeF l ((s.fr[a]?).getD (fr0 0)) f).2:Nat):Int)=0)=True:=eq_true (by omega)
  simp -implicitDefEqProofs only[go_sem,mmB,hT,zb3,zb4,za8,za7,za6,za5,fr_0,fr_1,gdD,n1,n2,n3,n4,Ne.symm n1,Ne.symm n2,Ne.symm n3,Ne.symm n4,p1,p2,p3,p4,Ne.symm p1,Ne.symm p2,Ne.symm p3,Ne.symm p4,n7,n8,h.ab,h.ac,h.bc,Ne.symm h.ab,Ne.symm h.ac,Ne.symm h.bc,r1,r2,r3,r4,r5,r6,r7,r8,Ne.symm r1,Ne.symm r2,Ne.symm r3,Ne.symm r4,Nat.mul_one,Nat.add_zero,Nat.zero_add,ka,kb,kc,hget,hfl,hfa,he',eq_fr,za4]
  refine⟨⟨by omega,by omega⟩,fun _ b hb hc=>hc.2.2.1 hb,fun _=>⟨by omega,by omega⟩,fun _=>by omega,fun _=>⟨by omega,by omega⟩,fun _=>by rw[hlc]; omega, ?_⟩
  by_cases hm2:(mergeF l ((s.fr[a]?).getD (fr0 0)) f).1=(s.fr[a]?).getD (fr0 0)
  ·have hD:handD l s a f=(s,0):=by rw[handD,if_neg (by rw[hh]; simp),if_neg (by omega),if_neg (by simpa using hm2)]
   rw[hD,show(!decide ((mergeF l ((s.fr[a]?).getD (fr0 0)) f).1=(s.fr[a]?).getD (fr0 0)))=false by simp[hm2]]
   exact⟨_,_,DLe.refl _,base.trans (le_add (hb9' _ _)),rfl,rfl⟩
  ·have hD:handD l s a f=(⟨s.has,s.fr.set a (mergeF l ((s.fr[a]?).getD (fr0 0)) f).1,s.fresh.set a true,s.tk⟩,0):=by rw[handD,if_neg (by rw[hh]; simp),if_neg (by omega),if_pos hm2]
   rw[hD,show(!decide ((mergeF l ((s.fr[a]?).getD (fr0 0)) f).1=(s.fr[a]?).getD (fr0 0)))=true by simp[hm2],hput,hpc]
   refine⟨_,_,DLe.refl _, ?_,rfl,rfl⟩
   have:=le_set (b:=q.c) (cs:=fl eBo (s.fresh.set a true)) (le_set (b:=q.b) (cs:=fl eFr (s.fr.set a (mergeF l ((s.fr[a]?).getD (fr0 0)) f).1)) (base.trans (le_add (cs:=eFr (mergeF l ((s.fr[a]?).getD (fr0 0)) f).1) (hb9' _ _))))
   rw[stI_setB h,stI_setC h] at this
   exact this
open Go.Proofs
theorem can_sig {e:En} (h:canB e=true):∃hs:e.fn.toNat<e.sgs.length,0≤e.fn∧psOf e=e.sgs[e.fn.toNat].ps∧(psOf e).length≤8∧∀t∈psOf e,storedN e.cs.length t=true:=by
 unfold canB at h
 simp only[Bool.and_eq_true,decide_eq_true_eq,List.all_eq_true] at h
 obtain⟨⟨h1,h2,h3,h4⟩,h5⟩:=h
 have hs:e.fn.toNat<e.sgs.length:=by omega
 have hp:psOf e=e.sgs[e.fn.toNat].ps:=by unfold psOf; rw[List.getElem?_eq_getElem hs]; rfl
 have:=h5 _ (List.getElem_mem hs)
 unfold sigMayB at this
 simp only[Bool.and_eq_true,decide_eq_true_eq,Bool.not_eq_true',List.any_eq_false] at this
 refine⟨hs,h3,hp,by rw[hp]; exact this.1.1,fun t ht=> ?_⟩
 rw[hp] at ht
 have:=this.1.2 t ht
 simpa using this
theorem start_ok {e:En} {n:Int} (h:canB e=true) (h1:¬n<(psOf e).length) (h2:¬16<n):(startF e.cs.length (psOf e) n).2=0:=by
 obtain⟨_,_,_,h3,h4⟩:=can_sig h
 unfold startF
 rw[if_neg]
 rintro(h|h|h|h|h)
 ·omega
 ·exact h2 h
 ·omega
 ·exact h1 h
 ·simp only[List.any_eq_true,Bool.not_eq_true'] at h
  obtain⟨t,ht,h⟩:=h
  rw[h4 t ht] at h; cases h
theorem can_falls {e:En} (hw:WideE e) (h:canB e=true):Falls e.cs e.cs.length:=by
 unfold canB at h
 simp only[Bool.and_eq_true,decide_eq_true_eq] at h
 exact(check_right h.1.1).falls
end Go.AL
