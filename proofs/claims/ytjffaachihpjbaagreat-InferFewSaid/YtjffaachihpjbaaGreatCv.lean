import Derived.Test.YtjffaachihpjbaaGreatCs
import Derived.Test.YtjffaachihpjbaaGreatCu
import Derived.Test.YtjffaachihpjbaaGreatCp
import Derived.Test.YtjffaachihpjbaaGreatCq
set_option linter.unusedSimpArgs false
set_option linter.unusedVariables false
set_option maxRecDepth 100000
set_option maxHeartbeats 4000000
set_option linter.defProp false
namespace Go.AL
open Go.Proofs
def frameE (loc:Int) (f:Fr):Nat:=
 if f.loc≠loc∨f.h<0∨24-loc<f.h then 65
 else if((List.range 24).all fun i=>decide (loc+f.h≤(i:Int)→slAt f i=0))=false then 65
 else if((List.range 24).all fun i=>knownT (slAt f i))=false then 62 else 0
theorem frameE_bad {loc:Int} {f:Fr} (h:f.loc≠loc∨f.h<0∨24-loc<f.h):frameE loc f=65:=by unfold frameE; rw[if_pos h]
theorem frameE_tail {loc:Int} {f:Fr} (h:¬(f.loc≠loc∨f.h<0∨24-loc<f.h)) {i:Nat} (hi:i<24) (h1:loc+f.h≤(i:Int)) (h2:slAt f i≠0):frameE loc f=65:=by
 unfold frameE
 rw[if_neg h,if_pos]
 rw[List.all_eq_false]
 exact⟨i,List.mem_range.2 hi,by simpa using ⟨h1,h2⟩⟩
theorem frameE_code {loc:Int} {f:Fr} (h:¬(f.loc≠loc∨f.h<0∨24-loc<f.h)) (h0:∀i:Nat,i<24→loc+f.h≤(i:Int)→slAt f i=0) {i:Nat} (hi:i<24) (h2:knownT (slAt f i)=false):frameE loc f=62:=by
 unfold frameE
 have h1:((List.range 24).all fun i=>decide (loc+f.h≤(i:Int)→slAt f i=0))=true:=by
  rw[List.all_eq_true]
  intro j hj
  rw[List.mem_range] at hj
  have:=h0 j hj
  simp only[decide_eq_true_eq]; exact this
 rw[if_neg h,if_neg (by rw[h1]; simp),if_pos]
 rw[List.all_eq_false]
 exact⟨i,List.mem_range.2 hi,by rw[h2]; simp⟩
theorem frameE_ok {loc:Int} {f:Fr} (h:¬(f.loc≠loc∨f.h<0∨24-loc<f.h)) (h0:∀i:Nat,i<24→loc+f.h≤(i:Int)→slAt f i=0) (h2:∀i:Nat,i<24→knownT (slAt f i)=true):frameE loc f=0:=by
 unfold frameE
 have h1:((List.range 24).all fun i=>decide (loc+f.h≤(i:Int)→slAt f i=0))=true:=by
  rw[List.all_eq_true]
  intro j hj
  rw[List.mem_range] at hj
  have:=h0 j hj
  simp only[decide_eq_true_eq]; exact this
 have h3:((List.range 24).all fun i=>knownT (slAt f i))=true:=by
  rw[List.all_eq_true]
  intro j hj
  rw[List.mem_range] at hj
  exact h2 j hj
 rw[if_neg h,if_neg (by rw[h1]; simp),if_neg (by rw[h3]; simp)]
theorem known_0:knownT 0=true:=by decide
theorem fr_sl (f:Fr) {i:Nat} (h:i<24):(eFr f)[2+i]? =some (.int .u8 ((slAt f i).val:Int)):=by
 rw[fr_at f i h]; simp[slAt,h]
def bXhpA0:=aI @zb3 (aI @zb4 (aI @za8 (aI @za7 (aI @za6 (aI @za5 (aI @gdD (aI @fr_0 @fr_1)))))))
theorem frame166 (loc:Nat) (f:Fr) (hl:loc≤16):PCall Tryz.prog 102 [.agg (eFr f),.int .i64 (loc:Int)] (.int .i64 (frameE loc f)):=by
 have w0:IntKind.wrap .i64 (24-(loc:Int))=24-(loc:Int):=zb7 (by omega) (by omega)
 refine F102.pcallM rfl fun T hT=> ?_
 by_cases hbad:f.loc≠loc∨f.h<0∨24-(loc:Int)<f.h
 ·rw[frameE_bad hbad]
  by_cases c1:f.loc=loc
  ·have e1:(f.loc=(loc:Int))=True:=eq_true c1
   by_cases c2:f.h<0
   ·have e2:(f.h<0)=True:=eq_true c2
    simp -implicitDefEqProofs only[go_sem,mmB,c102,hT,Nat.mul_one,Nat.add_zero,Nat.zero_add,e1,e2,w0,bXhpA0]
    exact DLe.refl _
   ·have e2:(f.h<0)=False:=eq_false c2
    have e3:(24-(loc:Int)<f.h)=True:=eq_true ((hbad.resolve_left fun h=>h c1).resolve_left c2)
    simp -implicitDefEqProofs only[go_sem,mmB,c102,hT,Nat.mul_one,Nat.add_zero,Nat.zero_add,e1,e2,e3,w0,bXhpA0]
    exact DLe.refl _
  ·have e1:(f.loc=(loc:Int))=False:=eq_false c1
   simp -implicitDefEqProofs only[go_sem,mmB,c102,hT,Nat.mul_one,Nat.add_zero,Nat.zero_add,e1,w0,bXhpA0]
   exact DLe.refl _
 simp only[not_or,Classical.not_not] at hbad
 obtain⟨c1,c2,c3⟩:=hbad
 have hnb:¬(f.loc≠loc∨f.h<0∨24-(loc:Int)<f.h):=by omega
 obtain⟨k,hk⟩:∃k:Nat,f.h=k:=⟨f.h.toNat,by omega⟩
 have e1:(f.loc=(loc:Int))=True:=eq_true c1
 have e2:(f.h<0)=False:=eq_false c2
 have e3:(24-(loc:Int)<f.h)=False:=eq_false c3
 have w1:IntKind.wrap .i64 ((loc:Int)+f.h)=((loc+k:Nat):Int):=by rw[zb7 (by omega) (by omega),hk]; simp
 simp -implicitDefEqProofs only[go_sem,mmB,c102,hT,Nat.mul_one,Nat.add_zero,Nat.zero_add,e1,e2,e3,w0,w1,bXhpA0]
 intro b2
 refine⟨by omega, ?_⟩
 obtain⟨O,hO⟩:∃O,(if 24=loc+k then 2 else 2+(loc+k))=O:=⟨_,rfl⟩
 rw[hO]
 refine loopL F102 (fun i:Nat=>[(2,.ptr b2 0),(5,.int .i64 ((loc+k:Nat):Int)),(32,.bsl b2 O (24-(loc+k)) (24-(loc+k))),(33,.int .i64 ((24-(loc+k):Nat):Int)),(34,.int .i64 i)]) (fun _=>({}:St).set b2 (eFr f))
  (fun i=>i≤24-(loc+k)∧∀j,j<i→slAt f (loc+k+j)=0) (fun i=>24-i) 0 ⟨Nat.zero_le _,fun j h=>by omega⟩ ?_ (St.le.refl _) ?_
 ·simp -implicitDefEqProofs only[go_sem,hT,Nat.mul_one,Nat.add_zero,Nat.zero_add,bXhpA0]
  rfl
 clear hT T
 rintro i ⟨hi,hz⟩ T hT
 by_cases h:i<24-(loc+k)
 ·have g5:((i:Int)<((24-(loc+k):Nat):Int))=True:=eq_true (by omega)
  have w3:IntKind.wrap .i64 ((i:Int)+1)=((i+1:Nat):Int):=by rw[zb7 (by omega) (by omega)]; simp
  have hat:=fr_sl f (i:=loc+k+i) (by omega)
  rw[if_neg (by omega)] at hO
  rw[←Nat.add_assoc,hO] at hat
  by_cases hs:slAt f (loc+k+i)=0
  ·have g6:(((slAt f (loc+k+i)).val:Int)=0)=True:=eq_true (by rw[hs]; rfl)
   simp -implicitDefEqProofs only[go_sem,hT,g5,Nat.mul_one,Nat.add_zero,Nat.zero_add,hat,g6,w3,bXhpA0]
   exact⟨by omega,i+1,⟨by omega,fun j hj=>by
    by_cases he:j=i
    ·rw[he]; exact hs
    ·exact hz j (by omega)⟩,by omega,rfl,St.le.refl _⟩
  ·have g6:(((slAt f (loc+k+i)).val:Int)=0)=False:=eq_false (fun h=>hs (Fin.ext (by simpa using h)))
   rw[frameE_tail hnb (i:=loc+k+i) (by omega) (by omega) hs]
   simp -implicitDefEqProofs only[go_sem,hT,g5,Nat.mul_one,Nat.add_zero,Nat.zero_add,hat,g6,bXhpA0]
   exact⟨by omega,DLe.refl _⟩
 have g5:((i:Int)<((24-(loc+k):Nat):Int))=False:=eq_false (by omega)
 have hz0:∀i:Nat,i<24→(loc:Int)+f.h≤(i:Int)→slAt f i=0:=fun j hj h2=>by
  have:=hz (j-(loc+k)) (by omega)
  rwa[show loc+k+(j-(loc+k))=j by omega] at this
 simp -implicitDefEqProofs only[go_sem,hT,g5,Nat.mul_one,Nat.add_zero,Nat.zero_add,bXhpA0]
 refine⟨by omega, ?_⟩
 refine loopL F102 (fun i:Nat=>[(2,.ptr b2 0),(43,.bsl b2 2 (loc+k) 24),(44,.int .i64 ((loc+k:Nat):Int)),(45,.int .i64 i)]) (fun _=>({}:St).set b2 (eFr f))
  (fun i=>i≤loc+k∧∀j,j<i→knownT (slAt f j)=true) (fun i=>24-i) 0 ⟨Nat.zero_le _,fun j h=>by omega⟩ ?_ (St.le.refl _) ?_
 ·simp -implicitDefEqProofs only[go_sem,hT,Nat.mul_one,Nat.add_zero,Nat.zero_add,bXhpA0]
  exact⟨rfl,rfl,rfl⟩
 clear hT T
 rintro i ⟨hi,hk2⟩ T hT
 by_cases h:i<loc+k
 ·have g5:((i:Int)<((loc+k:Nat):Int))=True:=eq_true (by omega)
  have w3:IntKind.wrap .i64 ((i:Int)+1)=((i+1:Nat):Int):=by rw[zb7 (by omega) (by omega)]; simp
  have hat:=fr_sl f (i:=i) (by omega)
  simp -implicitDefEqProofs only[go_sem,hT,g5,Nat.mul_one,Nat.add_zero,Nat.zero_add,hat,bXhpA0]
  refine⟨by omega,za3 (known204 _) ?_⟩
  cases hs:knownT (slAt f i) with
  |false=>
   rw[frameE_code hnb hz0 (i:=i) (by omega) hs]
   simp -implicitDefEqProofs only[go_sem,hT]
   exact DLe.refl _
  |true=>
   simp -implicitDefEqProofs only[go_sem,hT,w3]
   exact⟨i+1,⟨by omega,fun j hj=>by
    by_cases he:j=i
    ·rw[he]; exact hs
    ·exact hk2 j (by omega)⟩,by omega,rfl,St.le.refl _⟩
 have g5:((i:Int)<((loc+k:Nat):Int))=False:=eq_false (by omega)
 rw[frameE_ok hnb hz0 fun j hj=>by
  by_cases hjk:j<loc+k
  ·exact hk2 j (by omega)
  ·rw[hz0 j hj (by omega)]; exact known_0]
 simp -implicitDefEqProofs only[go_sem,hT,g5,Nat.mul_one,Nat.add_zero,Nat.zero_add,bXhpA0]
 exact DLe.refl _
def bodyE (loc:Int) (x:Ey):Nat:=if x.dead=true then(if x.fr=fr0 0 then 0 else 65) else frameE loc x.fr
open Go.Proofs
theorem bodyE_dead {loc:Int} {x:Ey} (h:x.dead=true):bodyE loc x=if x.fr=fr0 0 then 0 else 65:=by unfold bodyE; rw[if_pos h]
theorem bodyE_live {loc:Int} {x:Ey} (h:x.dead=false):bodyE loc x=frameE loc x.fr:=by unfold bodyE; rw[if_neg (by rw[h]; simp)]
theorem ey_fr (x:Ey):((eEy x).drop 2).take 26=eFr x.fr:=by
 show(eFr x.fr).take 26=_
 exact za5 _
theorem ey_26 (x:Ey):(26≤((eEy x).drop 2).length)=True:=eq_true (by simp[eEy,eFr])
theorem eq_fr0 (y:Fr):eqV Tryz.prog 10 38 (.agg (eFr y)) (.agg zFr)=some (decide (y=fr0 0)):=by rw[←fr_fr0]; exact eq_fr y (fr0 0)
open Go.Proofs
def eCz (loc:Int) (es:List Ey):List D:=[.int .i64 loc,.slice .no (rws eEy es)]
theorem eCz_len (loc:Int) (es:List Ey):(eCz loc es).length=2:=rfl
theorem eCz_take (loc:Int) (es:List Ey):(eCz loc es).take 2=eCz loc es:=rfl
theorem eCz_0 (loc:Int) (es:List Ey):(eCz loc es)[0]? =some (.int .i64 loc):=rfl
theorem eCz_1 (loc:Int) (es:List Ey):(eCz loc es)[1]? =some (.slice .no (rws eEy es)):=rfl
def chkC (loc:Int):Int→Nat→List Ey→Nat×Nat
 |_,_,[]=>(0,0)
 |last,i,x::r=>if afterE x.pos last≠0 then(i,afterE x.pos last) else if bodyE loc x≠0 then(i,bodyE loc x) else chkC loc x.pos (i+1) r
def checkC (loc:Int) (es:List Ey):Nat×Nat:=if loc<0∨16<loc then(0,5) else if 4096<es.length then(4096,4) else chkC loc (-1) 0 es
def lastP (es:List Ey) (i:Nat):Int:=if i=0 then -1 else((es[i-1]?).map (·.pos)).getD (-1)
theorem lastP_succ {es:List Ey} {i:Nat} (h:i<es.length):lastP es (i+1)=es[i].pos:=by simp[lastP,h]
theorem chk_step {loc:Int} {es:List Ey} {i:Nat} (h:i<es.length):chkC loc (lastP es i) i (es.drop i)=
  if afterE es[i].pos (lastP es i)≠0 then(i,afterE es[i].pos (lastP es i)) else if bodyE loc es[i]≠0 then(i,bodyE loc es[i]) else chkC loc (lastP es (i+1)) (i+1) (es.drop (i+1)):=by
 rw[List.drop_eq_getElem_cons h,chkC,lastP_succ h]
open Go.Proofs
def bXhpD0:=aI @gdD (aI @eCz_len (aI @eCz_take (aI @eCz_0 @eCz_1)))
def bXhpD1:=aI @gdD (aI @eCz_len (aI @eCz_take (aI @eCz_0 (aI @eCz_1 (aI @za4 (aI @ey_0 (aI @ey_1 (aI @ey_fr (aI @ey_26 (aI @zf4 @ze8))))))))))
def bXhpD2:=aI @gdD (aI @eCz_len (aI @eCz_take (aI @eCz_0 (aI @eCz_1 (aI @za4 (aI @ey_0 (aI @ey_1 (aI @ey_fr (aI @ey_26 (aI @zf4 (aI @ze8 (aI @eq_fr0 @zb3))))))))))))
theorem check130 (loc:Int) (es:List Ey) (hl:es.length≤140737488355328):PCall Tryz.prog 73 [.agg (eCz loc es)] (.tup [.int .i64 (checkC loc es).1,.int .i64 (checkC loc es).2]):=by
 refine F73.pcallM rfl fun T hT=> ?_
 by_cases h1:loc<0
 ·have g1:(loc<0)=True:=eq_true h1
  rw[show checkC loc es=(0,5) by unfold checkC; rw[if_pos (.inl h1)]]
  simp -implicitDefEqProofs only[go_sem,mmB,c73,hT,Nat.mul_one,Nat.add_zero,Nat.zero_add,g1,bXhpD0]
  exact DLe.refl _
 have g1:(loc<0)=False:=eq_false h1
 by_cases h2:16<loc
 ·have g2:((16:Int)<loc)=True:=eq_true h2
  rw[show checkC loc es=(0,5) by unfold checkC; rw[if_pos (.inr h2)]]
  simp -implicitDefEqProofs only[go_sem,mmB,c73,hT,Nat.mul_one,Nat.add_zero,Nat.zero_add,g1,g2,bXhpD0]
  exact DLe.refl _
 have g2:((16:Int)<loc)=False:=eq_false h2
 by_cases h3:4096<es.length
 ·have g3:((4096:Int)<es.length)=True:=eq_true (by omega)
  rw[show checkC loc es=(4096,4) by unfold checkC; rw[if_neg (by omega),if_pos h3]]
  simp -implicitDefEqProofs only[go_sem,mmB,c73,hT,Nat.mul_one,Nat.add_zero,Nat.zero_add,g1,g2,g3,bXhpD0]
  exact DLe.refl _
 have g3:((4096:Int)<es.length)=False:=eq_false (by omega)
 obtain⟨n,rfl⟩:∃n:Nat,loc=n:=⟨loc.toNat,by omega⟩
 rw[show checkC n es=chkC n (-1) 0 es by unfold checkC; rw[if_neg (by omega),if_neg h3]]
 simp -implicitDefEqProofs only[go_sem,mmB,c73,hT,Nat.mul_one,Nat.add_zero,Nat.zero_add,g1,g2,g3,bXhpD0]
 intro b1
 refine loopL F73 (fun i:Nat=>[(1,.ptr b1 0),(4,.int .i64 (lastP es i)),(21,.slice .no (rws eEy es)),(22,.int .i64 es.length),(23,.int .i64 i)]) (fun _=>({}:St).set b1 (eCz n es))
  (fun i=>i≤es.length∧chkC n (lastP es i) i (es.drop i)=chkC n (-1) 0 es) (fun i=>es.length-i) 0 ⟨Nat.zero_le _,rfl⟩ ?_ (St.le.refl _) ?_
 ·simp -implicitDefEqProofs only[go_sem,hT,Nat.mul_one,Nat.add_zero,Nat.zero_add,bXhpD0]
  exact⟨rfl,rfl⟩
 clear hT T
 rintro i ⟨hi,hc⟩ T hT
 by_cases h:i<es.length
 case neg=>
  have g5:((i:Int)<es.length)=False:=eq_false (by omega)
  rw[←hc,List.drop_eq_nil_of_le (by omega)]
  simp -implicitDefEqProofs only[go_sem,hT,g5,Nat.mul_one,Nat.add_zero,Nat.zero_add,bXhpD0]
  exact DLe.refl _
 have g5:((i:Int)<es.length)=True:=eq_true (by omega)
 have w3:IntKind.wrap .i64 ((i:Int)+1)=((i+1:Nat):Int):=by rw[zb7 (by omega) (by omega)]; simp
 have hget:=rws_at (enc:=eEy) h
 have hst:=chk_step (loc:=n) h
 rw[hc] at hst
 generalize hL:lastP es i=L at *
 have hnext:=lastP_succ h
 generalize hx:es[i]=x at *
 have base:∀(b6:Nat) (c:List D),¬b6=b1→St.le (({}:St).set b1 (eCz n es)) ((({}:St).set b1 (eCz n es)).set b6 c):=fun b6 c hb=>le_add (fun h=>(set_has.1 h).elim hb (St.not_has_nil _))
 simp -implicitDefEqProofs only[go_sem,hT,g5,gdD,Nat.mul_one,Nat.add_zero,Nat.zero_add,eCz_len,eCz_take,eCz_0,eCz_1,hget,zf4,ze8]
 refine⟨by omega,fun b6 n1 n2=> ?_⟩
 simp -implicitDefEqProofs only[go_sem,hT,Nat.mul_one,Nat.add_zero,Nat.zero_add,n1,n2,bXhpD1]
 refine za3 (rises165 L x.pos) ?_
 by_cases g6:afterE x.pos L=0
 case neg=>
  have g6':((afterE x.pos L:Int)=0)=False:=eq_false (by omega)
  rw[if_pos g6] at hst
  rw[hst]
  simp -implicitDefEqProofs only[go_sem,hT,g6',Nat.mul_one,Nat.add_zero,Nat.zero_add,n1,n2,bXhpD1]
  done
 have g6':((afterE x.pos L:Int)=0)=True:=eq_true (by omega)
 rw[if_neg (by omega)] at hst
 cases hd:x.dead with
 |true=>
  rw[bodyE_dead hd] at hst
  by_cases hf:x.fr=fr0 0
  ·have g1:(decide (x.fr=fr0 0))=true:=decide_eq_true hf
   rw[if_pos hf,if_neg (by simp)] at hst
   simp -implicitDefEqProofs only[go_sem,mmB,hT,g6',Nat.mul_one,Nat.add_zero,Nat.zero_add,n1,n2,hd,g1,bXhpD2]
   exact⟨i+1,⟨by omega,hst.symm⟩,by omega,⟨by rw[hnext],by rw[w3]⟩,base b6 _ n1⟩
  ·have g1:(decide (x.fr=fr0 0))=false:=decide_eq_false hf
   rw[if_neg hf,if_pos (by simp)] at hst
   rw[hst]
   simp -implicitDefEqProofs only[go_sem,mmB,hT,g6',Nat.mul_one,Nat.add_zero,Nat.zero_add,n1,n2,hd,g1,bXhpD2]
   exact DLe.refl _
 |false=>
  rw[bodyE_live hd] at hst
  simp -implicitDefEqProofs only[go_sem,mmB,hT,g6',Nat.mul_one,Nat.add_zero,Nat.zero_add,n1,n2,hd,bXhpD2]
  refine za3 (frame166 n x.fr (by omega)) ?_
  by_cases g7:frameE n x.fr=0
  case neg=>
   have g7':((frameE n x.fr:Int)=0)=False:=eq_false (by omega)
   rw[if_pos g7] at hst
   rw[hst]
   simp -implicitDefEqProofs only[go_sem,mmB,hT,g7',Nat.mul_one,Nat.add_zero,Nat.zero_add,n1,n2,bXhpD1]
  have g7':((frameE n x.fr:Int)=0)=True:=eq_true (by omega)
  rw[if_neg (by omega)] at hst
  simp -implicitDefEqProofs only[go_sem,mmB,hT,g7',Nat.mul_one,Nat.add_zero,Nat.zero_add,n1,n2,bXhpD1]
  exact⟨i+1,⟨by omega,hst.symm⟩,by omega,⟨by rw[hnext],by rw[w3]⟩,base b6 _ n1⟩
open Go.Proofs
def byT (n:Nat):Ty:=⟨n%256,by omega⟩
def bytesE (loc:Nat) (x:Ey):List Ty:=byT (x.pos.toNat/256)::byT x.pos.toNat::(if x.dead=true then [0] else 1::byT x.fr.h.toNat::x.fr.sl.toList.take (loc+x.fr.h.toNat))
def headB (loc n:Nat):List Ty:=[112,118,1,byT loc,byT (n/256),byT n]
def encB (loc:Nat) (es:List Ey):List Ty:=headB loc es.length++es.flatMap (bytesE loc)
def encC (loc:Int) (es:List Ey):List Ty×Nat:=if(checkC loc es).2≠0 then([],(checkC loc es).2) else(encB loc.toNat es,0)
theorem wrap_u8m (z:Int):IntKind.wrap .u8 z=z%256:=by simp[IntKind.wrap,IntKind.bits,IntKind.signed]
theorem byT_val (n:Nat):((byT n).val:Int)=IntKind.wrap .u8 (n:Int):=by rw[wrap_u8m]; simp[byT]
def brD (o:Option Nat) (bs:List Ty):D:=match o with
 |none=> .slice .exact (rws eT bs)
 |some b=> .slice (.buf b 1) (rws eT bs)
section
variable {N : Nat} {d : Option Nat} {K : Env → St → Prop} {T : Env} {σ : St}
theorem br_app {o:Option Nat} {bs ys:List Ty} {ow:Own} {base:St} (hb:grN o base) (hle:St.le (grS 1 bs.length o base) σ) (hy:ys≠[]) (hl:(bs++ys).length≤1000000)
  (hk:∀b' σ',σ'.box=σ.box→St.le (grS 1 (bs++ys).length (some b') base) σ'→grN (some b') base→putK N d (brD (some b') (bs++ys)) K T σ'):
  appendA Tryz.prog N d 26 26 (brD o bs) (.slice ow (rws eT ys)) K T σ:=by
 have hyr:∀r∈rws eT ys,r.length=1:=fun r hr=>by
  rw[rws,List.mem_map] at hr
  obtain⟨t,_,rfl⟩:=hr; rfl
 have hbr:∀r∈rws eT bs,r.length=1:=fun r hr=>by
  rw[rws,List.mem_map] at hr
  obtain⟨t,_,rfl⟩:=hr; rfl
 have hap:rws eT bs++rws eT ys=rws eT (bs++ys):=rws_app ..
 rw[List.length_append] at hl
 cases o with
 |none=>
  have hyn:rws eT ys≠[]:=fun h=>hy (by simpa[rws] using h)
  simp only[brD,app_exact,Tryz.sli26,Tryz.sz5,Tryz.by5,Tryz.zero5,Option.map_some,true_and,za1,hap]
  refine⟨rfl,by omega,by omega,hyr,by omega,hbr,fun h=>absurd h hyn,fun _ b' hb'=> ?_⟩
  have:=hk b' (σ.setBuf b' 1 (bs.length+ys.length)) rfl (by
   rw[List.length_append]
   exact le_setBuf hle) (fun c hc=>by cases hc; exact fun h=>hb' (hle.has h))
  exact this
 |some b=>
  refine app_gr' Tryz.sli26 Tryz.sz5 Tryz.by5 Tryz.zero5 rfl (n:=bs.length) (m:=ys.length) (base:=base) (o:=some b) (by rw[za1]) (by rw[za1]) hle hb (fun h=>by cases h) hyr (by omega) fun o' σ' h1 h2 h3 h4=> ?_
  cases o' with
  |none=>exfalso; have:=h4 rfl; exact hy (List.eq_nil_of_length_eq_zero (by omega))
  |some b'=>
   have:=hk b' σ' h1 (by rw[List.length_append]; exact h2) h3
   rw[hap]; exact this
end
theorem frame_zero {loc:Int} {f:Fr} (h:frameE loc f=0):f.loc=loc∧0≤f.h∧f.h≤24-loc:=by
 unfold frameE at h
 split at h
 ·cases h
 ·rename_i hc; omega
theorem after_zero {a l:Int} (h:afterE a l=0):0≤a∧a≤4095∧l<a:=by
 unfold afterE at h
 split at h
 ·cases h
 split at h
 ·cases h
 split at h
 ·cases h
 ·omega
theorem chk_ok {loc:Int}:∀{es:List Ey} {last:Int} {i:Nat},(chkC loc last i es).2=0→∀x∈es,(0≤x.pos∧x.pos≤4095)∧bodyE loc x=0
 |[],_,_,_,x,hx=>by cases hx
 |y::r,last,i,h,x,hx=>by
  rw[chkC] at h
  by_cases h1:afterE y.pos last=0
  case neg=>rw[if_pos h1] at h; exact absurd h h1
  rw[if_neg (by omega)] at h
  by_cases h2:bodyE loc y=0
  case neg=>rw[if_pos h2] at h; exact absurd h h2
  rw[if_neg (by omega)] at h
  rcases List.mem_cons.1 hx with rfl|hx
  ·have:=after_zero h1
   exact⟨⟨this.1,this.2.1⟩,h2⟩
  ·exact chk_ok h x hx
theorem check_ok {loc:Int} {es:List Ey} (h:(checkC loc es).2=0):∃n:Nat,loc=n∧n≤16∧es.length≤4096∧∀x∈es,∃p:Nat,x.pos=p∧p≤4095∧(x.dead=true∧x.fr=fr0 0∨x.dead=false∧∃k:Nat,x.fr.h=k∧x.fr.loc=n∧n+k≤24):=by
 unfold checkC at h
 split at h
 ·cases h
 split at h
 ·cases h
 obtain⟨n,rfl⟩:∃n:Nat,loc=n:=⟨loc.toNat,by omega⟩
 refine⟨n,rfl,by omega,by omega,fun x hx=> ?_⟩
 obtain⟨⟨h1,h2⟩,h3⟩:=chk_ok h x hx
 refine⟨x.pos.toNat,by omega,by omega, ?_⟩
 cases hd:x.dead with
 |true=>
  rw[bodyE_dead hd] at h3
  by_cases hf:x.fr=fr0 0
  ·exact .inl ⟨rfl,hf⟩
  ·rw[if_neg hf] at h3; cases h3
 |false=>
  rw[bodyE_live hd] at h3
  obtain⟨f1,f2,f3⟩:=frame_zero h3
  exact .inr ⟨rfl,x.fr.h.toNat,by omega,f1,by omega⟩
theorem bytes_len (n:Nat) (x:Ey):(bytesE n x).length≤28:=by
 unfold bytesE
 split
 ·simp
 ·simp only[List.length_cons,List.length_take,Vector.length_toList]; omega
theorem flat_len (n:Nat):∀es:List Ey,(es.flatMap (bytesE n)).length≤28*es.length
 |[]=>by simp
 |x::r=>by
  have h1:=bytes_len n x
  have h2:=flat_len n r
  simp only[List.flatMap_cons,List.length_append,List.length_cons]; omega
theorem flat_take {n:Nat} {es:List Ey} {i:Nat} (h:i<es.length):(es.take (i+1)).flatMap (bytesE n)=(es.take i).flatMap (bytesE n)++bytesE n es[i]:=by
 rw[List.take_add_one,List.getElem?_eq_getElem h,List.flatMap_append]; simp[List.flatMap_cons]
open Go.Proofs
def wantX (b:List Ty) (x a:Nat):Bool:=(jumpsB (insA b x).op.val&&decide ((insA b x).a=(a:Int)))||(endsB (insA b x).op.val&&decide (x+szA b x=a))
def wantL (b:List Ty) (L:List Nat) (a:Nat):Bool:=L.any fun x=>wantX b x a
def hasB (s:IS) (a:Nat):Bool:=(s.has[a]?).getD false
def entA (s:IS) (a:Nat):Ey:=if hasB s a=true then⟨(a:Int),false,frA s a⟩ else⟨(a:Int),true,fr0 0⟩
def certE (b:List Ty) (s:IS):List Ey:=((List.range b.length).filter (wantL b (adrs s b.length))).map (entA s)
def emitD (e:En) (loc:Int) (b:List Ty):List Ty×Int×Nat:=
 if(inferD e loc b).2.2≠0 then([],(inferD e loc b).2.1,(inferD e loc b).2.2)
 else((encC loc (certE b (goneD e loc b).1)).1,0,(encC loc (certE b (goneD e loc b).1)).2)
theorem eIn_2 (i:Ins):(eIn i)[2]? =some (.int .i64 i.a):=rfl
theorem hasB_iff {s:IS} {a:Nat}:hasB s a=true↔hasP s a:=Iff.rfl
theorem adrs_mem {s:IS} {n a:Nat}:a∈adrs s n↔a<n∧hasP s a:=by
 unfold adrs
 rw[List.mem_filter,List.mem_range]; rfl
theorem last_leads {e:En} {loc:Int} {b:List Ty} {r:IS} (h:LastP e loc b r) {x:Nat} (hx:x∈adrs r b.length):
  (decF b x).2=0∧(jumpsB (insA b x).op.val=true→0≤(insA b x).a∧(insA b x).a<b.length)∧x+szA b x≤b.length:=by
 obtain⟨_,hh⟩:=adrs_mem.1 hx
 obtain⟨h1,_,h3,_⟩:=h.goes x hh
 refine⟨h1,fun hj=>⟨jumps_a h1 hj, ?_⟩,(decF_ok h1).2.2.2⟩
 refine Classical.byContradiction fun hc=> ?_
 unfold onD at h3
 unfold insA at hj hc
 simp only at h3
 rw[if_pos ⟨hj,by omega⟩] at h3
 cases h3
theorem cert_len (b:List Ty) (s:IS):(certE b s).length≤b.length:=by
 unfold certE
 rw[List.length_map]
 have:=List.length_filter_le (wantL b (adrs s b.length)) (List.range b.length)
 rw[List.length_range] at this; exact this
open Go.Proofs
def DisI (b:List Ty) (s:IS):Prop:=(∀x,hasP s x→¬newP s x→(s.tk[x]?).getD 0=szA b x)∧∀x y,(s.tk[x]?).getD 0≠0→(s.tk[y]?).getD 0≠0→x<y→x+(s.tk[x]?).getD 0≤y
theorem round_dis {e:En} {b:List Ty} {s:IS} {a:Nat} (hw:WideE e) (hs:s.sz (b.length+1)) (ha:a≤b.length) (hi:DisI b s) (h:(roundD e b s a).2.2=0):DisI b (roundD e b s a).1:=by
 have H:=round_handed hw hs ha h
 have htk:=hands_tk2 h
 obtain⟨h1,h2,h3,h4,h5,h6⟩:=round_ok h
 have lc:a<s.fresh.length:=by rw[hs.c]; omega
 have ld:a<s.tk.length:=by rw[hs.d]; omega
 have hov:∀x,(s.tk[x]?).getD 0≠0→x≠a→¬(a<x+(s.tk[x]?).getD 0∧x<a+szA b a):=fun x hx hne hc=>by
  have hxl:x<s.tk.length:=Classical.byContradiction fun hn=>hx (by rw[List.getElem?_eq_none (by omega)]; rfl)
  unfold overB at h3
  rw[List.any_eq_false] at h3
  have:=h3 x (List.mem_range.2 hxl)
  rw[decide_eq_true_eq] at this
  exact this ⟨by omega,hne,hc.1,hc.2⟩
 generalize (roundD e b s a).1=s' at H htk
 obtain⟨i1,i2⟩:=hi
 refine⟨fun x hx hnx=> ?_,fun x y hx hy hlt=> ?_⟩
 ·obtain⟨o1,o2,_⟩:=H.old x hx hnx
  rw[htk,set_at ld]
  by_cases he:x=a
  ·rw[if_pos he,he]
  ·rw[if_neg he]
   exact i1 x o1 fun hc=>o2 (by
    unfold newP at hc ⊢
    simp only
    rw[set_at lc,if_neg he]; exact hc)
 ·rw[htk,set_at ld] at hx hy ⊢
  by_cases he:x=a
  ·rw[if_pos he] at hx ⊢
   have hny:y≠a:=by omega
   rw[if_neg hny] at hy
   have:=hov y hy hny
   omega
  ·rw[if_neg he] at hx ⊢
   by_cases hf:y=a
   ·have:=hov x hx he
    have hz:1≤szA b a:=(decF_ok h2).2.2.1
    omega
   ·rw[if_neg hf] at hy
    exact i2 x y hx hy hlt
theorem last_disj {e:En} {loc:Int} {b:List Ty} {r:IS} (hw:WideE e) (h:goneD e loc b=(r,0,0)) (hl:LastP e loc b r):∀x y,hasP r x→hasP r y→x<y→x+szA b x≤y:=by
 obtain⟨r2,h1,h2,h3,⟨h4,h5⟩,h6⟩:=gone_ind (I:=DisI b)
  (fun s a hs hf hi ha hn _ hR=>round_dis hw hs ha hi hR)
  ⟨fun x hx hn=>by
   rw[is0_hasP] at hx
   exact absurd (show newP (is0 b.length _) x by subst hx; simp[newP,is0]) hn,fun x y hx _ _=>by
   exfalso; apply hx
   simp only[is0]
   rw[List.getElem?_replicate]; split <;> rfl⟩ (show(goneD e loc b).2.2=0 by rw[h])
 rw[h] at h1
 cases h1
 have hno:∀x,¬newP r x:=fun x hx=>by unfold newP at hx; rw[h6] at hx; cases hx
 intro x y hx hy hlt
 have ex:=h4 x hx (hno x)
 have ey:=h4 y hy (hno y)
 have zx:1≤szA b x:=(decF_ok (hl.goes x hx).1).2.2.1
 have zy:1≤szA b y:=(decF_ok (hl.goes y hy).1).2.2.1
 have:=h5 x y (by omega) (by omega) hlt
 omega
theorem next_behind {b:List Ty} {x:Nat} (h:(onD (decF b x).1 b.length).2=0) (hd:(decF b x).2=0) (he:endsB (insA b x).op.val=false):x+szA b x∈nextN b x∧x+szA b x≠b.length:=by
 have hp:(insA b x).pos=x:=by
  have:=(decF_ok hd).2.1
  unfold insA; rw[this]; rfl
 unfold nextN szA
 unfold insA at *
 generalize decF b x=q at *
 unfold onD at h ⊢
 simp only at h ⊢
 split at h
 ·cases h
 rename_i h1
 split at h
 ·cases h
 rename_i h2
 rw[if_neg h1,if_neg h2]
 simp only[List.mem_map,List.mem_append]
 refine⟨⟨q.1.pos+ze7 q.1.op.val,.inl (.inr (by simp[he])),by omega⟩,fun hc=>h2 ⟨he,by omega⟩⟩
theorem cert_mem {b:List Ty} {r:IS} {y:Ey}:y∈certE b r↔∃a:Nat,a<b.length∧wantL b (adrs r b.length) a=true∧y=entA r a:=by
 unfold certE
 simp only[List.mem_map,List.mem_filter,List.mem_range]
 constructor
 ·rintro⟨a,⟨h1,h2⟩,rfl⟩; exact⟨a,h1,h2,rfl⟩
 ·rintro⟨a,h1,h2,rfl⟩; exact⟨a,⟨h1,h2⟩,rfl⟩
theorem entA_pos {r:IS} {a:Nat}:(entA r a).pos=a:=by unfold entA; split <;> rfl
theorem cert_rise (b:List Ty) (r:IS):Rise (certE b r):=by
 unfold Rise certE
 rw[List.pairwise_map]
 refine(List.Pairwise.filter _ List.pairwise_lt_range).imp fun h=> ?_
 rw[entA_pos,entA_pos]; omega
theorem want_iff {b:List Ty} {r:IS} {a:Nat}:wantL b (adrs r b.length) a=true↔∃x,x<b.length∧hasP r x∧((jumpsB (insA b x).op.val=true∧(insA b x).a=a)∨(endsB (insA b x).op.val=true∧x+szA b x=a)):=by
 unfold wantL
 rw[List.any_eq_true]
 simp only[wantX,Bool.or_eq_true,Bool.and_eq_true,decide_eq_true_eq]
 constructor
 ·rintro⟨x,h1,h2⟩; obtain⟨h3,h4⟩:=adrs_mem.1 h1; exact⟨x,h3,h4,h2⟩
 ·rintro⟨x,h1,h2,h3⟩; exact⟨x,adrs_mem.2 ⟨h1,h2⟩,h3⟩
theorem entA_live {r:IS} {a:Nat} (h:hasP r a):entA r a=⟨(a:Int),false,frA r a⟩:=by unfold entA; rw[if_pos (hasB_iff.2 h)]
theorem entA_dead {r:IS} {a:Nat} (h:¬hasP r a):entA r a=⟨(a:Int),true,fr0 0⟩:=by unfold entA; rw[if_neg (fun hc=>h (hasB_iff.1 hc))]
open Go.Proofs
theorem bt_drop (b:List Ty) (p i:Nat):bt b (p+i)=(((b.drop p)[i]?).getD 0).val:=by unfold bt; rw[List.getElem?_drop]
theorem scan_all {b:List Ty}:∀(m q:Nat),q+m≤b.length→(∀i,i<m→knownT ((b[q+i]?).getD 0)=true)→scanT b q m=(q+m,0)
 |0,q,_,_=>rfl
 |m+1,q,hl,hk=>by
  rw[scanT,if_neg (by omega),if_pos (show knownT ((b[q]?).getD 0)=true from hk 0 (by omega)),scan_all m (q+1) (by omega) fun i hi=>by
   have:=hk (i+1) (by omega)
   rwa[show q+1+i=q+(i+1) by omega]]
  rw[show q+1+m=q+(m+1) by omega]
theorem frame_all {loc:Int} {f:Fr} (h:frameE loc f=0):(∀i:Nat,i<24→loc+f.h≤(i:Int)→slAt f i=0)∧∀i:Nat,i<24→knownT (slAt f i)=true:=by
 unfold frameE at h
 split at h
 ·cases h
 split at h
 ·cases h
 rename_i h2
 split at h
 ·cases h
 rename_i h3
 rw[Bool.not_eq_false,List.all_eq_true] at h2 h3
 exact⟨fun i hi hle=>by have:=h2 i (List.mem_range.2 hi); rw[decide_eq_true_eq] at this; exact this hle,fun i hi=>h3 i (List.mem_range.2 hi)⟩
theorem byT_of {n:Nat} (h:n<256):(byT n).val=n:=Nat.mod_eq_of_lt h
theorem ent_read {b:List Ty} {n p:Nat} {last:Int} {x:Ey} {rest:List Ty} (hb:b.drop p=bytesE n x++rest) (hp:p≤b.length) (hn:n≤16) (ha:afterE x.pos last=0) (hx:bodyE n x=0):
  entD b n p last=(x,p+(bytesE n x).length,0):=by
 obtain⟨a1,a2,a3⟩:=after_zero ha
 obtain⟨pos,dead,fr⟩:=x
 simp only at a1 a2 a3 ha
 obtain⟨k,rfl⟩:∃k:Nat,pos=k:=⟨pos.toNat,by omega⟩
 have hlen:b.length=p+((bytesE n ⟨(k:Int),dead,fr⟩).length+rest.length):=by
  have:=congrArg List.length hb
  rw[List.length_drop,List.length_append] at this; omega
 have hat:∀i,bt b (p+i)=(((bytesE n ⟨(k:Int),dead,fr⟩++rest)[i]?).getD 0).val:=fun i=>by rw[bt_drop,hb]
 have hg:∀i,b[p+i]? =(bytesE n ⟨(k:Int),dead,fr⟩++rest)[i]? :=fun i=>by rw[←List.getElem?_drop,hb]
 have b0:bt b p=k/256:=by
  have:=hat 0
  rw[Nat.add_zero] at this
  rw[this]
  show(byT ((k:Int).toNat/256)).val=_
  rw[Int.toNat_natCast,byT_of (by omega)]
 have b1:bt b (p+1)=k%256:=by
  rw[hat 1]
  show(byT (k:Int).toNat).val=_
  rw[Int.toNat_natCast]; rfl
 have hw:word2 b p=k:=by unfold word2; rw[b0,b1]; omega
 unfold entD
 rw[hw]
 have haf:¬afterE (k:Int) last≠0:=fun h=>h ha
 cases dead with
 |true=>
  rw[bodyE_dead rfl] at hx
  have hf:fr=fr0 0:=by
   by_cases hf:fr=fr0 0
   ·exact hf
   ·simp only at hx; rw[if_neg hf] at hx; cases hx
  subst hf
  have l3:(bytesE n ⟨(k:Int),true,fr0 0⟩).length=3:=rfl
  have b2:bt b (p+2)=0:=by rw[hat 2]; rfl
  rw[l3] at hlen ⊢
  rw[if_neg (by omega),if_neg haf,if_neg (by omega),b2,if_neg (by omega),if_pos rfl]
 |false=>
  rw[bodyE_live rfl] at hx
  simp only at hx
  obtain⟨f1,f2,f3⟩:=frame_zero hx
  obtain⟨f4,f5⟩:=frame_all hx
  obtain⟨floc,fh,fsl⟩:=fr
  simp only at f1 f2 f3
  subst f1
  obtain⟨h,rfl⟩:∃h:Nat,fh=h:=⟨fh.toNat,by omega⟩
  have l4:(bytesE n ⟨(k:Int),false,⟨n,h,fsl⟩⟩).length=4+(n+h):=by
   show(byT _::byT _::1::byT (h:Int).toNat::fsl.toList.take (n+(h:Int).toNat)).length=_
   simp only[List.length_cons,List.length_take,Vector.length_toList,Int.toNat_natCast]; omega
  have b2:bt b (p+2)=1:=by rw[hat 2]; rfl
  have b3:bt b (p+3)=h:=by
   rw[hat 3]
   show(byT (h:Int).toNat).val=_
   rw[Int.toNat_natCast,byT_of (by omega)]
  have hdr:(b.drop (p+4)).take (n+h)=fsl.toList.take (n+h):=by
   rw[←List.drop_drop,hb]
   show(fsl.toList.take (n+(h:Int).toNat)++rest).take (n+h)=_
   rw[Int.toNat_natCast,List.take_append_of_le_length (by simp only[List.length_take,Vector.length_toList]; omega),List.take_take,Nat.min_self]
  have hsl:∀i,i<n+h→(b[p+4+i]?).getD 0=slAt ⟨n,h,fsl⟩ i:=fun i hi=>by
   have:((b.drop (p+4)).take (n+h))[i]? =(fsl.toList.take (n+h))[i]? :=by rw[hdr]
   rw[List.getElem?_take,if_pos hi,List.getElem?_drop,List.getElem?_take,if_pos hi] at this
   rw[this]; rfl
  rw[l4] at hlen ⊢
  have hsc:scanT b (p+4) (n+h)=(p+4+(n+h),0):=scan_all _ _ (by omega) fun i hi=>by rw[hsl i hi]; exact f5 i (by omega)
  rw[if_neg (by omega),if_neg haf,if_neg (by omega),b2,if_neg (by omega),if_neg (by omega),if_neg (by omega),b3,if_neg (by omega),hsc,if_neg (by simp),hdr]
  have hfr:(⟨n,h,slOf (fsl.toList.take (n+h))⟩:Fr)=⟨n,h,fsl⟩:=fr_ext rfl rfl fun i hi=>by
   rw[slAt_slOf hi,List.getElem?_take]
   split
   ·rfl
   ·exact(f4 i hi (by simp only; omega)).symm
  rw[hfr]
  refine Prod.ext rfl (Prod.ext ?_ rfl)
  show p+4+(n+h)=p+(4+(n+h))
  omega
theorem dec_all {b:List Ty} {n:Nat} (hn:n≤16):∀(es:List Ey) (p i:Nat) (last:Int),b.drop p=es.flatMap (bytesE n)→p≤b.length→(chkC n last i es).2=0→esOf (decP b n es.length p last).1=es∧(decP b n es.length p last).2=(b.length,0)
 |[],p,i,last,hb,hp,_=>by
  have:b.length=p:=by
   have:=congrArg List.length hb
   rw[List.length_drop] at this
   simp only[List.flatMap_nil,List.length_nil] at this
   omega
  exact⟨rfl,by rw[this]; rfl⟩
 |x::r,p,i,last,hb,hp,h=>by
  rw[chkC] at h
  by_cases h1:afterE x.pos last=0
  case neg=>rw[if_pos h1] at h; exact absurd h h1
  rw[if_neg (by omega)] at h
  by_cases h2:bodyE n x=0
  case neg=>rw[if_pos h2] at h; exact absurd h h2
  rw[if_neg (by omega)] at h
  rw[List.flatMap_cons] at hb
  have he:=ent_read hb hp hn h1 h2
  have hr:b.drop (p+(bytesE n x).length)=r.flatMap (bytesE n):=by rw[←List.drop_drop,hb,List.drop_left]
  have hl:p+(bytesE n x).length≤b.length:=by
   have:=congrArg List.length hb
   rw[List.length_drop,List.length_append] at this; omega
  obtain⟨q1,q2⟩:=dec_all hn r _ (i+1) x.pos hr hl h
  rw[List.length_cons,decP,he]
  simp only
  rw[if_neg (by simp)]
  refine⟨?_,q2⟩
  show x::esOf _=_
  rw[q1]
theorem dec_enc {loc:Int} {es:List Ey} (h:(encC loc es).2=0):∃n:Nat,loc=n∧decC (encC loc es).1=(⟨n,es⟩,0,0):=by
 unfold encC at h ⊢
 by_cases h1:(checkC loc es).2=0
 case neg=>rw[if_pos h1] at h; exact absurd h h1
 rw[if_neg (by omega)]
 obtain⟨n,hn,n16,hlen,_⟩:=check_ok h1
 subst hn
 refine⟨n,rfl, ?_⟩
 have hchk:(chkC n (-1) 0 es).2=0:=by
  unfold checkC at h1
  split at h1
  ·cases h1
  split at h1
  ·cases h1
  exact h1
 show decC (encB (n:Int).toNat es)=_
 rw[Int.toNat_natCast]
 generalize hb:encB n es=b
 have hd:b.drop 6=es.flatMap (bytesE n):=by rw[←hb]; rfl
 have h6:6≤b.length:=by rw[←hb]; unfold encB headB; simp
 have c0:bt b 0=112:=by rw[←hb]; rfl
 have c1:bt b 1=118:=by rw[←hb]; rfl
 have c2:bt b 2=1:=by rw[←hb]; rfl
 have c3:bt b 3=n:=by
  rw[←hb]
  show(byT n).val=n
  exact byT_of (by omega)
 have c4:word2 b 4=es.length:=by
  have e4:bt b 4=es.length/256:=by
   rw[←hb]
   show(byT (es.length/256)).val=_
   exact byT_of (by omega)
  have e5:bt b (4+1)=es.length%256:=by rw[←hb]; rfl
  unfold word2; rw[e4,e5]; omega
 have hh:headD b=(0,0):=by
  unfold headD
  rw[c0,c1,c2,c3,c4,if_neg (by omega),if_neg (by omega),if_neg (by omega),if_neg (by omega),if_neg (by omega),if_neg (by omega),if_neg (by omega)]
 obtain⟨q1,q2⟩:=dec_all n16 es 6 0 (-1) hd h6 hchk
 have ht:toldD b=((decP b n es.length 6 (-1)).1,0,0):=by
  unfold toldD
  rw[hh,c3,c4,q2,if_neg (by simp),if_neg (by simp),if_neg (by simp)]
 unfold decC
 rw[ht,c3]
 simp only
 rw[if_neg (by simp),q1]
open Go.Proofs
open Go.Proofs
open Go.Proofs
theorem last_loc {e:En} {loc:Int} {b:List Ty} {r:IS} (hw:WideE e) (hm:mayE e loc=0) (h:goneD e loc b=(r,0,0)):∀x,hasP r x→(frA r x).loc=loc:=by
 obtain⟨r2,h1,h2,h3,⟨h4,_⟩,h6⟩:=gone_ind (I:=fun s=>(∀x,hasP s x→(frA s x).loc=loc)∧True)
  (fun s a hs hf ⟨i1,_⟩ ha hn _ hR=>⟨fun x hx=>by
   have H:=round_handed hw hs ha hR
   obtain⟨k1,k2,k3,k4,k5,k6⟩:=round_ok hR
   have hl:(behA e b s a).loc=loc:=by
    show(applyR e ((s.fr[a]?).getD (fr0 0)) (decF b a).1).1.loc=loc
    rw[(done_behind (done_iff.1 k4)).loc]
    exact i1 a (hf a hn)
   rcases(H.has x).1 hx with hx|hx
   ·have hx:hasP s x:=hx
    rcases H.up x hx with h|h
    ·rw[h]; exact i1 x hx
    ·rw[←h.loc]; exact i1 x hx
   ·rw[←(H.got x hx).loc]; exact hl,trivial⟩)
  ⟨fun x hx=>by
   rw[is0_hasP] at hx
   subst hx
   have:frA (is0 b.length (startF e.cs.length (psOf e) loc).1) 0=(startF e.cs.length (psOf e) loc).1:=is0_fr
   rw[this,(start_eq hm).2.2.2.2],trivial⟩ (show(goneD e loc b).2.2=0 by rw[h])
 rw[h] at h1
 cases h1
 exact h4
theorem chk_good {loc:Int}:∀{es:List Ey} {last:Int} {i:Nat},Rise es→(∀x∈es,last<x.pos∧0≤x.pos∧x.pos≤4095∧bodyE loc x=0)→(chkC loc last i es).2=0
 |[],_,_,_,_=>rfl
 |x::r,last,i,hr,h=>by
  obtain⟨h1,h2⟩:=rise_cons hr
  obtain⟨a1,a2,a3,a4⟩:=h x (List.mem_cons_self ..)
  have ha:afterE x.pos last=0:=by unfold afterE; rw[if_neg (by omega),if_neg (by omega),if_neg (by omega)]
  rw[chkC,if_neg (by omega),if_neg (by omega)]
  exact chk_good h2 fun y hy=>by
   obtain⟨b1,b2,b3,b4⟩:=h y (List.mem_cons_of_mem _ hy)
   exact⟨h1 y hy,b2,b3,b4⟩
theorem cert_check {e:En} {loc:Int} {b:List Ty} {r:IS} (hw:WideE e) (hm:mayE e loc=0) (hb:b.length≤4096) (h:goneD e loc b=(r,0,0)) (hl:LastP e loc b r):(encC loc (certE b r)).2=0:=by
 obtain⟨hcan,hps,h16,_,_⟩:=start_eq hm
 have h32:=(canB_can hw hcan).cls
 have hloc:=last_loc hw hm h
 have hc:(checkC loc (certE b r)).2=0:=by
  unfold checkC
  have:=cert_len b r
  rw[if_neg (by omega),if_neg (by omega)]
  refine chk_good (cert_rise b r) fun x hx=> ?_
  obtain⟨a,h1,h2,rfl⟩:=cert_mem.1 hx
  rw[entA_pos]
  refine⟨by omega,by omega,by omega, ?_⟩
  by_cases hh:hasP r a
  ·rw[entA_live hh,bodyE_live rfl]
   simp only
   obtain⟨c1,c2,c3⟩:=checkF_iff.1 (hl.start.2.2 a hh)
   obtain⟨s1,s2,s3,s4⟩:=shaped_of c1
   have hlo:=hloc a hh
   unfold frameE
   rw[if_neg (by omega),if_neg,if_neg]
   ·rw[Bool.not_eq_false,List.all_eq_true]
    intro i hi
    have hv:=c3 i (List.mem_range.1 hi)
    unfold validN at hv
    unfold knownT
    rw[decide_eq_true_eq] at hv ⊢
    omega
   ·rw[Bool.not_eq_false,List.all_eq_true]
    intro i hi
    rw[decide_eq_true_eq]
    intro hle
    exact bare_iff.1 c2 i (List.mem_range.1 hi) (by omega)
  ·rw[entA_dead hh,bodyE_dead rfl]; rfl
 unfold encC
 rw[if_neg (by omega)]
theorem emit_ok {e:En} {loc:Int} {b:List Ty} (hw:WideE e) (h:(inferD e loc b).2.2=0):∃r,goneD e loc b=(r,0,0)∧LastP e loc b r∧inferD e loc b=(entsD r b.length,0,0)∧emitD e loc b=((encC loc (certE b r)).1,0,0)∧b.length≤4096∧mayE e loc=0:=by
 obtain⟨hm,hb,r,hg,hl,hi⟩:=infer_last hw h
 have hc:=cert_check hw hm hb hg hl
 refine⟨r,hg,hl,hi, ?_,hb,hm⟩
 unfold emitD
 rw[if_neg (by omega),hg]
 simp only
 rw[hc]
def wantsL (b:List Ty):List Nat→List Int
 |[]=>[]
 |x::r=>(if jumpsB (insA b x).op.val=true then [(insA b x).a] else [])++(if endsB (insA b x).op.val=true then [(x:Int)+szA b x] else [])++wantsL b r
theorem wantsL_mem {b:List Ty} {a:Int}:∀{L:List Nat},a∈wantsL b L↔∃x∈L,(jumpsB (insA b x).op.val=true∧(insA b x).a=a)∨(endsB (insA b x).op.val=true∧(x:Int)+szA b x=a)
 |[]=>by simp[wantsL]
 |x::r=>by
  simp only[wantsL,List.mem_append,wantsL_mem (L:=r),List.mem_cons]
  constructor
  ·rintro((h|h)|⟨y,h1,h2⟩)
   ·split at h
    ·rename_i hj; exact⟨x,.inl rfl,.inl ⟨hj,(List.mem_singleton.1 h).symm⟩⟩
    ·cases h
   ·split at h
    ·rename_i hj; exact⟨x,.inl rfl,.inr ⟨hj,(List.mem_singleton.1 h).symm⟩⟩
    ·cases h
   ·exact⟨y,.inr h1,h2⟩
  ·rintro⟨y,rfl|h1,h2⟩
   ·refine .inl ?_
    rcases h2 with⟨h3,h4⟩|⟨h3,h4⟩
    ·exact .inl (by rw[if_pos h3]; simp[h4])
    ·exact .inr (by rw[if_pos h3]; simp[h4])
   ·exact .inr ⟨y,h1,h2⟩
theorem filter_or_le {α:Type} (p q:α→Bool):∀L:List α,(L.filter fun x=>p x||q x).length≤(L.filter p).length+(L.filter q).length
 |[]=>by simp
 |x::L=>by
  have ih:=filter_or_le p q L
  cases hp:p x <;> cases hq:q x <;> simp[List.filter_cons,hp,hq] <;> omega
theorem filter_one_le {m:Int}:∀n:Nat,((List.range n).filter fun a:Nat=>decide ((a:Int)=m)).length≤1
 |0=>by simp
 |n+1=>by
  rw[List.range_succ,List.filter_append,List.length_append]
  have ih:=filter_one_le (m:=m) n
  by_cases h:(n:Int)=m
  ·have:(List.range n).filter (fun a:Nat=>decide ((a:Int)=m))=[]:=by
    rw[List.filter_eq_nil_iff]
    intro a ha
    rw[List.mem_range] at ha
    rw[decide_eq_true_eq]; omega
   rw[this]; simp[h]
  ·simp[h]; exact ih
theorem filter_mem_le {n:Nat}:∀M:List Int,((List.range n).filter fun a:Nat=>decide ((a:Int)∈M)).length≤M.length
 |[]=>by simp
 |m::M=>by
  have h1:=filter_or_le (fun a:Nat=>decide ((a:Int)=m)) (fun a:Nat=>decide ((a:Int)∈M)) (List.range n)
  have h2:=filter_one_le (m:=m) n
  have h3:=filter_mem_le (n:=n) M
  have:((List.range n).filter fun a:Nat=>decide ((a:Int)∈m::M))=(List.range n).filter fun x:Nat=>decide ((x:Int)=m)||decide ((x:Int)∈M):=List.filter_congr fun a _=>by simp[List.mem_cons]
  rw[this,List.length_cons]; omega
theorem few_len (b:List Ty) (r:IS):(certE b r).length≤(wantsL b (adrs r b.length)).length:=by
 refine Nat.le_trans ?_ (filter_mem_le (n:=b.length) (wantsL b (adrs r b.length)))
 unfold certE
 rw[List.length_map]
 refine Nat.le_of_eq (congrArg List.length (List.filter_congr fun a ha=> ?_))
 rw[Bool.eq_iff_iff,decide_eq_true_eq,wantsL_mem,want_iff]
 constructor
 ·rintro⟨x,h1,h2,h3⟩
  exact⟨x,adrs_mem.2 ⟨h1,h2⟩,h3.imp id fun h=>⟨h.1,by omega⟩⟩
 ·rintro⟨x,h1,h2⟩
  obtain⟨h3,h4⟩:=adrs_mem.1 h1
  exact⟨x,h3,h4,h2.imp id fun h=>⟨h.1,by omega⟩⟩
theorem few_mem {b:List Ty} {r:IS} {y:Ey} (h:y∈certE b r):y.pos∈wantsL b (adrs r b.length):=by
 obtain⟨a,h1,h2,rfl⟩:=cert_mem.1 h
 rw[entA_pos,wantsL_mem]
 obtain⟨x,h3,h4,h5⟩:=want_iff.1 h2
 exact⟨x,adrs_mem.2 ⟨h3,h4⟩,h5.imp id fun h=>⟨h.1,by omega⟩⟩
def jumpsN (b:List Ty) (L:List Nat):Nat:=(L.filter fun x=>jumpsB (insA b x).op.val).length
def endsN (b:List Ty) (L:List Nat):Nat:=(L.filter fun x=>endsB (insA b x).op.val).length
theorem wants_len (b:List Ty):∀L:List Nat,(wantsL b L).length=jumpsN b L+endsN b L
 |[]=>rfl
 |x::r=>by
  have ih:=wants_len b r
  unfold jumpsN endsN at ih ⊢
  simp only[wantsL,List.length_append,ih,List.filter_cons]
  cases jumpsB (insA b x).op.val <;> cases endsB (insA b x).op.val <;> simp <;> omega
theorem few_plain {e:En} {loc:Int} {b:List Ty} {r:IS} (hl:LastP e loc b r) (hdj:∀x y,hasP r x→hasP r y→x<y→x+szA b x≤y) (hj:jumpsN b (adrs r b.length)=0) (he:endsN b (adrs r b.length)=1) (hlast:hasP r (b.length-1)) (h0:0<b.length):certE b r=[]:=by
 have hno:∀x∈adrs r b.length,jumpsB (insA b x).op.val=false:=fun x hx=>by
  unfold jumpsN at hj
  rw[List.length_eq_zero_iff,List.filter_eq_nil_iff] at hj
  simpa using hj x hx
 have hlm:b.length-1∈adrs r b.length:=adrs_mem.2 ⟨by omega,hlast⟩
 obtain⟨g1,g2,g3,g4⟩:=hl.goes _ hlast
 have hsz:1≤szA b (b.length-1)∧b.length-1+szA b (b.length-1)≤b.length:=(decF_ok g1).2.2
 have hle:endsB (insA b (b.length-1)).op.val=true:=by
  cases hc:endsB (insA b (b.length-1)).op.val with
  |true=>rfl
  |false=>have:=(next_behind g3 g1 hc).2; omega
 have huniq:∀x∈adrs r b.length,endsB (insA b x).op.val=true→x=b.length-1:=fun x hx hxe=>by
  unfold endsN at he
  obtain⟨z,hz⟩:=List.length_eq_one_iff.1 he
  have m1:x∈(adrs r b.length).filter fun x=>endsB (insA b x).op.val:=List.mem_filter.2 ⟨hx,hxe⟩
  have m2:b.length-1∈(adrs r b.length).filter fun x=>endsB (insA b x).op.val:=List.mem_filter.2 ⟨hlm,hle⟩
  rw[hz,List.mem_singleton] at m1 m2
  rw[m1,m2]
 unfold certE
 rw[List.map_eq_nil_iff,List.filter_eq_nil_iff]
 intro a ha hwant
 rw[List.mem_range] at ha
 obtain⟨x,x1,x2,x3⟩:=want_iff.1 hwant
 have hx:x∈adrs r b.length:=adrs_mem.2 ⟨x1,x2⟩
 rcases x3 with⟨x3,_⟩|⟨x3,x4⟩
 ·rw[hno x hx] at x3; cases x3
 ·have:=huniq x hx x3
  subst this
  omega
theorem enc_nil {loc:Int} (h:(encC loc []).2=0):(encC loc []).1.length=6:=by
 unfold encC at h ⊢
 by_cases h1:(checkC loc []).2=0
 ·rw[if_neg (by omega)]; rfl
 ·rw[if_pos h1] at h; exact absurd h h1
open Go.Proofs
open Go.Proofs
open Go.Proofs
def c21:CT (Tryz.f21.body.getD .skip):=⟨_,by conv=>lhs; cbv⟩
theorem F21:Fun1 Tryz.prog 21 112 c21.1 [.tmp 6,.tmp 7,.tmp 8]:=mkT Tryz.func21 rfl (by decide +kernel) Tryz.ntmps21 rfl c21.2 rfl
def c48:CT (Tryz.f48.body.getD .skip):=⟨_,by conv=>lhs; cbv⟩
theorem F48:Fun1 Tryz.prog 48 4 c48.1 [.tmp 2]:=mkT Tryz.func48 rfl (by decide +kernel) Tryz.ntmps48 rfl c48.2 rfl
end Go.AL
namespace Go.AL
open Go.Proofs Go.RowKit Go.Maps Go.WideElems Go.MapKept
theorem keys86 (b:Nat) (σ:St):RCall Tryz.prog 48 [.map b] σ fun d s'=>∃c,¬σ.has c∧d= .func (.func 72) [] [.ptr c 0]∧s'=σ.set c [.map b]:=by
 refine F48.rcall rfl fun T hT=> ?_
 simp -implicitDefEqProofs only[go_sem,c48,hT,frz]
 intro c hc
 exact⟨_,_,DLe.refl _,St.le.refl _,c,hc,rfl,rfl⟩
theorem sortedKb {H:Type} (c b nn:Nat) (D0:DataW H) (R:Value→Option (DataW H×List MemPlace)) (w:World) (hc:w.cell? ⟨c,0,none⟩=some (.map (some b))) (hcl:c<w.heap.size) (hown:w.ownsMap Tryz.prog 3 R b nn D0) (hmax:Maps.size D0≤maxLen) (hbytes:Maps.size D0*8≤140737488355328):
  Calls Tryz.prog 33 #[.func (.func 72) #[] #[.pointer (some ⟨c,0,none⟩)]] w fun e w'=>∃(v:Value) (ss:List Int),e= .returned v∧ss.Perm (intKeys D0)∧
   w'.ownsRow w.heap.size 3 1 v ss.length ((ss.mergeSort (fun x y=>decide (x≤y))).map encZ)∧(v= .slice none 0 0↔ss=[])∧Below w.heap.size w w':=by
 have hseq:SeqGives Fence.wide 2 Tryz.prog 72 #[.pointer (some ⟨c,0,none⟩)] encZ (fun ss=>ss.Perm (intKeys D0)) (Maps.size D0) w:=
  AnyZI.keys_gives (ρ:=Tryz.keysB_ren) {Tryz.keysB with} Fence.wide _ trivial rfl (by omega) c b nn D0 w hcl hc hown
 have cS:=AnyZI.sorted_in Tryz.sortedA Fence.wide 5 trivial trivial trivial trivial rfl (by omega) (sortsK _) (enters_of Tryz.func61 (by kernel_rfl) rfl) 72 #[.pointer (some ⟨c,0,none⟩)] trivial (enters_of Tryz.func72 (by kernel_rfl) rfl) _ _ hmax hbytes w hseq
 exact callsIn_wide.1 cS
theorem sorted80b (s:St) (c b:Nat) (ks:List (Ky×Nat)) (vs:List D) (clock:Nat) (hc:s.box c=some [.map b]) (hb:s.mp b=some (.map (some .i64) ks vs clock)) (hk:∀p∈ks,∃n,p.1=kyN n∧n≤5000) (hl:ks.length≤5000):
  RCall Tryz.prog 33 [.func (.func 72) [] [.ptr c 0]] s fun d s'=>d= .slice .no ((sortZ (ks.map fun p=>kyI p.1)).map fun z=>[eZ z])∧s'=s:=by
 refine⟨⟨_,Tryz.func33,by kernel_rfl,rfl⟩,fun M w vs' hi hv=> ?_⟩
 obtain⟨v,vs2,rfl,⟨vf,vc,rfl,hf,hcap⟩,hv2⟩:=hv
 obtain rfl:vs2=[]:=hv2
 have hf:vf.toList=[]:=hf
 obtain⟨pv,pr,hp1,hp2,hp3⟩:=hcap
 obtain rfl:pr=[]:=hp3
 have hp2:pv= .pointer (some ⟨c,0,none⟩):=hp2
 obtain rfl:vf= #[]:=by simpa using hf
 obtain rfl:vc= #[.pointer (some ⟨c,0,none⟩)]:=by
  apply Array.toList_inj.1; rw[hp1,hp2]
 obtain⟨hM,cc,e,hheap,hrep,hone⟩:=hi.box c _ hc
 obtain⟨v1,r1,hr1,hr2,hr3⟩:=hrep
 obtain rfl:r1=[]:=hr3
 have hr2:v1= .map (some b):=hr2
 have hcell:w.cell? ⟨c,0,none⟩=some (.map (some b)):=by
  refine cell_of hheap ?_
  rw[←Array.getElem?_toList,hr1,hr2]; rfl
 obtain⟨D0,o1,o2,o3⟩:=own_map (hi.mp b _ hb) hk hl
 have hmax:5000≤maxLen:=by decide
 refine(sortedKb c b 5000 D0 rdU w hcell (heap_lt hheap) o1 (by omega) (by omega)).mono fun ev w' ⟨v,ss,he,hp,hown,hnil,hbel⟩=> ?_
 subst he
 obtain⟨k1,k2⟩:=below_keep hi hbel
 refine⟨M,s,.ret _,⟨v,rfl, ?_⟩,k1,k2,_,rfl,rfl,rfl⟩
 have hss:ss.mergeSort (fun x y=>decide (x≤y))=sortZ (ks.map fun p=>kyI p.1):=mergeSort_of_perm_i (hp.trans o3)
 rw[hss] at hown
 have hlen:(sortZ (ks.map fun p=>kyI p.1)).length=ss.length:=by rw[←hss,List.length_mergeSort]
 generalize sortZ (ks.map fun p=>kyI p.1)=zs at hown hlen
 obtain⟨ho1,ho2⟩:=hown
 rcases ho2 with⟨rfl,h0⟩|⟨g,cap,cur,rfl,hg,hcur,hle,hcm,hcs,htake⟩
 ·refine .inl ⟨rfl, ?_⟩
  rw[h0] at hlen
  rw[List.eq_nil_of_length_eq_zero hlen]; rfl
 ·refine .inr (.inl ⟨g,0,cap,1,by simp[hlen],by simpa[hlen] using hle, ?_⟩)
  have hMg:M g=none:=by
   cases hm:M g with
   |none=>rfl
   |some x=>have:=hi.dom g (by rw[hm]; simp); omega
  refine RepRows.mk fun i r hr=> ?_
  rw[List.getElem?_map] at hr
  cases hz:zs[i]? with
  |none=>rw[hz] at hr; simp at hr
  |some z=>
   rw[hz] at hr
   simp only[Option.map_some,Option.some.injEq] at hr
   subst hr
   refine⟨rfl,RepCells.mk fun j d hd=> ?_⟩
   cases j with
   |succ j=>simp at hd
   |zero=>
    simp only[List.getElem?_cons_zero,Option.some.injEq] at hd
    subst hd
    refine⟨encZ z, ?_,rfl,by simp[ImmAt,hMg],rfl⟩
    have h1:(cur.toList.take (ss.length*1))[i]? =some (encZ z):=by rw[htake,List.getElem?_map,hz]; rfl
    rw[List.getElem?_take] at h1
    split at h1
    ·refine cell_of hcur ?_
     rw[←Array.getElem?_toList]
     simpa using h1
    ·cases h1
end Go.AL
