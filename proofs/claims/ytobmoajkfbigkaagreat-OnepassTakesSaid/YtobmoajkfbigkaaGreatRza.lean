import Derived.Test.YtobmoajkfbigkaaGreatRz
import Derived.Test.YtobmoajkfbigkaaGreatRu
import Derived.Test.YtobmoajkfbigkaaGreatRw
set_option linter.unusedSimpArgs false
set_option linter.unusedVariables false
set_option maxRecDepth 100000
set_option maxHeartbeats 4000000
set_option linter.defProp false
namespace Go.AL
open Go.Proofs
def bYhpD0:=aI @gdD (aI @eCz_len (aI @zf9 (aI @eCz_0 @eCz_1)))
def bYhpD1:=aI @gdD (aI @eCz_len (aI @zf9 (aI @eCz_0 (aI @eCz_1 (aI @za2 (aI @ey_0 (aI @ey_1 (aI @ey_fr (aI @ey_26 (aI @zb4 @za8))))))))))
def bYhpD2:=aI @gdD (aI @eCz_len (aI @zf9 (aI @eCz_0 (aI @eCz_1 (aI @za2 (aI @ey_0 (aI @ey_1 (aI @ey_fr (aI @ey_26 (aI @zb4 (aI @za8 (aI @eq_fr0 (aI @eqG84 @zb8)))))))))))))
theorem check130 (loc:Int) (es:List Ey) (hl:es.length≤140737488355328):PCall Tryz.prog 130 [.agg (eCz loc es)] (.tup [.int .i64 (checkC loc es).1,.int .i64 (checkC loc es).2]):=by
 refine F130.pcallM rfl fun T hT=> ?_
 by_cases h1:loc<0
 ·have g1:(loc<0)=True:=eq_true h1
  rw[show checkC loc es=(0,5) by unfold checkC; rw[if_pos (.inl h1)]]
  simp -implicitDefEqProofs only[go_sem,mmB,c130,hT,Nat.mul_one,Nat.add_zero,Nat.zero_add,g1,bYhpD0]
  exact DLe.refl _
 have g1:(loc<0)=False:=eq_false h1
 by_cases h2:16<loc
 ·have g2:((16:Int)<loc)=True:=eq_true h2
  rw[show checkC loc es=(0,5) by unfold checkC; rw[if_pos (.inr h2)]]
  simp -implicitDefEqProofs only[go_sem,mmB,c130,hT,Nat.mul_one,Nat.add_zero,Nat.zero_add,g1,g2,bYhpD0]
  exact DLe.refl _
 have g2:((16:Int)<loc)=False:=eq_false h2
 by_cases h3:4096<es.length
 ·have g3:((4096:Int)<es.length)=True:=eq_true (by omega)
  rw[show checkC loc es=(4096,4) by unfold checkC; rw[if_neg (by omega),if_pos h3]]
  simp -implicitDefEqProofs only[go_sem,mmB,c130,hT,Nat.mul_one,Nat.add_zero,Nat.zero_add,g1,g2,g3,bYhpD0]
  exact DLe.refl _
 have g3:((4096:Int)<es.length)=False:=eq_false (by omega)
 obtain⟨n,rfl⟩:∃n:Nat,loc=n:=⟨loc.toNat,by omega⟩
 rw[show checkC n es=chkC n (-1) 0 es by unfold checkC; rw[if_neg (by omega),if_neg h3]]
 simp -implicitDefEqProofs only[go_sem,mmB,c130,hT,Nat.mul_one,Nat.add_zero,Nat.zero_add,g1,g2,g3,bYhpD0]
 intro b1
 refine loopL F130 (fun i:Nat=>[(1,.ptr b1 0),(4,.int .i64 (lastP es i)),(21,.slice .no (rws eEy es)),(22,.int .i64 es.length),(23,.int .i64 i)]) (fun _=>({}:St).set b1 (eCz n es))
  (fun i=>i≤es.length∧chkC n (lastP es i) i (es.drop i)=chkC n (-1) 0 es) (fun i=>es.length-i) 0 ⟨Nat.zero_le _,rfl⟩ ?_ (St.le.refl _) ?_
 ·simp -implicitDefEqProofs only[go_sem,hT,Nat.mul_one,Nat.add_zero,Nat.zero_add,bYhpD0]
  exact⟨rfl,rfl⟩
 clear hT T
 rintro i ⟨hi,hc⟩ T hT
 by_cases h:i<es.length
 case neg=>
  have g5:((i:Int)<es.length)=False:=eq_false (by omega)
  rw[←hc,List.drop_eq_nil_of_le (by omega)]
  simp -implicitDefEqProofs only[go_sem,hT,g5,Nat.mul_one,Nat.add_zero,Nat.zero_add,bYhpD0]
  exact DLe.refl _
 have g5:((i:Int)<es.length)=True:=eq_true (by omega)
 have w3:IntKind.wrap .i64 ((i:Int)+1)=((i+1:Nat):Int):=by rw[zc2 (by omega) (by omega)]; simp
 have hget:=rws_at (enc:=eEy) h
 have hst:=chk_step (loc:=n) h
 rw[hc] at hst
 generalize hL:lastP es i=L at *
 have hnext:=lastP_succ h
 generalize hx:es[i]=x at *
 have base:∀(b6:Nat) (c:List D),¬b6=b1→St.le (({}:St).set b1 (eCz n es)) ((({}:St).set b1 (eCz n es)).set b6 c):=fun b6 c hb=>le_add (fun h=>(set_has.1 h).elim hb (St.not_has_nil _))
 simp -implicitDefEqProofs only[go_sem,hT,g5,gdD,Nat.mul_one,Nat.add_zero,Nat.zero_add,eCz_len,zf9,eCz_0,eCz_1,hget,zb4,za8]
 refine⟨by omega,fun b6 n1 n2=> ?_⟩
 simp -implicitDefEqProofs only[go_sem,hT,Nat.mul_one,Nat.add_zero,Nat.zero_add,n1,n2,bYhpD1]
 refine za3 (rises165 L x.pos) ?_
 by_cases g6:afterE x.pos L=0
 case neg=>
  have g6':((afterE x.pos L:Int)=0)=False:=eq_false (by omega)
  rw[if_pos g6] at hst
  rw[hst]
  simp -implicitDefEqProofs only[go_sem,hT,g6',Nat.mul_one,Nat.add_zero,Nat.zero_add,n1,n2,bYhpD1]
  done
 have g6':((afterE x.pos L:Int)=0)=True:=eq_true (by omega)
 rw[if_neg (by omega)] at hst
 cases hd:x.dead with
 |true=>
  rw[bodyE_dead hd] at hst
  by_cases hf:x.fr=fr0 0
  ·have g1:(decide (x.fr=fr0 0))=true:=decide_eq_true hf
   rw[if_pos hf,if_neg (by simp)] at hst
   simp -implicitDefEqProofs only[go_sem,mmB,hT,g6',Nat.mul_one,Nat.add_zero,Nat.zero_add,n1,n2,hd,g1,bYhpD2]
   exact⟨i+1,⟨by omega,hst.symm⟩,by omega,⟨by rw[hnext],by rw[w3]⟩,base b6 _ n1⟩
  ·have g1:(decide (x.fr=fr0 0))=false:=decide_eq_false hf
   rw[if_neg hf,if_pos (by simp)] at hst
   rw[hst]
   simp -implicitDefEqProofs only[go_sem,mmB,hT,g6',Nat.mul_one,Nat.add_zero,Nat.zero_add,n1,n2,hd,g1,bYhpD2]
   exact DLe.refl _
 |false=>
  rw[bodyE_live hd] at hst
  simp -implicitDefEqProofs only[go_sem,mmB,hT,g6',Nat.mul_one,Nat.add_zero,Nat.zero_add,n1,n2,hd,bYhpD2]
  refine za3 (frame166 n x.fr (by omega)) ?_
  by_cases g7:frameE n x.fr=0
  case neg=>
   have g7':((frameE n x.fr:Int)=0)=False:=eq_false (by omega)
   rw[if_pos g7] at hst
   rw[hst]
   simp -implicitDefEqProofs only[go_sem,mmB,hT,g7',Nat.mul_one,Nat.add_zero,Nat.zero_add,n1,n2,bYhpD1]
  have g7':((frameE n x.fr:Int)=0)=True:=eq_true (by omega)
  rw[if_neg (by omega)] at hst
  simp -implicitDefEqProofs only[go_sem,mmB,hT,g7',Nat.mul_one,Nat.add_zero,Nat.zero_add,n1,n2,bYhpD1]
  exact⟨i+1,⟨by omega,hst.symm⟩,by omega,⟨by rw[hnext],by rw[w3]⟩,base b6 _ n1⟩
open Go.Proofs
def byT (n:Nat):Ty:=⟨n%256,by omega⟩
def bytesE (loc:Nat) (x:Ey):List Ty:=byT (x.pos.toNat/256)::byT x.pos.toNat::(if x.dead=true then [0] else 1::byT x.fr.h.toNat::x.fr.sl.toList.take (loc+x.fr.h.toNat))
def headB (loc n:Nat):List Ty:=[112,118,1,byT loc,byT (n/256),byT n]
def encB (loc:Nat) (es:List Ey):List Ty:=headB loc es.length++es.flatMap (bytesE loc)
def encC (loc:Int) (es:List Ey):List Ty×Nat:=if(checkC loc es).2≠0 then([],(checkC loc es).2) else(encB loc.toNat es,0)
theorem wrap_u8m (z:Int):IntKind.wrap .u8 z=z%256:=by simp[IntKind.wrap,IntKind.bits,IntKind.signed]
theorem byT_val (n:Nat):((byT n).val:Int)=IntKind.wrap .u8 (n:Int):=by rw[wrap_u8m]; simp[byT]
def brD (o:Option Nat) (bs:List Ty):D:=match o with
 |none=> .slice .exact (rws eT bs)
 |some b=> .slice (.buf b 1) (rws eT bs)
section
variable {N : Nat} {d : Option Nat} {K : Env → St → Prop} {T : Env} {σ : St}
theorem br_app {o:Option Nat} {bs ys:List Ty} {ow:Own} {base:St} (hb:grN o base) (hle:St.le (grS 1 bs.length o base) σ) (hy:ys≠[]) (hl:(bs++ys).length≤1000000)
  (hk:∀b' σ',σ'.box=σ.box→St.le (grS 1 (bs++ys).length (some b') base) σ'→grN (some b') base→putK N d (brD (some b') (bs++ys)) K T σ'):
  appendA Tryz.prog N d 26 26 (brD o bs) (.slice ow (rws eT ys)) K T σ:=by
 have hyr:∀r∈rws eT ys,r.length=1:=fun r hr=>by
  rw[rws,List.mem_map] at hr
  obtain⟨t,_,rfl⟩:=hr; rfl
 have hbr:∀r∈rws eT bs,r.length=1:=fun r hr=>by
  rw[rws,List.mem_map] at hr
  obtain⟨t,_,rfl⟩:=hr; rfl
 have hap:rws eT bs++rws eT ys=rws eT (bs++ys):=rws_app ..
 rw[List.length_append] at hl
 cases o with
 |none=>
  have hyn:rws eT ys≠[]:=fun h=>hy (by simpa[rws] using h)
  simp only[brD,app_exact,Tryz.sli26,Tryz.sz5,Tryz.by5,Tryz.zero5,Option.map_some,true_and,za0,hap]
  refine⟨rfl,by omega,by omega,hyr,by omega,hbr,fun h=>absurd h hyn,fun _ b' hb'=> ?_⟩
  have:=hk b' (σ.setBuf b' 1 (bs.length+ys.length)) rfl (by
   rw[List.length_append]
   exact le_setBuf hle) (fun c hc=>by cases hc; exact fun h=>hb' (hle.has h))
  exact this
 |some b=>
  refine app_gr' Tryz.sli26 Tryz.sz5 Tryz.by5 Tryz.zero5 rfl (n:=bs.length) (m:=ys.length) (base:=base) (o:=some b) (by rw[za0]) (by rw[za0]) hle hb (fun h=>by cases h) hyr (by omega) fun o' σ' h1 h2 h3 h4=> ?_
  cases o' with
  |none=>exfalso; have:=h4 rfl; exact hy (List.eq_nil_of_length_eq_zero (by omega))
  |some b'=>
   have:=hk b' σ' h1 (by rw[List.length_append]; exact h2) h3
   rw[hap]; exact this
end
theorem frame_zero {loc:Int} {f:Fr} (h:frameE loc f=0):f.loc=loc∧0≤f.h∧f.h≤24-loc:=by
 unfold frameE at h
 split at h
 ·cases h
 ·rename_i hc; omega
theorem after_zero {a l:Int} (h:afterE a l=0):0≤a∧a≤4095∧l<a:=by
 unfold afterE at h
 split at h
 ·cases h
 split at h
 ·cases h
 split at h
 ·cases h
 ·omega
theorem chk_ok {loc:Int}:∀{es:List Ey} {last:Int} {i:Nat},(chkC loc last i es).2=0→∀x∈es,(0≤x.pos∧x.pos≤4095)∧bodyE loc x=0
 |[],_,_,_,x,hx=>by cases hx
 |y::r,last,i,h,x,hx=>by
  rw[chkC] at h
  by_cases h1:afterE y.pos last=0
  case neg=>rw[if_pos h1] at h; exact absurd h h1
  rw[if_neg (by omega)] at h
  by_cases h2:bodyE loc y=0
  case neg=>rw[if_pos h2] at h; exact absurd h h2
  rw[if_neg (by omega)] at h
  rcases List.mem_cons.1 hx with rfl|hx
  ·have:=after_zero h1
   exact⟨⟨this.1,this.2.1⟩,h2⟩
  ·exact chk_ok h x hx
theorem check_ok {loc:Int} {es:List Ey} (h:(checkC loc es).2=0):∃n:Nat,loc=n∧n≤16∧es.length≤4096∧∀x∈es,∃p:Nat,x.pos=p∧p≤4095∧(x.dead=true∧x.fr=fr0 0∨x.dead=false∧∃k:Nat,x.fr.h=k∧x.fr.loc=n∧n+k≤24):=by
 unfold checkC at h
 split at h
 ·cases h
 split at h
 ·cases h
 obtain⟨n,rfl⟩:∃n:Nat,loc=n:=⟨loc.toNat,by omega⟩
 refine⟨n,rfl,by omega,by omega,fun x hx=> ?_⟩
 obtain⟨⟨h1,h2⟩,h3⟩:=chk_ok h x hx
 refine⟨x.pos.toNat,by omega,by omega, ?_⟩
 cases hd:x.dead with
 |true=>
  rw[bodyE_dead hd] at h3
  by_cases hf:x.fr=fr0 0
  ·exact .inl ⟨rfl,hf⟩
  ·rw[if_neg hf] at h3; cases h3
 |false=>
  rw[bodyE_live hd] at h3
  obtain⟨f1,f2,f3⟩:=frame_zero h3
  exact .inr ⟨rfl,x.fr.h.toNat,by omega,f1,by omega⟩
theorem bytes_len (n:Nat) (x:Ey):(bytesE n x).length≤28:=by
 unfold bytesE
 split
 ·simp
 ·simp only[List.length_cons,List.length_take,Vector.length_toList]; omega
theorem flat_len (n:Nat):∀es:List Ey,(es.flatMap (bytesE n)).length≤28*es.length
 |[]=>by simp
 |x::r=>by
  have h1:=bytes_len n x
  have h2:=flat_len n r
  simp only[List.flatMap_cons,List.length_append,List.length_cons]; omega
theorem flat_take {n:Nat} {es:List Ey} {i:Nat} (h:i<es.length):(es.take (i+1)).flatMap (bytesE n)=(es.take i).flatMap (bytesE n)++bytesE n es[i]:=by
 rw[List.take_add_one,List.getElem?_eq_getElem h,List.flatMap_append]; simp[List.flatMap_cons]
theorem quo256 {p:Nat} (h:p≤100000):IntKind.wrap .u8 (IntKind.wrap .i64 ((p:Int).tdiv 256))=((byT (p/256)).val:Int):=by
 rw[byT_val,Int.tdiv_eq_ediv_of_nonneg (by omega),zc2 (by omega) (by omega)]; rfl
theorem rem256 {p:Nat}:IntKind.wrap .u8 ((p:Int).tmod 256)=((byT p).val:Int):=by
 rw[byT_val,Int.tmod_eq_emod_of_nonneg (by omega),wrap_u8m,wrap_u8m]; omega
def bYhpE0:=aI @gdD (aI @eCz_len (aI @zf9 (aI @eCz_0 @eCz_1)))
theorem refEncode25 (loc:Int) (es:List Ey) (hl:es.length≤140737488355328):PCall Tryz.prog 25 [.agg (eCz loc es)] (.tup [.slice .no (rws eT (encC loc es).1),.int .i64 (encC loc es).2]):=by
 refine F25.pcallM rfl fun T hT=> ?_
 simp -implicitDefEqProofs only[go_sem,c25,hT,Nat.mul_one,Nat.add_zero,Nat.zero_add,bYhpE0]
 refine fun b1=>za3 (refCheck66 loc es hl) ?_
 by_cases h0:(checkC loc es).2=0
 case neg=>
  have g0:(((checkC loc es).2:Int)=0)=False:=eq_false (by omega)
  rw[show encC loc es=([],(checkC loc es).2) by unfold encC; rw[if_pos h0]]
  simp -implicitDefEqProofs only[go_sem,hT,g0]
  exact DLe.tup (.cons (DLe.slice _ _) (.cons (DLe.refl _) .nil))
 have g0:(((checkC loc es).2:Int)=0)=True:=eq_true (by omega)
 rw[show encC loc es=(encB loc.toNat es,0) by unfold encC; rw[if_neg (by omega)]]
 obtain⟨n,rfl,hn,hes,hall⟩:=check_ok h0
 rw[Int.toNat_natCast]
 have q1:IntKind.wrap .u8 (n:Int)=((byT n).val:Int):=(byT_val n).symm
 have q2:=quo256 (p:=es.length) (by omega)
 have q3:=rem256 (p:=es.length)
 simp -implicitDefEqProofs only[go_sem,hT,g0,Nat.mul_one,Nat.add_zero,Nat.zero_add,frz,q1,q2,q3,bYhpE0]
 have hst:∀i,i≤es.length→(headB n es.length++(es.take i).flatMap (bytesE n)).length≤200000:=fun i hi=>by
  have:=flat_len n (es.take i)
  rw[List.length_take] at this
  simp only[List.length_append,headB,List.length_cons,List.length_nil]; omega
 refine loopL F25 (fun x:Nat×Option Nat=>[(1,.ptr b1 0),(6,.int .i64 es.length),(7,brD x.2 (headB n es.length++(es.take x.1).flatMap (bytesE n))),(8,.int .i64 x.1)])
  (fun x=>grS 1 (headB n es.length++(es.take x.1).flatMap (bytesE n)).length x.2 (({}:St).set b1 (eCz n es))) (fun x=>x.1≤es.length∧grN x.2 (({}:St).set b1 (eCz n es))) (fun x=>es.length-x.1) (0,none) ⟨Nat.zero_le _,grN_none⟩ ?_ (St.le.refl _) ?_
 ·simp -implicitDefEqProofs only[go_sem,hT,Nat.mul_one,Nat.add_zero,Nat.zero_add,bYhpE0]
  exact⟨rfl,rfl⟩
 clear hT T
 rintro⟨i,o⟩ ⟨hi,ho⟩ T hT
 simp only at hi ho hT ⊢
 obtain⟨bs,hbs⟩:∃bs,headB n es.length++(es.take i).flatMap (bytesE n)=bs:=⟨_,rfl⟩
 have hbl:=hst i hi
 rw[hbs] at hT hbl ⊢
 have kb:∀{m:Nat} {o:Option Nat},(grS 1 m o (({}:St).set b1 (eCz n es))).box b1=some (eCz n es):=fun {m o}=>by rw[grS_boxa]; simp[St.set_box]
 by_cases h:i<es.length
 case neg=>
  have g5:((i:Int)<es.length)=False:=eq_false (by omega)
  have hfin:encB n es=bs:=by rw[←hbs,List.take_of_length_le (by omega)]; rfl
  rw[hfin]
  simp -implicitDefEqProofs only[go_sem,hT,g5,Nat.mul_one,Nat.add_zero,Nat.zero_add,bYhpE0]
  cases o with
  |none=>exact DLe.tup (.cons (DLe.slice _ _) (.cons (DLe.refl _) .nil))
  |some b=>exact DLe.tup (.cons (DLe.slice _ _) (.cons (DLe.refl _) .nil))
 have g5:((i:Int)<es.length)=True:=eq_true (by omega)
 have w3:IntKind.wrap .i64 ((i:Int)+1)=((i+1:Nat):Int):=by rw[zc2 (by omega) (by omega)]; simp
 have hget:=rws_at (enc:=eEy) h
 have hnext:=flat_take (n:=n) h
 obtain⟨p,hp,hp4,hx⟩:=hall es[i] (List.getElem_mem h)
 generalize es[i]=x at *
 have q4:=quo256 (p:=p) (by omega)
 have q5:=rem256 (p:=p)
 simp -implicitDefEqProofs only[go_sem,hT,g5,gdD,Nat.mul_one,Nat.add_zero,Nat.zero_add,eCz_len,zf9,eCz_0,eCz_1,kb,hget,zb4,za8]
 refine⟨by omega,fun b9 hb9=> ?_⟩
 have hb91:¬b9=b1:=fun he=>hb9 (by rw[grS_has]; exact .inr (by rw[set_has]; exact .inl he))
 have hno:¬(({}:St).set b1 (eCz n es)).has b9:=fun hh=>hb9 (by rw[grS_has]; exact .inr hh)
 have hgn:grN o ((({}:St).set b1 (eCz n es)).set b9 (eEy x)):=fun c hc hh=>by
  rcases set_has.1 hh with rfl|hh
  ·exact hb9 (by rw[grS_has]; exact .inl hc)
  ·exact ho c hc hh
 have hS:∀{m:Nat} {o:Option Nat},(grS 1 m o ((({}:St).set b1 (eCz n es)).set b9 (eEy x))).box b9=some (eEy x):=fun {m o}=>by rw[grS_boxa]; simp[St.set_box]
 simp -implicitDefEqProofs only[go_sem,hT,gdD,Nat.mul_one,Nat.add_zero,Nat.zero_add,eCz_len,zf9,eCz_0,eCz_1,hb91,Ne.symm hb91,ey_0,ey_1,ey_fr,ey_26,grS_set,za2,hS,hp,q4,q5,frz]
 refine br_app (ys:=[byT (p/256),byT p]) hgn (St.le.refl _) (by simp) (by simp; omega) fun c2 σ2 hbox2 hle2 hg2=> ?_
 have k2:σ2.box b9=some (eEy x):=by rw[hbox2]; exact hS
 have hbase:∀{m c:Nat},St.le (grS 1 m (some c) (({}:St).set b1 (eCz n es))) (grS 1 m (some c) ((({}:St).set b1 (eCz n es)).set b9 (eEy x))):=fun {m c}=>le_setBuf (le_add hno)
 have hgb:∀{c:Nat},grN (some c) ((({}:St).set b1 (eCz n es)).set b9 (eEy x))→grN (some c) (({}:St).set b1 (eCz n es)):=fun {c} h c' hc hh=>h c' hc (set_has.2 (.inr hh))
 have hpn:x.pos.toNat=p:=by omega
 rcases hx with⟨hd,hf⟩|⟨hd,k,hk,hfl,hnk⟩
 ·have hby:bytesE n x=[byT (p/256),byT p,0]:=by unfold bytesE; rw[if_pos hd,hpn]
  simp -implicitDefEqProofs only[go_sem,hT,gdD,Nat.mul_one,Nat.add_zero,Nat.zero_add,eCz_len,zf9,eCz_0,eCz_1,hb91,Ne.symm hb91,ey_0,ey_1,ey_fr,ey_26,grS_set,za2,k2,hd,frz]
  refine br_app (ys:=[0]) hg2 hle2 (by simp) (by simp; omega) fun c3 σ3 hbox3 hle3 hg3=> ?_
  have hfin:headB n es.length++(es.take (i+1)).flatMap (bytesE n)=bs++[byT (p/256),byT p]++[0]:=by
   rw[hnext,←List.append_assoc,hbs,hby]; simp
  simp -implicitDefEqProofs only[go_sem,hT,Nat.mul_one,Nat.add_zero,Nat.zero_add,w3,bYhpE0]
  exact⟨(i+1,some c3),⟨by simp only; omega,hgb hg3⟩,by simp only; omega,⟨by simp only[hfin],rfl⟩,by simp only[hfin]; exact hbase.trans hle3⟩
 have q6:IntKind.wrap .u8 (k:Int)=((byT k).val:Int):=(byT_val k).symm
 have hkn:x.fr.h.toNat=k:=by omega
 have hby:bytesE n x=[byT (p/256),byT p]++[1,byT k]++x.fr.sl.toList.take (n+k):=by unfold bytesE; rw[if_neg (by rw[hd]; simp),hpn,hkn]; rfl
 simp -implicitDefEqProofs only[go_sem,hT,gdD,Nat.mul_one,Nat.add_zero,Nat.zero_add,eCz_len,zf9,eCz_0,eCz_1,hb91,Ne.symm hb91,ey_0,ey_1,ey_fr,ey_26,grS_set,za2,k2,hd,frz,ey_3,hk,q6]
 refine br_app (ys:=[1,byT k]) hg2 hle2 (by simp) (by simp; omega) fun c3 σ3 hbox3 hle3 hg3=> ?_
 have k3:σ3.box b9=some (eEy x):=by rw[hbox3]; exact k2
 obtain⟨b3,hb3⟩:∃b3,bs++[byT (p/256),byT p]++[1,byT k]=b3:=⟨_,rfl⟩
 have hb3l:b3.length≤200004:=by rw[←hb3]; simp; omega
 have w4:IntKind.wrap .i64 ((n:Int)+k)=((n+k:Nat):Int):=by rw[zc2 (by omega) (by omega)]; simp
 rw[hb3] at hle3 ⊢
 simp -implicitDefEqProofs only[go_sem,hT,Nat.mul_one,Nat.add_zero,Nat.zero_add,bYhpE0]
 refine loopL F25 (fun y:Nat×Nat=>[(1,.ptr b1 0),(6,.int .i64 es.length),(7,brD (some y.2) (b3++x.fr.sl.toList.take y.1)),(8,.int .i64 i),(9,.ptr b9 0),(10,.int .i64 y.1)])
  (fun y=>grS 1 (b3++x.fr.sl.toList.take y.1).length (some y.2) ((({}:St).set b1 (eCz n es)).set b9 (eEy x))) (fun y=>y.1≤n+k∧grN (some y.2) ((({}:St).set b1 (eCz n es)).set b9 (eEy x))) (fun y=>n+k-y.1) (0,c3) ⟨Nat.zero_le _,hg3⟩ ?_ (by simpa using hle3) ?_
 ·simp -implicitDefEqProofs only[go_sem,hT,Nat.mul_one,Nat.add_zero,Nat.zero_add,List.take_zero,bYhpE0]
  exact rfl
 clear hT T
 rintro⟨j,c⟩ ⟨hj,hgc⟩ T hT
 simp only at hj hgc hT ⊢
 have k4:∀{m:Nat} {o:Option Nat},(grS 1 m o ((({}:St).set b1 (eCz n es)).set b9 (eEy x))).box b9=some (eEy x):=hS
 by_cases h':j<n+k
 ·have g6:((j:Int)<((n+k:Nat):Int))=True:=eq_true (by omega)
  have w5:IntKind.wrap .i64 ((j:Int)+1)=((j+1:Nat):Int):=by rw[zc2 (by omega) (by omega)]; simp
  have hat:(eEy x)[4+j]? =some (.int .u8 ((slAt x.fr j).val:Int)):=by
   have:=fr_sl x.fr (i:=j) (by omega)
   rw[show 4+j=2+j+1+1 by omega]; exact this
  have hnx:x.fr.sl.toList.take (j+1)=x.fr.sl.toList.take j++[slAt x.fr j]:=by
   have hjl:j<x.fr.sl.toList.length:=by simp; omega
   rw[List.take_add_one,slAt,List.getElem?_eq_getElem hjl]; rfl
  simp -implicitDefEqProofs only[go_sem,hT,gdD,Nat.mul_one,Nat.add_zero,Nat.zero_add,eCz_len,zf9,eCz_0,eCz_1,k4,ey_2,ey_3,hfl,hk,w4,g6,hat,frz]
  refine⟨by omega,br_app (ys:=[slAt x.fr j]) hgc (St.le.refl _) (by simp) (by simp; omega) fun c4 σ4 hbox4 hle4 hg4=> ?_⟩
  simp -implicitDefEqProofs only[go_sem,hT,Nat.mul_one,Nat.add_zero,Nat.zero_add,w5,bYhpE0]
  rw[List.append_assoc,←hnx] at hle4 ⊢
  exact⟨(j+1,c4),⟨by simp only; omega,hg4⟩,by simp only; omega,⟨rfl,rfl⟩,hle4⟩
 have g6:((j:Int)<((n+k:Nat):Int))=False:=eq_false (by omega)
 have hfin:headB n es.length++(es.take (i+1)).flatMap (bytesE n)=b3++x.fr.sl.toList.take j:=by
  rw[hnext,←List.append_assoc,hbs,hby,←hb3,show j=n+k by omega]; simp
 simp -implicitDefEqProofs only[go_sem,hT,gdD,Nat.mul_one,Nat.add_zero,Nat.zero_add,eCz_len,zf9,eCz_0,eCz_1,k4,ey_2,ey_3,hfl,hk,w4,g6,w3]
 exact⟨(i+1,some c),⟨by simp only; omega,hgb hgc⟩,by simp only; omega,⟨by simp only[hfin],rfl⟩,by simp only[hfin]; exact hbase⟩
open Go.Proofs
def wantX (b:List Ty) (x a:Nat):Bool:=(jumpsB (insA b x).op.val&&decide ((insA b x).a=(a:Int)))||(endsB (insA b x).op.val&&decide (x+szA b x=a))
def wantL (b:List Ty) (L:List Nat) (a:Nat):Bool:=L.any fun x=>wantX b x a
def hasB (s:IS) (a:Nat):Bool:=(s.has[a]?).getD false
def entA (s:IS) (a:Nat):Ey:=if hasB s a=true then⟨(a:Int),false,frA s a⟩ else⟨(a:Int),true,fr0 0⟩
def certE (b:List Ty) (s:IS):List Ey:=((List.range b.length).filter (wantL b (adrs s b.length))).map (entA s)
def emitD (e:En) (loc:Int) (b:List Ty):List Ty×Int×Nat:=
 if(inferD e loc b).2.2≠0 then([],(inferD e loc b).2.1,(inferD e loc b).2.2)
 else((encC loc (certE b (goneD e loc b).1)).1,0,(encC loc (certE b (goneD e loc b).1)).2)
theorem range_set {f:Nat→Bool} {m c:Nat} (h:c<m):(List.range m).map (fun a=>f a||decide (c=a))=((List.range m).map f).set c true:=by
 apply List.ext_getElem
 ·simp
 ·intro i h1 h2
  simp only[List.getElem_map,List.getElem_range,List.getElem_set]
  by_cases he:c=i
  ·simp[he]
  ·simp[he]
theorem wantL_snoc (b:List Ty) (L:List Nat) (x a:Nat):wantL b (L++[x]) a=(wantL b L a||wantX b x a):=by simp[wantL]
theorem marks_step {b:List Ty} {L:List Nat} {x m:Nat} (h1:jumpsB (insA b x).op.val=true→0≤(insA b x).a∧(insA b x).a<m) (h2:endsB (insA b x).op.val=true→x+szA b x<m):
  (List.range m).map (wantL b (L++[x]))=
   (if endsB (insA b x).op.val=true then(if jumpsB (insA b x).op.val=true then((List.range m).map (wantL b L)).set (insA b x).a.toNat true else(List.range m).map (wantL b L)).set (x+szA b x) true
    else if jumpsB (insA b x).op.val=true then((List.range m).map (wantL b L)).set (insA b x).a.toNat true else(List.range m).map (wantL b L)):=by
 have e1:jumpsB (insA b x).op.val=true→((List.range m).map (wantL b L)).set (insA b x).a.toNat true=(List.range m).map fun a=>wantL b L a||decide ((insA b x).a=(a:Int)):=fun hj=>by
  obtain⟨q1,q2⟩:=h1 hj
  rw[←range_set (f:=wantL b L) (c:=(insA b x).a.toNat) (by omega)]
  refine List.map_congr_left fun a _=> ?_
  congr 1
  rw[decide_eq_decide]
  omega
 cases he:endsB (insA b x).op.val <;> cases hj:jumpsB (insA b x).op.val
 ·simp only[Bool.false_eq_true,if_false]
  refine List.map_congr_left fun a _=> ?_
  rw[wantL_snoc,wantX,he,hj]; simp
 ·simp only[Bool.false_eq_true,if_false,if_true]
  rw[e1 hj]
  refine List.map_congr_left fun a _=> ?_
  rw[wantL_snoc,wantX,he,hj]; simp
 ·simp only[Bool.false_eq_true,if_false,if_true]
  rw[←range_set (h2 he)]
  refine List.map_congr_left fun a _=> ?_
  rw[wantL_snoc,wantX,he,hj]; simp
 ·simp only[if_true]
  rw[e1 hj,←range_set (h2 he)]
  refine List.map_congr_left fun a _=> ?_
  rw[wantL_snoc,wantX,he,hj]; simp[Bool.or_assoc]
theorem eIn_0 (i:Ins):(eIn i)[0]? =some (.int .i64 i.pos):=rfl
theorem eIn_2 (i:Ins):(eIn i)[2]? =some (.int .i64 i.a):=rfl
theorem hasB_iff {s:IS} {a:Nat}:hasB s a=true↔hasP s a:=Iff.rfl
theorem adrs_mem {s:IS} {n a:Nat}:a∈adrs s n↔a<n∧hasP s a:=by
 unfold adrs
 rw[List.mem_filter,List.mem_range]; rfl
theorem last_leads {e:En} {loc:Int} {b:List Ty} {r:IS} (h:LastP e loc b r) {x:Nat} (hx:x∈adrs r b.length):
  (decF b x).2=0∧(jumpsB (insA b x).op.val=true→0≤(insA b x).a∧(insA b x).a<b.length)∧x+szA b x≤b.length:=by
 obtain⟨_,hh⟩:=adrs_mem.1 hx
 obtain⟨h1,_,h3,_⟩:=h.goes x hh
 refine⟨h1,fun hj=>⟨jumps_a h1 hj, ?_⟩,(decF_ok h1).2.2.2⟩
 refine Classical.byContradiction fun hc=> ?_
 unfold onD at h3
 unfold insA at hj hc
 simp only at h3
 rw[if_pos ⟨hj,by omega⟩] at h3
 cases h3
theorem cert_len (b:List Ty) (s:IS):(certE b s).length≤b.length:=by
 unfold certE
 rw[List.length_map]
 have:=List.length_filter_le (wantL b (adrs s b.length)) (List.range b.length)
 rw[List.length_range] at this; exact this
open Go.Proofs
def DisI (b:List Ty) (s:IS):Prop:=(∀x,hasP s x→¬newP s x→(s.tk[x]?).getD 0=szA b x)∧∀x y,(s.tk[x]?).getD 0≠0→(s.tk[y]?).getD 0≠0→x<y→x+(s.tk[x]?).getD 0≤y
theorem round_dis {e:En} {b:List Ty} {s:IS} {a:Nat} (hw:WideE e) (hs:s.sz (b.length+1)) (ha:a≤b.length) (hi:DisI b s) (h:(roundD e b s a).2.2=0):DisI b (roundD e b s a).1:=by
 have H:=round_handed hw hs ha h
 have htk:=hands_tk2 h
 obtain⟨h1,h2,h3,h4,h5,h6⟩:=round_ok h
 have lc:a<s.fresh.length:=by rw[hs.c]; omega
 have ld:a<s.tk.length:=by rw[hs.d]; omega
 have hov:∀x,(s.tk[x]?).getD 0≠0→x≠a→¬(a<x+(s.tk[x]?).getD 0∧x<a+szA b a):=fun x hx hne hc=>by
  have hxl:x<s.tk.length:=Classical.byContradiction fun hn=>hx (by rw[List.getElem?_eq_none (by omega)]; rfl)
  unfold overB at h3
  rw[List.any_eq_false] at h3
  have:=h3 x (List.mem_range.2 hxl)
  rw[decide_eq_true_eq] at this
  exact this ⟨by omega,hne,hc.1,hc.2⟩
 generalize (roundD e b s a).1=s' at H htk
 obtain⟨i1,i2⟩:=hi
 refine⟨fun x hx hnx=> ?_,fun x y hx hy hlt=> ?_⟩
 ·obtain⟨o1,o2,_⟩:=H.old x hx hnx
  rw[htk,set_at ld]
  by_cases he:x=a
  ·rw[if_pos he,he]
  ·rw[if_neg he]
   exact i1 x o1 fun hc=>o2 (by
    unfold newP at hc ⊢
    simp only
    rw[set_at lc,if_neg he]; exact hc)
 ·rw[htk,set_at ld] at hx hy ⊢
  by_cases he:x=a
  ·rw[if_pos he] at hx ⊢
   have hny:y≠a:=by omega
   rw[if_neg hny] at hy
   have:=hov y hy hny
   omega
  ·rw[if_neg he] at hx ⊢
   by_cases hf:y=a
   ·have:=hov x hx he
    have hz:1≤szA b a:=(decF_ok h2).2.2.1
    omega
   ·rw[if_neg hf] at hy
    exact i2 x y hx hy hlt
theorem last_disj {e:En} {loc:Int} {b:List Ty} {r:IS} (hw:WideE e) (h:goneD e loc b=(r,0,0)) (hl:LastP e loc b r):∀x y,hasP r x→hasP r y→x<y→x+szA b x≤y:=by
 obtain⟨r2,h1,h2,h3,⟨h4,h5⟩,h6⟩:=gone_ind (I:=DisI b)
  (fun s a hs hf hi ha hn _ hR=>round_dis hw hs ha hi hR)
  ⟨fun x hx hn=>by
   rw[is0_hasP] at hx
   exact absurd (show newP (is0 b.length _) x by subst hx; simp[newP,is0]) hn,fun x y hx _ _=>by
   exfalso; apply hx
   simp only[is0]
   rw[List.getElem?_replicate]; split <;> rfl⟩ (show(goneD e loc b).2.2=0 by rw[h])
 rw[h] at h1
 cases h1
 have hno:∀x,¬newP r x:=fun x hx=>by unfold newP at hx; rw[h6] at hx; cases hx
 intro x y hx hy hlt
 have ex:=h4 x hx (hno x)
 have ey:=h4 y hy (hno y)
 have zx:1≤szA b x:=(decF_ok (hl.goes x hx).1).2.2.1
 have zy:1≤szA b y:=(decF_ok (hl.goes y hy).1).2.2.1
 have:=h5 x y (by omega) (by omega) hlt
 omega
theorem next_jump {b:List Ty} {x:Nat} (h:(onD (decF b x).1 b.length).2=0) (hd:(decF b x).2=0) (hj:jumpsB (insA b x).op.val=true):(insA b x).a.toNat∈nextN b x:=by
 have hp:(insA b x).pos=x:=by
  have:=(decF_ok hd).2.1
  unfold insA; rw[this]; rfl
 unfold nextN
 unfold insA at *
 generalize decF b x=q at *
 unfold onD at h ⊢
 simp only at h ⊢
 split at h
 ·cases h
 rename_i h1
 split at h
 ·cases h
 rename_i h2
 rw[if_neg h1,if_neg h2]
 simp only[List.mem_map,List.mem_append]
 cases he:endsB q.1.op.val
 ·by_cases h3:q.1.a<q.1.pos+zf1 q.1.op.val
  ·exact⟨q.1.a,.inl (.inl (by simp[hj,h3])),rfl⟩
  ·by_cases h4:q.1.pos+(zf1 q.1.op.val:Int)<q.1.a
   ·exact⟨q.1.a,.inr (by simp[hj,h4]),rfl⟩
   ·exact⟨q.1.a,.inl (.inr (by simp; omega)),rfl⟩
 ·exact⟨q.1.a,.inl (.inl (by simp[hj])),rfl⟩
theorem next_behind {b:List Ty} {x:Nat} (h:(onD (decF b x).1 b.length).2=0) (hd:(decF b x).2=0) (he:endsB (insA b x).op.val=false):x+szA b x∈nextN b x∧x+szA b x≠b.length:=by
 have hp:(insA b x).pos=x:=by
  have:=(decF_ok hd).2.1
  unfold insA; rw[this]; rfl
 unfold nextN szA
 unfold insA at *
 generalize decF b x=q at *
 unfold onD at h ⊢
 simp only at h ⊢
 split at h
 ·cases h
 rename_i h1
 split at h
 ·cases h
 rename_i h2
 rw[if_neg h1,if_neg h2]
 simp only[List.mem_map,List.mem_append]
 refine⟨⟨q.1.pos+zf1 q.1.op.val,.inl (.inr (by simp[he])),by omega⟩,fun hc=>h2 ⟨he,by omega⟩⟩
theorem cert_mem {b:List Ty} {r:IS} {y:Ey}:y∈certE b r↔∃a:Nat,a<b.length∧wantL b (adrs r b.length) a=true∧y=entA r a:=by
 unfold certE
 simp only[List.mem_map,List.mem_filter,List.mem_range]
 constructor
 ·rintro⟨a,⟨h1,h2⟩,rfl⟩; exact⟨a,h1,h2,rfl⟩
 ·rintro⟨a,h1,h2,rfl⟩; exact⟨a,⟨h1,h2⟩,rfl⟩
theorem entA_pos {r:IS} {a:Nat}:(entA r a).pos=a:=by unfold entA; split <;> rfl
theorem cert_rise (b:List Ty) (r:IS):Rise (certE b r):=by
 unfold Rise certE
 rw[List.pairwise_map]
 refine(List.Pairwise.filter _ List.pairwise_lt_range).imp fun h=> ?_
 rw[entA_pos,entA_pos]; omega
theorem want_iff {b:List Ty} {r:IS} {a:Nat}:wantL b (adrs r b.length) a=true↔∃x,x<b.length∧hasP r x∧((jumpsB (insA b x).op.val=true∧(insA b x).a=a)∨(endsB (insA b x).op.val=true∧x+szA b x=a)):=by
 unfold wantL
 rw[List.any_eq_true]
 simp only[wantX,Bool.or_eq_true,Bool.and_eq_true,decide_eq_true_eq]
 constructor
 ·rintro⟨x,h1,h2⟩; obtain⟨h3,h4⟩:=adrs_mem.1 h1; exact⟨x,h3,h4,h2⟩
 ·rintro⟨x,h1,h2,h3⟩; exact⟨x,adrs_mem.2 ⟨h1,h2⟩,h3⟩
theorem cert_find {b:List Ty} {r:IS} {a:Nat} {x:Ey} (h:findE (certE b r) a=some x):x=entA r a∧wantL b (adrs r b.length) a=true:=by
 obtain⟨h1,h2⟩:=findE_mem h
 obtain⟨c,h3,h4,rfl⟩:=cert_mem.1 h1
 rw[entA_pos] at h2
 have:c=a:=by omega
 subst this
 exact⟨rfl,h4⟩
theorem cert_there {b:List Ty} {r:IS} {a:Nat} (ha:a<b.length) (h:wantL b (adrs r b.length) a=true):findE (certE b r) a=some (entA r a):=by
 have:=findE_of (cert_rise b r) (cert_mem.2 ⟨a,ha,h,rfl⟩)
 rwa[entA_pos] at this
theorem entA_live {r:IS} {a:Nat} (h:hasP r a):entA r a=⟨(a:Int),false,frA r a⟩:=by unfold entA; rw[if_pos (hasB_iff.2 h)]
theorem entA_dead {r:IS} {a:Nat} (h:¬hasP r a):entA r a=⟨(a:Int),true,fr0 0⟩:=by unfold entA; rw[if_neg (fun hc=>h (hasB_iff.1 hc))]
def PJ (e:En) (b:List Ty) (r:IS) (s:PS):Prop:=b.length≤s.p∨(s.live=true∧hasP r s.p∧SubF e.cs s.fr (frA r s.p))∨(s.live=false∧∃x∈certE b r,x.pos=s.p)
theorem emit_fet {e:En} {loc:Int} {b:List Ty} {r:IS} {s:PS} (hw:WideE e) (hl:LastP e loc b r) (hdj:∀x y,hasP r x→hasP r y→x<y→x+szA b x≤y) (hp:s.p<b.length) (hh:hasP r s.p) (hs:SubF e.cs s.fr (frA r s.p)):
  ∃s',fetD e b (certE b r) s= .ok s'∧PJ e b r s':=by
 obtain⟨g1,g2,g3,g4⟩:=hl.goes s.p hh
 obtain⟨d1,d2⟩:=mono hw (done_iff.1 g2) hs
 have hap:(applyR e s.fr (insA b s.p)).2=0:=done_iff.2 d1
 have hstray:strayE (certE b r) s.p (s.p+zf1 (decF b s.p).1.op.val)=none:=by
  unfold strayE
  refine find_none fun y hy=> ?_
  rw[decide_eq_false_iff_not]
  rintro⟨k1,k2⟩
  obtain⟨a,q1,q2,rfl⟩:=cert_mem.1 hy
  rw[entA_pos] at k1 k2
  have k2':a<s.p+szA b s.p:=by unfold szA insA; omega
  obtain⟨x,x1,x2,x3⟩:=want_iff.1 q2
  obtain⟨f1,f2,f3,f4⟩:=hl.goes x x2
  rcases x3 with⟨x3,x4⟩|⟨x3,x4⟩
  ·have:=(f4 _ (next_jump f3 f1 x3)).1
   rw[show(insA b x).a.toNat=a by omega] at this
   have:=hdj s.p a hh this (by omega)
   omega
  ·have hz:1≤szA b x:=(decF_ok f1).2.2.1
   rcases Nat.lt_trichotomy x s.p with h|h|h
   ·have:=hdj x s.p x2 hh h
    omega
   ·subst h; omega
   ·have:=hdj s.p x hh x2 h
    omega
 have hend:∀cmp fet,∃s',endD b.length s.p (s.p+zf1 (decF b s.p).1.op.val) (decF b s.p).1.op.val (applyR e s.fr (decF b s.p).1).1 cmp fet= .ok s'∧PJ e b r s':=fun cmp fet=>by
  have hle:s.p+szA b s.p≤b.length:=(decF_ok g1).2.2.2
  unfold endD
  by_cases he:endsB (decF b s.p).1.op.val=true
  ·rw[if_pos he]
   refine⟨_,rfl, ?_⟩
   by_cases hq:b.length≤s.p+zf1 (decF b s.p).1.op.val
   ·exact .inl hq
   ·refine .inr (.inr ⟨rfl,entA r (s.p+szA b s.p),cert_mem.2 ⟨_,by unfold szA insA; omega,want_iff.2 ⟨s.p,hp,hh,.inr ⟨he,rfl⟩⟩,rfl⟩,entA_pos⟩)
  ·have he':endsB (insA b s.p).op.val=false:=by unfold insA; simpa using he
   obtain⟨n1,n2⟩:=next_behind g3 g1 he'
   obtain⟨n3,n4⟩:=g4 _ n1
   rw[if_neg he,if_neg (by unfold szA insA at n2 hle; omega)]
   exact⟨_,rfl,.inr (.inl ⟨rfl,n3,d2.trans n4⟩)⟩
 unfold fetD
 rw[if_neg (by omega),hstray]
 simp only
 unfold insA at hap
 rw[if_neg (by omega)]
 split
 ·rename_i hj
  have hj':jumpsB (insA b s.p).op.val=true:=hj
  obtain⟨_,w2,_⟩:=last_leads hl (adrs_mem.2 ⟨hp,hh⟩)
  obtain⟨w3,w4⟩:=w2 hj'
  obtain⟨m1,m2⟩:=g4 _ (next_jump g3 g1 hj')
  obtain⟨c,hc⟩:∃c:Nat,(insA b s.p).a=c:=⟨(insA b s.p).a.toNat,by omega⟩
  rw[hc,Int.toNat_natCast] at m1 m2
  have hf:findE (certE b r) (c:Int)=some (entA r c):=cert_there (by omega) (want_iff.2 ⟨s.p,hp,hh,.inl ⟨hj',hc⟩⟩)
  have hjn:jumpD e.cs (certE b r) b.length s.p (decF b s.p).1.a (applyR e s.fr (decF b s.p).1).1=none:=by
   have hc':(decF b s.p).1.a=c:=hc
   unfold jumpD
   rw[hc',if_neg (by omega),hf,entA_live m1]
   simp only[Bool.false_eq_true,if_false]
   have:subFr e.cs (applyR e s.fr (decF b s.p).1).1 (frA r c)=true:=subFr_iff.2 (d2.trans m2)
   rw[this]; simp
  rw[hjn]
  exact hend _ _
 ·exact hend _ _
theorem emit_run {e:En} {loc:Int} {b:List Ty} {r:IS} (hw:WideE e) (hl:LastP e loc b r) (hdj:∀x y,hasP r x→hasP r y→x<y→x+szA b x≤y):
  ∀(k:Nat) (s:PS),PJ e b r s→∃s',runD e b (certE b r) k s= .ok s'
 |0,s,_=>⟨s,rfl⟩
 |k+1,s,hj=>by
  rw[runD]
  by_cases hp:b.length≤s.p
  ·rw[if_pos hp]; exact⟨s,rfl⟩
  rw[if_neg hp]
  have go:∀s1:PS,comeD e.cs (certE b r) b.length s= .ok (s1,true)→s1.p=s.p→hasP r s.p→SubF e.cs s1.fr (frA r s.p)→∃s',(match comeD e.cs (certE b r) b.length s with
    | .no a w=>Rz.no a w
    | .ok (s',false)=>runD e b (certE b r) k s'
    | .ok (s',true)=>match fetD e b (certE b r) s' with
     | .no a w=> .no a w
     | .ok s''=>runD e b (certE b r) k s'')= .ok s':=fun s1 h1 h2 h3 h4=>by
   obtain⟨s2,f1,f2⟩:=emit_fet hw hl hdj (s:=s1) (by omega) (by rw[h2]; exact h3) (by rw[h2]; exact h4)
   rw[h1]
   simp only[f1]
   exact emit_run hw hl hdj k s2 f2
  rcases hj with h|⟨h1,h2,h3⟩|⟨h1,x,hx,hxp⟩
  ·exact absurd h hp
  ·cases hf:findE (certE b r) s.p with
   |none=>
    refine go s ?_ rfl h2 h3
    unfold comeD
    rw[hf]
    simp only
    rw[if_pos h1]
   |some x=>
    obtain⟨rfl,_⟩:=cert_find hf
    refine go {s with fr:=frA r s.p,live:=true,cmp:=s.cmp+(if s.live=true then 1 else 0)} ?_ rfl h2 (SubF.refl (hl.start.2.2 _ h2))
    unfold comeD
    rw[hf,entA_live h2]
    simp only
    have hs:=subFr_iff.2 h3
    rw[if_neg (by simp),if_neg (by rw[hs]; simp),if_neg (by simp)]
  ·have hf:=findE_of (cert_rise b r) hx
   rw[hxp] at hf
   obtain⟨rfl,_⟩:=cert_find hf
   by_cases hh:hasP r s.p
   ·refine go {s with fr:=frA r s.p,live:=true,cmp:=s.cmp+(if s.live=true then 1 else 0)} ?_ rfl hh (SubF.refl (hl.start.2.2 _ hh))
    unfold comeD
    rw[hf,entA_live hh]
    simp only
    rw[if_neg (by simp),if_neg (by rw[h1]; simp),if_neg (by simp)]
   ·have hc:comeD e.cs (certE b r) b.length s= .ok ({s with p:=nextP (certE b r) b.length s.p},false):=by
     unfold comeD
     rw[hf,entA_dead hh]
     simp only
     rw[if_neg (by rw[h1]; simp),if_neg (by rw[h1]; simp),if_pos trivial]
    rw[hc]
    refine emit_run hw hl hdj k _ ?_
    rcases nextP_spec (certE b r) b.length s.p with hn|⟨y,hy,y1,y2,y3⟩
    ·exact .inl (by simp only; omega)
    ·exact .inr (.inr ⟨h1,y,hy,by simp only; omega⟩)
open Go.Proofs
theorem bt_drop (b:List Ty) (p i:Nat):bt b (p+i)=(((b.drop p)[i]?).getD 0).val:=by unfold bt; rw[List.getElem?_drop]
theorem scan_all {b:List Ty}:∀(m q:Nat),q+m≤b.length→(∀i,i<m→knownT ((b[q+i]?).getD 0)=true)→scanT b q m=(q+m,0)
 |0,q,_,_=>rfl
 |m+1,q,hl,hk=>by
  rw[scanT,if_neg (by omega),if_pos (show knownT ((b[q]?).getD 0)=true from hk 0 (by omega)),scan_all m (q+1) (by omega) fun i hi=>by
   have:=hk (i+1) (by omega)
   rwa[show q+1+i=q+(i+1) by omega]]
  rw[show q+1+m=q+(m+1) by omega]
theorem frame_all {loc:Int} {f:Fr} (h:frameE loc f=0):(∀i:Nat,i<24→loc+f.h≤(i:Int)→slAt f i=0)∧∀i:Nat,i<24→knownT (slAt f i)=true:=by
 unfold frameE at h
 split at h
 ·cases h
 split at h
 ·cases h
 rename_i h2
 split at h
 ·cases h
 rename_i h3
 rw[Bool.not_eq_false,List.all_eq_true] at h2 h3
 exact⟨fun i hi hle=>by have:=h2 i (List.mem_range.2 hi); rw[decide_eq_true_eq] at this; exact this hle,fun i hi=>h3 i (List.mem_range.2 hi)⟩
theorem byT_of {n:Nat} (h:n<256):(byT n).val=n:=Nat.mod_eq_of_lt h
theorem ent_read {b:List Ty} {n p:Nat} {last:Int} {x:Ey} {rest:List Ty} (hb:b.drop p=bytesE n x++rest) (hp:p≤b.length) (hn:n≤16) (ha:afterE x.pos last=0) (hx:bodyE n x=0):
  entD b n p last=(x,p+(bytesE n x).length,0):=by
 obtain⟨a1,a2,a3⟩:=after_zero ha
 obtain⟨pos,dead,fr⟩:=x
 simp only at a1 a2 a3 ha
 obtain⟨k,rfl⟩:∃k:Nat,pos=k:=⟨pos.toNat,by omega⟩
 have hlen:b.length=p+((bytesE n ⟨(k:Int),dead,fr⟩).length+rest.length):=by
  have:=congrArg List.length hb
  rw[List.length_drop,List.length_append] at this; omega
 have hat:∀i,bt b (p+i)=(((bytesE n ⟨(k:Int),dead,fr⟩++rest)[i]?).getD 0).val:=fun i=>by rw[bt_drop,hb]
 have hg:∀i,b[p+i]? =(bytesE n ⟨(k:Int),dead,fr⟩++rest)[i]? :=fun i=>by rw[←List.getElem?_drop,hb]
 have b0:bt b p=k/256:=by
  have:=hat 0
  rw[Nat.add_zero] at this
  rw[this]
  show(byT ((k:Int).toNat/256)).val=_
  rw[Int.toNat_natCast,byT_of (by omega)]
 have b1:bt b (p+1)=k%256:=by
  rw[hat 1]
  show(byT (k:Int).toNat).val=_
  rw[Int.toNat_natCast]; rfl
 have hw:word2 b p=k:=by unfold word2; rw[b0,b1]; omega
 unfold entD
 rw[hw]
 have haf:¬afterE (k:Int) last≠0:=fun h=>h ha
 cases dead with
 |true=>
  rw[bodyE_dead rfl] at hx
  have hf:fr=fr0 0:=by
   by_cases hf:fr=fr0 0
   ·exact hf
   ·simp only at hx; rw[if_neg hf] at hx; cases hx
  subst hf
  have l3:(bytesE n ⟨(k:Int),true,fr0 0⟩).length=3:=rfl
  have b2:bt b (p+2)=0:=by rw[hat 2]; rfl
  rw[l3] at hlen ⊢
  rw[if_neg (by omega),if_neg haf,if_neg (by omega),b2,if_neg (by omega),if_pos rfl]
 |false=>
  rw[bodyE_live rfl] at hx
  simp only at hx
  obtain⟨f1,f2,f3⟩:=frame_zero hx
  obtain⟨f4,f5⟩:=frame_all hx
  obtain⟨floc,fh,fsl⟩:=fr
  simp only at f1 f2 f3
  subst f1
  obtain⟨h,rfl⟩:∃h:Nat,fh=h:=⟨fh.toNat,by omega⟩
  have l4:(bytesE n ⟨(k:Int),false,⟨n,h,fsl⟩⟩).length=4+(n+h):=by
   show(byT _::byT _::1::byT (h:Int).toNat::fsl.toList.take (n+(h:Int).toNat)).length=_
   simp only[List.length_cons,List.length_take,Vector.length_toList,Int.toNat_natCast]; omega
  have b2:bt b (p+2)=1:=by rw[hat 2]; rfl
  have b3:bt b (p+3)=h:=by
   rw[hat 3]
   show(byT (h:Int).toNat).val=_
   rw[Int.toNat_natCast,byT_of (by omega)]
  have hdr:(b.drop (p+4)).take (n+h)=fsl.toList.take (n+h):=by
   rw[←List.drop_drop,hb]
   show(fsl.toList.take (n+(h:Int).toNat)++rest).take (n+h)=_
   rw[Int.toNat_natCast,List.take_append_of_le_length (by simp only[List.length_take,Vector.length_toList]; omega),List.take_take,Nat.min_self]
  have hsl:∀i,i<n+h→(b[p+4+i]?).getD 0=slAt ⟨n,h,fsl⟩ i:=fun i hi=>by
   have:((b.drop (p+4)).take (n+h))[i]? =(fsl.toList.take (n+h))[i]? :=by rw[hdr]
   rw[List.getElem?_take,if_pos hi,List.getElem?_drop,List.getElem?_take,if_pos hi] at this
   rw[this]; rfl
  rw[l4] at hlen ⊢
  have hsc:scanT b (p+4) (n+h)=(p+4+(n+h),0):=scan_all _ _ (by omega) fun i hi=>by rw[hsl i hi]; exact f5 i (by omega)
  rw[if_neg (by omega),if_neg haf,if_neg (by omega),b2,if_neg (by omega),if_neg (by omega),if_neg (by omega),b3,if_neg (by omega),hsc,if_neg (by simp),hdr]
  have hfr:(⟨n,h,slOf (fsl.toList.take (n+h))⟩:Fr)=⟨n,h,fsl⟩:=fr_ext rfl rfl fun i hi=>by
   rw[slAt_slOf hi,List.getElem?_take]
   split
   ·rfl
   ·exact(f4 i hi (by simp only; omega)).symm
  rw[hfr]
  refine Prod.ext rfl (Prod.ext ?_ rfl)
  show p+4+(n+h)=p+(4+(n+h))
  omega
theorem dec_all {b:List Ty} {n:Nat} (hn:n≤16):∀(es:List Ey) (p i:Nat) (last:Int),b.drop p=es.flatMap (bytesE n)→p≤b.length→(chkC n last i es).2=0→esOf (decP b n es.length p last).1=es∧(decP b n es.length p last).2=(b.length,0)
 |[],p,i,last,hb,hp,_=>by
  have:b.length=p:=by
   have:=congrArg List.length hb
   rw[List.length_drop] at this
   simp only[List.flatMap_nil,List.length_nil] at this
   omega
  exact⟨rfl,by rw[this]; rfl⟩
 |x::r,p,i,last,hb,hp,h=>by
  rw[chkC] at h
  by_cases h1:afterE x.pos last=0
  case neg=>rw[if_pos h1] at h; exact absurd h h1
  rw[if_neg (by omega)] at h
  by_cases h2:bodyE n x=0
  case neg=>rw[if_pos h2] at h; exact absurd h h2
  rw[if_neg (by omega)] at h
  rw[List.flatMap_cons] at hb
  have he:=ent_read hb hp hn h1 h2
  have hr:b.drop (p+(bytesE n x).length)=r.flatMap (bytesE n):=by rw[←List.drop_drop,hb,List.drop_left]
  have hl:p+(bytesE n x).length≤b.length:=by
   have:=congrArg List.length hb
   rw[List.length_drop,List.length_append] at this; omega
  obtain⟨q1,q2⟩:=dec_all hn r _ (i+1) x.pos hr hl h
  rw[List.length_cons,decP,he]
  simp only
  rw[if_neg (by simp)]
  refine⟨?_,q2⟩
  show x::esOf _=_
  rw[q1]
theorem dec_enc {loc:Int} {es:List Ey} (h:(encC loc es).2=0):∃n:Nat,loc=n∧decC (encC loc es).1=(⟨n,es⟩,0,0):=by
 unfold encC at h ⊢
 by_cases h1:(checkC loc es).2=0
 case neg=>rw[if_pos h1] at h; exact absurd h h1
 rw[if_neg (by omega)]
 obtain⟨n,hn,n16,hlen,_⟩:=check_ok h1
 subst hn
 refine⟨n,rfl, ?_⟩
 have hchk:(chkC n (-1) 0 es).2=0:=by
  unfold checkC at h1
  split at h1
  ·cases h1
  split at h1
  ·cases h1
  exact h1
 show decC (encB (n:Int).toNat es)=_
 rw[Int.toNat_natCast]
 generalize hb:encB n es=b
 have hd:b.drop 6=es.flatMap (bytesE n):=by rw[←hb]; rfl
 have h6:6≤b.length:=by rw[←hb]; unfold encB headB; simp
 have c0:bt b 0=112:=by rw[←hb]; rfl
 have c1:bt b 1=118:=by rw[←hb]; rfl
 have c2:bt b 2=1:=by rw[←hb]; rfl
 have c3:bt b 3=n:=by
  rw[←hb]
  show(byT n).val=n
  exact byT_of (by omega)
 have c4:word2 b 4=es.length:=by
  have e4:bt b 4=es.length/256:=by
   rw[←hb]
   show(byT (es.length/256)).val=_
   exact byT_of (by omega)
  have e5:bt b (4+1)=es.length%256:=by rw[←hb]; rfl
  unfold word2; rw[e4,e5]; omega
 have hh:headD b=(0,0):=by
  unfold headD
  rw[c0,c1,c2,c3,c4,if_neg (by omega),if_neg (by omega),if_neg (by omega),if_neg (by omega),if_neg (by omega),if_neg (by omega),if_neg (by omega)]
 obtain⟨q1,q2⟩:=dec_all n16 es 6 0 (-1) hd h6 hchk
 have ht:toldD b=((decP b n es.length 6 (-1)).1,0,0):=by
  unfold toldD
  rw[hh,c3,c4,q2,if_neg (by simp),if_neg (by simp),if_neg (by simp)]
 unfold decC
 rw[ht,c3]
 simp only
 rw[if_neg (by simp),q1]
theorem emit_taken {e:En} {loc:Int} {b:List Ty} (hw:WideE e) (h:(emitD e loc b).2.2=0):(checkD e loc b (emitD e loc b).1).2=(0,0):=by
 unfold emitD at h ⊢
 by_cases h1:(inferD e loc b).2.2=0
 case neg=>rw[if_pos h1] at h; exact absurd h h1
 have h1':¬(inferD e loc b).2.2≠0:=fun h=>h h1
 rw[if_neg h1'] at h ⊢
 obtain⟨hm,hb,r,hg,hl,_⟩:=infer_last hw h1
 rw[hg] at h ⊢
 simp only at h ⊢
 obtain⟨n,hn,hd⟩:=dec_enc h
 have hdj:=last_disj hw hg hl
 obtain⟨hcan,hps,h16,_,_⟩:=start_eq hm
 have h0:0<b.length:=hl.lt 0 hl.start.1
 have hbad:badE e (certE b r)=none:=by
  unfold badE
  refine find_none fun y hy=> ?_
  obtain⟨a,_,_,rfl⟩:=cert_mem.1 hy
  by_cases hh:hasP r a
  ·rw[entA_live hh]
   have:=hl.start.2.2 a hh
   simp[this]
  ·rw[entA_dead hh]; rfl
 have hlate:lateE (certE b r) b.length=none:=by
  unfold lateE
  refine find_none fun y hy=> ?_
  obtain⟨a,h2,_,rfl⟩:=cert_mem.1 hy
  rw[entA_pos,decide_eq_false_iff_not]; omega
 have hno:¬(canB e=false∨loc<(psOf e).length∨16<loc):=by
  rintro(h|h|h)
  ·rw[hcan] at h; cases h
  ·omega
  ·omega
 have hbg:beginD e loc b.length (encC loc (certE b r)).1=none:=by
  unfold beginD
  rw[if_neg hno,if_neg (by omega),if_neg (by omega),hd]
  simp only
  rw[if_neg (by simp),hbad]
  simp only
  rw[if_neg (by omega)]
 unfold checkD
 rw[hbg,hd]
 simp only
 obtain⟨s',hs⟩:=emit_run hw hl hdj (b.length+1) (startS e loc) (.inr (.inl ⟨rfl,hl.start.1,hl.start.2.1⟩))
 rw[hs]
 simp only
 rw[hlate]
end Go.AL
namespace Go.AL
open Go.Proofs Go.RowKit Go.Maps Go.WideElems Go.MapKept
theorem keys86 (b:Nat) (σ:St):RCall Tryz.prog 86 [.map b] σ fun d s'=>∃c,¬σ.has c∧d= .func (.func 129) [] [.ptr c 0]∧s'=σ.set c [.map b]:=by
 refine F86.rcall rfl fun T hT=> ?_
 simp -implicitDefEqProofs only[go_sem,c86,hT,frz]
 intro c hc
 exact⟨_,_,DLe.refl _,St.le.refl _,c,hc,rfl,rfl⟩
theorem sortedKb {H:Type} (c b nn:Nat) (D0:DataW H) (R:Value→Option (DataW H×List MemPlace)) (w:World) (hc:w.cell? ⟨c,0,none⟩=some (.map (some b))) (hcl:c<w.heap.size) (hown:w.ownsMap Tryz.prog 3 R b nn D0) (hmax:Maps.size D0≤maxLen) (hbytes:Maps.size D0*8≤140737488355328):
  Calls Tryz.prog 80 #[.func (.func 129) #[] #[.pointer (some ⟨c,0,none⟩)]] w fun e w'=>∃(v:Value) (ss:List Int),e= .returned v∧ss.Perm (intKeys D0)∧
   w'.ownsRow w.heap.size 3 1 v ss.length ((ss.mergeSort (fun x y=>decide (x≤y))).map encZ)∧(v= .slice none 0 0↔ss=[])∧Below w.heap.size w w':=by
 have hseq:SeqGives Fence.wide 2 Tryz.prog 129 #[.pointer (some ⟨c,0,none⟩)] encZ (fun ss=>ss.Perm (intKeys D0)) (Maps.size D0) w:=
  AnyZI.keys_gives (ρ:=Tryz.keysB_ren) {Tryz.keysB with} Fence.wide _ trivial rfl (by omega) c b nn D0 w hcl hc hown
 have cS:=AnyZI.sorted_in Tryz.sortedA Fence.wide 5 trivial trivial trivial trivial rfl (by omega) (sortsK _) (enters_of Tryz.func125 (by kernel_rfl) rfl) 129 #[.pointer (some ⟨c,0,none⟩)] trivial (enters_of Tryz.func129 (by kernel_rfl) rfl) _ _ hmax hbytes w hseq
 exact callsIn_wide.1 cS
theorem sorted80b (s:St) (c b:Nat) (ks:List (Ky×Nat)) (vs:List D) (clock:Nat) (hc:s.box c=some [.map b]) (hb:s.mp b=some (.map (some .i64) ks vs clock)) (hk:∀p∈ks,∃n,p.1=kyN n∧n≤5000) (hl:ks.length≤5000):
  RCall Tryz.prog 80 [.func (.func 129) [] [.ptr c 0]] s fun d s'=>d= .slice .no ((sortZ (ks.map fun p=>kyI p.1)).map fun z=>[eZ z])∧s'=s:=by
 refine⟨⟨_,Tryz.func80,by kernel_rfl,rfl⟩,fun M w vs' hi hv=> ?_⟩
 obtain⟨v,vs2,rfl,⟨vf,vc,rfl,hf,hcap⟩,hv2⟩:=hv
 obtain rfl:vs2=[]:=hv2
 have hf:vf.toList=[]:=hf
 obtain⟨pv,pr,hp1,hp2,hp3⟩:=hcap
 obtain rfl:pr=[]:=hp3
 have hp2:pv= .pointer (some ⟨c,0,none⟩):=hp2
 obtain rfl:vf= #[]:=by simpa using hf
 obtain rfl:vc= #[.pointer (some ⟨c,0,none⟩)]:=by
  apply Array.toList_inj.1; rw[hp1,hp2]
 obtain⟨hM,cc,e,hheap,hrep,hone⟩:=hi.box c _ hc
 obtain⟨v1,r1,hr1,hr2,hr3⟩:=hrep
 obtain rfl:r1=[]:=hr3
 have hr2:v1= .map (some b):=hr2
 have hcell:w.cell? ⟨c,0,none⟩=some (.map (some b)):=by
  refine cell_of hheap ?_
  rw[←Array.getElem?_toList,hr1,hr2]; rfl
 obtain⟨D0,o1,o2,o3⟩:=own_map (hi.mp b _ hb) hk hl
 have hmax:5000≤maxLen:=by decide
 refine(sortedKb c b 5000 D0 rdU w hcell (heap_lt hheap) o1 (by omega) (by omega)).mono fun ev w' ⟨v,ss,he,hp,hown,hnil,hbel⟩=> ?_
 subst he
 obtain⟨k1,k2⟩:=below_keep hi hbel
 refine⟨M,s,.ret _,⟨v,rfl, ?_⟩,k1,k2,_,rfl,rfl,rfl⟩
 have hss:ss.mergeSort (fun x y=>decide (x≤y))=sortZ (ks.map fun p=>kyI p.1):=mergeSort_of_perm_i (hp.trans o3)
 rw[hss] at hown
 have hlen:(sortZ (ks.map fun p=>kyI p.1)).length=ss.length:=by rw[←hss,List.length_mergeSort]
 generalize sortZ (ks.map fun p=>kyI p.1)=zs at hown hlen
 obtain⟨ho1,ho2⟩:=hown
 rcases ho2 with⟨rfl,h0⟩|⟨g,cap,cur,rfl,hg,hcur,hle,hcm,hcs,htake⟩
 ·refine .inl ⟨rfl, ?_⟩
  rw[h0] at hlen
  rw[List.eq_nil_of_length_eq_zero hlen]; rfl
 ·refine .inr (.inl ⟨g,0,cap,1,by simp[hlen],by simpa[hlen] using hle, ?_⟩)
  have hMg:M g=none:=by
   cases hm:M g with
   |none=>rfl
   |some x=>have:=hi.dom g (by rw[hm]; simp); omega
  refine RepRows.mk fun i r hr=> ?_
  rw[List.getElem?_map] at hr
  cases hz:zs[i]? with
  |none=>rw[hz] at hr; simp at hr
  |some z=>
   rw[hz] at hr
   simp only[Option.map_some,Option.some.injEq] at hr
   subst hr
   refine⟨rfl,RepCells.mk fun j d hd=> ?_⟩
   cases j with
   |succ j=>simp at hd
   |zero=>
    simp only[List.getElem?_cons_zero,Option.some.injEq] at hd
    subst hd
    refine⟨encZ z, ?_,rfl,by simp[ImmAt,hMg],rfl⟩
    have h1:(cur.toList.take (ss.length*1))[i]? =some (encZ z):=by rw[htake,List.getElem?_map,hz]; rfl
    rw[List.getElem?_take] at h1
    split at h1
    ·refine cell_of hcur ?_
     rw[←Array.getElem?_toList]
     simpa using h1
    ·cases h1
end Go.AL
