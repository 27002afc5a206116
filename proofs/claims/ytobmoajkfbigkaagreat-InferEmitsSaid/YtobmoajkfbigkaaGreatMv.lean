import Derived.Test.YtobmoajkfbigkaaGreatMu
import Derived.Test.YtobmoajkfbigkaaGreatMt
import Derived.Test.YtobmoajkfbigkaaGreatMn
import Derived.Test.YtobmoajkfbigkaaGreatMq
set_option linter.unusedSimpArgs false
set_option linter.unusedVariables false
set_option maxRecDepth 100000
set_option maxHeartbeats 4000000
set_option linter.defProp false
namespace Go.AL
open Go.Proofs
theorem shr256 {p:Nat}:IntKind.wrap .u8 ((p:Int).fdiv (2^min 8 64))=((byT (p/256)).val:Int):=by
 rw[byT_val,show((2:Int)^min 8 64)=256 by decide,Int.fdiv_eq_ediv_of_nonneg _ (by omega)]; rfl
def bYhpF0:=aI @gdD (aI @eCz_len (aI @zf9 (aI @eCz_0 @eCz_1)))
theorem encode87 (loc:Int) (es:List Ey) (hl:es.length≤140737488355328):PCall Tryz.prog 87 [.agg (eCz loc es)] (.tup [.slice .no (rws eT (encC loc es).1),.int .i64 (encC loc es).2]):=by
 refine F87.pcallM rfl fun T hT=> ?_
 simp -implicitDefEqProofs only[go_sem,c87,hT,Nat.mul_one,Nat.add_zero,Nat.zero_add,bYhpF0]
 refine fun b1=>za3 (check130 loc es hl) ?_
 by_cases h0:(checkC loc es).2=0
 case neg=>
  have g0:(((checkC loc es).2:Int)=0)=False:=eq_false (by omega)
  rw[show encC loc es=([],(checkC loc es).2) by unfold encC; rw[if_pos h0]]
  simp -implicitDefEqProofs only[go_sem,hT,g0]
  exact DLe.tup (.cons (DLe.slice _ _) (.cons (DLe.refl _) .nil))
 have g0:(((checkC loc es).2:Int)=0)=True:=eq_true (by omega)
 rw[show encC loc es=(encB loc.toNat es,0) by unfold encC; rw[if_neg (by omega)]]
 obtain⟨n,rfl,hn,hes,hall⟩:=check_ok h0
 rw[Int.toNat_natCast]
 have q1:IntKind.wrap .u8 (n:Int)=((byT n).val:Int):=(byT_val n).symm
 have q2:=shr256 (p:=es.length)
 have q3:=(byT_val es.length).symm
 simp -implicitDefEqProofs only[go_sem,hT,g0,Nat.mul_one,Nat.add_zero,Nat.zero_add,frz,q1,q2,q3,bYhpF0]
 have hst:∀i,i≤es.length→(headB n es.length++(es.take i).flatMap (bytesE n)).length≤200000:=fun i hi=>by
  have:=flat_len n (es.take i)
  rw[List.length_take] at this
  simp only[List.length_append,headB,List.length_cons,List.length_nil]; omega
 refine loopL F87 (fun x:Nat×Option Nat=>[(1,.ptr b1 0),(7,brD x.2 (headB n es.length++(es.take x.1).flatMap (bytesE n))),(33,.slice .no (rws eEy es)),(34,.int .i64 es.length),(35,.int .i64 x.1)])
  (fun x=>grS 1 (headB n es.length++(es.take x.1).flatMap (bytesE n)).length x.2 (({}:St).set b1 (eCz n es))) (fun x=>x.1≤es.length∧grN x.2 (({}:St).set b1 (eCz n es))) (fun x=>es.length-x.1) (0,none) ⟨Nat.zero_le _,grN_none⟩ ?_ (St.le.refl _) ?_
 ·simp -implicitDefEqProofs only[go_sem,hT,Nat.mul_one,Nat.add_zero,Nat.zero_add,bYhpF0]
  exact⟨rfl,rfl⟩
 clear hT T
 rintro⟨i,o⟩ ⟨hi,ho⟩ T hT
 simp only at hi ho hT ⊢
 obtain⟨bs,hbs⟩:∃bs,headB n es.length++(es.take i).flatMap (bytesE n)=bs:=⟨_,rfl⟩
 have hbl:=hst i hi
 rw[hbs] at hT hbl ⊢
 have kb:∀{m:Nat} {o:Option Nat},(grS 1 m o (({}:St).set b1 (eCz n es))).box b1=some (eCz n es):=fun {m o}=>by rw[grS_boxa]; simp[St.set_box]
 by_cases h:i<es.length
 case neg=>
  have g5:((i:Int)<es.length)=False:=eq_false (by omega)
  have hfin:encB n es=bs:=by rw[←hbs,List.take_of_length_le (by omega)]; rfl
  rw[hfin]
  simp -implicitDefEqProofs only[go_sem,hT,g5,Nat.mul_one,Nat.add_zero,Nat.zero_add,bYhpF0]
  cases o with
  |none=>exact DLe.tup (.cons (DLe.slice _ _) (.cons (DLe.refl _) .nil))
  |some b=>exact DLe.tup (.cons (DLe.slice _ _) (.cons (DLe.refl _) .nil))
 have g5:((i:Int)<es.length)=True:=eq_true (by omega)
 have w3:IntKind.wrap .i64 ((i:Int)+1)=((i+1:Nat):Int):=by rw[zc2 (by omega) (by omega)]; simp
 have hget:=rws_at (enc:=eEy) h
 have hnext:=flat_take (n:=n) h
 obtain⟨p,hp,hp4,hx⟩:=hall es[i] (List.getElem_mem h)
 generalize es[i]=x at *
 have q4:=shr256 (p:=p)
 have q5:=(byT_val p).symm
 simp -implicitDefEqProofs only[go_sem,hT,g5,gdD,Nat.mul_one,Nat.add_zero,Nat.zero_add,eCz_len,zf9,eCz_0,eCz_1,kb,hget,zb3,za7]
 refine⟨by omega,fun b9 hb9=> ?_⟩
 have hb91:¬b9=b1:=fun he=>hb9 (by rw[grS_has]; exact .inr (by rw[set_has]; exact .inl he))
 have hno:¬(({}:St).set b1 (eCz n es)).has b9:=fun hh=>hb9 (by rw[grS_has]; exact .inr hh)
 have hgn:grN o ((({}:St).set b1 (eCz n es)).set b9 (eEy x)):=fun c hc hh=>by
  rcases set_has.1 hh with rfl|hh
  ·exact hb9 (by rw[grS_has]; exact .inl hc)
  ·exact ho c hc hh
 have hS:∀{m:Nat} {o:Option Nat},(grS 1 m o ((({}:St).set b1 (eCz n es)).set b9 (eEy x))).box b9=some (eEy x):=fun {m o}=>by rw[grS_boxa]; simp[St.set_box]
 simp -implicitDefEqProofs only[go_sem,hT,gdD,Nat.mul_one,Nat.add_zero,Nat.zero_add,eCz_len,zf9,eCz_0,eCz_1,hb91,Ne.symm hb91,ey_0,ey_1,ey_fr,ey_26,grS_set,za2,hS,hp,q4,q5,frz]
 refine br_app (ys:=[byT (p/256),byT p]) hgn (St.le.refl _) (by simp) (by simp; omega) fun c2 σ2 hbox2 hle2 hg2=> ?_
 have k2:σ2.box b9=some (eEy x):=by rw[hbox2]; exact hS
 have hbase:∀{m c:Nat},St.le (grS 1 m (some c) (({}:St).set b1 (eCz n es))) (grS 1 m (some c) ((({}:St).set b1 (eCz n es)).set b9 (eEy x))):=fun {m c}=>le_setBuf (le_add hno)
 have hgb:∀{c:Nat},grN (some c) ((({}:St).set b1 (eCz n es)).set b9 (eEy x))→grN (some c) (({}:St).set b1 (eCz n es)):=fun {c} h c' hc hh=>h c' hc (set_has.2 (.inr hh))
 have hpn:x.pos.toNat=p:=by omega
 rcases hx with⟨hd,hf⟩|⟨hd,k,hk,hfl,hnk⟩
 ·have hby:bytesE n x=[byT (p/256),byT p,0]:=by unfold bytesE; rw[if_pos hd,hpn]
  simp -implicitDefEqProofs only[go_sem,hT,gdD,Nat.mul_one,Nat.add_zero,Nat.zero_add,eCz_len,zf9,eCz_0,eCz_1,hb91,Ne.symm hb91,ey_0,ey_1,ey_fr,ey_26,grS_set,za2,k2,hd,frz]
  refine br_app (ys:=[0]) hg2 hle2 (by simp) (by simp; omega) fun c3 σ3 hbox3 hle3 hg3=> ?_
  have hfin:headB n es.length++(es.take (i+1)).flatMap (bytesE n)=bs++[byT (p/256),byT p]++[0]:=by
   rw[hnext,←List.append_assoc,hbs,hby]; simp
  simp -implicitDefEqProofs only[go_sem,hT,Nat.mul_one,Nat.add_zero,Nat.zero_add,w3,bYhpF0]
  exact⟨(i+1,some c3),⟨by simp only; omega,hgb hg3⟩,by simp only; omega,⟨by simp only[hfin],rfl⟩,by simp only[hfin]; exact hbase.trans hle3⟩
 have q6:IntKind.wrap .u8 (k:Int)=((byT k).val:Int):=(byT_val k).symm
 have hkn:x.fr.h.toNat=k:=by omega
 have hby:bytesE n x=[byT (p/256),byT p]++[1,byT k]++x.fr.sl.toList.take (n+k):=by unfold bytesE; rw[if_neg (by rw[hd]; simp),hpn,hkn]; rfl
 simp -implicitDefEqProofs only[go_sem,hT,gdD,Nat.mul_one,Nat.add_zero,Nat.zero_add,eCz_len,zf9,eCz_0,eCz_1,hb91,Ne.symm hb91,ey_0,ey_1,ey_fr,ey_26,grS_set,za2,k2,hd,frz,ey_3,hk,q6]
 refine br_app (ys:=[1,byT k]) hg2 hle2 (by simp) (by simp; omega) fun c3 σ3 hbox3 hle3 hg3=> ?_
 have k3:σ3.box b9=some (eEy x):=by rw[hbox3]; exact k2
 obtain⟨b3,hb3⟩:∃b3,bs++[byT (p/256),byT p]++[1,byT k]=b3:=⟨_,rfl⟩
 have hb3l:b3.length≤200004:=by rw[←hb3]; simp; omega
 have w4:IntKind.wrap .i64 ((n:Int)+k)=((n+k:Nat):Int):=by rw[zc2 (by omega) (by omega)]; simp
 rw[hb3] at hle3 ⊢
 have k31:σ3.box b1=some (eCz n es):=by
  rw[hbox3,hbox2,grS_boxa]; simp[St.set_box,hb91,Ne.symm hb91,ey_0,ey_1,ey_fr,ey_26,grS_set,za2]
 simp -implicitDefEqProofs only[go_sem,hT,gdD,Nat.mul_one,Nat.add_zero,Nat.zero_add,eCz_len,zf9,eCz_0,eCz_1,hb91,Ne.symm hb91,ey_0,ey_1,ey_fr,ey_26,grS_set,za2,k3,k31,ey_3,hk,w4]
 refine⟨by omega, ?_⟩
 refine loopL F87 (fun y:Nat×Nat=>[(1,.ptr b1 0),(7,brD (some y.2) (b3++x.fr.sl.toList.take y.1)),(33,.slice .no (rws eEy es)),(34,.int .i64 es.length),(35,.int .i64 i),(69,.bsl b9 4 (n+k) 24),(70,.int .i64 ((n+k:Nat):Int)),(71,.int .i64 y.1)])
  (fun y=>grS 1 (b3++x.fr.sl.toList.take y.1).length (some y.2) ((({}:St).set b1 (eCz n es)).set b9 (eEy x))) (fun y=>y.1≤n+k∧grN (some y.2) ((({}:St).set b1 (eCz n es)).set b9 (eEy x))) (fun y=>n+k-y.1) (0,c3) ⟨Nat.zero_le _,hg3⟩ ?_ (by simpa using hle3) ?_
 ·simp -implicitDefEqProofs only[go_sem,hT,Nat.mul_one,Nat.add_zero,Nat.zero_add,List.take_zero,bYhpF0]
  exact⟨rfl,rfl,rfl⟩
 clear hT T
 rintro⟨j,c⟩ ⟨hj,hgc⟩ T hT
 simp only at hj hgc hT ⊢
 have k4:∀{m:Nat} {o:Option Nat},(grS 1 m o ((({}:St).set b1 (eCz n es)).set b9 (eEy x))).box b9=some (eEy x):=hS
 by_cases h':j<n+k
 ·have g6:((j:Int)<((n+k:Nat):Int))=True:=eq_true (by omega)
  have w5:IntKind.wrap .i64 ((j:Int)+1)=((j+1:Nat):Int):=by rw[zc2 (by omega) (by omega)]; simp
  have hat:(eEy x)[4+j]? =some (.int .u8 ((slAt x.fr j).val:Int)):=by
   have:=fr_sl x.fr (i:=j) (by omega)
   rw[show 4+j=2+j+1+1 by omega]; exact this
  have hnx:x.fr.sl.toList.take (j+1)=x.fr.sl.toList.take j++[slAt x.fr j]:=by
   have hjl:j<x.fr.sl.toList.length:=by simp; omega
   rw[List.take_add_one,slAt,List.getElem?_eq_getElem hjl]; rfl
  simp -implicitDefEqProofs only[go_sem,hT,gdD,Nat.mul_one,Nat.add_zero,Nat.zero_add,eCz_len,zf9,eCz_0,eCz_1,k4,ey_2,ey_3,hfl,hk,w4,g6,hat,frz]
  refine⟨by omega,br_app (ys:=[slAt x.fr j]) hgc (St.le.refl _) (by simp) (by simp; omega) fun c4 σ4 hbox4 hle4 hg4=> ?_⟩
  simp -implicitDefEqProofs only[go_sem,hT,Nat.mul_one,Nat.add_zero,Nat.zero_add,w5,bYhpF0]
  rw[List.append_assoc,←hnx] at hle4 ⊢
  exact⟨(j+1,c4),⟨by simp only; omega,hg4⟩,by simp only; omega,⟨rfl,rfl⟩,hle4⟩
 have g6:((j:Int)<((n+k:Nat):Int))=False:=eq_false (by omega)
 have hfin:headB n es.length++(es.take (i+1)).flatMap (bytesE n)=b3++x.fr.sl.toList.take j:=by
  rw[hnext,←List.append_assoc,hbs,hby,←hb3,show j=n+k by omega]; simp
 simp -implicitDefEqProofs only[go_sem,hT,gdD,Nat.mul_one,Nat.add_zero,Nat.zero_add,eCz_len,zf9,eCz_0,eCz_1,k4,ey_2,ey_3,hfl,hk,w4,g6,w3]
 exact⟨(i+1,some c),⟨by simp only; omega,hgb hgc⟩,by simp only; omega,⟨by simp only[hfin],rfl⟩,by simp only[hfin]; exact hbase⟩
open Go.Proofs
theorem least_neg {l:List Bool} (h:leastD l<0) (x:Nat):(l[x]?).getD false=false:=by
 unfold leastD at h
 split at h
 ·omega
 ·rename_i hn
  rw[List.findIdx?_eq_none_iff] at hn
  cases hx:l[x]? with
  |none=>rfl
  |some v=>exact hn v (List.mem_of_getElem? hx)
theorem goD_ind {e:En} {b:List Ty} {I:IS→Prop} (hI:∀(s:IS) (a:Nat),s.sz (b.length+1)→FH s→I s→a≤b.length→(s.fresh[a]?).getD false=true→leastD s.fresh=a→(roundD e b s a).2.2=0→I (roundD e b s a).1):
  ∀(k:Nat) (s:IS),s.sz (b.length+1)→FH s→muS e.cs s (b.length+1)<k→I s→(goD e b k s (leastD s.fresh)).2.2=0→
   ∃r:IS,goD e b k s (leastD s.fresh)=(r,0,0)∧r.sz (b.length+1)∧FH r∧I r∧∀x:Nat,(r.fresh[x]?).getD false=false
 |0,s,_,_,hk,_,_=>absurd hk (Nat.not_lt_zero _)
 |k+1,s,hs,hf,hk,hi,h=>by
  rw[goD] at h ⊢
  by_cases h0:leastD s.fresh<0
  ·rw[if_pos h0]
   exact⟨s,rfl,hs,hf,hi,least_neg h0⟩
  ·rw[if_neg h0] at h ⊢
   obtain⟨a,ha⟩:∃a:Nat,leastD s.fresh=a:=⟨_,(Int.toNat_of_nonneg (by omega)).symm⟩
   obtain⟨h1,h2⟩:=least_in ha (by omega)
   rw[Int.toNat_natCast] at h1 h2
   rw[hs.c] at h1
   rw[ha,Int.toNat_natCast] at h ⊢
   have hal:a≤b.length:=by omega
   by_cases hr:(roundD e b s a).2.2=0
   ·have hr':¬(roundD e b s a).2.2≠0:=fun h=>h hr
    rw[if_neg hr'] at h ⊢
    obtain⟨_,_,_,_,_,_,r6,_,_⟩:=round_shape (e:=e) hs hal
    exact goD_ind hI k _ r6 (round_FH hf hs hal) (Nat.lt_of_lt_of_le (round_falls (e:=e) hs hal h2) (Nat.le_of_lt_succ hk)) (hI s a hs hf hi hal h2 ha hr) h
   ·rw[if_pos hr] at h; exact absurd h hr
theorem is0_sz {n:Nat} {f:Fr}:(is0 n f).sz (n+1):=⟨by simp[is0],by simp[is0],by simp[is0],by simp[is0]⟩
theorem is0_FH {n:Nat} {f:Fr}:FH (is0 n f):=fun x hx=>hx
theorem is0_has {n:Nat} {f:Fr} {x:Nat}:((is0 n f).has[x]?).getD false=decide (x=0):=by
 simp only[is0]
 rw[set_at (by simp)]
 by_cases hx:x=0
 ·rw[if_pos hx]; simp[hx]
 ·rw[if_neg hx,List.getElem?_replicate]; split <;> simp[hx]
theorem is0_fr {n:Nat} {f:Fr}:((is0 n f).fr[0]?).getD (fr0 0)=f:=by
 simp only[is0]
 rw[set_at (by simp),if_pos rfl]
theorem is0_least {n:Nat} {f:Fr}:leastD (is0 n f).fresh=((0:Nat):Int):=least_at (by simp[is0]) (by simp[is0]) (fun j hj=>by omega)
theorem is0_mu {l:List Cl} {n:Nat} {f:Fr}:muS l (is0 n f) (n+1)<fuelD n:=by
 have:=muS_le (l:=l) (s:=is0 n f) (m:=n+1)
 unfold fuelD
 rw[show n+1+1=n+2 from rfl] at this
 generalize (n+1)*6145*(n+2)=P at *
 omega
theorem gone_ind {e:En} {loc:Int} {b:List Ty} {I:IS→Prop} (hI:∀(s:IS) (a:Nat),s.sz (b.length+1)→FH s→I s→a≤b.length→(s.fresh[a]?).getD false=true→leastD s.fresh=a→(roundD e b s a).2.2=0→I (roundD e b s a).1)
  (h0:I (is0 b.length (startF e.cs.length (psOf e) loc).1)) (h:(goneD e loc b).2.2=0):
  ∃r:IS,goneD e loc b=(r,0,0)∧r.sz (b.length+1)∧FH r∧I r∧∀x:Nat,(r.fresh[x]?).getD false=false:=by
 have hl:(0:Int)=leastD (is0 b.length (startF e.cs.length (psOf e) loc).1).fresh:=is0_least.symm
 unfold goneD at h ⊢
 rw[hl] at h ⊢
 exact goD_ind hI _ _ is0_sz is0_FH is0_mu h0 h
def EndI (n:Nat) (s:IS):Prop:=(s.has[n]?).getD false=true→(s.fresh[n]?).getD false=true
theorem hand_end {l:List Cl} {s:IS} {m a n:Nat} {g:Fr} (h:EndI n s) (hs:s.sz m) (ha:a<m):EndI n (handD l s a g).1:=by
 unfold handD
 split
 ·intro hx
  simp only at hx ⊢
  rw[set_at (by rw[hs.c]; omega)]
  rw[set_at (by rw[hs.a]; omega)] at hx
  by_cases he:n=a
  ·rw[if_pos he]
  ·rw[if_neg he] at hx ⊢; exact h hx
 split
 ·exact h
 split
 ·intro hx
  simp only at hx ⊢
  rw[set_at (by rw[hs.c]; omega)]
  by_cases he:n=a
  ·rw[if_pos he]
  ·rw[if_neg he]; exact h hx
 ·exact h
theorem hands_end {l:List Cl} {m n:Nat} {g:Fr}:∀{to:List Int} {s:IS},EndI n s→s.sz m→(∀x∈to,0≤x∧x<m)→EndI n (handsD l g to s).1
 |[],s,h,_,_=>h
 |a::r,s,h,hs,ht=>by
  have h1:=hand_end (l:=l) (g:=g) h hs (show a.toNat<m by have:=ht a (List.mem_cons_self ..); omega)
  rw[handsD]
  split
  ·exact h1
  ·exact hands_end h1 (hand_sz hs) fun x hx=>ht x (List.mem_cons_of_mem _ hx)
theorem round_ok {e:En} {b:List Ty} {s:IS} {a:Nat} (h:(roundD e b s a).2.2=0):
  a≠b.length∧(decF b a).2=0∧overB s.tk a (zf1 (decF b a).1.op.val)=false∧(applyR e ((s.fr[a]?).getD (fr0 0)) (decF b a).1).2=0∧(onD (decF b a).1 b.length).2=0∧
   roundD e b s a=handsD e.cs (applyR e ((s.fr[a]?).getD (fr0 0)) (decF b a).1).1 (onD (decF b a).1 b.length).1 ⟨s.has,s.fr,s.fresh.set a false,s.tk.set a (zf1 (decF b a).1.op.val)⟩:=by
 by_cases g1:a=b.length
 ·unfold roundD at h; rw[if_pos g1] at h; cases h
 by_cases g2:(decF b a).2=0
 case neg=>unfold roundD at h; rw[if_neg g1,if_pos g2] at h; exact absurd h g2
 have q2:¬(decF b a).2≠0:=fun h=>h g2
 cases g3:overB s.tk a (zf1 (decF b a).1.op.val)
 case true=>unfold roundD at h; rw[if_neg g1,if_neg q2,if_pos g3] at h; cases h
 have q3:¬overB s.tk a (zf1 (decF b a).1.op.val)=true:=by rw[g3]; simp
 by_cases g4:(applyR e ((s.fr[a]?).getD (fr0 0)) (decF b a).1).2=0
 case neg=>unfold roundD at h; rw[if_neg g1,if_neg q2,if_neg q3] at h; simp only at h; rw[if_pos g4] at h; exact absurd h g4
 have q4:¬(applyR e ((s.fr[a]?).getD (fr0 0)) (decF b a).1).2≠0:=fun h=>h g4
 by_cases g5:(onD (decF b a).1 b.length).2=0
 case neg=>unfold roundD at h; rw[if_neg g1,if_neg q2,if_neg q3] at h; simp only at h; rw[if_neg q4,if_pos g5] at h; exact absurd h g5
 have q5:¬(onD (decF b a).1 b.length).2≠0:=fun h=>h g5
 refine⟨g1,g2,rfl,g4,g5, ?_⟩
 unfold roundD; rw[if_neg g1,if_neg q2,if_neg q3]; simp only; rw[if_neg q4,if_neg q5]
theorem round_end {e:En} {b:List Ty} {s:IS} {a:Nat} (hi:EndI b.length s) (hs:s.sz (b.length+1)) (ha:a≤b.length) (h:(roundD e b s a).2.2=0):EndI b.length (roundD e b s a).1:=by
 obtain⟨h1,h2,h3,h4,h5,h6⟩:=round_ok h
 rw[h6]
 refine hands_end (m:=b.length+1) ?_ ⟨hs.a,hs.b,by simpa using hs.c,by simpa using hs.d⟩ fun x hx=>by have:=on_in h2 hx; omega
 intro hx
 simp only
 rw[set_at (by rw[hs.c]; omega),if_neg (Ne.symm h1)]
 exact hi hx
theorem gone_end {e:En} {loc:Int} {b:List Ty} (h:(goneD e loc b).2.2=0):((goneD e loc b).1.has[b.length]?).getD false=false:=by
 obtain⟨r,h1,h2,h3,h4,h5⟩:=gone_ind (I:=EndI b.length) (fun s a hs hf hi ha _ _ hr=>round_end hi hs ha hr) (fun hx=>by
  have h0:=hx; rw[is0_has] at h0; simp only[decide_eq_true_eq] at h0
  simp[is0,h0]) h
 rw[h1]
 cases hx:(r.has[b.length]?).getD false with
 |false=>rfl
 |true=>have:=h4 hx; rw[h5] at this; cases this
open Go.Proofs
theorem SubF.refl {l:List Cl} {f:Fr} (h:checkF l.length f=0):SubF l f f:=⟨h,h,rfl,rfl,fun i hi=>subB_refl ((checkF_iff.1 h).2.2 i hi)⟩
theorem SubF.trans {l:List Cl} {f g k:Fr} (h:SubF l f g) (h':SubF l g k):SubF l f k:=⟨h.ca,h'.cb,h.loc.trans h'.loc,h.h.trans h'.h,fun i hi=>subB_trans (h.sl i hi) (h'.sl i hi)⟩
theorem mergeF_ok {l:List Cl} {f g:Fr} (h:(mergeF l f g).2=0):alikeF l.length f g=0∧mergeF l f g=(mgAt l f g (f.loc+f.h).toNat,0):=by
 unfold mergeF at h ⊢
 by_cases h0:alikeF l.length f g=0
 ·exact⟨h0,by rw[if_neg (by omega)]⟩
 ·rw[if_pos h0] at h; exact absurd h h0
theorem mergeF_up {l:List Cl} {f g:Fr} (h:(mergeF l f g).2=0):SubF l f (mergeF l f g).1∧SubF l g (mergeF l f g).1∧∀u,SubF l f u→SubF l g u→SubF l (mergeF l f g).1 u:=by
 obtain⟨h0,h1⟩:=mergeF_ok h
 rw[h1]
 simp only
 obtain⟨ca,cb,hloc,hh⟩:=alike_zero h0
 obtain⟨a1,a2,a3⟩:=checkF_iff.1 ca
 obtain⟨b1,b2,b3⟩:=checkF_iff.1 cb
 obtain⟨s1,s2,s3,s4⟩:=shaped_of a1
 have h24:(f.loc+f.h).toNat≤24:=by omega
 obtain⟨m1,m2⟩:=mgAt_loc (l:=l) (a:=f) (b:=g) (f.loc+f.h).toNat
 have msl:=fun i hi=>mgAt_sl (l:=l) (a:=f) (b:=g) (f.loc+f.h).toNat h24 i hi
 have out:∀k:Fr,bareF k=k→k.loc=f.loc→k.h=f.h→∀i,i<24→¬i<(f.loc+f.h).toNat→slAt k i=0:=fun k hb hl hk i hi hn=>by
  rw[←hb,slAt_bare k hi,if_neg (by omega)]
 generalize mgAt l f g (f.loc+f.h).toNat=m at m1 m2 msl
 have cm:checkF l.length m=0:=by
  refine checkF_iff.2 ⟨?_,fr_ext ?_ ?_ fun i hi=> ?_,fun i hi=> ?_⟩
  ·simp only[shapedB,m1,m2]; simpa[shapedB] using a1
  ·exact bare_loc _
  ·exact bare_h _
  ·rw[slAt_bare m hi,m1,m2]
   by_cases hc:(i:Int)<f.loc+f.h
   ·rw[if_pos hc]
   ·rw[if_neg hc,msl i hi,if_neg (by omega),out f a2 rfl rfl i hi (by omega)]
  ·rw[msl i hi]
   split
   ·exact merge_valid _ _
   ·exact a3 i hi
 refine⟨⟨ca,cm,m1.symm,m2.symm,fun i hi=> ?_⟩,⟨cb,cm,by omega,by omega,fun i hi=> ?_⟩,fun u h1 h2=>⟨cm,h1.cb,m1.trans h1.loc,m2.trans h1.h,fun i hi=> ?_⟩⟩
 ·rw[msl i hi]
  split
  ·exact(merge_up (a3 i hi) (b3 i hi)).1
  ·exact subB_refl (a3 i hi)
 ·rw[msl i hi]
  split
  ·exact(merge_up (a3 i hi) (b3 i hi)).2.1
  ·rename_i hn
   rw[out f a2 rfl rfl i hi hn,out g b2 hloc.symm hh.symm i hi hn]; exact subB_zero l
 ·rw[msl i hi]
  split
  ·exact(merge_up (a3 i hi) (b3 i hi)).2.2 _ (h1.sl i hi) (h2.sl i hi)
  ·exact h1.sl i hi
def hasP (s:IS) (x:Nat):Prop:=(s.has[x]?).getD false=true
def newP (s:IS) (x:Nat):Prop:=(s.fresh[x]?).getD false=true
def frA (s:IS) (x:Nat):Fr:=(s.fr[x]?).getD (fr0 0)
structure Handed (l:List Cl) (g:Fr) (T:List Nat) (s s':IS):Prop where
 has:∀x,hasP s' x↔hasP s x∨x∈T
 old:∀x,hasP s' x→¬newP s' x→hasP s x∧¬newP s x∧frA s' x=frA s x
 up:∀x,hasP s x→frA s' x=frA s x∨SubF l (frA s x) (frA s' x)
 got:∀x∈T,SubF l g (frA s' x)
 least:∀F:Nat→Fr,(∀x,hasP s x→SubF l (frA s x) (F x))→(∀x∈T,SubF l g (F x))→∀x,hasP s' x→SubF l (frA s' x) (F x)
theorem Handed.nil {l:List Cl} {g:Fr} {s:IS}:Handed l g [] s s:=⟨fun x=>by simp,fun x h1 h2=>⟨h1,h2,rfl⟩,fun x _=> .inl rfl,fun x h=>(by cases h),fun F h _ x hx=>h x hx⟩
theorem Handed.trans {l:List Cl} {g:Fr} {T T':List Nat} {s s1 s2:IS} (h:Handed l g T s s1) (h':Handed l g T' s1 s2):Handed l g (T++T') s s2:=by
 refine⟨fun x=> ?_,fun x h1 h2=> ?_,fun x hx=> ?_,fun x hx=> ?_,fun F h1 h2 x hx=> ?_⟩
 ·rw[h'.has,h.has,List.mem_append,or_assoc]
 ·obtain⟨a1,a2,a3⟩:=h'.old x h1 h2
  obtain⟨b1,b2,b3⟩:=h.old x a1 a2
  exact⟨b1,b2,a3.trans b3⟩
 ·rcases h.up x hx with h3|h3 <;> rcases h'.up x ((h.has x).2 (.inl hx)) with h4|h4
  ·exact .inl (h4.trans h3)
  ·exact .inr (h3▸h4)
  ·exact .inr (h4▸h3)
  ·exact .inr (h3.trans h4)
 ·rcases List.mem_append.1 hx with hx|hx
  ·rcases h'.up x ((h.has x).2 (.inr hx)) with h4|h4
   ·rw[h4]; exact h.got x hx
   ·exact(h.got x hx).trans h4
  ·exact h'.got x hx
 ·exact h'.least F (h.least F h1 fun y hy=>h2 y (List.mem_append_left _ hy)) (fun y hy=>h2 y (List.mem_append_right _ hy)) x hx
theorem hand_handed {l:List Cl} {s:IS} {m a:Nat} {g:Fr} (hs:s.sz m) (ha:a<m) (hg:checkF l.length g=0) (h:(handD l s a g).2=0):Handed l g [a] s (handD l s a g).1:=by
 have hla:a<s.has.length:=by rw[hs.a]; omega
 have hlb:a<s.fr.length:=by rw[hs.b]; omega
 have hlc:a<s.fresh.length:=by rw[hs.c]; omega
 unfold handD at h ⊢
 by_cases g1:(s.has[a]?).getD false=false
 ·rw[if_pos g1]
  have e1:∀x,hasP ⟨s.has.set a true,s.fr.set a g,s.fresh.set a true,s.tk⟩ x↔x=a∨hasP s x:=fun x=>by
   simp only[hasP]; rw[set_at hla]; split <;> simp_all
  have e2:∀x,newP ⟨s.has.set a true,s.fr.set a g,s.fresh.set a true,s.tk⟩ x↔x=a∨newP s x:=fun x=>by
   simp only[newP]; rw[set_at hlc]; split <;> simp_all
  have e3:∀x,frA ⟨s.has.set a true,s.fr.set a g,s.fresh.set a true,s.tk⟩ x=if x=a then g else frA s x:=fun x=>by
   simp only[frA]; rw[set_at hlb]
  have hna:∀x,hasP s x→x≠a:=fun x hx he=>by rw[he] at hx; unfold hasP at hx; rw[g1] at hx; cases hx
  refine⟨fun x=>by rw[e1]; simp[or_comm],fun x h1 h2=> ?_,fun x hx=> ?_,fun x hx=> ?_,fun F h1 h2 x hx=> ?_⟩
  ·rw[e2,not_or] at h2
   rw[e1] at h1
   rw[e3,if_neg h2.1]
   exact⟨h1.resolve_left h2.1,h2.2,rfl⟩
  ·rw[e3,if_neg (hna x hx)]; exact .inl rfl
  ·have:x=a:=by simpa using hx
   rw[e3,if_pos this]; exact SubF.refl hg
  ·rw[e3]
   by_cases he:x=a
   ·rw[if_pos he]; exact h2 x (by simp[he])
   ·rw[if_neg he]; exact h1 x (((e1 x).1 hx).resolve_left he)
 rw[if_neg g1] at h ⊢
 have hsa:hasP s a:=by unfold hasP; simpa using g1
 by_cases g2:(mergeF l ((s.fr[a]?).getD (fr0 0)) g).2=0
 case neg=>rw[if_pos g2] at h; exact absurd h g2
 have g2':¬(mergeF l ((s.fr[a]?).getD (fr0 0)) g).2≠0:=fun h=>h g2
 rw[if_neg g2'] at h ⊢
 obtain⟨u1,u2,u3⟩:=mergeF_up g2
 by_cases g3:(mergeF l ((s.fr[a]?).getD (fr0 0)) g).1=(s.fr[a]?).getD (fr0 0)
 ·have g3':¬(mergeF l ((s.fr[a]?).getD (fr0 0)) g).1≠(s.fr[a]?).getD (fr0 0):=fun h=>h g3
  rw[if_neg g3']
  refine⟨fun x=> ?_,fun x h1 h2=>⟨h1,h2,rfl⟩,fun x _=> .inl rfl,fun x hx=> ?_,fun F h1 _ x hx=>h1 x hx⟩
  ·constructor
   ·exact .inl
   ·rintro(h|h)
    ·exact h
    ·rw[show x=a by simpa using h]; exact hsa
  ·rw[show x=a by simpa using hx]
   show SubF l g ((s.fr[a]?).getD (fr0 0))
   rw[←g3]; exact u2
 ·rw[if_pos g3]
  generalize (mergeF l ((s.fr[a]?).getD (fr0 0)) g).1=M at u1 u2 u3 g3
  have e2:∀x,newP ⟨s.has,s.fr.set a M,s.fresh.set a true,s.tk⟩ x↔x=a∨newP s x:=fun x=>by
   simp only[newP]; rw[set_at hlc]; split <;> simp_all
  have e3:∀x,frA ⟨s.has,s.fr.set a M,s.fresh.set a true,s.tk⟩ x=if x=a then M else frA s x:=fun x=>by
   simp only[frA]; rw[set_at hlb]
  refine⟨fun x=> ?_,fun x h1 h2=> ?_,fun x hx=> ?_,fun x hx=> ?_,fun F h1 h2 x hx=> ?_⟩
  ·constructor
   ·exact .inl
   ·rintro(h|h)
    ·exact h
    ·rw[show x=a by simpa using h]; exact hsa
  ·rw[e2,not_or] at h2
   rw[e3,if_neg h2.1]
   exact⟨h1,h2.2,rfl⟩
  ·rw[e3]
   by_cases he:x=a
   ·subst he; rw[if_pos rfl]; exact .inr u1
   ·rw[if_neg he]; exact .inl rfl
  ·rw[e3,if_pos (show x=a by simpa using hx)]; exact u2
  ·rw[e3]
   by_cases he:x=a
   ·subst he; rw[if_pos rfl]; exact u3 _ (h1 x hx) (h2 x (by simp))
   ·rw[if_neg he]; exact h1 x hx
theorem hands_handed {l:List Cl} {m:Nat} {g:Fr} (hg:checkF l.length g=0):∀{to:List Int} {s:IS},s.sz m→(∀x∈to,0≤x∧x<m)→(handsD l g to s).2.2=0→Handed l g (to.map Int.toNat) s (handsD l g to s).1
 |[],s,_,_,_=> .nil
 |a::r,s,hs,ht,h=>by
  have ha:=ht a (List.mem_cons_self ..)
  rw[handsD] at h ⊢
  by_cases h0:(handD l s a.toNat g).2=0
  case neg=>rw[if_pos h0] at h; exact absurd h h0
  have h0':¬(handD l s a.toNat g).2≠0:=fun h=>h h0
  rw[if_neg h0'] at h ⊢
  exact(hand_handed hs (by omega) hg h0).trans (hands_handed hg (hand_sz hs) (fun x hx=>ht x (List.mem_cons_of_mem _ hx)) h)
def nextN (b:List Ty) (a:Nat):List Nat:=(onD (decF b a).1 b.length).1.map Int.toNat
def insA (b:List Ty) (a:Nat):Ins:=(decF b a).1
abbrev szA (b:List Ty) (x:Nat):Nat:=zf1 (insA b x).op.val
def behA (e:En) (b:List Ty) (s:IS) (a:Nat):Fr:=(applyR e (frA s a) (insA b a)).1
theorem round_handed {e:En} {b:List Ty} {s:IS} {a:Nat} (hw:WideE e) (hs:s.sz (b.length+1)) (ha:a≤b.length) (h:(roundD e b s a).2.2=0):
  Handed e.cs (behA e b s a) (nextN b a) ⟨s.has,s.fr,s.fresh.set a false,s.tk.set a (zf1 (decF b a).1.op.val)⟩ (roundD e b s a).1:=by
 obtain⟨h1,h2,h3,h4,h5,h6⟩:=round_ok h
 rw[h6] at h ⊢
 exact hands_handed (done_check hw (done_iff.1 h4)) ⟨hs.a,hs.b,by simpa using hs.c,by simpa using hs.d⟩ (fun x hx=>by have:=on_in h2 hx; omega) h
def FixI (e:En) (b:List Ty) (s:IS):Prop:=∀x,hasP s x→¬newP s x→x≠b.length∧(decF b x).2=0∧(applyR e (frA s x) (insA b x)).2=0∧(onD (decF b x).1 b.length).2=0∧∀y∈nextN b x,hasP s y∧SubF e.cs (behA e b s x) (frA s y)
theorem round_fix {e:En} {b:List Ty} {s:IS} {a:Nat} (hw:WideE e) (hs:s.sz (b.length+1)) (ha:a≤b.length) (hn:newP s a) (hi:FixI e b s) (hf:FH s) (h:(roundD e b s a).2.2=0):FixI e b (roundD e b s a).1:=by
 have H:=round_handed hw hs ha h
 obtain⟨h1,h2,h3,h4,h5,h6⟩:=round_ok h
 have lc:a<s.fresh.length:=by rw[hs.c]; omega
 generalize (roundD e b s a).1=s' at H
 intro x hx hnx
 obtain⟨o1,o2,o3⟩:=H.old x hx hnx
 have o1:hasP s x:=o1
 have o3:frA s' x=frA s x:=o3
 have hb:behA e b s' x=behA e b s x:=by unfold behA; rw[o3]
 have up:∀y g,hasP s y→SubF e.cs g (frA s y)→hasP s' y∧SubF e.cs g (frA s' y):=fun y g hy hg=>⟨(H.has y).2 (.inl hy),by
  rcases H.up y hy with h|h
  ·rw[h]; exact hg
  ·exact hg.trans h⟩
 rw[hb,o3]
 by_cases he:x=a
 ·subst he
  exact⟨h1,h2,h4,h5,fun y hy=>⟨(H.has y).2 (.inr hy),H.got y hy⟩⟩
 ·have hnn:¬newP s x:=fun hc=>o2 (by
   unfold newP at hc ⊢
   simp only
   rw[set_at lc,if_neg he]; exact hc)
  obtain⟨i1,i2,i3,i4,i5⟩:=hi x o1 hnn
  exact⟨i1,i2,i3,i4,fun y hy=>up y _ (i5 y hy).1 (i5 y hy).2⟩
def StartI (e:En) (f0:Fr) (s:IS):Prop:=hasP s 0∧SubF e.cs f0 (frA s 0)∧∀x,hasP s x→checkF e.cs.length (frA s x)=0
theorem round_start {e:En} {b:List Ty} {s:IS} {a:Nat} {f0:Fr} (hw:WideE e) (hs:s.sz (b.length+1)) (ha:a≤b.length) (hi:StartI e f0 s) (h:(roundD e b s a).2.2=0):StartI e f0 (roundD e b s a).1:=by
 have H:=round_handed hw hs ha h
 generalize (roundD e b s a).1=s' at H
 obtain⟨i1,i2,i3⟩:=hi
 refine⟨(H.has 0).2 (.inl i1), ?_,fun x hx=> ?_⟩
 ·rcases H.up 0 i1 with h|h
  ·rw[h]; exact i2
  ·exact i2.trans h
 ·rcases(H.has x).1 hx with hx|hx
  ·rcases H.up x hx with h|h
   ·rw[h]; exact i3 x hx
   ·exact h.cb
  ·exact(H.got x hx).cb
open Go.Proofs
theorem slAt_slOf {a h:Int} {ts:List Ty} {i:Nat} (hi:i<24):slAt ⟨a,h,slOf ts⟩ i=(ts[i]?).getD 0:=by
 simp[slAt,slOf,hi]
theorem start_eq {e:En} {loc:Int} (h:mayE e loc=0):canB e=true∧(psOf e).length≤loc∧loc≤16∧(∀t∈psOf e,storedN e.cs.length t=true)∧startF e.cs.length (psOf e) loc=(⟨loc,0,slOf (psOf e)⟩,0):=by
 have hno:¬(canB e=false∨loc<(psOf e).length∨16<loc):=fun hc=>(may_can e loc).2 hc h
 have hcan:canB e=true:=by
  cases h:canB e with
  |true=>rfl
  |false=>exact absurd (.inl h) hno
 obtain⟨hs,h0,hps,hp8,hst⟩:=can_sig hcan
 have h1:¬loc<(psOf e).length:=fun h=>hno (.inr (.inl h))
 have h2:¬16<loc:=fun h=>hno (.inr (.inr h))
 have hok:=start_ok hcan (n:=loc) h1 h2
 refine⟨hcan,by omega,by omega,hst, ?_⟩
 unfold startF at hok ⊢
 split
 ·rename_i hc; rw[if_pos hc] at hok; cases hok
 ·rfl
theorem start_check {e:En} {loc:Int} (h:mayE e loc=0):checkF e.cs.length (startF e.cs.length (psOf e) loc).1=0:=by
 obtain⟨_,h1,h2,h3,h4⟩:=start_eq h
 rw[h4]
 simp only
 refine checkF_iff.2 ⟨?_,fr_ext (bare_loc _) (bare_h _) fun i hi=> ?_,fun i hi=> ?_⟩
 ·simp only[shapedB,decide_eq_true_eq]; omega
 ·rw[slAt_bare _ hi]
  split
  ·rfl
  ·rename_i hc
   simp only at hc
   rw[slAt_slOf hi,List.getElem?_eq_none (by omega)]; rfl
 ·rw[slAt_slOf hi]
  cases hx:(psOf e)[i]? with
  |none=>exact valid_0 _
  |some t=>exact stored_valid (h3 t (List.mem_of_getElem? hx))
structure LastP (e:En) (loc:Int) (b:List Ty) (r:IS):Prop where
 sz:r.sz (b.length+1)
 lt:∀x,hasP r x→x<b.length
 start:StartI e (startF e.cs.length (psOf e) loc).1 r
 goes:∀x,hasP r x→(decF b x).2=0∧(applyR e (frA r x) (insA b x)).2=0∧(onD (decF b x).1 b.length).2=0∧∀y∈nextN b x,hasP r y∧SubF e.cs (behA e b r x) (frA r y)
theorem hasP_lt {s:IS} {m x:Nat} (hs:s.sz m) (h:hasP s x):x<m:=by
 unfold hasP at h
 rw[←hs.a]
 exact Classical.byContradiction fun hc=>by rw[List.getElem?_eq_none (by omega)] at h; cases h
theorem is0_hasP {n:Nat} {f:Fr} {x:Nat}:hasP (is0 n f) x↔x=0:=by unfold hasP; rw[is0_has]; simp
theorem gone_last {e:En} {loc:Int} {b:List Ty} (hw:WideE e) (hm:mayE e loc=0) (h:(goneD e loc b).2.2=0):∃r,goneD e loc b=(r,0,0)∧LastP e loc b r:=by
 have hend:=gone_end h
 obtain⟨r,h1,h2,h3,⟨h4,h5⟩,h6⟩:=gone_ind (I:=fun s=>FixI e b s∧StartI e (startF e.cs.length (psOf e) loc).1 s)
  (fun s a hs hf ⟨i1,i2⟩ ha hn _ hr=>⟨round_fix hw hs ha hn i1 hf hr,round_start hw hs ha i2 hr⟩)
  ⟨fun x hx hn=>by
   rw[is0_hasP] at hx
   exact absurd (show newP (is0 b.length _) x by subst hx; simp[newP,is0]) hn,
   by rw[is0_hasP],by
   have:frA (is0 b.length (startF e.cs.length (psOf e) loc).1) 0=(startF e.cs.length (psOf e) loc).1:=is0_fr
   rw[this]; exact SubF.refl (start_check hm),fun x hx=>by
   rw[is0_hasP] at hx
   subst hx
   have:frA (is0 b.length (startF e.cs.length (psOf e) loc).1) 0=(startF e.cs.length (psOf e) loc).1:=is0_fr
   rw[this]; exact start_check hm⟩ h
 have hno:∀x,¬newP r x:=fun x hx=>by unfold newP at hx; rw[h6] at hx; cases hx
 refine⟨r,h1,h2,fun x hx=> ?_,h5,fun x hx=>(h4 x hx (hno x)).2⟩
 have:=hasP_lt h2 hx
 have:=(h4 x hx (hno x)).1
 omega
theorem infer_last {e:En} {loc:Int} {b:List Ty} (hw:WideE e) (h:(inferD e loc b).2.2=0):mayE e loc=0∧b.length≤4096∧∃r,goneD e loc b=(r,0,0)∧LastP e loc b r∧inferD e loc b=(entsD r b.length,0,0):=by
 unfold inferD at h ⊢
 by_cases h1:mayE e loc=0
 case neg=>rw[if_pos h1] at h; exact absurd h h1
 have h1':¬mayE e loc≠0:=fun h=>h h1
 rw[if_neg h1'] at h ⊢
 by_cases h2:4096<b.length
 ·rw[if_pos h2] at h; cases h
 rw[if_neg h2] at h ⊢
 simp only at h ⊢
 have hg:goneD e loc b=goD e b (fuelD b.length) (is0 b.length (startF e.cs.length (psOf e) loc).1) 0:=rfl
 rw[←hg] at h ⊢
 by_cases h3:(goneD e loc b).2.2=0
 case neg=>rw[if_pos h3] at h; exact absurd h h3
 obtain⟨r,h4,h5⟩:=gone_last hw h1 h3
 refine⟨h1,by omega,r,h4,h5, ?_⟩
 rw[h4]; rfl
theorem ents_mem {s:IS} {n:Nat} {x:Ey}:x∈entsD s n↔∃a:Nat,a<n∧hasP s a∧x=⟨(a:Int),false,frA s a⟩:=by
 unfold entsD
 rw[List.mem_filterMap]
 constructor
 ·rintro⟨a,ha,hx⟩
  rw[List.mem_range] at ha
  split at hx
  ·rename_i hh; exact⟨a,ha,hh,by simpa[frA] using hx.symm⟩
  ·cases hx
 ·rintro⟨a,ha,hh,rfl⟩
  exact⟨a,List.mem_range.2 ha,by unfold hasP at hh; rw[if_pos hh]; rfl⟩
open Go.Proofs
theorem filterMap_if {α β:Type} {p:α→Bool} {g:α→β}:∀l:List α,(l.filterMap fun a=>if p a=true then some (g a) else none)=(l.filter p).map g
 |[]=>rfl
 |a::l=>by
  rw[List.filterMap_cons,List.filter_cons,filterMap_if l]
  cases p a <;> simp
def adrs (s:IS) (n:Nat):List Nat:=(List.range n).filter fun a=>(s.has[a]?).getD false
theorem ents_adrs (s:IS) (n:Nat):entsD s n=(adrs s n).map fun a:Nat=>(⟨(a:Int),false,(s.fr[a]?).getD (fr0 0)⟩:Ey):=by
 unfold entsD adrs
 rw[←filterMap_if]
theorem sort_sorted {l:List Int} (h:l.Pairwise (· ≤ ·)):sortZ l=l:=by
 unfold sortZ
 exact List.mergeSort_of_pairwise (h.imp fun h=>by simpa using h)
theorem callB_new2 {P:Program} {N:Nat} {T:Env} {σ:St} {K:Env→St→Prop} {Q:XA→Env→St→Prop} {dst:Option Nat} {g:FuncId} {ds:List D} {R:D→St→Prop} (h:RCall P g ds {} R)
  (hk:∀d s',R d s'→∀τ,St.le s' τ→St.le σ τ→putK N dst d K T τ):callB P N [] false dst g ds K Q T σ:=by
 refine⟨{},σ,_,.pure σ,fun b hb=>(by cases hb),h,fun h=>(by cases h),fun x s' ⟨d,hx,hR⟩ hap _=> ?_⟩
 subst hx
 exact hk d s' hR _ ⟨fun x cs h=>by simp[St.join,h],fun x p h=>by simp[St.join,h],fun x o h=>by simp[St.join,h]⟩ (le_join hap)
open Go.Proofs
def wantX (b:List Ty) (x a:Nat):Bool:=(jumpsB (insA b x).op.val&&decide ((insA b x).a=(a:Int)))||(endsB (insA b x).op.val&&decide (x+szA b x=a))
def wantL (b:List Ty) (L:List Nat) (a:Nat):Bool:=L.any fun x=>wantX b x a
def hasB (s:IS) (a:Nat):Bool:=(s.has[a]?).getD false
def entA (s:IS) (a:Nat):Ey:=if hasB s a=true then⟨(a:Int),false,frA s a⟩ else⟨(a:Int),true,fr0 0⟩
def certE (b:List Ty) (s:IS):List Ey:=((List.range b.length).filter (wantL b (adrs s b.length))).map (entA s)
def emitD (e:En) (loc:Int) (b:List Ty):List Ty×Int×Nat:=
 if(inferD e loc b).2.2≠0 then([],(inferD e loc b).2.1,(inferD e loc b).2.2)
 else((encC loc (certE b (goneD e loc b).1)).1,0,(encC loc (certE b (goneD e loc b).1)).2)
theorem range_set {f:Nat→Bool} {m c:Nat} (h:c<m):(List.range m).map (fun a=>f a||decide (c=a))=((List.range m).map f).set c true:=by
 apply List.ext_getElem
 ·simp
 ·intro i h1 h2
  simp only[List.getElem_map,List.getElem_range,List.getElem_set]
  by_cases he:c=i
  ·simp[he]
  ·simp[he]
theorem wantL_snoc (b:List Ty) (L:List Nat) (x a:Nat):wantL b (L++[x]) a=(wantL b L a||wantX b x a):=by simp[wantL]
theorem marks_step {b:List Ty} {L:List Nat} {x m:Nat} (h1:jumpsB (insA b x).op.val=true→0≤(insA b x).a∧(insA b x).a<m) (h2:endsB (insA b x).op.val=true→x+szA b x<m):
  (List.range m).map (wantL b (L++[x]))=
   (if endsB (insA b x).op.val=true then(if jumpsB (insA b x).op.val=true then((List.range m).map (wantL b L)).set (insA b x).a.toNat true else(List.range m).map (wantL b L)).set (x+szA b x) true
    else if jumpsB (insA b x).op.val=true then((List.range m).map (wantL b L)).set (insA b x).a.toNat true else(List.range m).map (wantL b L)):=by
 have e1:jumpsB (insA b x).op.val=true→((List.range m).map (wantL b L)).set (insA b x).a.toNat true=(List.range m).map fun a=>wantL b L a||decide ((insA b x).a=(a:Int)):=fun hj=>by
  obtain⟨q1,q2⟩:=h1 hj
  rw[←range_set (f:=wantL b L) (c:=(insA b x).a.toNat) (by omega)]
  refine List.map_congr_left fun a _=> ?_
  congr 1
  rw[decide_eq_decide]
  omega
 cases he:endsB (insA b x).op.val <;> cases hj:jumpsB (insA b x).op.val
 ·simp only[Bool.false_eq_true,if_false]
  refine List.map_congr_left fun a _=> ?_
  rw[wantL_snoc,wantX,he,hj]; simp
 ·simp only[Bool.false_eq_true,if_false,if_true]
  rw[e1 hj]
  refine List.map_congr_left fun a _=> ?_
  rw[wantL_snoc,wantX,he,hj]; simp
 ·simp only[Bool.false_eq_true,if_false,if_true]
  rw[←range_set (h2 he)]
  refine List.map_congr_left fun a _=> ?_
  rw[wantL_snoc,wantX,he,hj]; simp
 ·simp only[if_true]
  rw[e1 hj,←range_set (h2 he)]
  refine List.map_congr_left fun a _=> ?_
  rw[wantL_snoc,wantX,he,hj]; simp[Bool.or_assoc]
theorem eIn_0 (i:Ins):(eIn i)[0]? =some (.int .i64 i.pos):=rfl
theorem eIn_2 (i:Ins):(eIn i)[2]? =some (.int .i64 i.a):=rfl
theorem adrs_mem {s:IS} {n a:Nat}:a∈adrs s n↔a<n∧hasP s a:=by
 unfold adrs
 rw[List.mem_filter,List.mem_range]; rfl
theorem last_leads {e:En} {loc:Int} {b:List Ty} {r:IS} (h:LastP e loc b r) {x:Nat} (hx:x∈adrs r b.length):
  (decF b x).2=0∧(jumpsB (insA b x).op.val=true→0≤(insA b x).a∧(insA b x).a<b.length)∧x+szA b x≤b.length:=by
 obtain⟨_,hh⟩:=adrs_mem.1 hx
 obtain⟨h1,_,h3,_⟩:=h.goes x hh
 refine⟨h1,fun hj=>⟨jumps_a h1 hj, ?_⟩,(decF_ok h1).2.2.2⟩
 refine Classical.byContradiction fun hc=> ?_
 unfold onD at h3
 unfold insA at hj hc
 simp only at h3
 rw[if_pos ⟨hj,by omega⟩] at h3
 cases h3
theorem cert_len (b:List Ty) (s:IS):(certE b s).length≤b.length:=by
 unfold certE
 rw[List.length_map]
 have:=List.length_filter_le (wantL b (adrs s b.length)) (List.range b.length)
 rw[List.length_range] at this; exact this
end Go.AL
