import Derived.Test.YtjffaachihpjbaaGreatCv
import Derived.Test.YtjffaachihpjbaaGreatCu
import Derived.Test.YtjffaachihpjbaaGreatCe
import Derived.Test.YtjffaachihpjbaaGreatCq
import Derived.Test.YtjffaachihpjbaaGreatCm
import Derived.Test.YtjffaachihpjbaaGreatCl
import Derived.Test.YtjffaachihpjbaaGreatCs
set_option linter.unusedSimpArgs false
set_option linter.unusedVariables false
set_option maxRecDepth 100000
set_option maxHeartbeats 4000000
set_option linter.defProp false
namespace Go.AL
open Go.Proofs
theorem shr256 {p:Nat}:IntKind.wrap .u8 ((p:Int).fdiv (2^min 8 64))=((byT (p/256)).val:Int):=by
 rw[byT_val,show((2:Int)^min 8 64)=256 by decide,Int.fdiv_eq_ediv_of_nonneg _ (by omega)]; rfl
def bXhpF0:=aI @gdD (aI @eCz_len (aI @eCz_take (aI @eCz_0 @eCz_1)))
theorem encode87 (loc:Int) (es:List Ey) (hl:es.length≤140737488355328):PCall Tryz.prog 49 [.agg (eCz loc es)] (.tup [.slice .no (rws eT (encC loc es).1),.int .i64 (encC loc es).2]):=by
 refine F49.pcallM rfl fun T hT=> ?_
 simp -implicitDefEqProofs only[go_sem,c49,hT,Nat.mul_one,Nat.add_zero,Nat.zero_add,bXhpF0]
 refine fun b1=>za3 (check130 loc es hl) ?_
 by_cases h0:(checkC loc es).2=0
 case neg=>
  have g0:(((checkC loc es).2:Int)=0)=False:=eq_false (by omega)
  rw[show encC loc es=([],(checkC loc es).2) by unfold encC; rw[if_pos h0]]
  simp -implicitDefEqProofs only[go_sem,hT,g0]
  exact DLe.tup (.cons (DLe.slice _ _) (.cons (DLe.refl _) .nil))
 have g0:(((checkC loc es).2:Int)=0)=True:=eq_true (by omega)
 rw[show encC loc es=(encB loc.toNat es,0) by unfold encC; rw[if_neg (by omega)]]
 obtain⟨n,rfl,hn,hes,hall⟩:=check_ok h0
 rw[Int.toNat_natCast]
 have q1:IntKind.wrap .u8 (n:Int)=((byT n).val:Int):=(byT_val n).symm
 have q2:=shr256 (p:=es.length)
 have q3:=(byT_val es.length).symm
 simp -implicitDefEqProofs only[go_sem,hT,g0,Nat.mul_one,Nat.add_zero,Nat.zero_add,frz,q1,q2,q3,bXhpF0]
 have hst:∀i,i≤es.length→(headB n es.length++(es.take i).flatMap (bytesE n)).length≤200000:=fun i hi=>by
  have:=flat_len n (es.take i)
  rw[List.length_take] at this
  simp only[List.length_append,headB,List.length_cons,List.length_nil]; omega
 refine loopL F49 (fun x:Nat×Option Nat=>[(1,.ptr b1 0),(7,brD x.2 (headB n es.length++(es.take x.1).flatMap (bytesE n))),(33,.slice .no (rws eEy es)),(34,.int .i64 es.length),(35,.int .i64 x.1)])
  (fun x=>grS 1 (headB n es.length++(es.take x.1).flatMap (bytesE n)).length x.2 (({}:St).set b1 (eCz n es))) (fun x=>x.1≤es.length∧grN x.2 (({}:St).set b1 (eCz n es))) (fun x=>es.length-x.1) (0,none) ⟨Nat.zero_le _,grN_none⟩ ?_ (St.le.refl _) ?_
 ·simp -implicitDefEqProofs only[go_sem,hT,Nat.mul_one,Nat.add_zero,Nat.zero_add,bXhpF0]
  exact⟨rfl,rfl⟩
 clear hT T
 rintro⟨i,o⟩ ⟨hi,ho⟩ T hT
 simp only at hi ho hT ⊢
 obtain⟨bs,hbs⟩:∃bs,headB n es.length++(es.take i).flatMap (bytesE n)=bs:=⟨_,rfl⟩
 have hbl:=hst i hi
 rw[hbs] at hT hbl ⊢
 have kb:∀{m:Nat} {o:Option Nat},(grS 1 m o (({}:St).set b1 (eCz n es))).box b1=some (eCz n es):=fun {m o}=>by rw[grS_boxa]; simp[St.set_box]
 by_cases h:i<es.length
 case neg=>
  have g5:((i:Int)<es.length)=False:=eq_false (by omega)
  have hfin:encB n es=bs:=by rw[←hbs,List.take_of_length_le (by omega)]; rfl
  rw[hfin]
  simp -implicitDefEqProofs only[go_sem,hT,g5,Nat.mul_one,Nat.add_zero,Nat.zero_add,bXhpF0]
  cases o with
  |none=>exact DLe.tup (.cons (DLe.slice _ _) (.cons (DLe.refl _) .nil))
  |some b=>exact DLe.tup (.cons (DLe.slice _ _) (.cons (DLe.refl _) .nil))
 have g5:((i:Int)<es.length)=True:=eq_true (by omega)
 have w3:IntKind.wrap .i64 ((i:Int)+1)=((i+1:Nat):Int):=by rw[zb7 (by omega) (by omega)]; simp
 have hget:=rws_at (enc:=eEy) h
 have hnext:=flat_take (n:=n) h
 obtain⟨p,hp,hp4,hx⟩:=hall es[i] (List.getElem_mem h)
 generalize es[i]=x at *
 have q4:=shr256 (p:=p)
 have q5:=(byT_val p).symm
 simp -implicitDefEqProofs only[go_sem,hT,g5,gdD,Nat.mul_one,Nat.add_zero,Nat.zero_add,eCz_len,eCz_take,eCz_0,eCz_1,kb,hget,zf4,ze8]
 refine⟨by omega,fun b9 hb9=> ?_⟩
 have hb91:¬b9=b1:=fun he=>hb9 (by rw[grS_has]; exact .inr (by rw[set_has]; exact .inl he))
 have hno:¬(({}:St).set b1 (eCz n es)).has b9:=fun hh=>hb9 (by rw[grS_has]; exact .inr hh)
 have hgn:grN o ((({}:St).set b1 (eCz n es)).set b9 (eEy x)):=fun c hc hh=>by
  rcases set_has.1 hh with rfl|hh
  ·exact hb9 (by rw[grS_has]; exact .inl hc)
  ·exact ho c hc hh
 have hS:∀{m:Nat} {o:Option Nat},(grS 1 m o ((({}:St).set b1 (eCz n es)).set b9 (eEy x))).box b9=some (eEy x):=fun {m o}=>by rw[grS_boxa]; simp[St.set_box]
 simp -implicitDefEqProofs only[go_sem,hT,gdD,Nat.mul_one,Nat.add_zero,Nat.zero_add,eCz_len,eCz_take,eCz_0,eCz_1,hb91,Ne.symm hb91,ey_0,ey_1,ey_fr,ey_26,grS_set,za4,hS,hp,q4,q5,frz]
 refine br_app (ys:=[byT (p/256),byT p]) hgn (St.le.refl _) (by simp) (by simp; omega) fun c2 σ2 hbox2 hle2 hg2=> ?_
 have k2:σ2.box b9=some (eEy x):=by rw[hbox2]; exact hS
 have hbase:∀{m c:Nat},St.le (grS 1 m (some c) (({}:St).set b1 (eCz n es))) (grS 1 m (some c) ((({}:St).set b1 (eCz n es)).set b9 (eEy x))):=fun {m c}=>le_setBuf (le_add hno)
 have hgb:∀{c:Nat},grN (some c) ((({}:St).set b1 (eCz n es)).set b9 (eEy x))→grN (some c) (({}:St).set b1 (eCz n es)):=fun {c} h c' hc hh=>h c' hc (set_has.2 (.inr hh))
 have hpn:x.pos.toNat=p:=by omega
 rcases hx with⟨hd,hf⟩|⟨hd,k,hk,hfl,hnk⟩
 ·have hby:bytesE n x=[byT (p/256),byT p,0]:=by unfold bytesE; rw[if_pos hd,hpn]
  simp -implicitDefEqProofs only[go_sem,hT,gdD,Nat.mul_one,Nat.add_zero,Nat.zero_add,eCz_len,eCz_take,eCz_0,eCz_1,hb91,Ne.symm hb91,ey_0,ey_1,ey_fr,ey_26,grS_set,za4,k2,hd,frz]
  refine br_app (ys:=[0]) hg2 hle2 (by simp) (by simp; omega) fun c3 σ3 hbox3 hle3 hg3=> ?_
  have hfin:headB n es.length++(es.take (i+1)).flatMap (bytesE n)=bs++[byT (p/256),byT p]++[0]:=by
   rw[hnext,←List.append_assoc,hbs,hby]; simp
  simp -implicitDefEqProofs only[go_sem,hT,Nat.mul_one,Nat.add_zero,Nat.zero_add,w3,bXhpF0]
  exact⟨(i+1,some c3),⟨by simp only; omega,hgb hg3⟩,by simp only; omega,⟨by simp only[hfin],rfl⟩,by simp only[hfin]; exact hbase.trans hle3⟩
 have q6:IntKind.wrap .u8 (k:Int)=((byT k).val:Int):=(byT_val k).symm
 have hkn:x.fr.h.toNat=k:=by omega
 have hby:bytesE n x=[byT (p/256),byT p]++[1,byT k]++x.fr.sl.toList.take (n+k):=by unfold bytesE; rw[if_neg (by rw[hd]; simp),hpn,hkn]; rfl
 simp -implicitDefEqProofs only[go_sem,hT,gdD,Nat.mul_one,Nat.add_zero,Nat.zero_add,eCz_len,eCz_take,eCz_0,eCz_1,hb91,Ne.symm hb91,ey_0,ey_1,ey_fr,ey_26,grS_set,za4,k2,hd,frz,ey_3,hk,q6]
 refine br_app (ys:=[1,byT k]) hg2 hle2 (by simp) (by simp; omega) fun c3 σ3 hbox3 hle3 hg3=> ?_
 have k3:σ3.box b9=some (eEy x):=by rw[hbox3]; exact k2
 obtain⟨b3,hb3⟩:∃b3,bs++[byT (p/256),byT p]++[1,byT k]=b3:=⟨_,rfl⟩
 have hb3l:b3.length≤200004:=by rw[←hb3]; simp; omega
 have w4:IntKind.wrap .i64 ((n:Int)+k)=((n+k:Nat):Int):=by rw[zb7 (by omega) (by omega)]; simp
 rw[hb3] at hle3 ⊢
 have k31:σ3.box b1=some (eCz n es):=by
  rw[hbox3,hbox2,grS_boxa]; simp[St.set_box,hb91,Ne.symm hb91,ey_0,ey_1,ey_fr,ey_26,grS_set,za4]
 simp -implicitDefEqProofs only[go_sem,hT,gdD,Nat.mul_one,Nat.add_zero,Nat.zero_add,eCz_len,eCz_take,eCz_0,eCz_1,hb91,Ne.symm hb91,ey_0,ey_1,ey_fr,ey_26,grS_set,za4,k3,k31,ey_3,hk,w4]
 refine⟨by omega, ?_⟩
 refine loopL F49 (fun y:Nat×Nat=>[(1,.ptr b1 0),(7,brD (some y.2) (b3++x.fr.sl.toList.take y.1)),(33,.slice .no (rws eEy es)),(34,.int .i64 es.length),(35,.int .i64 i),(69,.bsl b9 4 (n+k) 24),(70,.int .i64 ((n+k:Nat):Int)),(71,.int .i64 y.1)])
  (fun y=>grS 1 (b3++x.fr.sl.toList.take y.1).length (some y.2) ((({}:St).set b1 (eCz n es)).set b9 (eEy x))) (fun y=>y.1≤n+k∧grN (some y.2) ((({}:St).set b1 (eCz n es)).set b9 (eEy x))) (fun y=>n+k-y.1) (0,c3) ⟨Nat.zero_le _,hg3⟩ ?_ (by simpa using hle3) ?_
 ·simp -implicitDefEqProofs only[go_sem,hT,Nat.mul_one,Nat.add_zero,Nat.zero_add,List.take_zero,bXhpF0]
  exact⟨rfl,rfl,rfl⟩
 clear hT T
 rintro⟨j,c⟩ ⟨hj,hgc⟩ T hT
 simp only at hj hgc hT ⊢
 have k4:∀{m:Nat} {o:Option Nat},(grS 1 m o ((({}:St).set b1 (eCz n es)).set b9 (eEy x))).box b9=some (eEy x):=hS
 by_cases h':j<n+k
 ·have g6:((j:Int)<((n+k:Nat):Int))=True:=eq_true (by omega)
  have w5:IntKind.wrap .i64 ((j:Int)+1)=((j+1:Nat):Int):=by rw[zb7 (by omega) (by omega)]; simp
  have hat:(eEy x)[4+j]? =some (.int .u8 ((slAt x.fr j).val:Int)):=by
   have:=fr_sl x.fr (i:=j) (by omega)
   rw[show 4+j=2+j+1+1 by omega]; exact this
  have hnx:x.fr.sl.toList.take (j+1)=x.fr.sl.toList.take j++[slAt x.fr j]:=by
   have hjl:j<x.fr.sl.toList.length:=by simp; omega
   rw[List.take_add_one,slAt,List.getElem?_eq_getElem hjl]; rfl
  simp -implicitDefEqProofs only[go_sem,hT,gdD,Nat.mul_one,Nat.add_zero,Nat.zero_add,eCz_len,eCz_take,eCz_0,eCz_1,k4,ey_3,hfl,hk,w4,g6,hat,frz]
  refine⟨by omega,br_app (ys:=[slAt x.fr j]) hgc (St.le.refl _) (by simp) (by simp; omega) fun c4 σ4 hbox4 hle4 hg4=> ?_⟩
  simp -implicitDefEqProofs only[go_sem,hT,Nat.mul_one,Nat.add_zero,Nat.zero_add,w5,bXhpF0]
  rw[List.append_assoc,←hnx] at hle4 ⊢
  exact⟨(j+1,c4),⟨by simp only; omega,hg4⟩,by simp only; omega,⟨rfl,rfl⟩,hle4⟩
 have g6:((j:Int)<((n+k:Nat):Int))=False:=eq_false (by omega)
 have hfin:headB n es.length++(es.take (i+1)).flatMap (bytesE n)=b3++x.fr.sl.toList.take j:=by
  rw[hnext,←List.append_assoc,hbs,hby,←hb3,show j=n+k by omega]; simp
 simp -implicitDefEqProofs only[go_sem,hT,gdD,Nat.mul_one,Nat.add_zero,Nat.zero_add,eCz_len,eCz_take,eCz_0,eCz_1,k4,ey_3,hfl,hk,w4,g6,w3]
 exact⟨(i+1,some c),⟨by simp only; omega,hgb hgc⟩,by simp only; omega,⟨by simp only[hfin],rfl⟩,by simp only[hfin]; exact hbase⟩
open Go.Proofs
theorem keys_list {α:Type} {enc:α→D} {f:Nat→Option α} {ks:List (Ky×Nat)} {vs:List D} {c:Nat} (hm:MapR enc f ks vs c) {L:List Nat} (hL:L.Pairwise (· < ·)) (hmem:∀x,x∈L↔f x≠none):
  sortZ (ks.map fun p=>kyI p.1)=L.map fun n:Nat=>(n:Int):=by
 have hk:∀x:Nat,f x≠none↔∃q∈ks,q.1=kyN x:=fun x=>by
  constructor
  ·intro hf
   obtain⟨a,ha⟩:=Option.ne_none_iff_exists'.1 hf
   obtain⟨j,h1,_⟩:=hm.yes x a ha
   obtain⟨t,ht⟩:=kf_some h1
   exact⟨_,List.mem_of_getElem? ht,rfl⟩
  ·rintro⟨q,hq,he⟩ hn
   exact kf_none (hm.no x hn) q hq he
 have hsorted:(L.map fun n:Nat=>(n:Int)).Pairwise (· ≤ ·):=by
  rw[List.pairwise_map]
  exact hL.imp fun h=>by omega
 rw[←sort_sorted hsorted]
 refine mergeSort_of_perm_i ((List.perm_ext_iff_of_nodup ?_ ?_).2 fun z=> ?_)
 ·have hn:=hm.nod
  have:ks.map (fun p=>kyI p.1)=(ks.map (·.1)).map kyI:=by rw[List.map_map]; rfl
  rw[this]
  refine List.pairwise_map.2 (List.Pairwise.imp_of_mem (R:=(· ≠ ·)) ?_ hn)
  intro x y hx hy hne he
  obtain⟨px,hpx,rfl⟩:=List.mem_map.1 hx
  obtain⟨py,hpy,rfl⟩:=List.mem_map.1 hy
  obtain⟨n,hn⟩:=hm.key px hpx
  obtain⟨m,hm⟩:=hm.key py hpy
  rw[hn,hm] at he hne
  simp only[kyN,kyI] at he
  exact hne (by simp only[kyN]; rw[he])
 ·refine List.pairwise_map.2 (hL.imp fun h he=>by omega)
 ·simp only[List.mem_map]
  constructor
  ·rintro⟨q,hq,rfl⟩
   obtain⟨n,hn⟩:=hm.key q hq
   exact⟨n,(hmem n).2 ((hk n).2 ⟨q,hq,hn⟩),by rw[hn]; rfl⟩
  ·rintro⟨n,hn,rfl⟩
   obtain⟨q,hq,he⟩:=(hk n).1 ((hmem n).1 hn)
   exact⟨q,hq,by rw[he]; rfl⟩
def WantI (b:List Ty) (kf:List (Ky×Nat)) (seen:List Nat) (ww:Nat→Option Unit):Prop:=
 ∀a,ww a=some ()↔a<b.length∧∃p∈kf,p.2∈seen∧∃x,p.1=kyN x∧wantX b x a=true
theorem want_nil {b:List Ty} {kf:List (Ky×Nat)}:WantI b kf [] fun _=>none:=fun a=>by simp
theorem want_step {b:List Ty} {kf:List (Ky×Nat)} {seen:List Nat} {ww ww':Nat→Option Unit} {i x st:Nat} (h:WantI b kf seen ww) (hn:(kf.map (·.2)).Nodup) (hi:kf[i]? =some (kyN x,st))
  (hw:∀a,ww' a=some ()↔ww a=some ()∨a<b.length∧wantX b x a=true):WantI b kf (seen++[st]) ww':=fun a=>by
 rw[hw,h a]
 have hm:=List.mem_of_getElem? hi
 constructor
 ·rintro(⟨h1,p,hp,hs,h2⟩|⟨h1,h2⟩)
  ·exact⟨h1,p,hp,List.mem_append_left _ hs,h2⟩
  ·exact⟨h1,_,hm,by simp,x,rfl,h2⟩
 ·rintro⟨h1,p,hp,hs,y,hy,h2⟩
  rcases List.mem_append.1 hs with hs|hs
  ·exact .inl ⟨h1,p,hp,hs,y,hy,h2⟩
  ·refine .inr ⟨h1, ?_⟩
   have hps:p.2=st:=by simpa using hs
   obtain⟨j,hj⟩:=List.mem_iff_getElem?.1 hp
   have:i=j:=nodup_at hn (b:=st) (by rw[List.getElem?_map,hi]; rfl) (by rw[List.getElem?_map,hj,←hps]; rfl)
   subst this
   rw[hi] at hj
   cases hj
   have:=kyN_inj.1 hy
   subst this
   exact h2
theorem want_end {b:List Ty} {kf:List (Ky×Nat)} {vf:List D} {cf:Nat} {seen:List Nat} {ww:Nat→Option Unit} {s:IS} {p:RS} (h:WantI b kf seen ww) (hm:MapR dF p.ff kf vf cf) (hal:Alike b s p) (hend:∀x,hasP s x→x<b.length) (hall:∀p∈kf,p.2∈seen) (a:Nat):
  a∈(List.range b.length).filter (wantL b (adrs s b.length))↔ww a≠none:=by
 have key:∀x,hasP s x↔∃q∈kf,q.1=kyN x:=fun x=>by
  have hx:=hal.f x
  constructor
  ·intro hf
   unfold hasP at hf
   rw[if_pos hf] at hx
   obtain⟨j,h1,_⟩:=hm.yes x _ hx
   obtain⟨t,ht⟩:=kf_some h1
   exact⟨_,List.mem_of_getElem? ht,rfl⟩
  ·rintro⟨q,hq,he⟩
   refine Classical.byContradiction fun hc=> ?_
   unfold hasP at hc
   rw[if_neg hc] at hx
   exact kf_none (hm.no x hx) q hq he
 have hu:ww a≠none↔ww a=some ():=by cases ww a <;> simp
 rw[hu,h a,List.mem_filter,List.mem_range]
 unfold wantL
 rw[List.any_eq_true]
 constructor
 ·rintro⟨h1,x,hx,h2⟩
  obtain⟨q,hq,he⟩:=(key x).1 (adrs_mem.1 hx).2
  exact⟨h1,q,hq,hall q hq,x,he,h2⟩
 ·rintro⟨h1,q,hq,_,x,hx,h2⟩
  have:=(key x).2 ⟨q,hq,hx⟩
  exact⟨h1,x,adrs_mem.2 ⟨hend x this,this⟩,h2⟩
theorem frz_zFr:zFr.map frz=zFr:=by rw[←fr_fr0]; exact frz_fr2 _
theorem grS_mp {s n:Nat} {o:Option Nat} {σ:St}:(grS s n o σ).mp=σ.mp:=by cases o <;> rfl
theorem upd_one {ww:Nat→Option Unit} {k n a:Nat} (hk:k<n):(if a=k then some () else ww a)=some ()↔ww a=some ()∨a<n∧k=a:=by
 by_cases ha:a=k
 ·rw[if_pos ha]; simp only[true_iff]; exact .inr ⟨by omega,ha.symm⟩
 ·rw[if_neg ha]; constructor
  ·exact .inl
  ·rintro(h|⟨_,h⟩)
   ·exact h
   ·exact absurd h.symm ha
theorem le_two {τ σ:St} {bw bi:Nat} {o i:MO} (h1:∀b cs,τ.box b=some cs→σ.box b=some cs) (h2:∀b p,τ.buf b=some p→σ.buf b=some p) (h3:∀b x,b≠bw→b≠bi→τ.mp b=some x→σ.mp b=some x)
  (h4:σ.mp bw=some o) (h5:σ.mp bi=some i):St.le ((τ.setM bw o).setM bi i) σ:=by
 refine⟨fun b cs h=>h1 b cs (by simpa[setM_box] using h),fun b p h=>h2 b p (by simpa[setM_buf] using h),fun b x h=> ?_⟩
 rw[setM_mp] at h
 by_cases hi:b=bi
 ·subst hi; rw[if_pos rfl] at h; rw[h5]; exact h
 rw[if_neg hi,setM_mp] at h
 by_cases hw:b=bw
 ·subst hw; rw[if_pos rfl] at h; rw[h4]; exact h
 rw[if_neg hw] at h
 exact h3 b x hw hi h
def bXhpK0:=aI @zb3 (aI @zb4 (aI @za8 (aI @za7 (aI @za6 (aI @za5 (aI @zb8 (aI @zb2 (aI @gdD @nilc_p))))))))
def bXhpK1:=aI @zb3 (aI @zb4 (aI @za8 (aI @za7 (aI @za6 (aI @za5 (aI @zb8 (aI @zb2 (aI @gdD (aI @nilc_p (aI @eRn_0 (aI @eRn_3 (aI @eRn_4 (aI @eRn_5 (aI @eRn_6 (aI @eRn_7 @eRn_len)))))))))))))))
def bXhpK2:=aI @zb3 (aI @zb4 (aI @za8 (aI @za7 (aI @za6 (aI @za5 (aI @zb8 (aI @zb2 (aI @gdD (aI @nilc_p (aI @zb5 (aI @za9 (aI @eIn_1 (aI @eIn_2 (aI @eIn_drop4 (aI @anD @za4)))))))))))))))
def bXhpK3:=aI @zb3 (aI @zb4 (aI @za8 (aI @za7 (aI @za6 (aI @za5 (aI @zb8 (aI @zb2 (aI @gdD (aI @nilc_p (aI @zb5 (aI @za9 (aI @eIn_1 (aI @eIn_2 (aI @eIn_drop4 (aI @anD (aI @za4 @setM_box))))))))))))))))
theorem emit43 (e:En) (loc:Int) (b:List Ty) (hw:WideE e) (hb:b.length≤140737488355328):
  PCall Tryz.prog 21 [.agg (eEn e),.int .i64 loc,.slice .no (rws eT b)] (.tup [.slice .no (rws eT (emitD e loc b).1),.int .i64 (emitD e loc b).2.1,.int .i64 (emitD e loc b).2.2]):=by
 have hg:goneD e loc b=goD e b (fuelD b.length) (is0 b.length (startF e.cs.length (psOf e) loc).1) 0:=rfl
 refine F21.pcallM rfl fun T hT=> ?_
 simp -implicitDefEqProofs only[go_sem,c21,hT,Nat.mul_one,Nat.add_zero,Nat.zero_add,bXhpK0]
 intro b3
 refine callB_new2 (around79 e loc b hw hb) fun d s' hR τ hτ hτ3=> ?_
 unfold aroundR at hR
 by_cases g1:mayE e loc=0
 case neg=>
  have hI:inferD e loc b=([],0,mayE e loc):=by unfold inferD; rw[if_pos g1]
  rw[if_pos g1] at hR
  obtain⟨rfl,rfl⟩:=hR
  have g1':((mayE e loc:Int)=0)=False:=eq_false (by omega)
  rw[show emitD e loc b=([],0,mayE e loc) by unfold emitD; rw[hI,if_pos g1]]
  simp -implicitDefEqProofs only[go_sem,hT,g1']
  exact DLe.tup (.cons (DLe.slice _ _) (.cons (DLe.refl _) (.cons (DLe.refl _) .nil)))
 rw[if_neg (by omega)] at hR
 by_cases g2:4096<b.length
 ·have hI:inferD e loc b=([],0,4):=by unfold inferD; rw[if_neg (by omega),if_pos g2]
  rw[if_pos g2] at hR
  obtain⟨rfl,rfl⟩:=hR
  rw[show emitD e loc b=([],0,4) by unfold emitD; rw[hI]; rfl]
  simp -implicitDefEqProofs only[go_sem,hT]
  exact DLe.tup (.cons (DLe.slice _ _) (.cons (DLe.refl _) (.cons (DLe.refl _) .nil)))
 rw[if_neg g2] at hR
 by_cases g3:(goneD e loc b).2.2=0
 case neg=>
  have hI:inferD e loc b=([],(goneD e loc b).2.1,(goneD e loc b).2.2):=by unfold inferD; rw[if_neg (by omega),if_neg g2]; simp only; rw[←hg,if_pos g3]
  rw[if_pos g3] at hR
  obtain⟨rfl,rfl⟩:=hR
  have g3':(((goneD e loc b).2.2:Int)=0)=False:=eq_false (by omega)
  rw[show emitD e loc b=([],(goneD e loc b).2.1,(goneD e loc b).2.2) by unfold emitD; rw[hI,if_pos g3]]
  simp -implicitDefEqProofs only[go_sem,hT,g3']
  exact DLe.tup (.cons (DLe.slice _ _) (.cons (DLe.refl _) (.cons (DLe.refl _) .nil)))
 have hI:inferD e loc b=(entsD (goneD e loc b).1 b.length,0,0):=by unfold inferD; rw[if_neg (by omega),if_neg g2]; simp only; rw[←hg,if_neg (by omega)]
 rw[if_neg (by omega)] at hR
 obtain⟨r,m,p,hne,hm,hal,hsz,rfl,rfl⟩:=hR
 rw[show emitD e loc b=((encC loc (certE b (goneD e loc b).1)).1,0,(encC loc (certE b (goneD e loc b).1)).2) by unfold emitD; rw[hI,if_neg (by simp)]]
 obtain⟨s,hs,hlast⟩:=gone_last hw g1 g3
 rw[hs] at hal hsz ⊢
 simp only at hal hsz ⊢
 have kq:τ.box r.q=some (eRn r e b p.wh):=hτ.box _ _ stR_q
 have kf:τ.mp r.f=some (.map (some .i64) m.kf m.vf m.cf):=hτ.mp _ _ (stR_f hne)
 simp -implicitDefEqProofs only[go_sem,hT,Nat.mul_one,Nat.add_zero,Nat.zero_add,kq,bXhpK1]
 rw[mkmA_map mp144 kk3]
 intro bw hbw
 have hwf:r.f≠bw:=fun he=>hbw (.inr (.inr (by rw[←he,kf]; simp)))
 have hwq:r.q≠bw:=fun he=>hbw (.inl (by rw[←he,kq]; simp))
 have kf1:∀o,(τ.setM bw o).mp r.f=some (.map (some .i64) m.kf m.vf m.cf):=fun o=>by rw[setM_mp,if_neg hwf]; exact kf
 simp -implicitDefEqProofs only[go_sem,hT,zb3,zb4,za8,za7,za6,za5,zb8,zb2,gdD,Nat.mul_one,Nat.add_zero,Nat.zero_add,nilc_p,eRn_0,eRn_3,eRn_4,eRn_5,eRn_6,eRn_7,eRn_len,setM_box,kq]
 rw[rangeA_map mp143 (kf1 _)]
 intro bi hbi
 have hib:bi≠bw:=fun he=>hbi (.inr (.inr (by rw[he,setM_mp,if_pos rfl]; simp)))
 have hif:bi≠r.f:=fun he=>hbi (.inr (.inr (by rw[he,kf1]; simp)))
 simp -implicitDefEqProofs only[go_sem,hT]
 refine loopL F21 (fun x:List Nat×List (Ky×Nat)×List D×Nat=>[(1,.int .i64 loc),(2,.slice .no (rws eT b)),(9,.ptr r.q 0),(12,.map bw),(40,.ptr bi 0)])
  (fun x=>(τ.setM bw (.map (some .i64) x.2.1 x.2.2.1 x.2.2.2)).setM bi (.iter r.f m.cf x.1)) (fun x=>∃ww,MapR dU ww x.2.1 x.2.2.1 x.2.2.2∧WantI b m.kf x.1 ww) (fun x=>unseen m.kf x.1) ([],[],[],0) ⟨_,MapR.nil,want_nil⟩ ?_ (St.le.refl _) ?_
 ·simp -implicitDefEqProofs only[go_sem,hT]
 clear hT T
 rintro⟨seen,ks,vs,c⟩ ⟨ww,hmw,hwi⟩ T hT
 simp only at hmw hwi hT ⊢
 have kmi:∀o x,((τ.setM bw o).setM bi x).mp bi=some x:=fun o x=>by rw[setM_mp,if_pos rfl]
 have kmf:∀o x,((τ.setM bw o).setM bi x).mp r.f=some (.map (some .i64) m.kf m.vf m.cf):=fun o x=>by rw[setM_mp,if_neg (Ne.symm hif)]; exact kf1 o
 have kmw:∀o x,((τ.setM bw o).setM bi x).mp bw=some o:=fun o x=>by rw[setM_mp,if_neg (Ne.symm hib),setM_mp,if_pos rfl]
 simp -implicitDefEqProofs only[go_sem,hT]
 simp only[nextA,kmi,kmf]
 refine⟨trivial,fun hall=> ?_,fun i k' st hi hst=> ?_⟩
 ·have hmem:=want_end hwi hm.f hal hlast.lt hall
  have hkeys:=keys_list hmw (List.Pairwise.filter _ List.pairwise_lt_range) hmem
  simp -implicitDefEqProofs only[go_sem,hT,Nat.mul_one,Nat.add_zero,Nat.zero_add,bXhpK0]
  intro b17 h17
  have hbl4:b.length≤4096:=by omega
  have kwn:ks.length=((List.range b.length).filter (wantL b (adrs s b.length))).length:=by
   have:=congrArg List.length hkeys
   simpa[sortZ,List.length_mergeSort] using this
  have hLl:((List.range b.length).filter (wantL b (adrs s b.length))).length≤b.length:=by
   have:=List.length_filter_le (wantL b (adrs s b.length)) (List.range b.length)
   rw[List.length_range] at this; exact this
  have hk5:∀q∈ks,∃n,q.1=kyN n∧n≤5000:=fun q hq=>by
   obtain⟨n,hn⟩:=hmw.key q hq
   refine⟨n,hn, ?_⟩
   have hmm:kyI q.1∈sortZ (ks.map fun p=>kyI p.1):=by
    unfold sortZ; rw[List.mem_mergeSort]; exact List.mem_map.2 ⟨q,hq,rfl⟩
   rw[hkeys,hn] at hmm
   obtain⟨x,hx,he⟩:=List.mem_map.1 hmm
   rw[List.mem_filter,List.mem_range] at hx
   simp only[kyN,kyI] at he
   omega
  obtain⟨τ2,hτ2⟩:∃τ2,(τ.setM bw (.map (some .i64) ks vs c)).setM bi (.iter r.f m.cf seen)=τ2:=⟨_,rfl⟩
  have q2:τ2.box r.q=some (eRn r e b p.wh):=by rw[←hτ2]; simp[setM_box,kq]
  have f2:τ2.mp r.f=some (.map (some .i64) m.kf m.vf m.cf):=by rw[←hτ2]; exact kmf _ _
  have w2:τ2.mp bw=some (.map (some .i64) ks vs c):=by rw[←hτ2]; exact kmw _ _
  rw[hτ2] at h17 ⊢
  rw[za4]
  refine callB_all (keys86 bw (τ2.set b17 [.int .i64 loc,.slice .nil []])) fun d s' ⟨cc,hcc,hd,hs'⟩=> ?_
  subst hd; subst hs'
  simp -implicitDefEqProofs only[go_sem,hT]
  refine callB_all (sorted80b ((τ2.set b17 [.int .i64 loc,.slice .nil []]).set cc [.map bw]) cc bw ks vs c (by rw[St.set_box,if_pos rfl]) (by rw[set_mp,set_mp]; exact w2) hk5 (by omega)) fun d s' ⟨hd,hs'⟩=> ?_
  subst hd; subst hs'
  rw[hkeys]
  have hA:(((List.range b.length).filter (wantL b (adrs s b.length))).map fun n:Nat=>(n:Int)).map (fun z=>[eZ z])=rws eN ((List.range b.length).filter (wantL b (adrs s b.length))):=by rw[List.map_map]; rfl
  rw[hA]
  have hce:certE b s=((List.range b.length).filter (wantL b (adrs s b.length))).map (entA s):=rfl
  rw[hce]
  have hlt:∀x∈(List.range b.length).filter (wantL b (adrs s b.length)),x<b.length:=fun x hx=>by rw[List.mem_filter,List.mem_range] at hx; exact hx.1
  generalize (List.range b.length).filter (wantL b (adrs s b.length))=L at hLl hlt ⊢
  have hq17:r.q≠b17:=fun he=>h17 (.inl (by rw[←he,q2]; simp))
  simp -implicitDefEqProofs only[go_sem,hT]
  refine loopL F21 (fun x:Nat×Option Nat=>[(9,.ptr r.q 0),(17,.ptr b17 0),(79,.slice .no (rws eN L)),(80,.int .i64 L.length),(81,.int .i64 x.1)])
   (fun x=>grS 28 x.1 x.2 (τ2.set b17 [.int .i64 loc,grD 28 x.2 (rws eEy ((L.take x.1).map (entA s)))])) (fun x=>x.1≤L.length∧(x.2=none→x.1=0)∧grN x.2 (τ2.set b17 [.int .i64 loc,grD 28 x.2 (rws eEy ((L.take x.1).map (entA s)))])) (fun x=>L.length-x.1) (0,none) ⟨Nat.zero_le _,fun _=>rfl,grN_none⟩ ?_ (le_add hcc) ?_
  ·simp -implicitDefEqProofs only[go_sem,hT,Nat.mul_one,Nat.add_zero,Nat.zero_add,bXhpK0]
   rfl
  clear hT T
  rintro⟨i,o2⟩ ⟨hi,hno,hgn⟩ T hT
  simp only at hi hno hgn hT ⊢
  obtain⟨C,hC⟩:∃C,(L.take i).map (entA s)=C:=⟨_,rfl⟩
  have hCl:C.length=i:=by rw[←hC]; simp; omega
  rw[hC] at hgn ⊢
  have k17:∀n o D',(grS 28 n o (τ2.set b17 D')).box b17=some D':=fun n o D'=>by rw[grS_boxa,St.set_box,if_pos rfl]
  have kqq:∀n o D',(grS 28 n o (τ2.set b17 D')).box r.q=some (eRn r e b p.wh):=fun n o D'=>by rw[grS_boxa,St.set_box,if_neg hq17]; exact q2
  by_cases h:i<L.length
  case neg=>
   have g5:((i:Int)<L.length)=False:=eq_false (by omega)
   have hfin:L.map (entA s)=C:=by rw[←hC,List.take_of_length_le (by omega)]
   rw[hfin]
   simp -implicitDefEqProofs only[go_sem,hT,g5,Nat.mul_one,Nat.add_zero,Nat.zero_add,k17,bXhpK0]
   refine za3 ((encode87 loc C (by omega)).args (.cons (DLe.agg (.cons (.refl _) (.cons grD_le .nil))) .nil)) ?_
   simp -implicitDefEqProofs only[go_sem,hT]
  have g5:((i:Int)<L.length)=True:=eq_true (by omega)
  have hget:=rws_at (enc:=eN) h
  have w1:IntKind.wrap .i64 ((i:Int)+1)=((i+1:Nat):Int):=by rw[zb7 (by omega) (by omega)]; simp
  have hxl:=hlt L[i] (List.getElem_mem h)
  have hnext:(L.take (i+1)).map (entA s)=C++[entA s L[i]]:=by rw[List.take_add_one,List.getElem?_eq_getElem h,List.map_append,hC]; rfl
  have hlk:=fun n o D'=>look143 (ok:=true) (n:=L[i]) (σ:=grS 28 n o (τ2.set b17 D')) hm.f (by rw[grS_mp,set_mp]; exact f2)
  generalize L[i]=x at *
  have hff:=hal.f x
  obtain⟨B,hB⟩:∃B:Option Nat→List Ey→St,B=fun o C=>τ2.set b17 [.int .i64 loc,grD 28 o (rws eEy C)]:=⟨_,rfl⟩
  have hBe:∀o C,τ2.set b17 [.int .i64 loc,grD 28 o (rws eEy C)]=B o C:=fun o C=>by rw[hB]
  have hBh:∀o C o' C' x,(B o C).has x↔(B o' C').has x:=fun o C o' C' x=>by rw[hB]; simp only[set_has]
  have hB17:∀o C,(B o C).box b17=some [.int .i64 loc,grD 28 o (rws eEy C)]:=fun o C=>by rw[hB]; simp only; rw[St.set_box,if_pos rfl]
  have hBq:∀o C,(B o C).box r.q=some (eRn r e b p.wh):=fun o C=>by rw[hB]; simp only; rw[St.set_box,if_neg hq17]; exact q2
  have hBs:∀o C o' C',(B o C).set b17 [.int .i64 loc,grD 28 o' (rws eEy C')]=B o' C':=fun o C o' C'=>by rw[hB]; simp only; rw[za4]
  have fin:∀(b20:Nat) (c25:List D) (K:Env→St→Prop) (T':Env) (d:Option Nat),¬(grS 28 i o2 (B o2 C)).has b20→
    (∀o3 σ',σ'.box=((B o2 C).set b20 c25).box→St.le (grS 28 (i+1) o3 ((B o2 C).set b20 c25)) σ'→grN o3 (B o2 C)→o3≠none→putK 112 d (grD 28 o3 (rws eEy (C++[entA s x]))) K T' σ')→
    appendA Tryz.prog 112 d 30 30 (grD 28 o2 (rws eEy C)) (.slice .exact [eEy (entA s x)]) K T' (grS 28 i o2 ((B o2 C).set b20 c25)):=fun b20 c25 K T' d hb20 hk=>by
   refine app_gr' (ow:= .exact) Tryz.sli30 Tryz.sz40 Tryz.by40 Tryz.zero40 rfl (n:=i) (m:=1) (base:=(B o2 C).set b20 c25) (by rw[za1,hCl]) rfl (St.le.refl _) (fun c hc hh=> ?_) hno (by simp[zf4]) (by omega) fun o3 σ' hbox hle hg hnn=> ?_
   ·rcases set_has.1 hh with rfl|hh
    ·exact hb20 (by rw[grS_has]; exact .inl hc)
    ·exact hgn c hc (by rw[hBe]; exact hh)
   ·have e1:rws eEy C++[eEy (entA s x)]=rws eEy (C++[entA s x]):=by simp[rws]
    rw[e1]
    refine hk o3 σ' (by rw[hbox,grS_box]) hle (fun c hc hh=>hg c hc (set_has.2 (.inr hh))) fun h=>by have:=hnn h; omega
  have last:∀(b20:Nat) (c25:List D) (o3:Option Nat) (σ':St),¬(grS 28 i o2 (B o2 C)).has b20→o3≠none→St.le (grS 28 (i+1) o3 ((B o2 C).set b20 c25)) σ'→
    St.le (grS 28 (i+1) o3 (B o3 (C++[entA s x]))) (σ'.set b17 [.int .i64 loc,grD 28 o3 (rws eEy (C++[entA s x]))]):=fun b20 c25 o3 σ' hb20 hn3 hle=>by
   have hb12:b20≠b17:=fun he=>hb20 (by rw[he,grS_has]; exact .inr (.inl (by rw[hB17]; simp)))
   have h15:¬(B o3 (C++[entA s x])).has b20:=fun hh=>hb20 (by rw[grS_has]; exact .inr ((hBh _ _ _ _ _).1 hh))
   have h1:=le_set (b:=b17) (cs:=[.int .i64 loc,grD 28 o3 (rws eEy (C++[entA s x]))]) hle
   rw[grS_set,set_comm hb12,hBs] at h1
   refine St.le.trans ?_ h1
   cases o3 with
   |none=>exact absurd rfl hn3
   |some c=>exact le_setBuf (le_add h15)
  have hlk2:lookD Tryz.prog 85 (.map r.f) (.int .i64 x) true (grS 28 i o2 (B o2 C))=some (lkV dF (.agg zFr) true (p.ff x)):=by rw[←hBe]; exact hlk _ _ _
  cases hh:hasB s x with
  |true=>
   have hv:p.ff x=some (frA s x):=by rw[hff]; exact if_pos hh
   have hent:D.int .i64 (x:Int)::D.bool false::eFr (frA s x)=eEy (entA s x):=by unfold entA; rw[if_pos hh]; rfl
   simp only[hBe]
   simp -implicitDefEqProofs only[go_sem,hT,g5,hget,Nat.mul_one,Nat.add_zero,Nat.zero_add,hBq,hlk2,eN,hv,lkV,pairD,dF,bXhpK1]
   refine⟨by omega,fun b20 hb20=> ?_⟩
   have hb12:¬b17=b20:=fun he=>hb20 (by rw[←he,grS_has]; exact .inr (.inl (by rw[hB17]; simp)))
   simp -implicitDefEqProofs only[go_sem,hT,zb3,zb4,za8,za7,za6,za5,zb8,zb2,gdD,Nat.mul_one,Nat.add_zero,Nat.zero_add,nilc_p,hb12,Ne.symm hb12,hB17,frz,frz_fr2,frz_zFr,grS_set,za4]
   rw[hent]
   refine fin b20 _ _ _ _ hb20 fun o3 σ' hbox hle hg hn3=> ?_
   have k12:σ'.box b17=some [.int .i64 loc,grD 28 o2 (rws eEy C)]:=by rw[hbox,St.set_box,if_neg hb12,hB17]
   simp -implicitDefEqProofs only[go_sem,hT,Nat.mul_one,Nat.add_zero,Nat.zero_add,k12,w1,bXhpK0]
   exact⟨(i+1,o3),⟨by simp only; omega,fun h=>absurd h hn3,by simp only[hnext,hBe]; exact fun c hc hh=>hg c hc ((hBh _ _ _ _ _).1 hh)⟩,by simp only; omega,rfl,by simp only[hnext,hBe]; exact last b20 _ o3 σ' hb20 hn3 hle⟩
  |false=>
   have hv:p.ff x=none:=by rw[hff]; exact if_neg (by unfold hasB at hh; rw[hh]; simp)
   have hent:D.int .i64 (x:Int)::D.bool true::zFr=eEy (entA s x):=by unfold entA; rw[if_neg (by rw[hh]; simp),←fr_fr0]; rfl
   simp only[hBe]
   simp -implicitDefEqProofs only[go_sem,hT,g5,hget,Nat.mul_one,Nat.add_zero,Nat.zero_add,hBq,hlk2,eN,hv,lkV,pairD,dF,bXhpK1]
   refine⟨by omega,fun b20 hb20=> ?_⟩
   have hb12:¬b17=b20:=fun he=>hb20 (by rw[←he,grS_has]; exact .inr (.inl (by rw[hB17]; simp)))
   simp -implicitDefEqProofs only[go_sem,hT,zb3,zb4,za8,za7,za6,za5,zb8,zb2,gdD,Nat.mul_one,Nat.add_zero,Nat.zero_add,nilc_p,hb12,Ne.symm hb12,hB17,frz,frz_fr2,frz_zFr,grS_set,za4]
   rw[hent]
   refine fin b20 _ _ _ _ hb20 fun o3 σ' hbox hle hg hn3=> ?_
   have k12:σ'.box b17=some [.int .i64 loc,grD 28 o2 (rws eEy C)]:=by rw[hbox,St.set_box,if_neg hb12,hB17]
   simp -implicitDefEqProofs only[go_sem,hT,Nat.mul_one,Nat.add_zero,Nat.zero_add,k12,w1,bXhpK0]
   exact⟨(i+1,o3),⟨by simp only; omega,fun h=>absurd h hn3,by simp only[hnext,hBe]; exact fun c hc hh=>hg c hc ((hBh _ _ _ _ _).1 hh)⟩,by simp only; omega,rfl,by simp only[hnext,hBe]; exact last b20 _ o3 σ' hb20 hn3 hle⟩
 ·obtain⟨x,f,rfl,hx,hvx⟩:=hm.f.at hi
  have hlt:=unseen_lt (seen:=seen) hi hst
  have hax:=hal.f x
  have hpx:hasP s x:=by
   refine Classical.byContradiction fun hc=> ?_
   unfold hasP at hc
   rw[if_neg hc] at hax
   rw[hax] at hx; cases hx
  have hxl:=hlast.lt x hpx
  obtain⟨hd,hj,hz⟩:=last_leads hlast (adrs_mem.2 ⟨hxl,hpx⟩)
  rw[setM_setM]
  simp -implicitDefEqProofs only[go_sem,hT]
  simp only[entryA,kmi,kmf,List.getLast?_append,List.getLast?_singleton,Option.some_or]
  refine⟨trivial,i,kyN x,hi, ?_⟩
  simp -implicitDefEqProofs only[go_sem,hT,kyN,Ky.d]
  refine za3 (decode82 b .no x (by omega) (by omega)) ?_
  have hI:(decF b x).1=insA b x:=rfl
  obtain⟨I,hIe⟩:∃I,insA b x=I:=⟨_,rfl⟩
  have hwx:∀a,wantX b x a=(jumpsB I.op.val&&decide (I.a=(a:Int))||endsB I.op.val&&decide (x+ze7 I.op.val=a)):=fun a=>by unfold wantX szA; rw[hIe]
  unfold szA at hz
  rw[hIe] at hj hz
  rw[hI,hIe]
  have hsz6:=sizeOp_le I.op.val
  have w4:IntKind.wrap .i64 ((x:Int)+ze7 I.op.val)=((x+ze7 I.op.val:Nat):Int):=by rw[zb7 (by omega) (by omega)]; simp
  have hstep:=fun(ww':Nat→Option Unit)=>want_step (ww':=ww') hwi hm.f.stm hi
  simp -implicitDefEqProofs only[go_sem,hT,Nat.mul_one,Nat.add_zero,Nat.zero_add,bXhpK2]
  intro b14 h14
  have t14:∀b cs,τ.box b=some cs→b≠b14:=fun b cs h he=>h14 (.inl (by rw[←he]; simp[setM_box,h]))
  refine za3 (jumps83 I.op) ?_
  have hset:=fun(k:Nat)=>hmw.set k ()
  have hmpw:∀(σ:St),σ.mp=((τ.setM bw (.map (some .i64) ks vs c)).setM bi (.iter r.f m.cf (seen++[st]))).mp→σ.mp bw=some (.map (some .i64) ks vs c):=fun σ h=>by rw[h]; exact kmw _ _
  cases hjj:jumpsB I.op.val with
  |false=>
   simp -implicitDefEqProofs only[go_sem,hT,Nat.mul_one,Nat.add_zero,Nat.zero_add,bXhpK2]
   refine za3 (size125 I.op) ?_
   simp -implicitDefEqProofs only[go_sem,hT,Nat.mul_one,Nat.add_zero,Nat.zero_add,w4,bXhpK2]
   refine za3 (ends88 I.op) ?_
   cases hee:endsB I.op.val with
   |false=>
    simp -implicitDefEqProofs only[go_sem,mmB,hT,Nat.mul_one,Nat.add_zero,Nat.zero_add,hee,bXhpK2]
    exact⟨(seen++[st],ks,vs,c),⟨ww,hmw,hstep ww fun a=>by rw[hwx a,hjj,hee]; simp⟩,hlt,le_two (fun b' cs h=>by simp[setM_box,St.set_box,t14 b' cs h,h]) (fun b' p' h=>by simpa[setM_buf,St.set] using h) (fun b' x' h1 h2 h=>by simp[setM_mp,set_mp,h1,h2,h]) (by simp[setM_mp,set_mp,Ne.symm hib]) (by simp[setM_mp,set_mp,hib])⟩
   |true=>
    by_cases hbl:x+ze7 I.op.val<b.length
    ·have g7:(((x+ze7 I.op.val:Nat):Int)<b.length)=True:=eq_true (by omega)
     simp -implicitDefEqProofs only[go_sem,mmB,hT,Nat.mul_one,Nat.add_zero,Nat.zero_add,hee,g7,bXhpK2]
     obtain⟨ks1,vs1,c1,e1,hm1⟩:=hset (x+ze7 I.op.val)
     have e1':mset (some .i64) ks vs c (kyN (x+ze7 I.op.val)) (.agg [])= .map (some .i64) ks1 vs1 c1:=e1
     rw[updA_map (k:=kyN (x+ze7 I.op.val)) mp144 kk3 keyD_int (hmpw _ (by rw[set_mp])) rfl]
     simp -implicitDefEqProofs only[go_sem,hT,Nat.mul_one,Nat.add_zero,Nat.zero_add,frz,e1',bXhpK2]
     exact⟨(seen++[st],ks1,vs1,c1),⟨_,hm1,hstep _ fun a=>by rw[hwx a,hjj,hee,upd_one hbl]; simp⟩,hlt,le_two (fun b' cs h=>by simp[setM_box,St.set_box,t14 b' cs h,h]) (fun b' p' h=>by simpa[setM_buf,St.set] using h) (fun b' x' h1 h2 h=>by simp[setM_mp,set_mp,h1,h2,h]) (by simp[setM_mp,set_mp,Ne.symm hib]) (by simp[setM_mp,set_mp,hib])⟩
    ·have g7:(((x+ze7 I.op.val:Nat):Int)<b.length)=False:=eq_false (by omega)
     simp -implicitDefEqProofs only[go_sem,mmB,hT,Nat.mul_one,Nat.add_zero,Nat.zero_add,hee,g7,bXhpK2]
     exact⟨(seen++[st],ks,vs,c),⟨ww,hmw,hstep ww fun a=>by
      rw[hwx a,hjj,hee]
      constructor
      ·exact .inl
      ·rintro(h|⟨h1,h2⟩)
       ·exact h
       ·simp at h2; omega⟩,hlt,le_two (fun b' cs h=>by simp[setM_box,St.set_box,t14 b' cs h,h]) (fun b' p' h=>by simpa[setM_buf,St.set] using h) (fun b' x' h1 h2 h=>by simp[setM_mp,set_mp,h1,h2,h]) (by simp[setM_mp,set_mp,Ne.symm hib]) (by simp[setM_mp,set_mp,hib])⟩
  |true=>
   obtain⟨ja,hja⟩:∃ja:Nat,I.a=ja:=⟨I.a.toNat,by have:=hj hjj; omega⟩
   have hjl:=hj hjj
   have hja2:ja<b.length:=by omega
   obtain⟨ks1,vs1,c1,e1,hm1⟩:=hset ja
   have e1':mset (some .i64) ks vs c (kyN ja) (.agg [])= .map (some .i64) ks1 vs1 c1:=e1
   simp -implicitDefEqProofs only[go_sem,hT,Nat.mul_one,Nat.add_zero,Nat.zero_add,hja,bXhpK2]
   rw[updA_map (k:=kyN ja) mp144 kk3 keyD_int (hmpw _ (by rw[set_mp])) rfl]
   simp -implicitDefEqProofs only[go_sem,hT,Nat.mul_one,Nat.add_zero,Nat.zero_add,hja,frz,e1',bXhpK3]
   refine za3 (size125 I.op) ?_
   simp -implicitDefEqProofs only[go_sem,hT,Nat.mul_one,Nat.add_zero,Nat.zero_add,w4,bXhpK3]
   refine za3 (ends88 I.op) ?_
   cases hee:endsB I.op.val with
   |false=>
    simp -implicitDefEqProofs only[go_sem,mmB,hT,Nat.mul_one,Nat.add_zero,Nat.zero_add,hee,bXhpK3]
    exact⟨(seen++[st],ks1,vs1,c1),⟨_,hm1,hstep _ fun a=>by rw[hwx a,hjj,hee,upd_one hja2,hja]; simp[Int.natCast_inj]⟩,hlt,le_two (fun b' cs h=>by simp[setM_box,St.set_box,t14 b' cs h,h]) (fun b' p' h=>by simpa[setM_buf,St.set] using h) (fun b' x' h1 h2 h=>by simp[setM_mp,set_mp,h1,h2,h]) (by simp[setM_mp,set_mp,Ne.symm hib]) (by simp[setM_mp,set_mp,hib])⟩
   |true=>
    by_cases hbl:x+ze7 I.op.val<b.length
    ·have g7:(((x+ze7 I.op.val:Nat):Int)<b.length)=True:=eq_true (by omega)
     simp -implicitDefEqProofs only[go_sem,mmB,hT,Nat.mul_one,Nat.add_zero,Nat.zero_add,hee,g7,bXhpK3]
     obtain⟨ks2,vs2,c2,e2,hm2⟩:=hm1.set (x+ze7 I.op.val) ()
     have e2':mset (some .i64) ks1 vs1 c1 (kyN (x+ze7 I.op.val)) (.agg [])= .map (some .i64) ks2 vs2 c2:=e2
     rw[updA_map (k:=kyN (x+ze7 I.op.val)) mp144 kk3 keyD_int (by rw[setM_mp,if_pos rfl]) rfl]
     simp -implicitDefEqProofs only[go_sem,hT,Nat.mul_one,Nat.add_zero,Nat.zero_add,frz,e2',bXhpK2]
     exact⟨(seen++[st],ks2,vs2,c2),⟨_,hm2,hstep _ fun a=>by
      have hu:=upd_one (ww:=fun a=>if a=ja then some () else ww a) (a:=a) hbl
      rw[hwx a,hjj,hee,hu,upd_one hja2,hja]
      constructor
      ·rintro((h|⟨h1,h2⟩)|⟨h1,h2⟩)
       ·exact .inl h
       ·exact .inr ⟨h1,by simp[h2]⟩
       ·exact .inr ⟨h1,by simp[h2]⟩
      ·rintro(h|⟨h1,h2⟩)
       ·exact .inl (.inl h)
       ·simp at h2
        rcases h2 with h2|h2
        ·exact .inl (.inr ⟨h1,by omega⟩)
        ·exact .inr ⟨h1,h2⟩⟩,hlt,le_two (fun b' cs h=>by simp[setM_box,St.set_box,t14 b' cs h,h]) (fun b' p' h=>by simpa[setM_buf,St.set] using h) (fun b' x' h1 h2 h=>by simp[setM_mp,set_mp,h1,h2,h]) (by simp[setM_mp,set_mp,Ne.symm hib]) (by simp[setM_mp,set_mp,hib])⟩
    ·have g7:(((x+ze7 I.op.val:Nat):Int)<b.length)=False:=eq_false (by omega)
     simp -implicitDefEqProofs only[go_sem,mmB,hT,Nat.mul_one,Nat.add_zero,Nat.zero_add,hee,g7,bXhpK3]
     exact⟨(seen++[st],ks1,vs1,c1),⟨_,hm1,hstep _ fun a=>by
      rw[hwx a,hjj,hee,upd_one hja2,hja]
      constructor
      ·rintro(h|⟨h1,h2⟩)
       ·exact .inl h
       ·exact .inr ⟨h1,by simp[h2]⟩
      ·rintro(h|⟨h1,h2⟩)
       ·exact .inl h
       ·simp at h2
        exact .inr ⟨h1,by omega⟩⟩,hlt,le_two (fun b' cs h=>by simp[setM_box,St.set_box,t14 b' cs h,h]) (fun b' p' h=>by simpa[setM_buf,St.set] using h) (fun b' x' h1 h2 h=>by simp[setM_mp,set_mp,h1,h2,h]) (by simp[setM_mp,set_mp,Ne.symm hib]) (by simp[setM_mp,set_mp,hib])⟩
open Go.Proofs
open Go.Proofs
open Go.Proofs
open Go.Proofs
instance moW:Mo:=⟨fun _=>false,fun _=>false,fun _=>false⟩
open Go.Proofs
open Go.Proofs
open Go.Proofs
def c9:CT (Tryz.f9.body.getD .skip):=⟨_,by conv=>lhs; cbv⟩
theorem F9:Fun1 Tryz.prog 9 19 c9.1 [.tmp 2]:=mkT Tryz.func9 rfl (by decide +kernel) Tryz.ntmps9 rfl c9.2 rfl
open Go.Proofs
def eCo (e:En) (loc:Int) (b:List Ty):List D:=[.slice .no (rws eC e.cs),.slice .no (rws eSg e.sgs),.int .i64 e.fn,.int .i64 loc,.slice .no (rws eT b)]
theorem eCo_len (e:En) (loc:Int) (b:List Ty):(eCo e loc b).length=5:=rfl
theorem zg0 (e:En) (loc:Int) (b:List Ty):(eCo e loc b).take 5=eCo e loc b:=rfl
theorem zf7 (e:En) (loc:Int) (b:List Ty):(eCo e loc b).take 3=eEn e:=rfl
theorem eCo_3 (e:En) (loc:Int) (b:List Ty):(eCo e loc b)[3]? =some (.int .i64 loc):=rfl
theorem eCo_4 (e:En) (loc:Int) (b:List Ty):(eCo e loc b)[4]? =some (.slice .no (rws eT b)):=rfl
theorem taken9 (e:En) (loc:Int) (b:List Ty) (hw:WideE e) (hb:b.length≤140737488355328):PCall Tryz.prog 9 [.agg (eCo e loc b)] (.bool (decide ((inferD e loc b).2.2=0))):=by
 have hinf:=infer26 e loc b .no hw hb
 generalize inferD e loc b=r at *
 refine F9.pcallM rfl fun T hT=> ?_
 simp -implicitDefEqProofs only[go_sem,c9,hT,eCo_len,zg0,zf7,eCo_3,eCo_4,zb8,zb2,gdD,Nat.add_zero,anD]
 intro b1
 refine za3 hinf ?_
 simp -implicitDefEqProofs only[go_sem,hT,eCo_len,zg0,zf7,eCo_3,eCo_4,zb8,zb2,gdD,Nat.add_zero,anD]
 exact zf2 (by rw[decide_eq_decide]; omega)
open Go.Proofs
open Go.Proofs
open Go.Proofs
open Go.Proofs
def c28:CT (Tryz.f28.body.getD .skip):=⟨_,by conv=>lhs; cbv⟩
theorem F28:Fun1 Tryz.prog 28 9 c28.1 [.tmp 4]:=mkT Tryz.func28 rfl (by decide +kernel) Tryz.ntmps28 rfl c28.2 rfl
def c56:CT (Tryz.f56.body.getD .skip):=⟨_,by conv=>lhs; cbv⟩
theorem F56:Fun1 Tryz.prog 56 19 c56.1 [.tmp 4]:=mkT Tryz.func56 rfl (by decide +kernel) Tryz.ntmps56 rfl c56.2 rfl
def c7:CT (Tryz.f7.body.getD .skip):=⟨_,by conv=>lhs; cbv⟩
theorem F7:Fun1 Tryz.prog 7 161 c7.1 [.tmp 2]:=mkT Tryz.func7 rfl (by decide +kernel) Tryz.ntmps7 rfl c7.2 rfl
end Go.AL
