import Derived.Test.YtjffaachihpjbaaGreatDu
import Derived.Test.YtjffaachihpjbaaGreatDs
import Derived.Test.YtjffaachihpjbaaGreatDo
import Derived.Test.YtjffaachihpjbaaGreatDq
set_option linter.unusedSimpArgs false
set_option linter.unusedVariables false
set_option maxRecDepth 100000
set_option linter.defProp false
set_option maxHeartbeats 4000000
namespace Go.AL
open Go.Proofs
theorem filterMap_if {α β:Type} {p:α→Bool} {g:α→β}:∀l:List α,(l.filterMap fun a=>if p a=true then some (g a) else none)=(l.filter p).map g
 |[]=>rfl
 |a::l=>by
  rw[List.filterMap_cons,List.filter_cons,filterMap_if l]
  cases p a <;> simp
def adrs (s:IS) (n:Nat):List Nat:=(List.range n).filter fun a=>(s.has[a]?).getD false
theorem ents_adrs (s:IS) (n:Nat):entsD s n=(adrs s n).map fun a:Nat=>(⟨(a:Int),false,(s.fr[a]?).getD (fr0 0)⟩:Ey):=by
 unfold entsD adrs
 rw[←filterMap_if]
theorem sort_sorted {l:List Int} (h:l.Pairwise (· ≤ ·)):sortZ l=l:=by
 unfold sortZ
 exact List.mergeSort_of_pairwise (h.imp fun h=>by simpa using h)
theorem keys_adrs {b:List Ty} {s:IS} {p:RS} {ks:List (Ky×Nat)} {vs:List D} {c:Nat} (hal:Alike b s p) (hm:MapR dF p.ff ks vs c) (hsz:s.sz (b.length+1)) (hend:(s.has[b.length]?).getD false=false):
  sortZ (ks.map fun p=>kyI p.1)=(adrs s b.length).map fun n:Nat=>(n:Int):=by
 have hmem:∀x:Nat,(s.has[x]?).getD false=true↔∃q∈ks,q.1=kyN x:=fun x=>by
  have hx:=hal.f x
  constructor
  ·intro hf
   rw[if_pos hf] at hx
   obtain⟨j,h1,_⟩:=hm.yes x _ hx
   obtain⟨t,ht⟩:=kf_some h1
   exact⟨_,List.mem_of_getElem? ht,rfl⟩
  ·rintro⟨q,hq,he⟩
   refine Classical.byContradiction fun hc=> ?_
   rw[if_neg hc] at hx
   exact kf_none (hm.no x hx) q hq he
 have hsorted:((adrs s b.length).map fun n:Nat=>(n:Int)).Pairwise (· ≤ ·):=by
  rw[List.pairwise_map]
  exact(List.Pairwise.filter _ List.pairwise_lt_range).imp fun h=>by omega
 rw[←sort_sorted hsorted]
 refine mergeSort_of_perm_i ((List.perm_ext_iff_of_nodup ?_ ?_).2 fun z=> ?_)
 ·have hn:=hm.nod
  have:ks.map (fun p=>kyI p.1)=(ks.map (·.1)).map kyI:=by rw[List.map_map]; rfl
  rw[this]
  refine List.pairwise_map.2 (List.Pairwise.imp_of_mem (R:=(· ≠ ·)) ?_ hn)
  intro x y hx hy hne he
  obtain⟨px,hpx,rfl⟩:=List.mem_map.1 hx
  obtain⟨py,hpy,rfl⟩:=List.mem_map.1 hy
  obtain⟨n,hn⟩:=hm.key px hpx
  obtain⟨m,hm⟩:=hm.key py hpy
  rw[hn,hm] at he hne
  simp only[kyN,kyI] at he
  exact hne (by simp only[kyN]; rw[he])
 ·refine List.pairwise_map.2 ((List.Pairwise.filter _ List.pairwise_lt_range).imp fun h he=>by omega)
 ·simp only[List.mem_map,adrs,List.mem_filter,List.mem_range]
  constructor
  ·rintro⟨q,hq,rfl⟩
   obtain⟨n,hn⟩:=hm.key q hq
   have hh:=(hmem n).2 ⟨q,hq,hn⟩
   have hlt:n<b.length:=by
    have h1:n<s.has.length:=Classical.byContradiction fun hc=>by rw[List.getElem?_eq_none (by omega)] at hh; cases hh
    rw[hsz.a] at h1
    have h2:n≠b.length:=fun he=>by rw[he,hend] at hh; cases hh
    omega
   exact⟨n,⟨hlt,hh⟩,by rw[hn]; rfl⟩
  ·rintro⟨n,⟨_,hh⟩,rfl⟩
   obtain⟨q,hq,he⟩:=(hmem n).1 hh
   exact⟨q,hq,by rw[he]; rfl⟩
theorem callB_new2 {P:Program} {N:Nat} {T:Env} {σ:St} {K:Env→St→Prop} {Q:XA→Env→St→Prop} {dst:Option Nat} {g:FuncId} {ds:List D} {R:D→St→Prop} (h:RCall P g ds {} R)
  (hk:∀d s',R d s'→∀τ,St.le s' τ→St.le σ τ→putK N dst d K T τ):callB P N [] false dst g ds K Q T σ:=by
 refine⟨{},σ,_,.pure σ,fun b hb=>(by cases hb),h,fun h=>(by cases h),fun x s' ⟨d,hx,hR⟩ hap _=> ?_⟩
 subst hx
 exact hk d s' hR _ ⟨fun x cs h=>by simp[St.join,h],fun x p h=>by simp[St.join,h],fun x o h=>by simp[St.join,h]⟩ (le_join hap)
open Go.Proofs
def c49:CT (Tryz.f49.body.getD .skip):=⟨_,by conv=>lhs; cbv⟩
theorem F49:Fun1 Tryz.prog 49 82 c49.1 [.tmp 2,.tmp 3]:=mkT Tryz.func49 rfl (by decide +kernel) Tryz.ntmps49 rfl c49.2 rfl
def c73:CT (Tryz.f73.body.getD .skip):=⟨_,by conv=>lhs; cbv⟩
theorem F73:Fun1 Tryz.prog 73 60 c73.1 [.tmp 2,.tmp 3]:=mkT Tryz.func73 rfl (by decide +kernel) Tryz.ntmps73 rfl c73.2 rfl
def c102:CT (Tryz.f102.body.getD .skip):=⟨_,by conv=>lhs; cbv⟩
theorem F102:Fun1 Tryz.prog 102 53 c102.1 [.tmp 4]:=mkT Tryz.func102 rfl (by decide +kernel) Tryz.ntmps102 rfl c102.2 rfl
open Go.Proofs
def frameE (loc:Int) (f:Fr):Nat:=
 if f.loc≠loc∨f.h<0∨24-loc<f.h then 65
 else if((List.range 24).all fun i=>decide (loc+f.h≤(i:Int)→slAt f i=0))=false then 65
 else if((List.range 24).all fun i=>knownT (slAt f i))=false then 62 else 0
theorem frameE_bad {loc:Int} {f:Fr} (h:f.loc≠loc∨f.h<0∨24-loc<f.h):frameE loc f=65:=by unfold frameE; rw[if_pos h]
theorem frameE_tail {loc:Int} {f:Fr} (h:¬(f.loc≠loc∨f.h<0∨24-loc<f.h)) {i:Nat} (hi:i<24) (h1:loc+f.h≤(i:Int)) (h2:slAt f i≠0):frameE loc f=65:=by
 unfold frameE
 rw[if_neg h,if_pos]
 rw[List.all_eq_false]
 exact⟨i,List.mem_range.2 hi,by simpa using ⟨h1,h2⟩⟩
theorem frameE_code {loc:Int} {f:Fr} (h:¬(f.loc≠loc∨f.h<0∨24-loc<f.h)) (h0:∀i:Nat,i<24→loc+f.h≤(i:Int)→slAt f i=0) {i:Nat} (hi:i<24) (h2:knownT (slAt f i)=false):frameE loc f=62:=by
 unfold frameE
 have h1:((List.range 24).all fun i=>decide (loc+f.h≤(i:Int)→slAt f i=0))=true:=by
  rw[List.all_eq_true]
  intro j hj
  rw[List.mem_range] at hj
  have:=h0 j hj
  simp only[decide_eq_true_eq]; exact this
 rw[if_neg h,if_neg (by rw[h1]; simp),if_pos]
 rw[List.all_eq_false]
 exact⟨i,List.mem_range.2 hi,by rw[h2]; simp⟩
theorem frameE_ok {loc:Int} {f:Fr} (h:¬(f.loc≠loc∨f.h<0∨24-loc<f.h)) (h0:∀i:Nat,i<24→loc+f.h≤(i:Int)→slAt f i=0) (h2:∀i:Nat,i<24→knownT (slAt f i)=true):frameE loc f=0:=by
 unfold frameE
 have h1:((List.range 24).all fun i=>decide (loc+f.h≤(i:Int)→slAt f i=0))=true:=by
  rw[List.all_eq_true]
  intro j hj
  rw[List.mem_range] at hj
  have:=h0 j hj
  simp only[decide_eq_true_eq]; exact this
 have h3:((List.range 24).all fun i=>knownT (slAt f i))=true:=by
  rw[List.all_eq_true]
  intro j hj
  rw[List.mem_range] at hj
  exact h2 j hj
 rw[if_neg h,if_neg (by rw[h1]; simp),if_neg (by rw[h3]; simp)]
theorem known_0:knownT 0=true:=by decide
theorem fr_sl (f:Fr) {i:Nat} (h:i<24):(eFr f)[2+i]? =some (.int .u8 ((slAt f i).val:Int)):=by
 rw[fr_at f i h]; simp[slAt,h]
def bXhpA0:=aI @zb4 (aI @zb5 (aI @za9 (aI @za8 (aI @za6 (aI @za5 (aI @gdD (aI @fr_0 @fr_1)))))))
theorem frame166 (loc:Nat) (f:Fr) (hl:loc≤16):PCall Tryz.prog 102 [.agg (eFr f),.int .i64 (loc:Int)] (.int .i64 (frameE loc f)):=by
 have w0:IntKind.wrap .i64 (24-(loc:Int))=24-(loc:Int):=zb8 (by omega) (by omega)
 refine F102.pcallM rfl fun T hT=> ?_
 by_cases hbad:f.loc≠loc∨f.h<0∨24-(loc:Int)<f.h
 ·rw[frameE_bad hbad]
  by_cases c1:f.loc=loc
  ·have e1:(f.loc=(loc:Int))=True:=eq_true c1
   by_cases c2:f.h<0
   ·have e2:(f.h<0)=True:=eq_true c2
    simp -implicitDefEqProofs only[go_sem,mmB,c102,hT,Nat.mul_one,Nat.add_zero,Nat.zero_add,e1,e2,w0,bXhpA0]
    exact DLe.refl _
   ·have e2:(f.h<0)=False:=eq_false c2
    have e3:(24-(loc:Int)<f.h)=True:=eq_true ((hbad.resolve_left fun h=>h c1).resolve_left c2)
    simp -implicitDefEqProofs only[go_sem,mmB,c102,hT,Nat.mul_one,Nat.add_zero,Nat.zero_add,e1,e2,e3,w0,bXhpA0]
    exact DLe.refl _
  ·have e1:(f.loc=(loc:Int))=False:=eq_false c1
   simp -implicitDefEqProofs only[go_sem,mmB,c102,hT,Nat.mul_one,Nat.add_zero,Nat.zero_add,e1,w0,bXhpA0]
   exact DLe.refl _
 simp only[not_or,Classical.not_not] at hbad
 obtain⟨c1,c2,c3⟩:=hbad
 have hnb:¬(f.loc≠loc∨f.h<0∨24-(loc:Int)<f.h):=by omega
 obtain⟨k,hk⟩:∃k:Nat,f.h=k:=⟨f.h.toNat,by omega⟩
 have e1:(f.loc=(loc:Int))=True:=eq_true c1
 have e2:(f.h<0)=False:=eq_false c2
 have e3:(24-(loc:Int)<f.h)=False:=eq_false c3
 have w1:IntKind.wrap .i64 ((loc:Int)+f.h)=((loc+k:Nat):Int):=by rw[zb8 (by omega) (by omega),hk]; simp
 simp -implicitDefEqProofs only[go_sem,mmB,c102,hT,Nat.mul_one,Nat.add_zero,Nat.zero_add,e1,e2,e3,w0,w1,bXhpA0]
 intro b2
 refine⟨by omega, ?_⟩
 obtain⟨O,hO⟩:∃O,(if 24=loc+k then 2 else 2+(loc+k))=O:=⟨_,rfl⟩
 rw[hO]
 refine loopL F102 (fun i:Nat=>[(2,.ptr b2 0),(5,.int .i64 ((loc+k:Nat):Int)),(32,.bsl b2 O (24-(loc+k)) (24-(loc+k))),(33,.int .i64 ((24-(loc+k):Nat):Int)),(34,.int .i64 i)]) (fun _=>({}:St).set b2 (eFr f))
  (fun i=>i≤24-(loc+k)∧∀j,j<i→slAt f (loc+k+j)=0) (fun i=>24-i) 0 ⟨Nat.zero_le _,fun j h=>by omega⟩ ?_ (St.le.refl _) ?_
 ·simp -implicitDefEqProofs only[go_sem,hT,Nat.mul_one,Nat.add_zero,Nat.zero_add,bXhpA0]
  rfl
 clear hT T
 rintro i ⟨hi,hz⟩ T hT
 by_cases h:i<24-(loc+k)
 ·have g5:((i:Int)<((24-(loc+k):Nat):Int))=True:=eq_true (by omega)
  have w3:IntKind.wrap .i64 ((i:Int)+1)=((i+1:Nat):Int):=by rw[zb8 (by omega) (by omega)]; simp
  have hat:=fr_sl f (i:=loc+k+i) (by omega)
  rw[if_neg (by omega)] at hO
  rw[←Nat.add_assoc,hO] at hat
  by_cases hs:slAt f (loc+k+i)=0
  ·have g6:(((slAt f (loc+k+i)).val:Int)=0)=True:=eq_true (by rw[hs]; rfl)
   simp -implicitDefEqProofs only[go_sem,hT,g5,Nat.mul_one,Nat.add_zero,Nat.zero_add,hat,g6,w3,bXhpA0]
   exact⟨by omega,i+1,⟨by omega,fun j hj=>by
    by_cases he:j=i
    ·rw[he]; exact hs
    ·exact hz j (by omega)⟩,by omega,rfl,St.le.refl _⟩
  ·have g6:(((slAt f (loc+k+i)).val:Int)=0)=False:=eq_false (fun h=>hs (Fin.ext (by simpa using h)))
   rw[frameE_tail hnb (i:=loc+k+i) (by omega) (by omega) hs]
   simp -implicitDefEqProofs only[go_sem,hT,g5,Nat.mul_one,Nat.add_zero,Nat.zero_add,hat,g6,bXhpA0]
   exact⟨by omega,DLe.refl _⟩
 have g5:((i:Int)<((24-(loc+k):Nat):Int))=False:=eq_false (by omega)
 have hz0:∀i:Nat,i<24→(loc:Int)+f.h≤(i:Int)→slAt f i=0:=fun j hj h2=>by
  have:=hz (j-(loc+k)) (by omega)
  rwa[show loc+k+(j-(loc+k))=j by omega] at this
 simp -implicitDefEqProofs only[go_sem,hT,g5,Nat.mul_one,Nat.add_zero,Nat.zero_add,bXhpA0]
 refine⟨by omega, ?_⟩
 refine loopL F102 (fun i:Nat=>[(2,.ptr b2 0),(43,.bsl b2 2 (loc+k) 24),(44,.int .i64 ((loc+k:Nat):Int)),(45,.int .i64 i)]) (fun _=>({}:St).set b2 (eFr f))
  (fun i=>i≤loc+k∧∀j,j<i→knownT (slAt f j)=true) (fun i=>24-i) 0 ⟨Nat.zero_le _,fun j h=>by omega⟩ ?_ (St.le.refl _) ?_
 ·simp -implicitDefEqProofs only[go_sem,hT,Nat.mul_one,Nat.add_zero,Nat.zero_add,bXhpA0]
  exact⟨rfl,rfl,rfl⟩
 clear hT T
 rintro i ⟨hi,hk2⟩ T hT
 by_cases h:i<loc+k
 ·have g5:((i:Int)<((loc+k:Nat):Int))=True:=eq_true (by omega)
  have w3:IntKind.wrap .i64 ((i:Int)+1)=((i+1:Nat):Int):=by rw[zb8 (by omega) (by omega)]; simp
  have hat:=fr_sl f (i:=i) (by omega)
  simp -implicitDefEqProofs only[go_sem,hT,g5,Nat.mul_one,Nat.add_zero,Nat.zero_add,hat,bXhpA0]
  refine⟨by omega,za3 (known204 _) ?_⟩
  cases hs:knownT (slAt f i) with
  |false=>
   rw[frameE_code hnb hz0 (i:=i) (by omega) hs]
   simp -implicitDefEqProofs only[go_sem,hT]
   exact DLe.refl _
  |true=>
   simp -implicitDefEqProofs only[go_sem,hT,w3]
   exact⟨i+1,⟨by omega,fun j hj=>by
    by_cases he:j=i
    ·rw[he]; exact hs
    ·exact hk2 j (by omega)⟩,by omega,rfl,St.le.refl _⟩
 have g5:((i:Int)<((loc+k:Nat):Int))=False:=eq_false (by omega)
 rw[frameE_ok hnb hz0 fun j hj=>by
  by_cases hjk:j<loc+k
  ·exact hk2 j (by omega)
  ·rw[hz0 j hj (by omega)]; exact known_0]
 simp -implicitDefEqProofs only[go_sem,hT,g5,Nat.mul_one,Nat.add_zero,Nat.zero_add,bXhpA0]
 exact DLe.refl _
def bodyE (loc:Int) (x:Ey):Nat:=if x.dead=true then(if x.fr=fr0 0 then 0 else 65) else frameE loc x.fr
open Go.Proofs
theorem bodyE_dead {loc:Int} {x:Ey} (h:x.dead=true):bodyE loc x=if x.fr=fr0 0 then 0 else 65:=by unfold bodyE; rw[if_pos h]
theorem bodyE_live {loc:Int} {x:Ey} (h:x.dead=false):bodyE loc x=frameE loc x.fr:=by unfold bodyE; rw[if_neg (by rw[h]; simp)]
theorem ey_fr (x:Ey):((eEy x).drop 2).take 26=eFr x.fr:=by
 show(eFr x.fr).take 26=_
 exact za5 _
theorem ey_26 (x:Ey):(26≤((eEy x).drop 2).length)=True:=eq_true (by simp[eEy,eFr])
theorem eq_fr0 (y:Fr):eqV Tryz.prog 10 38 (.agg (eFr y)) (.agg zFr)=some (decide (y=fr0 0)):=by rw[←fr_fr0]; exact eq_fr y (fr0 0)
open Go.Proofs
def eCz (loc:Int) (es:List Ey):List D:=[.int .i64 loc,.slice .no (rws eEy es)]
theorem eCz_len (loc:Int) (es:List Ey):(eCz loc es).length=2:=rfl
theorem eCz_take (loc:Int) (es:List Ey):(eCz loc es).take 2=eCz loc es:=rfl
theorem eCz_0 (loc:Int) (es:List Ey):(eCz loc es)[0]? =some (.int .i64 loc):=rfl
theorem eCz_1 (loc:Int) (es:List Ey):(eCz loc es)[1]? =some (.slice .no (rws eEy es)):=rfl
def chkC (loc:Int):Int→Nat→List Ey→Nat×Nat
 |_,_,[]=>(0,0)
 |last,i,x::r=>if afterE x.pos last≠0 then(i,afterE x.pos last) else if bodyE loc x≠0 then(i,bodyE loc x) else chkC loc x.pos (i+1) r
def checkC (loc:Int) (es:List Ey):Nat×Nat:=if loc<0∨16<loc then(0,5) else if 4096<es.length then(4096,4) else chkC loc (-1) 0 es
def lastP (es:List Ey) (i:Nat):Int:=if i=0 then -1 else((es[i-1]?).map (·.pos)).getD (-1)
theorem lastP_succ {es:List Ey} {i:Nat} (h:i<es.length):lastP es (i+1)=es[i].pos:=by simp[lastP,h]
theorem chk_step {loc:Int} {es:List Ey} {i:Nat} (h:i<es.length):chkC loc (lastP es i) i (es.drop i)=
  if afterE es[i].pos (lastP es i)≠0 then(i,afterE es[i].pos (lastP es i)) else if bodyE loc es[i]≠0 then(i,bodyE loc es[i]) else chkC loc (lastP es (i+1)) (i+1) (es.drop (i+1)):=by
 rw[List.drop_eq_getElem_cons h,chkC,lastP_succ h]
open Go.Proofs
def bXhpD0:=aI @gdD (aI @eCz_len (aI @eCz_take (aI @eCz_0 @eCz_1)))
def bXhpD1:=aI @gdD (aI @eCz_len (aI @eCz_take (aI @eCz_0 (aI @eCz_1 (aI @za4 (aI @ey_0 (aI @ey_1 (aI @ey_fr (aI @ey_26 (aI @ze7 @zd6))))))))))
def bXhpD2:=aI @gdD (aI @eCz_len (aI @eCz_take (aI @eCz_0 (aI @eCz_1 (aI @za4 (aI @ey_0 (aI @ey_1 (aI @ey_fr (aI @ey_26 (aI @ze7 (aI @zd6 (aI @eq_fr0 @zb4))))))))))))
theorem check130 (loc:Int) (es:List Ey) (hl:es.length≤140737488355328):PCall Tryz.prog 73 [.agg (eCz loc es)] (.tup [.int .i64 (checkC loc es).1,.int .i64 (checkC loc es).2]):=by
 refine F73.pcallM rfl fun T hT=> ?_
 by_cases h1:loc<0
 ·have g1:(loc<0)=True:=eq_true h1
  rw[show checkC loc es=(0,5) by unfold checkC; rw[if_pos (.inl h1)]]
  simp -implicitDefEqProofs only[go_sem,mmB,c73,hT,Nat.mul_one,Nat.add_zero,Nat.zero_add,g1,bXhpD0]
  exact DLe.refl _
 have g1:(loc<0)=False:=eq_false h1
 by_cases h2:16<loc
 ·have g2:((16:Int)<loc)=True:=eq_true h2
  rw[show checkC loc es=(0,5) by unfold checkC; rw[if_pos (.inr h2)]]
  simp -implicitDefEqProofs only[go_sem,mmB,c73,hT,Nat.mul_one,Nat.add_zero,Nat.zero_add,g1,g2,bXhpD0]
  exact DLe.refl _
 have g2:((16:Int)<loc)=False:=eq_false h2
 by_cases h3:4096<es.length
 ·have g3:((4096:Int)<es.length)=True:=eq_true (by omega)
  rw[show checkC loc es=(4096,4) by unfold checkC; rw[if_neg (by omega),if_pos h3]]
  simp -implicitDefEqProofs only[go_sem,mmB,c73,hT,Nat.mul_one,Nat.add_zero,Nat.zero_add,g1,g2,g3,bXhpD0]
  exact DLe.refl _
 have g3:((4096:Int)<es.length)=False:=eq_false (by omega)
 obtain⟨n,rfl⟩:∃n:Nat,loc=n:=⟨loc.toNat,by omega⟩
 rw[show checkC n es=chkC n (-1) 0 es by unfold checkC; rw[if_neg (by omega),if_neg h3]]
 simp -implicitDefEqProofs only[go_sem,mmB,c73,hT,Nat.mul_one,Nat.add_zero,Nat.zero_add,g1,g2,g3,bXhpD0]
 intro b1
 refine loopL F73 (fun i:Nat=>[(1,.ptr b1 0),(4,.int .i64 (lastP es i)),(21,.slice .no (rws eEy es)),(22,.int .i64 es.length),(23,.int .i64 i)]) (fun _=>({}:St).set b1 (eCz n es))
  (fun i=>i≤es.length∧chkC n (lastP es i) i (es.drop i)=chkC n (-1) 0 es) (fun i=>es.length-i) 0 ⟨Nat.zero_le _,rfl⟩ ?_ (St.le.refl _) ?_
 ·simp -implicitDefEqProofs only[go_sem,hT,Nat.mul_one,Nat.add_zero,Nat.zero_add,bXhpD0]
  exact⟨rfl,rfl⟩
 clear hT T
 rintro i ⟨hi,hc⟩ T hT
 by_cases h:i<es.length
 case neg=>
  have g5:((i:Int)<es.length)=False:=eq_false (by omega)
  rw[←hc,List.drop_eq_nil_of_le (by omega)]
  simp -implicitDefEqProofs only[go_sem,hT,g5,Nat.mul_one,Nat.add_zero,Nat.zero_add,bXhpD0]
  exact DLe.refl _
 have g5:((i:Int)<es.length)=True:=eq_true (by omega)
 have w3:IntKind.wrap .i64 ((i:Int)+1)=((i+1:Nat):Int):=by rw[zb8 (by omega) (by omega)]; simp
 have hget:=rws_at (enc:=eEy) h
 have hst:=chk_step (loc:=n) h
 rw[hc] at hst
 generalize hL:lastP es i=L at *
 have hnext:=lastP_succ h
 generalize hx:es[i]=x at *
 have base:∀(b6:Nat) (c:List D),¬b6=b1→St.le (({}:St).set b1 (eCz n es)) ((({}:St).set b1 (eCz n es)).set b6 c):=fun b6 c hb=>le_add (fun h=>(set_has.1 h).elim hb (St.not_has_nil _))
 simp -implicitDefEqProofs only[go_sem,hT,g5,gdD,Nat.mul_one,Nat.add_zero,Nat.zero_add,eCz_len,eCz_take,eCz_0,eCz_1,hget,ze7,zd6]
 refine⟨by omega,fun b6 n1 n2=> ?_⟩
 simp -implicitDefEqProofs only[go_sem,hT,Nat.mul_one,Nat.add_zero,Nat.zero_add,n1,n2,bXhpD1]
 refine za3 (rises165 L x.pos) ?_
 by_cases g6:afterE x.pos L=0
 case neg=>
  have g6':((afterE x.pos L:Int)=0)=False:=eq_false (by omega)
  rw[if_pos g6] at hst
  rw[hst]
  simp -implicitDefEqProofs only[go_sem,hT,g6',Nat.mul_one,Nat.add_zero,Nat.zero_add,n1,n2,bXhpD1]
  done
 have g6':((afterE x.pos L:Int)=0)=True:=eq_true (by omega)
 rw[if_neg (by omega)] at hst
 cases hd:x.dead with
 |true=>
  rw[bodyE_dead hd] at hst
  by_cases hf:x.fr=fr0 0
  ·have g1:(decide (x.fr=fr0 0))=true:=decide_eq_true hf
   rw[if_pos hf,if_neg (by simp)] at hst
   simp -implicitDefEqProofs only[go_sem,mmB,hT,g6',Nat.mul_one,Nat.add_zero,Nat.zero_add,n1,n2,hd,g1,bXhpD2]
   exact⟨i+1,⟨by omega,hst.symm⟩,by omega,⟨by rw[hnext],by rw[w3]⟩,base b6 _ n1⟩
  ·have g1:(decide (x.fr=fr0 0))=false:=decide_eq_false hf
   rw[if_neg hf,if_pos (by simp)] at hst
   rw[hst]
   simp -implicitDefEqProofs only[go_sem,mmB,hT,g6',Nat.mul_one,Nat.add_zero,Nat.zero_add,n1,n2,hd,g1,bXhpD2]
   exact DLe.refl _
 |false=>
  rw[bodyE_live hd] at hst
  simp -implicitDefEqProofs only[go_sem,mmB,hT,g6',Nat.mul_one,Nat.add_zero,Nat.zero_add,n1,n2,hd,bXhpD2]
  refine za3 (frame166 n x.fr (by omega)) ?_
  by_cases g7:frameE n x.fr=0
  case neg=>
   have g7':((frameE n x.fr:Int)=0)=False:=eq_false (by omega)
   rw[if_pos g7] at hst
   rw[hst]
   simp -implicitDefEqProofs only[go_sem,mmB,hT,g7',Nat.mul_one,Nat.add_zero,Nat.zero_add,n1,n2,bXhpD1]
  have g7':((frameE n x.fr:Int)=0)=True:=eq_true (by omega)
  rw[if_neg (by omega)] at hst
  simp -implicitDefEqProofs only[go_sem,mmB,hT,g7',Nat.mul_one,Nat.add_zero,Nat.zero_add,n1,n2,bXhpD1]
  exact⟨i+1,⟨by omega,hst.symm⟩,by omega,⟨by rw[hnext],by rw[w3]⟩,base b6 _ n1⟩
open Go.Proofs
def byT (n:Nat):Ty:=⟨n%256,by omega⟩
def bytesE (loc:Nat) (x:Ey):List Ty:=byT (x.pos.toNat/256)::byT x.pos.toNat::(if x.dead=true then [0] else 1::byT x.fr.h.toNat::x.fr.sl.toList.take (loc+x.fr.h.toNat))
def headB (loc n:Nat):List Ty:=[112,118,1,byT loc,byT (n/256),byT n]
def encB (loc:Nat) (es:List Ey):List Ty:=headB loc es.length++es.flatMap (bytesE loc)
def encC (loc:Int) (es:List Ey):List Ty×Nat:=if(checkC loc es).2≠0 then([],(checkC loc es).2) else(encB loc.toNat es,0)
theorem wrap_u8m (z:Int):IntKind.wrap .u8 z=z%256:=by simp[IntKind.wrap,IntKind.bits,IntKind.signed]
theorem byT_val (n:Nat):((byT n).val:Int)=IntKind.wrap .u8 (n:Int):=by rw[wrap_u8m]; simp[byT]
def brD (o:Option Nat) (bs:List Ty):D:=match o with
 |none=> .slice .exact (rws eT bs)
 |some b=> .slice (.buf b 1) (rws eT bs)
section
variable {N : Nat} {d : Option Nat} {K : Env → St → Prop} {T : Env} {σ : St}
theorem br_app {o:Option Nat} {bs ys:List Ty} {ow:Own} {base:St} (hb:grN o base) (hle:St.le (grS 1 bs.length o base) σ) (hy:ys≠[]) (hl:(bs++ys).length≤1000000)
  (hk:∀b' σ',σ'.box=σ.box→St.le (grS 1 (bs++ys).length (some b') base) σ'→grN (some b') base→putK N d (brD (some b') (bs++ys)) K T σ'):
  appendA Tryz.prog N d 26 26 (brD o bs) (.slice ow (rws eT ys)) K T σ:=by
 have hyr:∀r∈rws eT ys,r.length=1:=fun r hr=>by
  rw[rws,List.mem_map] at hr
  obtain⟨t,_,rfl⟩:=hr; rfl
 have hbr:∀r∈rws eT bs,r.length=1:=fun r hr=>by
  rw[rws,List.mem_map] at hr
  obtain⟨t,_,rfl⟩:=hr; rfl
 have hap:rws eT bs++rws eT ys=rws eT (bs++ys):=rws_app ..
 rw[List.length_append] at hl
 cases o with
 |none=>
  have hyn:rws eT ys≠[]:=fun h=>hy (by simpa[rws] using h)
  simp only[brD,app_exact,Tryz.sli26,Tryz.sz5,Tryz.by5,Tryz.zero5,Option.map_some,true_and,za1,hap]
  refine⟨rfl,by omega,by omega,hyr,by omega,hbr,fun h=>absurd h hyn,fun _ b' hb'=> ?_⟩
  have:=hk b' (σ.setBuf b' 1 (bs.length+ys.length)) rfl (by
   rw[List.length_append]
   exact le_setBuf hle) (fun c hc=>by cases hc; exact fun h=>hb' (hle.has h))
  exact this
 |some b=>
  refine app_gr' Tryz.sli26 Tryz.sz5 Tryz.by5 Tryz.zero5 rfl (n:=bs.length) (m:=ys.length) (base:=base) (o:=some b) (by rw[za1]) (by rw[za1]) hle hb (fun h=>by cases h) hyr (by omega) fun o' σ' h1 h2 h3 h4=> ?_
  cases o' with
  |none=>exfalso; have:=h4 rfl; exact hy (List.eq_nil_of_length_eq_zero (by omega))
  |some b'=>
   have:=hk b' σ' h1 (by rw[List.length_append]; exact h2) h3
   rw[hap]; exact this
end
theorem frame_zero {loc:Int} {f:Fr} (h:frameE loc f=0):f.loc=loc∧0≤f.h∧f.h≤24-loc:=by
 unfold frameE at h
 split at h
 ·cases h
 ·rename_i hc; omega
theorem after_zero {a l:Int} (h:afterE a l=0):0≤a∧a≤4095∧l<a:=by
 unfold afterE at h
 split at h
 ·cases h
 split at h
 ·cases h
 split at h
 ·cases h
 ·omega
theorem chk_ok {loc:Int}:∀{es:List Ey} {last:Int} {i:Nat},(chkC loc last i es).2=0→∀x∈es,(0≤x.pos∧x.pos≤4095)∧bodyE loc x=0
 |[],_,_,_,x,hx=>by cases hx
 |y::r,last,i,h,x,hx=>by
  rw[chkC] at h
  by_cases h1:afterE y.pos last=0
  case neg=>rw[if_pos h1] at h; exact absurd h h1
  rw[if_neg (by omega)] at h
  by_cases h2:bodyE loc y=0
  case neg=>rw[if_pos h2] at h; exact absurd h h2
  rw[if_neg (by omega)] at h
  rcases List.mem_cons.1 hx with rfl|hx
  ·have:=after_zero h1
   exact⟨⟨this.1,this.2.1⟩,h2⟩
  ·exact chk_ok h x hx
theorem check_ok {loc:Int} {es:List Ey} (h:(checkC loc es).2=0):∃n:Nat,loc=n∧n≤16∧es.length≤4096∧∀x∈es,∃p:Nat,x.pos=p∧p≤4095∧(x.dead=true∧x.fr=fr0 0∨x.dead=false∧∃k:Nat,x.fr.h=k∧x.fr.loc=n∧n+k≤24):=by
 unfold checkC at h
 split at h
 ·cases h
 split at h
 ·cases h
 obtain⟨n,rfl⟩:∃n:Nat,loc=n:=⟨loc.toNat,by omega⟩
 refine⟨n,rfl,by omega,by omega,fun x hx=> ?_⟩
 obtain⟨⟨h1,h2⟩,h3⟩:=chk_ok h x hx
 refine⟨x.pos.toNat,by omega,by omega, ?_⟩
 cases hd:x.dead with
 |true=>
  rw[bodyE_dead hd] at h3
  by_cases hf:x.fr=fr0 0
  ·exact .inl ⟨rfl,hf⟩
  ·rw[if_neg hf] at h3; cases h3
 |false=>
  rw[bodyE_live hd] at h3
  obtain⟨f1,f2,f3⟩:=frame_zero h3
  exact .inr ⟨rfl,x.fr.h.toNat,by omega,f1,by omega⟩
theorem bytes_len (n:Nat) (x:Ey):(bytesE n x).length≤28:=by
 unfold bytesE
 split
 ·simp
 ·simp only[List.length_cons,List.length_take,Vector.length_toList]; omega
theorem flat_len (n:Nat):∀es:List Ey,(es.flatMap (bytesE n)).length≤28*es.length
 |[]=>by simp
 |x::r=>by
  have h1:=bytes_len n x
  have h2:=flat_len n r
  simp only[List.flatMap_cons,List.length_append,List.length_cons]; omega
theorem flat_take {n:Nat} {es:List Ey} {i:Nat} (h:i<es.length):(es.take (i+1)).flatMap (bytesE n)=(es.take i).flatMap (bytesE n)++bytesE n es[i]:=by
 rw[List.take_add_one,List.getElem?_eq_getElem h,List.flatMap_append]; simp[List.flatMap_cons]
open Go.Proofs
def wantX (b:List Ty) (x a:Nat):Bool:=(jumpsB (insA b x).op.val&&decide ((insA b x).a=(a:Int)))||(endsB (insA b x).op.val&&decide (x+szA b x=a))
def wantL (b:List Ty) (L:List Nat) (a:Nat):Bool:=L.any fun x=>wantX b x a
def hasB (s:IS) (a:Nat):Bool:=(s.has[a]?).getD false
def entA (s:IS) (a:Nat):Ey:=if hasB s a=true then⟨(a:Int),false,frA s a⟩ else⟨(a:Int),true,fr0 0⟩
def certE (b:List Ty) (s:IS):List Ey:=((List.range b.length).filter (wantL b (adrs s b.length))).map (entA s)
def emitD (e:En) (loc:Int) (b:List Ty):List Ty×Int×Nat:=
 if(inferD e loc b).2.2≠0 then([],(inferD e loc b).2.1,(inferD e loc b).2.2)
 else((encC loc (certE b (goneD e loc b).1)).1,0,(encC loc (certE b (goneD e loc b).1)).2)
theorem eIn_2 (i:Ins):(eIn i)[2]? =some (.int .i64 i.a):=rfl
theorem hasB_iff {s:IS} {a:Nat}:hasB s a=true↔hasP s a:=Iff.rfl
theorem adrs_mem {s:IS} {n a:Nat}:a∈adrs s n↔a<n∧hasP s a:=by
 unfold adrs
 rw[List.mem_filter,List.mem_range]; rfl
theorem last_leads {e:En} {loc:Int} {b:List Ty} {r:IS} (h:LastP e loc b r) {x:Nat} (hx:x∈adrs r b.length):
  (decF b x).2=0∧(jumpsB (insA b x).op.val=true→0≤(insA b x).a∧(insA b x).a<b.length)∧x+szA b x≤b.length:=by
 obtain⟨_,hh⟩:=adrs_mem.1 hx
 obtain⟨h1,_,h3,_⟩:=h.goes x hh
 refine⟨h1,fun hj=>⟨jumps_a h1 hj, ?_⟩,(decF_ok h1).2.2.2⟩
 refine Classical.byContradiction fun hc=> ?_
 unfold onD at h3
 unfold insA at hj hc
 simp only at h3
 rw[if_pos ⟨hj,by omega⟩] at h3
 cases h3
theorem cert_len (b:List Ty) (s:IS):(certE b s).length≤b.length:=by
 unfold certE
 rw[List.length_map]
 have:=List.length_filter_le (wantL b (adrs s b.length)) (List.range b.length)
 rw[List.length_range] at this; exact this
open Go.Proofs
theorem cert_mem {b:List Ty} {r:IS} {y:Ey}:y∈certE b r↔∃a:Nat,a<b.length∧wantL b (adrs r b.length) a=true∧y=entA r a:=by
 unfold certE
 simp only[List.mem_map,List.mem_filter,List.mem_range]
 constructor
 ·rintro⟨a,⟨h1,h2⟩,rfl⟩; exact⟨a,h1,h2,rfl⟩
 ·rintro⟨a,h1,h2,rfl⟩; exact⟨a,⟨h1,h2⟩,rfl⟩
theorem entA_pos {r:IS} {a:Nat}:(entA r a).pos=a:=by unfold entA; split <;> rfl
theorem cert_rise (b:List Ty) (r:IS):Rise (certE b r):=by
 unfold Rise certE
 rw[List.pairwise_map]
 refine(List.Pairwise.filter _ List.pairwise_lt_range).imp fun h=> ?_
 rw[entA_pos,entA_pos]; omega
theorem entA_live {r:IS} {a:Nat} (h:hasP r a):entA r a=⟨(a:Int),false,frA r a⟩:=by unfold entA; rw[if_pos (hasB_iff.2 h)]
theorem entA_dead {r:IS} {a:Nat} (h:¬hasP r a):entA r a=⟨(a:Int),true,fr0 0⟩:=by unfold entA; rw[if_neg (fun hc=>h (hasB_iff.1 hc))]
open Go.Proofs
open Go.Proofs
open Go.Proofs
theorem round_congr {e:En} {b b':List Ty} {s:IS} {a:Nat} (hl:b'.length=b.length) (hd:decF b' a=decF b a):roundD e b' s a=roundD e b s a:=by
 unfold roundD; rw[hd,hl]
theorem round_keeps {e:En} {b:List Ty} {s:IS} {a x:Nat} (hw:WideE e) (hs:s.sz (b.length+1)) (ha:a≤b.length) (h:(roundD e b s a).2.2=0) (hx:hasP s x):hasP (roundD e b s a).1 x:=
 ((round_handed hw hs ha h).has x).2 (.inl hx)
theorem goD_keeps {e:En} {b:List Ty} {r:IS} (hw:WideE e):∀(k:Nat) (s:IS),s.sz (b.length+1)→goD e b k s (leastD s.fresh)=(r,0,0)→∀x,hasP s x→hasP r x
 |0,s,_,h,x,hx=>by simp only[goD,Prod.mk.injEq] at h; rw[←h.1]; exact hx
 |k+1,s,hs,h,x,hx=>by
  rw[goD] at h
  by_cases h0:leastD s.fresh<0
  ·rw[if_pos h0] at h; simp only[Prod.mk.injEq] at h; rw[←h.1]; exact hx
  ·rw[if_neg h0] at h
   obtain⟨a,ha⟩:∃a:Nat,leastD s.fresh=a:=⟨_,(Int.toNat_of_nonneg (by omega)).symm⟩
   obtain⟨h1,h2⟩:=least_in ha (by omega)
   rw[Int.toNat_natCast] at h1 h2
   rw[hs.c] at h1
   rw[ha,Int.toNat_natCast] at h
   have hal:a≤b.length:=by omega
   by_cases hr:(roundD e b s a).2.2=0
   ·rw[if_neg (by omega)] at h
    obtain⟨_,_,_,_,_,_,r6,_,_⟩:=round_shape (e:=e) hs hal
    exact goD_keeps hw k _ r6 h x (round_keeps hw hs hal hr hx)
   ·rw[if_pos hr] at h; rw[h] at hr; exact absurd rfl hr
theorem goD_congr {e:En} {b b':List Ty} {r:IS} (hw:WideE e) (hl:b'.length=b.length) (hd:∀x,hasP r x→decF b' x=decF b x):∀(k:Nat) (s:IS),s.sz (b.length+1)→FH s→goD e b k s (leastD s.fresh)=(r,0,0)→goD e b' k s (leastD s.fresh)=(r,0,0)
 |0,s,_,_,h=>h
 |k+1,s,hs,hf,h=>by
  have hk:=goD_keeps hw (k+1) s hs h
  rw[goD] at h ⊢
  by_cases h0:leastD s.fresh<0
  ·rw[if_pos h0] at h ⊢; exact h
  ·rw[if_neg h0] at h ⊢
   obtain⟨a,ha⟩:∃a:Nat,leastD s.fresh=a:=⟨_,(Int.toNat_of_nonneg (by omega)).symm⟩
   obtain⟨h1,h2⟩:=least_in ha (by omega)
   rw[Int.toNat_natCast] at h1 h2
   rw[hs.c] at h1
   rw[ha,Int.toNat_natCast] at h ⊢
   have hal:a≤b.length:=by omega
   rw[round_congr hl (hd a (hk a (hf a h2)))]
   by_cases hr:(roundD e b s a).2.2=0
   ·rw[if_neg (by omega)] at h ⊢
    obtain⟨_,_,_,_,_,_,r6,_,_⟩:=round_shape (e:=e) hs hal
    exact goD_congr hw hl hd k _ r6 (round_FH hf hs hal) h
   ·rw[if_pos hr] at h; rw[h] at hr; exact absurd rfl hr
theorem gone_congr {e:En} {loc:Int} {b b':List Ty} {r:IS} (hw:WideE e) (hl:b'.length=b.length) (h:goneD e loc b=(r,0,0)) (hd:∀x,hasP r x→decF b' x=decF b x):goneD e loc b'=(r,0,0):=by
 have hz:(0:Int)=leastD (is0 b.length (startF e.cs.length (psOf e) loc).1).fresh:=is0_least.symm
 unfold goneD at h ⊢
 rw[hl,hz]
 rw[hz] at h
 exact goD_congr hw hl hd _ _ is0_sz is0_FH h
theorem infer_congr {e:En} {loc:Int} {b b':List Ty} (hw:WideE e) (hl:b'.length=b.length) (h:(inferD e loc b).2.2=0) (hd:∀x∈(inferD e loc b).1,decF b' x.pos.toNat=decF b x.pos.toNat):inferD e loc b'=inferD e loc b:=by
 obtain⟨h1,h2,r,h3,h4,h5⟩:=infer_last hw h
 rw[h5] at hd ⊢
 have hg:=gone_congr hw hl h3 fun x hx=>by
  have:=hd ⟨(x:Int),false,frA r x⟩ (ents_mem.2 ⟨x,h4.lt x hx,hx,rfl⟩)
  simpa using this
 unfold inferD
 rw[if_neg (by omega),if_neg (by omega)]
 have hg2:goneD e loc b'=goD e b' (fuelD b'.length) (is0 b'.length (startF e.cs.length (psOf e) loc).1) 0:=rfl
 simp only
 rw[←hg2,hg,hl]; rfl
open Go.Proofs
theorem last_loc {e:En} {loc:Int} {b:List Ty} {r:IS} (hw:WideE e) (hm:mayE e loc=0) (h:goneD e loc b=(r,0,0)):∀x,hasP r x→(frA r x).loc=loc:=by
 obtain⟨r2,h1,h2,h3,⟨h4,_⟩,h6⟩:=gone_ind (I:=fun s=>(∀x,hasP s x→(frA s x).loc=loc)∧True)
  (fun s a hs hf ⟨i1,_⟩ ha hn _ hR=>⟨fun x hx=>by
   have H:=round_handed hw hs ha hR
   obtain⟨k1,k2,k3,k4,k5,k6⟩:=round_ok hR
   have hl:(behA e b s a).loc=loc:=by
    show(applyR e ((s.fr[a]?).getD (fr0 0)) (decF b a).1).1.loc=loc
    rw[(done_behind (done_iff.1 k4)).loc]
    exact i1 a (hf a hn)
   rcases(H.has x).1 hx with hx|hx
   ·have hx:hasP s x:=hx
    rcases H.up x hx with h|h
    ·rw[h]; exact i1 x hx
    ·rw[←h.loc]; exact i1 x hx
   ·rw[←(H.got x hx).loc]; exact hl,trivial⟩)
  ⟨fun x hx=>by
   rw[is0_hasP] at hx
   subst hx
   have:frA (is0 b.length (startF e.cs.length (psOf e) loc).1) 0=(startF e.cs.length (psOf e) loc).1:=is0_fr
   rw[this,(start_eq hm).2.2.2.2],trivial⟩ (show(goneD e loc b).2.2=0 by rw[h])
 rw[h] at h1
 cases h1
 exact h4
theorem chk_good {loc:Int}:∀{es:List Ey} {last:Int} {i:Nat},Rise es→(∀x∈es,last<x.pos∧0≤x.pos∧x.pos≤4095∧bodyE loc x=0)→(chkC loc last i es).2=0
 |[],_,_,_,_=>rfl
 |x::r,last,i,hr,h=>by
  obtain⟨h1,h2⟩:=rise_cons hr
  obtain⟨a1,a2,a3,a4⟩:=h x (List.mem_cons_self ..)
  have ha:afterE x.pos last=0:=by unfold afterE; rw[if_neg (by omega),if_neg (by omega),if_neg (by omega)]
  rw[chkC,if_neg (by omega),if_neg (by omega)]
  exact chk_good h2 fun y hy=>by
   obtain⟨b1,b2,b3,b4⟩:=h y (List.mem_cons_of_mem _ hy)
   exact⟨h1 y hy,b2,b3,b4⟩
theorem cert_check {e:En} {loc:Int} {b:List Ty} {r:IS} (hw:WideE e) (hm:mayE e loc=0) (hb:b.length≤4096) (h:goneD e loc b=(r,0,0)) (hl:LastP e loc b r):(encC loc (certE b r)).2=0:=by
 obtain⟨hcan,hps,h16,_,_⟩:=start_eq hm
 have h32:=(canB_can hw hcan).cls
 have hloc:=last_loc hw hm h
 have hc:(checkC loc (certE b r)).2=0:=by
  unfold checkC
  have:=cert_len b r
  rw[if_neg (by omega),if_neg (by omega)]
  refine chk_good (cert_rise b r) fun x hx=> ?_
  obtain⟨a,h1,h2,rfl⟩:=cert_mem.1 hx
  rw[entA_pos]
  refine⟨by omega,by omega,by omega, ?_⟩
  by_cases hh:hasP r a
  ·rw[entA_live hh,bodyE_live rfl]
   simp only
   obtain⟨c1,c2,c3⟩:=checkF_iff.1 (hl.start.2.2 a hh)
   obtain⟨s1,s2,s3,s4⟩:=shaped_of c1
   have hlo:=hloc a hh
   unfold frameE
   rw[if_neg (by omega),if_neg,if_neg]
   ·rw[Bool.not_eq_false,List.all_eq_true]
    intro i hi
    have hv:=c3 i (List.mem_range.1 hi)
    unfold validN at hv
    unfold knownT
    rw[decide_eq_true_eq] at hv ⊢
    omega
   ·rw[Bool.not_eq_false,List.all_eq_true]
    intro i hi
    rw[decide_eq_true_eq]
    intro hle
    exact bare_iff.1 c2 i (List.mem_range.1 hi) (by omega)
  ·rw[entA_dead hh,bodyE_dead rfl]; rfl
 unfold encC
 rw[if_neg (by omega)]
theorem emit_ok {e:En} {loc:Int} {b:List Ty} (hw:WideE e) (h:(inferD e loc b).2.2=0):∃r,goneD e loc b=(r,0,0)∧LastP e loc b r∧inferD e loc b=(entsD r b.length,0,0)∧emitD e loc b=((encC loc (certE b r)).1,0,0)∧b.length≤4096∧mayE e loc=0:=by
 obtain⟨hm,hb,r,hg,hl,hi⟩:=infer_last hw h
 have hc:=cert_check hw hm hb hg hl
 refine⟨r,hg,hl,hi, ?_,hb,hm⟩
 unfold emitD
 rw[if_neg (by omega),hg]
 simp only
 rw[hc]
theorem emit_congr {e:En} {loc:Int} {b b':List Ty} (hw:WideE e) (hl:b'.length=b.length) (h:(inferD e loc b).2.2=0) (hd:∀x∈(inferD e loc b).1,decF b' x.pos.toNat=decF b x.pos.toNat):inferD e loc b'=inferD e loc b∧emitD e loc b'=emitD e loc b:=by
 have hi:=infer_congr hw hl h hd
 obtain⟨r,hg,hla,he,hem,hb,hm⟩:=emit_ok hw h
 have hdr:∀x,hasP r x→decF b' x=decF b x:=fun x hx=>by
  have:=hd ⟨(x:Int),false,frA r x⟩ (by rw[he]; exact ents_mem.2 ⟨x,hla.lt x hx,hx,rfl⟩)
  simpa using this
 have hg':=gone_congr hw hl hg hdr
 have hc:certE b' r=certE b r:=by
  unfold certE
  rw[hl]
  congr 1
  refine List.filter_congr fun a ha=> ?_
  unfold wantL
  rw[Bool.eq_iff_iff,List.any_eq_true,List.any_eq_true]
  have hx:∀x,x∈adrs r b.length→wantX b' x a=wantX b x a:=fun x hx=>by
   have:=hdr x (adrs_mem.1 hx).2
   unfold wantX szA insA; rw[this]
  constructor
  ·rintro⟨x,h1,h2⟩; exact⟨x,h1,by rw[←hx x h1]; exact h2⟩
  ·rintro⟨x,h1,h2⟩; exact⟨x,h1,by rw[hx x h1]; exact h2⟩
 refine⟨hi, ?_⟩
 unfold emitD
 rw[hi,if_neg (by omega),if_neg (by omega),hg,hg']
 simp only
 rw[hc]
open Go.Proofs
open Go.Proofs
open Go.Proofs
def c21:CT (Tryz.f21.body.getD .skip):=⟨_,by conv=>lhs; cbv⟩
theorem F21:Fun1 Tryz.prog 21 112 c21.1 [.tmp 6,.tmp 7,.tmp 8]:=mkT Tryz.func21 rfl (by decide +kernel) Tryz.ntmps21 rfl c21.2 rfl
def c48:CT (Tryz.f48.body.getD .skip):=⟨_,by conv=>lhs; cbv⟩
theorem F48:Fun1 Tryz.prog 48 4 c48.1 [.tmp 2]:=mkT Tryz.func48 rfl (by decide +kernel) Tryz.ntmps48 rfl c48.2 rfl
end Go.AL
namespace Go.AL
open Go.Proofs Go.RowKit Go.Maps Go.WideElems Go.MapKept
theorem keys86 (b:Nat) (σ:St):RCall Tryz.prog 48 [.map b] σ fun d s'=>∃c,¬σ.has c∧d= .func (.func 72) [] [.ptr c 0]∧s'=σ.set c [.map b]:=by
 refine F48.rcall rfl fun T hT=> ?_
 simp -implicitDefEqProofs only[go_sem,c48,hT,frz]
 intro c hc
 exact⟨_,_,DLe.refl _,St.le.refl _,c,hc,rfl,rfl⟩
theorem sortedKb {H:Type} (c b nn:Nat) (D0:DataW H) (R:Value→Option (DataW H×List MemPlace)) (w:World) (hc:w.cell? ⟨c,0,none⟩=some (.map (some b))) (hcl:c<w.heap.size) (hown:w.ownsMap Tryz.prog 3 R b nn D0) (hmax:Maps.size D0≤maxLen) (hbytes:Maps.size D0*8≤140737488355328):
  Calls Tryz.prog 33 #[.func (.func 72) #[] #[.pointer (some ⟨c,0,none⟩)]] w fun e w'=>∃(v:Value) (ss:List Int),e= .returned v∧ss.Perm (intKeys D0)∧
   w'.ownsRow w.heap.size 3 1 v ss.length ((ss.mergeSort (fun x y=>decide (x≤y))).map encZ)∧(v= .slice none 0 0↔ss=[])∧Below w.heap.size w w':=by
 have hseq:SeqGives Fence.wide 2 Tryz.prog 72 #[.pointer (some ⟨c,0,none⟩)] encZ (fun ss=>ss.Perm (intKeys D0)) (Maps.size D0) w:=
  AnyZI.keys_gives (ρ:=Tryz.keysB_ren) {Tryz.keysB with} Fence.wide _ trivial rfl (by omega) c b nn D0 w hcl hc hown
 have cS:=AnyZI.sorted_in Tryz.sortedA Fence.wide 5 trivial trivial trivial trivial rfl (by omega) (sortsK _) (enters_of Tryz.func61 (by kernel_rfl) rfl) 72 #[.pointer (some ⟨c,0,none⟩)] trivial (enters_of Tryz.func72 (by kernel_rfl) rfl) _ _ hmax hbytes w hseq
 exact callsIn_wide.1 cS
theorem sorted80b (s:St) (c b:Nat) (ks:List (Ky×Nat)) (vs:List D) (clock:Nat) (hc:s.box c=some [.map b]) (hb:s.mp b=some (.map (some .i64) ks vs clock)) (hk:∀p∈ks,∃n,p.1=kyN n∧n≤5000) (hl:ks.length≤5000):
  RCall Tryz.prog 33 [.func (.func 72) [] [.ptr c 0]] s fun d s'=>d= .slice .no ((sortZ (ks.map fun p=>kyI p.1)).map fun z=>[eZ z])∧s'=s:=by
 refine⟨⟨_,Tryz.func33,by kernel_rfl,rfl⟩,fun M w vs' hi hv=> ?_⟩
 obtain⟨v,vs2,rfl,⟨vf,vc,rfl,hf,hcap⟩,hv2⟩:=hv
 obtain rfl:vs2=[]:=hv2
 have hf:vf.toList=[]:=hf
 obtain⟨pv,pr,hp1,hp2,hp3⟩:=hcap
 obtain rfl:pr=[]:=hp3
 have hp2:pv= .pointer (some ⟨c,0,none⟩):=hp2
 obtain rfl:vf= #[]:=by simpa using hf
 obtain rfl:vc= #[.pointer (some ⟨c,0,none⟩)]:=by
  apply Array.toList_inj.1; rw[hp1,hp2]
 obtain⟨hM,cc,e,hheap,hrep,hone⟩:=hi.box c _ hc
 obtain⟨v1,r1,hr1,hr2,hr3⟩:=hrep
 obtain rfl:r1=[]:=hr3
 have hr2:v1= .map (some b):=hr2
 have hcell:w.cell? ⟨c,0,none⟩=some (.map (some b)):=by
  refine cell_of hheap ?_
  rw[←Array.getElem?_toList,hr1,hr2]; rfl
 obtain⟨D0,o1,o2,o3⟩:=own_map (hi.mp b _ hb) hk hl
 have hmax:5000≤maxLen:=by decide
 refine(sortedKb c b 5000 D0 rdU w hcell (heap_lt hheap) o1 (by omega) (by omega)).mono fun ev w' ⟨v,ss,he,hp,hown,hnil,hbel⟩=> ?_
 subst he
 obtain⟨k1,k2⟩:=below_keep hi hbel
 refine⟨M,s,.ret _,⟨v,rfl, ?_⟩,k1,k2,_,rfl,rfl,rfl⟩
 have hss:ss.mergeSort (fun x y=>decide (x≤y))=sortZ (ks.map fun p=>kyI p.1):=mergeSort_of_perm_i (hp.trans o3)
 rw[hss] at hown
 have hlen:(sortZ (ks.map fun p=>kyI p.1)).length=ss.length:=by rw[←hss,List.length_mergeSort]
 generalize sortZ (ks.map fun p=>kyI p.1)=zs at hown hlen
 obtain⟨ho1,ho2⟩:=hown
 rcases ho2 with⟨rfl,h0⟩|⟨g,cap,cur,rfl,hg,hcur,hle,hcm,hcs,htake⟩
 ·refine .inl ⟨rfl, ?_⟩
  rw[h0] at hlen
  rw[List.eq_nil_of_length_eq_zero hlen]; rfl
 ·refine .inr (.inl ⟨g,0,cap,1,by simp[hlen],by simpa[hlen] using hle, ?_⟩)
  have hMg:M g=none:=by
   cases hm:M g with
   |none=>rfl
   |some x=>have:=hi.dom g (by rw[hm]; simp); omega
  refine RepRows.mk fun i r hr=> ?_
  rw[List.getElem?_map] at hr
  cases hz:zs[i]? with
  |none=>rw[hz] at hr; simp at hr
  |some z=>
   rw[hz] at hr
   simp only[Option.map_some,Option.some.injEq] at hr
   subst hr
   refine⟨rfl,RepCells.mk fun j d hd=> ?_⟩
   cases j with
   |succ j=>simp at hd
   |zero=>
    simp only[List.getElem?_cons_zero,Option.some.injEq] at hd
    subst hd
    refine⟨encZ z, ?_,rfl,by simp[ImmAt,hMg],rfl⟩
    have h1:(cur.toList.take (ss.length*1))[i]? =some (encZ z):=by rw[htake,List.getElem?_map,hz]; rfl
    rw[List.getElem?_take] at h1
    split at h1
    ·refine cell_of hcur ?_
     rw[←Array.getElem?_toList]
     simpa using h1
    ·cases h1
open Go.Proofs
theorem shr256 {p:Nat}:IntKind.wrap .u8 ((p:Int).fdiv (2^min 8 64))=((byT (p/256)).val:Int):=by
 rw[byT_val,show((2:Int)^min 8 64)=256 by decide,Int.fdiv_eq_ediv_of_nonneg _ (by omega)]; rfl
def bXhpF0:=aI @gdD (aI @eCz_len (aI @eCz_take (aI @eCz_0 @eCz_1)))
theorem encode87 (loc:Int) (es:List Ey) (hl:es.length≤140737488355328):PCall Tryz.prog 49 [.agg (eCz loc es)] (.tup [.slice .no (rws eT (encC loc es).1),.int .i64 (encC loc es).2]):=by
 refine F49.pcallM rfl fun T hT=> ?_
 simp -implicitDefEqProofs only[go_sem,c49,hT,Nat.mul_one,Nat.add_zero,Nat.zero_add,bXhpF0]
 refine fun b1=>za3 (check130 loc es hl) ?_
 by_cases h0:(checkC loc es).2=0
 case neg=>
  have g0:(((checkC loc es).2:Int)=0)=False:=eq_false (by omega)
  rw[show encC loc es=([],(checkC loc es).2) by unfold encC; rw[if_pos h0]]
  simp -implicitDefEqProofs only[go_sem,hT,g0]
  exact DLe.tup (.cons (DLe.slice _ _) (.cons (DLe.refl _) .nil))
 have g0:(((checkC loc es).2:Int)=0)=True:=eq_true (by omega)
 rw[show encC loc es=(encB loc.toNat es,0) by unfold encC; rw[if_neg (by omega)]]
 obtain⟨n,rfl,hn,hes,hall⟩:=check_ok h0
 rw[Int.toNat_natCast]
 have q1:IntKind.wrap .u8 (n:Int)=((byT n).val:Int):=(byT_val n).symm
 have q2:=shr256 (p:=es.length)
 have q3:=(byT_val es.length).symm
 simp -implicitDefEqProofs only[go_sem,hT,g0,Nat.mul_one,Nat.add_zero,Nat.zero_add,frz,q1,q2,q3,bXhpF0]
 have hst:∀i,i≤es.length→(headB n es.length++(es.take i).flatMap (bytesE n)).length≤200000:=fun i hi=>by
  have:=flat_len n (es.take i)
  rw[List.length_take] at this
  simp only[List.length_append,headB,List.length_cons,List.length_nil]; omega
 refine loopL F49 (fun x:Nat×Option Nat=>[(1,.ptr b1 0),(7,brD x.2 (headB n es.length++(es.take x.1).flatMap (bytesE n))),(33,.slice .no (rws eEy es)),(34,.int .i64 es.length),(35,.int .i64 x.1)])
  (fun x=>grS 1 (headB n es.length++(es.take x.1).flatMap (bytesE n)).length x.2 (({}:St).set b1 (eCz n es))) (fun x=>x.1≤es.length∧grN x.2 (({}:St).set b1 (eCz n es))) (fun x=>es.length-x.1) (0,none) ⟨Nat.zero_le _,grN_none⟩ ?_ (St.le.refl _) ?_
 ·simp -implicitDefEqProofs only[go_sem,hT,Nat.mul_one,Nat.add_zero,Nat.zero_add,bXhpF0]
  exact⟨rfl,rfl⟩
 clear hT T
 rintro⟨i,o⟩ ⟨hi,ho⟩ T hT
 simp only at hi ho hT ⊢
 obtain⟨bs,hbs⟩:∃bs,headB n es.length++(es.take i).flatMap (bytesE n)=bs:=⟨_,rfl⟩
 have hbl:=hst i hi
 rw[hbs] at hT hbl ⊢
 have kb:∀{m:Nat} {o:Option Nat},(grS 1 m o (({}:St).set b1 (eCz n es))).box b1=some (eCz n es):=fun {m o}=>by rw[grS_boxa]; simp[St.set_box]
 by_cases h:i<es.length
 case neg=>
  have g5:((i:Int)<es.length)=False:=eq_false (by omega)
  have hfin:encB n es=bs:=by rw[←hbs,List.take_of_length_le (by omega)]; rfl
  rw[hfin]
  simp -implicitDefEqProofs only[go_sem,hT,g5,Nat.mul_one,Nat.add_zero,Nat.zero_add,bXhpF0]
  cases o with
  |none=>exact DLe.tup (.cons (DLe.slice _ _) (.cons (DLe.refl _) .nil))
  |some b=>exact DLe.tup (.cons (DLe.slice _ _) (.cons (DLe.refl _) .nil))
 have g5:((i:Int)<es.length)=True:=eq_true (by omega)
 have w3:IntKind.wrap .i64 ((i:Int)+1)=((i+1:Nat):Int):=by rw[zb8 (by omega) (by omega)]; simp
 have hget:=rws_at (enc:=eEy) h
 have hnext:=flat_take (n:=n) h
 obtain⟨p,hp,hp4,hx⟩:=hall es[i] (List.getElem_mem h)
 generalize es[i]=x at *
 have q4:=shr256 (p:=p)
 have q5:=(byT_val p).symm
 simp -implicitDefEqProofs only[go_sem,hT,g5,gdD,Nat.mul_one,Nat.add_zero,Nat.zero_add,eCz_len,eCz_take,eCz_0,eCz_1,kb,hget,ze7,zd6]
 refine⟨by omega,fun b9 hb9=> ?_⟩
 have hb91:¬b9=b1:=fun he=>hb9 (by rw[grS_has]; exact .inr (by rw[set_has]; exact .inl he))
 have hno:¬(({}:St).set b1 (eCz n es)).has b9:=fun hh=>hb9 (by rw[grS_has]; exact .inr hh)
 have hgn:grN o ((({}:St).set b1 (eCz n es)).set b9 (eEy x)):=fun c hc hh=>by
  rcases set_has.1 hh with rfl|hh
  ·exact hb9 (by rw[grS_has]; exact .inl hc)
  ·exact ho c hc hh
 have hS:∀{m:Nat} {o:Option Nat},(grS 1 m o ((({}:St).set b1 (eCz n es)).set b9 (eEy x))).box b9=some (eEy x):=fun {m o}=>by rw[grS_boxa]; simp[St.set_box]
 simp -implicitDefEqProofs only[go_sem,hT,gdD,Nat.mul_one,Nat.add_zero,Nat.zero_add,eCz_len,eCz_take,eCz_0,eCz_1,hb91,Ne.symm hb91,ey_0,ey_1,ey_fr,ey_26,grS_set,za4,hS,hp,q4,q5,frz]
 refine br_app (ys:=[byT (p/256),byT p]) hgn (St.le.refl _) (by simp) (by simp; omega) fun c2 σ2 hbox2 hle2 hg2=> ?_
 have k2:σ2.box b9=some (eEy x):=by rw[hbox2]; exact hS
 have hbase:∀{m c:Nat},St.le (grS 1 m (some c) (({}:St).set b1 (eCz n es))) (grS 1 m (some c) ((({}:St).set b1 (eCz n es)).set b9 (eEy x))):=fun {m c}=>le_setBuf (le_add hno)
 have hgb:∀{c:Nat},grN (some c) ((({}:St).set b1 (eCz n es)).set b9 (eEy x))→grN (some c) (({}:St).set b1 (eCz n es)):=fun {c} h c' hc hh=>h c' hc (set_has.2 (.inr hh))
 have hpn:x.pos.toNat=p:=by omega
 rcases hx with⟨hd,hf⟩|⟨hd,k,hk,hfl,hnk⟩
 ·have hby:bytesE n x=[byT (p/256),byT p,0]:=by unfold bytesE; rw[if_pos hd,hpn]
  simp -implicitDefEqProofs only[go_sem,hT,gdD,Nat.mul_one,Nat.add_zero,Nat.zero_add,eCz_len,eCz_take,eCz_0,eCz_1,hb91,Ne.symm hb91,ey_0,ey_1,ey_fr,ey_26,grS_set,za4,k2,hd,frz]
  refine br_app (ys:=[0]) hg2 hle2 (by simp) (by simp; omega) fun c3 σ3 hbox3 hle3 hg3=> ?_
  have hfin:headB n es.length++(es.take (i+1)).flatMap (bytesE n)=bs++[byT (p/256),byT p]++[0]:=by
   rw[hnext,←List.append_assoc,hbs,hby]; simp
  simp -implicitDefEqProofs only[go_sem,hT,Nat.mul_one,Nat.add_zero,Nat.zero_add,w3,bXhpF0]
  exact⟨(i+1,some c3),⟨by simp only; omega,hgb hg3⟩,by simp only; omega,⟨by simp only[hfin],rfl⟩,by simp only[hfin]; exact hbase.trans hle3⟩
 have q6:IntKind.wrap .u8 (k:Int)=((byT k).val:Int):=(byT_val k).symm
 have hkn:x.fr.h.toNat=k:=by omega
 have hby:bytesE n x=[byT (p/256),byT p]++[1,byT k]++x.fr.sl.toList.take (n+k):=by unfold bytesE; rw[if_neg (by rw[hd]; simp),hpn,hkn]; rfl
 simp -implicitDefEqProofs only[go_sem,hT,gdD,Nat.mul_one,Nat.add_zero,Nat.zero_add,eCz_len,eCz_take,eCz_0,eCz_1,hb91,Ne.symm hb91,ey_0,ey_1,ey_fr,ey_26,grS_set,za4,k2,hd,frz,ey_3,hk,q6]
 refine br_app (ys:=[1,byT k]) hg2 hle2 (by simp) (by simp; omega) fun c3 σ3 hbox3 hle3 hg3=> ?_
 have k3:σ3.box b9=some (eEy x):=by rw[hbox3]; exact k2
 obtain⟨b3,hb3⟩:∃b3,bs++[byT (p/256),byT p]++[1,byT k]=b3:=⟨_,rfl⟩
 have hb3l:b3.length≤200004:=by rw[←hb3]; simp; omega
 have w4:IntKind.wrap .i64 ((n:Int)+k)=((n+k:Nat):Int):=by rw[zb8 (by omega) (by omega)]; simp
 rw[hb3] at hle3 ⊢
 have k31:σ3.box b1=some (eCz n es):=by
  rw[hbox3,hbox2,grS_boxa]; simp[St.set_box,hb91,Ne.symm hb91,ey_0,ey_1,ey_fr,ey_26,grS_set,za4]
 simp -implicitDefEqProofs only[go_sem,hT,gdD,Nat.mul_one,Nat.add_zero,Nat.zero_add,eCz_len,eCz_take,eCz_0,eCz_1,hb91,Ne.symm hb91,ey_0,ey_1,ey_fr,ey_26,grS_set,za4,k3,k31,ey_3,hk,w4]
 refine⟨by omega, ?_⟩
 refine loopL F49 (fun y:Nat×Nat=>[(1,.ptr b1 0),(7,brD (some y.2) (b3++x.fr.sl.toList.take y.1)),(33,.slice .no (rws eEy es)),(34,.int .i64 es.length),(35,.int .i64 i),(69,.bsl b9 4 (n+k) 24),(70,.int .i64 ((n+k:Nat):Int)),(71,.int .i64 y.1)])
  (fun y=>grS 1 (b3++x.fr.sl.toList.take y.1).length (some y.2) ((({}:St).set b1 (eCz n es)).set b9 (eEy x))) (fun y=>y.1≤n+k∧grN (some y.2) ((({}:St).set b1 (eCz n es)).set b9 (eEy x))) (fun y=>n+k-y.1) (0,c3) ⟨Nat.zero_le _,hg3⟩ ?_ (by simpa using hle3) ?_
 ·simp -implicitDefEqProofs only[go_sem,hT,Nat.mul_one,Nat.add_zero,Nat.zero_add,List.take_zero,bXhpF0]
  exact⟨rfl,rfl,rfl⟩
 clear hT T
 rintro⟨j,c⟩ ⟨hj,hgc⟩ T hT
 simp only at hj hgc hT ⊢
 have k4:∀{m:Nat} {o:Option Nat},(grS 1 m o ((({}:St).set b1 (eCz n es)).set b9 (eEy x))).box b9=some (eEy x):=hS
 by_cases h':j<n+k
 ·have g6:((j:Int)<((n+k:Nat):Int))=True:=eq_true (by omega)
  have w5:IntKind.wrap .i64 ((j:Int)+1)=((j+1:Nat):Int):=by rw[zb8 (by omega) (by omega)]; simp
  have hat:(eEy x)[4+j]? =some (.int .u8 ((slAt x.fr j).val:Int)):=by
   have:=fr_sl x.fr (i:=j) (by omega)
   rw[show 4+j=2+j+1+1 by omega]; exact this
  have hnx:x.fr.sl.toList.take (j+1)=x.fr.sl.toList.take j++[slAt x.fr j]:=by
   have hjl:j<x.fr.sl.toList.length:=by simp; omega
   rw[List.take_add_one,slAt,List.getElem?_eq_getElem hjl]; rfl
  simp -implicitDefEqProofs only[go_sem,hT,gdD,Nat.mul_one,Nat.add_zero,Nat.zero_add,eCz_len,eCz_take,eCz_0,eCz_1,k4,ey_3,hfl,hk,w4,g6,hat,frz]
  refine⟨by omega,br_app (ys:=[slAt x.fr j]) hgc (St.le.refl _) (by simp) (by simp; omega) fun c4 σ4 hbox4 hle4 hg4=> ?_⟩
  simp -implicitDefEqProofs only[go_sem,hT,Nat.mul_one,Nat.add_zero,Nat.zero_add,w5,bXhpF0]
  rw[List.append_assoc,←hnx] at hle4 ⊢
  exact⟨(j+1,c4),⟨by simp only; omega,hg4⟩,by simp only; omega,⟨rfl,rfl⟩,hle4⟩
 have g6:((j:Int)<((n+k:Nat):Int))=False:=eq_false (by omega)
 have hfin:headB n es.length++(es.take (i+1)).flatMap (bytesE n)=b3++x.fr.sl.toList.take j:=by
  rw[hnext,←List.append_assoc,hbs,hby,←hb3,show j=n+k by omega]; simp
 simp -implicitDefEqProofs only[go_sem,hT,gdD,Nat.mul_one,Nat.add_zero,Nat.zero_add,eCz_len,eCz_take,eCz_0,eCz_1,k4,ey_3,hfl,hk,w4,g6,w3]
 exact⟨(i+1,some c),⟨by simp only; omega,hgb hgc⟩,by simp only; omega,⟨by simp only[hfin],rfl⟩,by simp only[hfin]; exact hbase⟩
end Go.AL
