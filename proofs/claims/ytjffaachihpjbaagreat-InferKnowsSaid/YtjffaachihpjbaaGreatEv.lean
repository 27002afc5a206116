import Derived.Test.YtjffaachihpjbaaGreatEu
import Derived.Test.YtjffaachihpjbaaGreatEs
import Derived.Test.YtjffaachihpjbaaGreatEo
import Derived.Test.YtjffaachihpjbaaGreatEp
import Derived.Test.YtjffaachihpjbaaGreatEe
import Derived.Test.YtjffaachihpjbaaGreatEm
import Derived.Test.YtjffaachihpjbaaGreatEl
set_option linter.unusedSimpArgs false
set_option linter.unusedVariables false
set_option maxRecDepth 100000
set_option linter.defProp false
set_option maxHeartbeats 4000000
namespace Go.AL
open Go.Proofs
theorem filterMap_if {α β:Type} {p:α→Bool} {g:α→β}:∀l:List α,(l.filterMap fun a=>if p a=true then some (g a) else none)=(l.filter p).map g
 |[]=>rfl
 |a::l=>by
  rw[List.filterMap_cons,List.filter_cons,filterMap_if l]
  cases p a <;> simp
def adrs (s:IS) (n:Nat):List Nat:=(List.range n).filter fun a=>(s.has[a]?).getD false
theorem ents_adrs (s:IS) (n:Nat):entsD s n=(adrs s n).map fun a:Nat=>(⟨(a:Int),false,(s.fr[a]?).getD (fr0 0)⟩:Ey):=by
 unfold entsD adrs
 rw[←filterMap_if]
theorem sort_sorted {l:List Int} (h:l.Pairwise (· ≤ ·)):sortZ l=l:=by
 unfold sortZ
 exact List.mergeSort_of_pairwise (h.imp fun h=>by simpa using h)
theorem keys_adrs {b:List Ty} {s:IS} {p:RS} {ks:List (Ky×Nat)} {vs:List D} {c:Nat} (hal:Alike b s p) (hm:MapR dF p.ff ks vs c) (hsz:s.sz (b.length+1)) (hend:(s.has[b.length]?).getD false=false):
  sortZ (ks.map fun p=>kyI p.1)=(adrs s b.length).map fun n:Nat=>(n:Int):=by
 have hmem:∀x:Nat,(s.has[x]?).getD false=true↔∃q∈ks,q.1=kyN x:=fun x=>by
  have hx:=hal.f x
  constructor
  ·intro hf
   rw[if_pos hf] at hx
   obtain⟨j,h1,_⟩:=hm.yes x _ hx
   obtain⟨t,ht⟩:=kf_some h1
   exact⟨_,List.mem_of_getElem? ht,rfl⟩
  ·rintro⟨q,hq,he⟩
   refine Classical.byContradiction fun hc=> ?_
   rw[if_neg hc] at hx
   exact kf_none (hm.no x hx) q hq he
 have hsorted:((adrs s b.length).map fun n:Nat=>(n:Int)).Pairwise (· ≤ ·):=by
  rw[List.pairwise_map]
  exact(List.Pairwise.filter _ List.pairwise_lt_range).imp fun h=>by omega
 rw[←sort_sorted hsorted]
 refine mergeSort_of_perm_i ((List.perm_ext_iff_of_nodup ?_ ?_).2 fun z=> ?_)
 ·have hn:=hm.nod
  have:ks.map (fun p=>kyI p.1)=(ks.map (·.1)).map kyI:=by rw[List.map_map]; rfl
  rw[this]
  refine List.pairwise_map.2 (List.Pairwise.imp_of_mem (R:=(· ≠ ·)) ?_ hn)
  intro x y hx hy hne he
  obtain⟨px,hpx,rfl⟩:=List.mem_map.1 hx
  obtain⟨py,hpy,rfl⟩:=List.mem_map.1 hy
  obtain⟨n,hn⟩:=hm.key px hpx
  obtain⟨m,hm⟩:=hm.key py hpy
  rw[hn,hm] at he hne
  simp only[kyN,kyI] at he
  exact hne (by simp only[kyN]; rw[he])
 ·refine List.pairwise_map.2 ((List.Pairwise.filter _ List.pairwise_lt_range).imp fun h he=>by omega)
 ·simp only[List.mem_map,adrs,List.mem_filter,List.mem_range]
  constructor
  ·rintro⟨q,hq,rfl⟩
   obtain⟨n,hn⟩:=hm.key q hq
   have hh:=(hmem n).2 ⟨q,hq,hn⟩
   have hlt:n<b.length:=by
    have h1:n<s.has.length:=Classical.byContradiction fun hc=>by rw[List.getElem?_eq_none (by omega)] at hh; cases hh
    rw[hsz.a] at h1
    have h2:n≠b.length:=fun he=>by rw[he,hend] at hh; cases hh
    omega
   exact⟨n,⟨hlt,hh⟩,by rw[hn]; rfl⟩
  ·rintro⟨n,⟨_,hh⟩,rfl⟩
   obtain⟨q,hq,he⟩:=(hmem n).1 hh
   exact⟨q,hq,by rw[he]; rfl⟩
theorem callB_new2 {P:Program} {N:Nat} {T:Env} {σ:St} {K:Env→St→Prop} {Q:XA→Env→St→Prop} {dst:Option Nat} {g:FuncId} {ds:List D} {R:D→St→Prop} (h:RCall P g ds {} R)
  (hk:∀d s',R d s'→∀τ,St.le s' τ→St.le σ τ→putK N dst d K T τ):callB P N [] false dst g ds K Q T σ:=by
 refine⟨{},σ,_,.pure σ,fun b hb=>(by cases hb),h,fun h=>(by cases h),fun x s' ⟨d,hx,hR⟩ hap _=> ?_⟩
 subst hx
 exact hk d s' hR _ ⟨fun x cs h=>by simp[St.join,h],fun x p h=>by simp[St.join,h],fun x o h=>by simp[St.join,h]⟩ (le_join hap)
open Go.Proofs
open Go.Proofs
open Go.Proofs
theorem ey_fr (x:Ey):((eEy x).drop 2).take 26=eFr x.fr:=by
 show(eFr x.fr).take 26=_
 exact za5 _
theorem ey_26 (x:Ey):(26≤((eEy x).drop 2).length)=True:=eq_true (by simp[eEy,eFr])
open Go.Proofs
open Go.Proofs
open Go.Proofs
open Go.Proofs
theorem adrs_mem {s:IS} {n a:Nat}:a∈adrs s n↔a<n∧hasP s a:=by
 unfold adrs
 rw[List.mem_filter,List.mem_range]; rfl
open Go.Proofs
open Go.Proofs
open Go.Proofs
open Go.Proofs
def Lower (e e':En):Prop:=e'.cs=e.cs∧∀f i,(applyR e' f i).2=0→(applyR e f i).2=0∧applyR e f i=applyR e' f i
def KnowI (e:En) (r s:IS):Prop:=∀x,hasP s x→hasP r x∧SubF e.cs (frA s x) (frA r x)
theorem round_know {e e':En} {b:List Ty} {loc:Int} {r s:IS} {a:Nat} (hw:WideE e) (hw':WideE e') (hL:Lower e e') (hr:LastP e loc b r) (hs:s.sz (b.length+1)) (ha:a≤b.length) (hh:hasP s a) (hi:KnowI e r s) (h:(roundD e' b s a).2.2=0):KnowI e r (roundD e' b s a).1:=by
 have H:=round_handed hw' hs ha h
 obtain⟨h1,h2,h3,h4,h5,h6⟩:=round_ok h
 obtain⟨i1,i2⟩:=hi a hh
 obtain⟨g1,g2,g3,g4⟩:=hr.goes a i1
 obtain⟨l1,l2⟩:=hL.2 _ _ h4
 obtain⟨d1,d2⟩:=mono hw (done_iff.1 g2) i2
 have hb:behA e' b s a=(applyR e (frA s a) (insA b a)).1:=by
  unfold behA frA insA; rw[l2]
 rw[hL.1,hb] at H
 generalize (roundD e' b s a).1=s' at H
 have hn:∀y∈nextN b a,hasP r y∧SubF e.cs (applyR e (frA s a) (insA b a)).1 (frA r y):=fun y hy=>⟨(g4 y hy).1,d2.trans (g4 y hy).2⟩
 have hl:=H.least (fun x=>frA r x) (fun x hx=>(hi x hx).2) fun y hy=>(hn y hy).2
 intro x hx
 refine⟨?_,hl x hx⟩
 rcases(H.has x).1 hx with hx|hx
 ·exact(hi x hx).1
 ·exact(hn x hx).1
theorem gone_know {e e':En} {b:List Ty} {loc:Int} {r r':IS} (hw:WideE e) (hw':WideE e') (hL:Lower e e') (hr:LastP e loc b r) (hst:SubF e.cs (startF e'.cs.length (psOf e') loc).1 (startF e.cs.length (psOf e) loc).1) (h:goneD e' loc b=(r',0,0)):KnowI e r r':=by
 obtain⟨r2,h1,h2,h3,⟨h4,_⟩,h6⟩:=gone_ind (I:=fun s=>KnowI e r s∧True)
  (fun s a hs hf ⟨i1,_⟩ ha hn _ hR=>⟨round_know hw hw' hL hr hs ha (hf a hn) i1 hR,trivial⟩)
  ⟨fun x hx=>by
   rw[is0_hasP] at hx
   subst hx
   have:frA (is0 b.length (startF e'.cs.length (psOf e') loc).1) 0=(startF e'.cs.length (psOf e') loc).1:=is0_fr
   rw[this]
   exact⟨hr.start.1,hst.trans hr.start.2.1⟩,trivial⟩ (show(goneD e' loc b).2.2=0 by rw[h])
 rw[h] at h1
 cases h1
 exact h4
theorem gone_same {e e':En} {b:List Ty} {loc loc':Int} {r r':IS} (hw:WideE e) (hr:LastP e' loc' b r') (h:goneD e loc b=(r,0,0)):∀x,hasP r x→hasP r' x:=by
 obtain⟨r2,h1,h2,h3,⟨h4,_⟩,h6⟩:=gone_ind (I:=fun s=>(∀x,hasP s x→hasP r' x)∧True)
  (fun s a hs hf ⟨i1,_⟩ ha hn _ hR=>⟨fun x hx=>by
   rcases((round_handed hw hs ha hR).has x).1 hx with hx|hx
   ·exact i1 x hx
   ·exact((hr.goes a (i1 a (hf a hn))).2.2.2 x hx).1,trivial⟩)
  ⟨fun x hx=>by rw[is0_hasP] at hx; subst hx; exact hr.start.1,trivial⟩ (show(goneD e loc b).2.2=0 by rw[h])
 rw[h] at h1
 cases h1
 exact h4
open Go.Proofs
open Go.Proofs
def ownR (e:En):Ty:=((e.sgs[e.fn.toNat]?).map Sg.r).getD 0
def lowE (e:En) (ps:List Ty):En:=⟨e.cs,e.sgs.set e.fn.toNat ⟨ps,ownR e⟩,e.fn⟩
theorem low_at {e:En} {ps:List Ty} (k:Nat):(lowE e ps).sgs[k]? =if k=e.fn.toNat∧k<e.sgs.length then some ⟨ps,ownR e⟩ else e.sgs[k]? :=by
 unfold lowE
 simp only
 rw[List.getElem?_set]
 by_cases h:e.fn.toNat=k
 ·subst h
  by_cases hl:e.fn.toNat<e.sgs.length
  ·rw[if_pos rfl,if_pos hl,if_pos ⟨rfl,hl⟩]
  ·rw[if_pos rfl,if_neg hl,if_neg (fun h=>hl h.2),List.getElem?_eq_none (by omega)]
 ·rw[if_neg h,if_neg (fun hc=>h hc.1.symm)]
theorem takes_low {e:En} {ps:List Ty} {i:Ins}:∀n,n<34→n≠21→n≠22→takesO (lowE e ps) i n=takesO e i n
 |0,_,_,_|1,_,_,_|2,_,_,_|3,_,_,_|4,_,_,_|5,_,_,_|6,_,_,_|7,_,_,_|8,_,_,_|9,_,_,_|10,_,_,_|11,_,_,_|12,_,_,_|13,_,_,_|14,_,_,_|15,_,_,_|16,_,_,_|17,_,_,_|18,_,_,_|19,_,_,_|20,_,_,_|23,_,_,_|24,_,_,_|25,_,_,_|26,_,_,_|27,_,_,_|28,_,_,_|29,_,_,_|30,_,_,_|31,_,_,_|32,_,_,_|33,_,_,_=>rfl
 |21,_,h,_=>absurd rfl h
 |22,_,_,h=>absurd rfl h
 |n+34,h,_,_=>absurd h (by omega)
theorem gives_low {e:En} {ps:List Ty} {i:Ins}:∀n,n<34→n≠21→n≠22→givesO (lowE e ps) i n=givesO e i n
 |0,_,_,_|1,_,_,_|2,_,_,_|3,_,_,_|4,_,_,_|5,_,_,_|6,_,_,_|7,_,_,_|8,_,_,_|9,_,_,_|10,_,_,_|11,_,_,_|12,_,_,_|13,_,_,_|14,_,_,_|15,_,_,_|16,_,_,_|17,_,_,_|18,_,_,_|19,_,_,_|20,_,_,_|23,_,_,_|24,_,_,_|25,_,_,_|26,_,_,_|27,_,_,_|28,_,_,_|29,_,_,_|30,_,_,_|31,_,_,_|32,_,_,_|33,_,_,_=>rfl
 |21,_,h,_=>absurd rfl h
 |22,_,_,h=>absurd rfl h
 |n+34,h,_,_=>absurd h (by omega)
theorem low_r {e:En} {ps:List Ty} (k:Nat):((lowE e ps).sgs[k]?).map Sg.r=(e.sgs[k]?).map Sg.r:=by
 rw[low_at]
 split
 ·rename_i h
  obtain⟨rfl,h2⟩:=h
  unfold ownR
  rw[List.getElem?_eq_getElem h2]; rfl
 ·rfl
theorem gives_low' {e:En} {ps:List Ty} {i:Ins} (n:Nat) (h:n<34):givesO (lowE e ps) i n=givesO e i n:=by
 by_cases h1:n=21
 ·subst h1
  show(((lowE e ps).sgs[i.a.toNat]?).map fun s=>someR s.r).getD []=((e.sgs[i.a.toNat]?).map fun s=>someR s.r).getD []
  have:=low_r (e:=e) (ps:=ps) i.a.toNat
  have h2:=congrArg (fun o:Option Ty=>(o.map someR).getD []) this
  simpa[Option.map_map,Function.comp_def] using h2
 by_cases h2:n=22
 ·subst h2; rfl
 exact gives_low n h h1 h2
theorem takes_low22 {e:En} {ps:List Ty} {i:Ins}:takesO (lowE e ps) i 22=takesO e i 22:=by
 show(((lowE e ps).sgs[e.fn.toNat]?).map fun s=>someR s.r).getD []=((e.sgs[e.fn.toNat]?).map fun s=>someR s.r).getD []
 have:=low_r (e:=e) (ps:=ps) e.fn.toNat
 have h2:=congrArg (fun o:Option Ty=>(o.map someR).getD []) this
 simpa[Option.map_map,Function.comp_def] using h2
theorem takes_more {e:En} {ps:List Ty} {i:Ins} (hw:WideE e) (hcan:canB e=true) (hcan':canB (lowE e ps)=true) (hp:ps.length=(psOf e).length) (hs:∀k,k<ps.length→subB e.cs ((ps[k]?).getD 0) (((psOf e)[k]?).getD 0)=true) (n:Nat) (hn:n<34):
  (takesO (lowE e ps) i n).length=(takesO e i n).length∧∀t k,k<(takesO e i n).length→wantedB e.cs t (((takesO (lowE e ps) i n)[k]?).getD 0)=true→wantedB e.cs t (((takesO e i n)[k]?).getD 0)=true:=by
 by_cases h1:n=21
 ·subst h1
  show((((lowE e ps).sgs[i.a.toNat]?).map Sg.ps).getD []).length=(((e.sgs[i.a.toNat]?).map Sg.ps).getD []).length∧∀t k,k<(((e.sgs[i.a.toNat]?).map Sg.ps).getD []).length→wantedB e.cs t ((((((lowE e ps).sgs[i.a.toNat]?).map Sg.ps).getD [])[k]?).getD 0)=true→wantedB e.cs t (((((e.sgs[i.a.toNat]?).map Sg.ps).getD [])[k]?).getD 0)=true
  rw[low_at]
  split
  ·rename_i h
   obtain⟨h2,h3⟩:=h
   have hpe:psOf e=((e.sgs[i.a.toNat]?).map Sg.ps).getD []:=by unfold psOf; rw[h2]
   rw[←hpe]
   refine⟨hp,fun t k hk h=> ?_⟩
   have hk':k<ps.length:=by omega
   have hsb:=hs k hk'
   obtain⟨_,_,_,_,hst⟩:=can_sig hcan
   have hst':storedN e.cs.length (((psOf e)[k]?).getD 0)=true:=by
    rw[List.getElem?_eq_getElem hk]
    exact hst _ (List.getElem_mem hk)
   have hlow:∀t∈ps,storedN e.cs.length t=true:=by
    obtain⟨_,_,q3,_,q5⟩:=can_sig hcan'
    have:psOf (lowE e ps)=ps:=by
     unfold psOf
     show(((lowE e ps).sgs[e.fn.toNat]?).map (·.ps)).getD []=ps
     rw[low_at,if_pos ⟨rfl,by rw[←h2]; exact h3⟩]; rfl
    rw[this] at q5
    exact q5
   have hst2:storedN e.cs.length ((ps[k]?).getD 0)=true:=by
    rw[List.getElem?_eq_getElem hk']
    exact hlow _ (List.getElem_mem hk')
   have small:∀u:Ty,storedN e.cs.length u=true→u.val≠255∧u.val≠254∧u.val≠253:=fun u hu=>by
    have h32:e.cs.length≤32:=(canB_can hw hcan).cls
    unfold storedN validN at hu
    simp only[Bool.and_eq_true,decide_eq_true_eq] at hu
    omega
   obtain⟨a1,a2,a3⟩:=small _ hst'
   obtain⟨b1,b2,b3⟩:=small _ hst2
   have h':wantedB e.cs t ((ps[k]?).getD 0)=true:=h
   unfold wantedB at h' ⊢
   rw[if_neg b1,if_neg b2,if_neg b3] at h'
   rw[if_neg a1,if_neg a2,if_neg a3]
   exact subB_trans h' hsb
  ·exact⟨rfl,fun t k _ h=>h⟩
 by_cases h2:n=22
 ·subst h2
  rw[takes_low22]; exact⟨rfl,fun t k _ h=>h⟩
 rw[takes_low n hn h1 h2]; exact⟨rfl,fun t k _ h=>h⟩
theorem low_lower {e:En} {ps:List Ty} (hw:WideE e) (hcan:canB e=true) (hcan':canB (lowE e ps)=true) (hp:ps.length=(psOf e).length) (hs:∀k,k<ps.length→subB e.cs ((ps[k]?).getD 0) (((psOf e)[k]?).getD 0)=true):Lower e (lowE e ps):=by
 refine⟨rfl,fun f i h=> ?_⟩
 have d:=done_iff.1 h
 have hop:=d.op
 obtain⟨t1,t2⟩:=takes_more (i:=i) hw hcan hcan' hp hs i.op.val hop
 have hg:∀had,givesR (lowE e ps) f i had=givesR e f i had:=fun had=>by
  unfold givesR
  rw[gives_low' _ hop]
 have ho:opndF (lowE e ps) i=opndF e i:=by
  unfold opndF lowE
  simp only[List.length_set]
 have de:Done e f i:=by
  refine⟨hcan,d.chk,hop,d.loc,by rw[←ho]; exact d.opnd,by rw[←t1]; exact d.under, ?_,d.same,d.known,by rw[←t1]; exact d.ret, ?_⟩
  ·have hw:=d.want
   rw[wantedAll_iff (by rw[hadL_len])] at hw ⊢
   intro k hk
   have:=hw k (by rw[t1]; exact hk)
   rw[t1] at this
   exact t2 _ k hk this
  ·have:=d.over
   rw[hg,t1] at this
   exact this
 refine⟨done_iff.2 de, ?_⟩
 rw[done_eq de,done_eq d,hg,t1]
theorem low_start {e:En} {ps:List Ty} {loc:Int} (h:mayE e loc=0) (h':mayE (lowE e ps) loc=0) (hs:∀k,k<ps.length→subB e.cs ((ps[k]?).getD 0) (((psOf e)[k]?).getD 0)=true) (hp:ps.length=(psOf e).length):
  SubF e.cs (startF (lowE e ps).cs.length (psOf (lowE e ps)) loc).1 (startF e.cs.length (psOf e) loc).1:=by
 obtain⟨c1,_,_,_,c5⟩:=start_eq h
 obtain⟨d1,_,_,_,d5⟩:=start_eq h'
 obtain⟨hfn,_⟩:=can_sig c1
 have hps:psOf (lowE e ps)=ps:=by
  unfold psOf
  show(((lowE e ps).sgs[e.fn.toNat]?).map (·.ps)).getD []=ps
  rw[low_at,if_pos ⟨rfl,hfn⟩]; rfl
 have k1:=start_check h
 have k2:=start_check h'
 rw[c5] at k1 ⊢
 rw[d5,hps] at k2 ⊢
 refine⟨k2,k1,rfl,rfl,fun i hi=> ?_⟩
 rw[slAt_slOf hi,slAt_slOf hi]
 by_cases hk:i<ps.length
 ·exact hs i hk
 ·rw[List.getElem?_eq_none (by omega),List.getElem?_eq_none (by omega)]
  exact subB_zero _
theorem knows {e:En} {ps:List Ty} {loc:Int} {b:List Ty} (hw:WideE e) (hw':WideE (lowE e ps)) (h:(inferD e loc b).2.2=0) (h':(inferD (lowE e ps) loc b).2.2=0) (hp:ps.length=(psOf e).length) (hs:∀k,k<ps.length→subB e.cs ((ps[k]?).getD 0) (((psOf e)[k]?).getD 0)=true):
  ∃r r',inferD e loc b=(entsD r b.length,0,0)∧inferD (lowE e ps) loc b=(entsD r' b.length,0,0)∧hasP r 0∧0<b.length∧(∀x,hasP r x↔hasP r' x)∧∀x,hasP r x→SubF e.cs (frA r' x) (frA r x):=by
 obtain⟨m1,b1,r,g1,l1,i1⟩:=infer_last hw h
 obtain⟨m2,b2,r',g2,l2,i2⟩:=infer_last hw' h'
 have hL:=low_lower hw (start_eq m1).1 (start_eq m2).1 hp hs
 have hk:=gone_know hw hw' hL l1 (low_start m1 m2 hs hp) g2
 have s1:=gone_same hw l2 g1
 refine⟨r,r',i1,i2,l1.start.1,l1.lt 0 l1.start.1,fun x=>⟨s1 x,fun hx=>(hk x hx).1⟩,fun x hx=>(hk x (s1 x hx)).2⟩
theorem same_adrs {r r':IS} {n:Nat} (h:∀x,hasP r x↔hasP r' x):adrs r n=adrs r' n:=by
 unfold adrs
 refine List.filter_congr fun a _=> ?_
 rw[Bool.eq_iff_iff]
 exact h a
open Go.Proofs
open Go.Proofs
end Go.AL
namespace Go.AL
open Go.Proofs Go.RowKit Go.Maps Go.WideElems Go.MapKept
open Go.Proofs
open Go.Proofs
open Go.Proofs
instance moY:Mo:=⟨fun t=>t==99||t==109||t==57,fun t=>t==85||t==86||t==87,fun t=>t==57||t==30⟩
theorem apsY {t:TypeId}:@Mo.aps moY t=(t==57||t==30):=rfl
attribute [go_sem] apsY
abbrev Li:=Option (Nat×Nat)
def rD (o:Li) (n:Nat):D:=match o with
 |none=> .slice .nil []
 |some p=> .bsl p.1 0 n p.2
def rS (o:Li) (X:List D) (σ:St):St:=match o with
 |none=>σ
 |some p=>σ.set p.1 X
def rO (o:Li) (n:Nat) (X:List D) (σ:St):Prop:=match o with
 |none=>n=0
 |some p=>¬σ.has p.1∧n≤p.2∧X.length=p.2*28
def liX (o:Li) (es:List Ey):List D:=match o with
 |none=>[]
 |some p=>fl eEy es++List.replicate ((p.2-es.length)*28) .any
theorem liX_len {p:Nat×Nat} {es:List Ey} (h:es.length≤p.2):(liX (some p) es).length=p.2*28:=by
 simp only[liX,List.length_append,fl_len zd7,List.length_replicate]
 rw[←Nat.add_mul]; congr 1; omega
theorem rO_has {o:Li} {n:Nat} {X Y:List D} {σ σ':St} (h:rO o n X σ) (hs:∀x,σ'.has x→σ.has x) (hl:∀p,o=some p→Y.length=p.2*28):rO o n Y σ':=by
 cases o with
 |none=>exact h
 |some p=>exact⟨fun hx=>h.1 (hs _ hx),h.2.1,hl p rfl⟩
theorem rS_has {o:Li} {X:List D} {σ:St} {x:Nat}:(rS o X σ).has x↔(∃p,o=some p∧x=p.1)∨σ.has x:=by
 cases o with
 |none=>simp[rS]
 |some p=>
  simp only[rS,set_has]
  constructor
  ·rintro(h|h)
   ·exact .inl ⟨p,rfl,h⟩
   ·exact .inr h
  ·rintro(⟨q,hq,h⟩|h)
   ·cases hq; exact .inl h
   ·exact .inr h
section
variable {N : Nat} {d : Option Nat} {K : Env → St → Prop} {T : Env} {σ : St}
theorem le_new {σ:St} {b b':Nat} {X Y:List D} (h:¬σ.has b):St.le (σ.set b' Y) ((σ.set b X).set b' Y):=le_set (le_add h)
theorem li_app {o:Li} {es:List Ey} {x:Ey} (ho:rO o es.length (liX o es) σ) (hl:es.length≤100000)
  (hk:∀o' σ',(∃p,o'=some p)→rO o' (es++[x]).length (liX o' (es++[x])) σ→St.le (rS o' (liX o' (es++[x])) σ) σ'→putK N d (rD o' (es++[x]).length) K T σ'):
  apK Tryz.prog N d true 30 30 (rD o es.length) (.slice .exact [eEy x]) K T (rS o (liX o es) σ):=by
 show appendB Tryz.prog N d 30 30 (rD o es.length) (.slice .exact [eEy x]) K T (rS o (liX o es) σ)
 have hn:(es++[x]).length=es.length+1:=by simp
 have hf:[eEy x].flatten=eEy x:=by simp
 have he:∀r∈[eEy x],r.length=28:=fun r hr=>by rw[List.mem_singleton] at hr; rw[hr,zd7]
 have hfl:fl eEy (es++[x])=fl eEy es++eEy x:=by rw[fl_app]; simp[fl,rws]
 rw[hn] at hk
 cases o with
 |none=>
  have hes:es=[]:=List.eq_nil_of_length_eq_zero ho
  subst hes
  simp only[appendB,rD,rS,Tryz.sli30,Tryz.sz40,Tryz.by40,Tryz.zero40,Option.map_some,true_and]
  refine⟨by simp,by omega,by omega,he,by simp,by simp,fun b cap h1 h2=> ?_⟩
  have h3:1≤cap:=by simpa using h2
  refine hk (some (b,cap)) _ ⟨_,rfl⟩ ⟨h1,h3,liX_len (by simpa using h3)⟩ ?_
  simp only[rS,liX,hfl,hf]
  exact St.le.refl _
 |some p=>
  obtain⟨h1,h2,h3⟩:=ho
  obtain⟨b,cap⟩:=p
  simp only at h1 h2 h3
  have hbox:(rS (some (b,cap)) (liX (some (b,cap)) es) σ).box b=some (liX (some (b,cap)) es):=by simp[rS,St.set_box]
  simp only[appendB,rD,hbox,Tryz.sli30,Tryz.sz40,Tryz.by40,Tryz.zero40,Option.map_some,true_and]
  have hlen:(fl eEy es).length=es.length*28:=fl_len zd7 es
  refine⟨by simp,by omega,by omega,he,h2,h3,by simp; omega,fun h=> ?_,fun h b' cap' h4 h5=> ?_⟩
  ·simp only[List.length_cons,List.length_nil,Nat.zero_add] at h ⊢
   refine hk (some (b,cap)) _ ⟨_,rfl⟩ ⟨h1,h,liX_len (by simpa using h)⟩ ?_
   have hlay:layD (liX (some (b,cap)) es) (es.length*28) (eEy x)=liX (some (b,cap)) (es++[x]):=by
    simp only[layD,liX,hfl]
    rw[List.take_left' hlen,List.drop_append,List.drop_eq_nil_of_le (by rw[hlen]; omega),hlen,zd7,hn]
    simp only[List.nil_append,List.drop_replicate,List.append_assoc]
    congr 3
    omega
   rw[hf,hlay]
   simp only[rS]
   rw[za4]
   exact St.le.refl _
  ·simp only[List.length_cons,List.length_nil,Nat.zero_add] at h h5 ⊢
   refine hk (some (b',cap')) _ ⟨_,rfl⟩ ⟨fun hx=>h4 (rS_has.2 (.inr hx)),h5,liX_len (by simpa using h5)⟩ ?_
   have hlay:(liX (some (b,cap)) es).take (es.length*28)++[eEy x].flatten++List.replicate ((cap'-(es.length+1))*28) D.any=liX (some (b',cap')) (es++[x]):=by
    simp only[liX,hfl,hf,hn]
    rw[List.take_left' hlen]
   rw[hlay]
   simp only[rS]
   exact le_new h1
end
open Go.Proofs
def c10:CT (Tryz.f10.body.getD .skip):=⟨_,by conv=>lhs; cbv⟩
theorem F10:Fun1 Tryz.prog 10 51 c10.1 [.tmp 6,.tmp 7,.tmp 8]:=mkT Tryz.func10 rfl (by decide +kernel) Tryz.ntmps10 rfl c10.2 rfl
open Go.Proofs
theorem rS_le {o:Li} {X:List D} {s σ:St} (h:St.le s σ):St.le (rS o X s) (rS o X σ):=by
 cases o with
 |none=>exact h
 |some p=>exact le_set h
theorem rS_mp {o:Li} {X:List D} {σ:St} {x:Nat}:(rS o X σ).mp x=σ.mp x:=by
 cases o with
 |none=>rfl
 |some p=>exact congrFun set_mp x
theorem rS_box {o:Li} {n:Nat} {X:List D} {σ:St} {x:Nat} {cs:List D} (h:rO o n X σ) (hx:σ.box x=some cs):(rS o X σ).box x=some cs:=by
 cases o with
 |none=>exact hx
 |some p=>
  simp only[rS,St.set_box]
  rw[if_neg fun he=>h.1 (by rw[←he]; exact .inl (by rw[hx]; simp))]
  exact hx
def inferR (e:En) (loc:Int) (b:List Ty) (d:D) (s':St):Prop:=
 ∃o:Li,rO o (inferD e loc b).1.length (liX o (inferD e loc b).1) {}∧d= .tup [rD o (inferD e loc b).1.length,.int .i64 (inferD e loc b).2.1,.int .i64 (inferD e loc b).2.2]∧s'=rS o (liX o (inferD e loc b).1) {}
theorem infer41 (e:En) (loc:Int) (b:List Ty) (hw:WideE e) (hb:b.length≤140737488355328):
  RCall Tryz.prog 10 [.agg (eEn e),.int .i64 loc,.slice .no (rws eT b)] {} (inferR e loc b):=by
 have hg:goneD e loc b=goD e b (fuelD b.length) (is0 b.length (startF e.cs.length (psOf e) loc).1) 0:=rfl
 refine F10.rcall rfl fun T hT=> ?_
 simp -implicitDefEqProofs only[go_sem,c10,hT,zb5,zb6,zb0,za9,za6,za5,zb4,za8,gdD,Nat.mul_one,Nat.add_zero,Nat.zero_add,nilc_p]
 intro b3
 refine callB_new2 (around79 e loc b hw hb) fun d s' hR τ hτ hτ3=> ?_
 unfold aroundR at hR
 by_cases g1:mayE e loc=0
 case neg=>
  have hI:inferD e loc b=([],0,mayE e loc):=by unfold inferD; rw[if_pos g1]
  rw[if_pos g1] at hR
  obtain⟨rfl,rfl⟩:=hR
  have g1':((mayE e loc:Int)=0)=False:=eq_false (by omega)
  simp -implicitDefEqProofs only[go_sem,hT,g1']
  refine⟨_,_,DLe.refl _,St.le.nil _,none, ?_, ?_, ?_⟩ <;> rw[hI] <;> rfl
 rw[if_neg (by omega)] at hR
 by_cases g2:4096<b.length
 ·have hI:inferD e loc b=([],0,4):=by unfold inferD; rw[if_neg (by omega),if_pos g2]
  rw[if_pos g2] at hR
  obtain⟨rfl,rfl⟩:=hR
  simp -implicitDefEqProofs only[go_sem,hT]
  refine⟨_,_,DLe.refl _,St.le.nil _,none, ?_, ?_, ?_⟩ <;> rw[hI] <;> rfl
 rw[if_neg g2] at hR
 by_cases g3:(goneD e loc b).2.2=0
 case neg=>
  have hI:inferD e loc b=([],(goneD e loc b).2.1,(goneD e loc b).2.2):=by unfold inferD; rw[if_neg (by omega),if_neg g2]; simp only; rw[←hg,if_pos g3]
  rw[if_pos g3] at hR
  obtain⟨rfl,rfl⟩:=hR
  have g3':(((goneD e loc b).2.2:Int)=0)=False:=eq_false (by omega)
  simp -implicitDefEqProofs only[go_sem,hT,g3']
  refine⟨_,_,DLe.refl _,St.le.nil _,none, ?_, ?_, ?_⟩ <;> rw[hI] <;> rfl
 have hI:inferD e loc b=(entsD (goneD e loc b).1 b.length,0,0):=by unfold inferD; rw[if_neg (by omega),if_neg g2]; simp only; rw[←hg,if_neg (by omega)]
 rw[if_neg (by omega)] at hR
 obtain⟨r,m,p,hne,hm,hal,hsz,rfl,rfl⟩:=hR
 have hend:=gone_end g3
 generalize (goneD e loc b).1=s at *
 have kq:τ.box r.q=some (eRn r e b p.wh):=hτ.box _ _ stR_q
 have kf:τ.mp r.f=some (.map (some .i64) m.kf m.vf m.cf):=hτ.mp _ _ (stR_f hne)
 have hkeys:=keys_adrs hal hm.f hsz hend
 have hAl:(adrs s b.length).length≤b.length:=by
  have:=List.length_filter_le (fun a=>(s.has[a]?).getD false) (List.range b.length)
  rw[List.length_range] at this; exact this
 have hkl:m.kf.length=(adrs s b.length).length:=by
  have:=congrArg List.length hkeys
  simpa[sortZ,List.length_mergeSort] using this
 have hk5:∀q∈m.kf,∃n,q.1=kyN n∧n≤5000:=fun q hq=>by
  obtain⟨n,hn⟩:=hm.f.key q hq
  refine⟨n,hn, ?_⟩
  have hmem:kyI q.1∈sortZ (m.kf.map fun p=>kyI p.1):=by
   unfold sortZ; rw[List.mem_mergeSort]; exact List.mem_map.2 ⟨q,hq,rfl⟩
  rw[hkeys,hn] at hmem
  obtain⟨x,hx,he⟩:=List.mem_map.1 hmem
  simp only[adrs,List.mem_filter,List.mem_range] at hx
  simp only[kyN,kyI] at he
  omega
 simp -implicitDefEqProofs only[go_sem,hT,zb5,zb6,zb0,za9,za6,za5,zb4,za8,gdD,Nat.mul_one,Nat.add_zero,Nat.zero_add,nilc_p,eRn_0,eRn_3,eRn_4,eRn_5,eRn_6,eRn_7,eRn_len,kq]
 refine callB_all (keys81 r.f τ) fun d s' ⟨c,hc,hd,hs⟩=> ?_
 subst hd; subst hs
 simp -implicitDefEqProofs only[go_sem,hT]
 refine callB_all (sorted80 (τ.set c [.map r.f]) c r.f m.kf m.vf m.cf (by rw[St.set_box,if_pos rfl]) (by rw[set_mp]; exact kf) hk5 (by omega)) fun d s' ⟨hd,hs⟩=> ?_
 subst hd; subst hs
 rw[hkeys]
 have hA:((adrs s b.length).map fun n:Nat=>(n:Int)).map (fun z=>[eZ z])=rws eN (adrs s b.length):=by rw[List.map_map]; rfl
 rw[hA]
 have hents:=ents_adrs s b.length
 have hEl:(entsD s b.length).length=(adrs s b.length).length:=by rw[hents,List.length_map]
 simp -implicitDefEqProofs only[go_sem,hT]
 refine loopL F10 (fun x:Nat×Li=>[(9,.ptr r.q 0),(12,rD x.2 ((entsD s b.length).take x.1).length),(32,.slice .no (rws eN (adrs s b.length))),(33,.int .i64 (adrs s b.length).length),(34,.int .i64 x.1)])
  (fun x=>rS x.2 (liX x.2 ((entsD s b.length).take x.1)) τ) (fun x=>x.1≤(adrs s b.length).length∧rO x.2 ((entsD s b.length).take x.1).length (liX x.2 ((entsD s b.length).take x.1)) τ)
  (fun x=>(adrs s b.length).length-x.1) (0,none) ⟨Nat.zero_le _,by simp[rO]⟩ ?_ ?_ ?_
 ·simp -implicitDefEqProofs only[go_sem,hT,rD,List.take_zero]
  rfl
 ·exact le_add hc
 clear hT T
 rintro⟨i,o⟩ ⟨hi,ho⟩ T hT
 simp only at hi ho hT ⊢
 by_cases h:i<(adrs s b.length).length
 case neg=>
  have g5:((i:Int)<(adrs s b.length).length)=False:=eq_false (by omega)
  have htk:(entsD s b.length).take i=entsD s b.length:=List.take_of_length_le (by omega)
  rw[htk] at ho hT ⊢
  simp -implicitDefEqProofs only[go_sem,hT,g5]
  refine⟨_,rS o (liX o (entsD s b.length)) {},DLe.refl _, ?_,o, ?_, ?_, ?_⟩
  ·exact rS_le (St.le.nil _)
  ·rw[hI]; exact rO_has ho (fun x hx=>(St.not_has_nil x hx).elim) fun p hp=>by subst hp; exact ho.2.2
  ·rw[hI]; rfl
  ·rw[hI]
 have g5:((i:Int)<(adrs s b.length).length)=True:=eq_true (by omega)
 have hget:=rws_at (enc:=eN) h
 have hkq2:=rS_box ho kq
 have hkf2:(rS o (liX o ((entsD s b.length).take i)) τ).mp r.f=some (.map (some .i64) m.kf m.vf m.cf):=by rw[rS_mp]; exact kf
 have hlk:=look143 (ok:=false) (n:=(adrs s b.length)[i]) hm.f hkf2
 have hmemA:(adrs s b.length)[i]∈adrs s b.length:=List.getElem_mem h
 have hhas:(s.has[(adrs s b.length)[i]]?).getD false=true:=by
  have:=hmemA
  unfold adrs at this
  rw[List.mem_filter] at this
  exact this.2
 have hff:=hal.f (adrs s b.length)[i]
 rw[if_pos hhas] at hff
 rw[hff] at hlk
 have w1:IntKind.wrap .i64 ((i:Int)+1)=((i+1:Nat):Int):=by rw[zb8 (by omega) (by omega)]; simp
 have hnext:(entsD s b.length).take (i+1)=(entsD s b.length).take i++[⟨((adrs s b.length)[i]:Int),false,(s.fr[(adrs s b.length)[i]]?).getD (fr0 0)⟩]:=by
  rw[List.take_add_one,hents,List.getElem?_map,List.getElem?_eq_getElem h]; rfl
 simp -implicitDefEqProofs only[go_sem,hT,g5,hget,zb5,zb6,zb0,za9,za6,za5,zb4,za8,gdD,Nat.mul_one,Nat.add_zero,Nat.zero_add,nilc_p,eRn_0,eRn_3,eRn_4,eRn_5,eRn_6,eRn_7,eRn_len,hkq2,hlk,lkV,pairD,dF,eN,frz,frz_fr2]
 refine⟨by omega,li_app (x:=⟨((adrs s b.length)[i]:Int),false,(s.fr[(adrs s b.length)[i]]?).getD (fr0 0)⟩) ho (by rw[List.length_take]; omega) fun o' σ' _ ho' hle=> ?_⟩
 simp -implicitDefEqProofs only[go_sem,hT,w1]
 rw[←hnext] at ho' hle ⊢
 exact⟨(i+1,o'),⟨by simp only; omega,ho'⟩,by simp only; omega,⟨rfl,rfl⟩,hle⟩
open Go.Proofs
open Go.Proofs
open Go.Proofs
instance moW:Mo:=⟨fun _=>false,fun _=>false,fun _=>false⟩
open Go.Proofs
open Go.Proofs
def c9:CT (Tryz.f9.body.getD .skip):=⟨_,by conv=>lhs; cbv⟩
theorem F9:Fun1 Tryz.prog 9 19 c9.1 [.tmp 2]:=mkT Tryz.func9 rfl (by decide +kernel) Tryz.ntmps9 rfl c9.2 rfl
open Go.Proofs
open Go.Proofs
open Go.Proofs
def c14:CT (Tryz.f14.body.getD .skip):=⟨_,by conv=>lhs; cbv⟩
def c5:CT (Tryz.f5.body.getD .skip):=⟨_,by conv=>lhs; cbv⟩
theorem F5:Fun1 Tryz.prog 5 169 c5.1 [.tmp 4]:=mkT Tryz.func5 rfl (by decide +kernel) Tryz.ntmps5 rfl c5.2 rfl
open Go.Proofs
def sL:Code→Code| .seq a _=>a|c=>c
def sR:Code→Code| .seq _ b=>b|c=>c
def opsC:Code→Array Oper| .region _ l _=>l|_=> #[]
noncomputable def k14:Code:=Tryz.f14.body.getD .skip
noncomputable def q140:Code:=sL k14
noncomputable def q141:Code:=sL (sR k14)
noncomputable def q142:Code:=sL (sR (sR k14))
noncomputable def ops14:Array Oper:=opsC q142
theorem body14:Tryz.f14.body=some (.seq q140 (.seq q141 (.seq q142 .ret))):=by kernel_rfl
theorem q140_is:strip q140=acL c14:=by kernel_rfl
theorem q141_is:strip q141=acL (acR c14):=by kernel_rfl
theorem q142_is:q142= .region 3 ops14 false:=by kernel_rfl
noncomputable def oA14:Oper:=(ops14.toList[2]?).getD default
theorem ops14_parts:ops14.toList=ops14.toList.take 2++(oA14::ops14.toList.drop 3):=by kernel_rfl
theorem ops14_pre:(ops14.toList.take 2).map (plainO ops14.toList)=[oO 5 (.buildSlice 23 0 #[]),oO 6 (.move (tT 0))]:=by kernel_rfl
theorem ops14_suf:(ops14.toList.drop 3).map (plainO ops14.toList)=[oO 2 (.assign (tT 7))]:=by kernel_rfl
theorem oA14_op:oA14.op= .call {callee:= .builtin .append,args:= #[.tmp 5,.tmp 6],argTypes:= #[23,23]}:=by kernel_rfl
theorem oA14_dst:oA14.dst=some 7:=by kernel_rfl
theorem oA14_g:oA14.guard=none:=by kernel_rfl
theorem app14:AppT Tryz.prog 23 23 47 2 32:=⟨Tryz.sli23,Tryz.sli23,Tryz.sz47,by decide,Tryz.by47,_,Tryz.zero47,rfl⟩
theorem oA14_run {a:Act} {w w':World} {v:Value} (h:(Builtin.append_ #[23,23] oA14.type #[a.eval (.tmp 5),a.eval (.tmp 6)]).run Tryz.prog w= .ok v w'):(execOp a.eval oA14).run Tryz.prog w= .ok (.value v) w':=by
 simp[execOp,oA14_op,resolve,invoke,builtin,h]
theorem clone14b (xs:List Sg) (o:Own) (h0:nilOk o xs.length) (hx:xs≠[]) (hl:xs.length*32≤140737488355328):RCall Tryz.prog 14 [.slice o (rws eSg xs)] {} fun d s'=>∃b cap junk,d= .bsl b 0 xs.length cap∧xs.length≤cap∧s'=({}:St).set b ((rws eSg xs).flatten++List.replicate junk .any):=by
 refine acall_of_body (N:=8) Tryz.func14 body14 (by decide +kernel) Tryz.ntmps14 (by simp) ?_
 intro M a w hi
 have dom:=hi.inv.dom
 refine wp_chain (M₀:=M) (σ₀:={}) (w₀:=w) (Qx:=fun x T' σ'=>x= .normal∧σ'={}∧T' 0= .slice o (rws eSg xs)) Tryz.follows_mixed (by decide) dom ?hy ?hx [q140,q141] ?hv hi (KeepF.refl _ _ _)
 case hx=>
  rintro e a1 w1 hne ⟨M1,T1,s1,x,hx,_,_,rfl,_⟩
  exact absurd hx hne
 case hv=>
  rw[show chainA [q140,q141]= .seq (acL c14) (acL (acR c14)) by simp only[chainA,q140_is,q141_is]]
  have e0:envOf [.slice o (rws eSg xs)] 0= .slice o (rws eSg xs):=rfl
  simp -implicitDefEqProofs only[go_sem,c14,acL,acR,e0]
  intro r hr
  refine br_split (fun h=> ?_) fun h=> ?_
  ·have:=nilR_nil hr h fun h=>by simpa[rws_nil] using h0 h
   exact absurd (by simpa[rws_nil] using this) hx
  ·simp -implicitDefEqProofs only[go_sem,e0]
 rintro a1 w1 ⟨M1,T1,s1,x,hx1,hi1,hk1,-,-,rfl,t0⟩
 refine wp_seq ?_
 rw[q142_is]
 refine wp_region_list ?_
 rw[ops14_parts]
 refine list_cut (Q:=Post 8 M {} w fun y T' s'=>y= .normal∧s'={}∧T' 5= .slice .exact []∧T' 6= .slice o (rws eSg xs)) noOut ?_ ?_ _ a1 w1 ?_
 ·rintro e a2 w2 hne' ⟨M2,T2,s2,y,hy,_,_,rfl,_⟩
  exact absurd hy hne'
 rotate_left
 ·refine aopsD_plain (M:=M1) (by decide) (ops14.toList.take 2) ?_ hi1 dom hk1
  rw[ops14_pre]
  simp -implicitDefEqProofs only[go_sem,t0]
 rintro a2 w2 ⟨M2,T2,s2,y,hy,hi2,hk2,-,rfl,u5,u6⟩
 have r5:=hi2.env 5
 have r6:=hi2.env 6
 rw[u5] at r5
 rw[u6] at r6
 obtain⟨bx,off,size,hv5,hrow⟩:=id r5
 have hpos:0<(rws eSg xs).length:=by rw[za1]; exact List.length_pos_iff.2 hx
 obtain⟨v,w3,M3,b,ncap,junk,hrun,hv,hcap,hb,hi3,hk3⟩:=append_newBx (P:=Tryz.prog) app14 hv5 r5 r6 rfl (by simp) (by intro r hr; simp only[rws,List.mem_map] at hr; obtain⟨y,_,rfl⟩:=hr; rfl) (by simpa using hpos) (by decide) (by simpa[za1] using hl) hi2.inv oA14.type
 refine list_value oA14_g (oA14_run hrun) ?_
 have hai:=hi2.keep hk3.toKeep hi3
 have hai':AInv 8 M3 (upd T2 7 (.bsl b 0 xs.length ncap)) (({}:St).set b (([]++rws eSg xs).flatten++List.replicate junk .any)) (a2.put oA14.dst v) w3:=by
  rw[oA14_dst]
  exact hai.put (dst:=some 7) (d:= .bsl b 0 xs.length ncap) (fun t ht=>by cases ht; decide) (by rw[hv]; simp[Rep,za1])
 refine list_mono (Q:=Post 8 M {} w fun y T' s'=>y= .normal∧s'=({}:St).set b (([]++rws eSg xs).flatten++List.replicate junk .any)∧T' 2= .bsl b 0 xs.length ncap) noOut ?_ _ _ _ ?_
 rotate_left
 ·refine aopsD_plain (M:=M3) (by decide) (ops14.toList.drop 3) ?_ hai' dom (hk2.trans dom hk3)
  rw[ops14_suf]
  simp -implicitDefEqProofs only[go_sem,]
 rintro e a4 w4 ⟨M4,T4,s4,y,hy4,hi4,hk4,rfl,rfl,v2⟩
 obtain rfl:=hy4
 show(Code.wp Tryz.prog .ret _) a4 w4
 refine wp_ret ?_
 exact⟨M4,T4,_,.ret,rfl,hi4,hk4,_,_,_,(by show resA Tryz.prog T4 _ [.tmp 2]=_; simp[resA,resOne,resC,v2]),DLe.refl _,St.le.refl _,_,rfl,b,ncap,junk,rfl,by simpa[za1] using hcap,by simp⟩
open Go.Proofs
open Go.Proofs
def eCo (e:En) (loc:Int) (b:List Ty):List D:=[.slice .no (rws eC e.cs),.slice .no (rws eSg e.sgs),.int .i64 e.fn,.int .i64 loc,.slice .no (rws eT b)]
theorem zf6 (e:En) (loc:Int) (b:List Ty):(eCo e loc b).length=5:=rfl
theorem ze9 (e:En) (loc:Int) (b:List Ty):(eCo e loc b).take 5=eCo e loc b:=rfl
theorem zd6 (e:En) (loc:Int) (b:List Ty):(eCo e loc b).take 3=eEn e:=rfl
theorem eCo_3 (e:En) (loc:Int) (b:List Ty):(eCo e loc b)[3]? =some (.int .i64 loc):=rfl
theorem eCo_4 (e:En) (loc:Int) (b:List Ty):(eCo e loc b)[4]? =some (.slice .no (rws eT b)):=rfl
theorem eCo_0 (e:En) (loc:Int) (b:List Ty):(eCo e loc b)[0]? =some (.slice .no (rws eC e.cs)):=rfl
theorem eCo_1 (e:En) (loc:Int) (b:List Ty):(eCo e loc b)[1]? =some (.slice .no (rws eSg e.sgs)):=rfl
theorem eCo_2 (e:En) (loc:Int) (b:List Ty):(eCo e loc b)[2]? =some (.int .i64 e.fn):=rfl
theorem taken9 (e:En) (loc:Int) (b:List Ty) (hw:WideE e) (hb:b.length≤140737488355328):PCall Tryz.prog 9 [.agg (eCo e loc b)] (.bool (decide ((inferD e loc b).2.2=0))):=by
 have hinf:=infer26 e loc b .no hw hb
 generalize inferD e loc b=r at *
 refine F9.pcallM rfl fun T hT=> ?_
 simp -implicitDefEqProofs only[go_sem,c9,hT,zf6,ze9,zd6,eCo_3,eCo_4,zb4,za8,gdD,Nat.add_zero,anD]
 intro b1
 refine za3 hinf ?_
 simp -implicitDefEqProofs only[go_sem,hT,zf6,ze9,zd6,eCo_3,eCo_4,zb4,za8,gdD,Nat.add_zero,anD]
 exact zf2 (by rw[decide_eq_decide]; omega)
open Go.Proofs
theorem infer10 (e:En) (loc:Int) (b:List Ty) (hw:WideE e) (hb:b.length≤140737488355328):
  PCall Tryz.prog 10 [.agg (eEn e),.int .i64 loc,.slice .no (rws eT b)] (.tup [.slice .no (rws eEy (inferD e loc b).1),.int .i64 (inferD e loc b).2.1,.int .i64 (inferD e loc b).2.2]):=by
 refine(infer41 e loc b hw hb).shut fun d s' ⟨o,ho,hd,hs⟩=> ?_
 generalize inferD e loc b=r at *
 subst hd
 cases o with
 |none=>
  have h0:r.1.length=0:=ho
  have h1:r.1=[]:=List.eq_nil_of_length_eq_zero h0
  refine .inl ⟨hs, ?_⟩
  rw[h1]
  exact DLe.tup (.cons (DLe.slice _ _) (.refl _))
 |some p=>
  obtain⟨_,h2,h3⟩:=ho
  refine .inr ⟨p.1,p.2,28,rws eEy r.1,List.replicate ((p.2-r.1.length)*28) .any,[.int .i64 r.2.1,.int .i64 r.2.2], ?_,hs,fun x hx=> ?_,by rw[za1]; exact h2,rfl⟩
  ·rw[za1]; rfl
  ·rw[rws,List.mem_map] at hx
   obtain⟨y,_,rfl⟩:=hx
   exact zd7 y
open Go.Proofs
open Go.Proofs
open Go.Proofs
open Go.Proofs
theorem flat_sg_len (l:List Sg):(rws eSg l).flatten.length=l.length*2:=by
 induction l with
 |nil=>rfl
 |cons x r ih=>
  show(eSg x++(rws eSg r).flatten).length=_
  rw[List.length_append,ih,eSg_len,List.length_cons]; omega
theorem flat_sg_at:∀{l:List Sg} {i:Nat} (h:i<l.length) {J:List D},((rws eSg l).flatten++J)[i*2]? =some (.slice .no (rws eT l[i].ps))
 |x::r,0,h,J=>rfl
 |x::r,i+1,h,J=>by
  show((eSg x++(rws eSg r).flatten)++J)[(i+1)*2]? =_
  rw[List.append_assoc,List.getElem?_append_right (by rw[eSg_len]; omega),eSg_len,show(i+1)*2-2=i*2 by omega]
  exact flat_sg_at (l:=r) (by simpa using h)
theorem flat_sg_set:∀{l:List Sg} {i:Nat} (h:i<l.length) {J:List D} {ps:List Ty},((rws eSg l).flatten++J).take (i*2)++[D.slice .no (rws eT ps)]++((rws eSg l).flatten++J).drop (i*2+1)=(rws eSg (l.set i ⟨ps,l[i].r⟩)).flatten++J
 |x::r,0,h,J,ps=>rfl
 |x::r,i+1,h,J,ps=>by
  have ih:=flat_sg_set (l:=r) (i:=i) (by simpa using h) (J:=J) (ps:=ps)
  have hx:eSg x=[D.slice .no (rws eT x.ps),D.int .u8 x.r.val]:=rfl
  show((eSg x++(rws eSg r).flatten)++J).take ((i+1)*2)++[D.slice .no (rws eT ps)]++((eSg x++(rws eSg r).flatten)++J).drop ((i+1)*2+1)=(eSg x++(rws eSg (r.set i ⟨ps,(r[i]'(by simpa using h)).r⟩)).flatten)++J
  rw[hx,show(i+1)*2=i*2+1+1 by omega]
  simp only[List.cons_append,List.nil_append,List.take_succ_cons,List.drop_succ_cons]
  simp only[List.append_assoc,List.cons_append,List.nil_append] at ih ⊢
  rw[ih]
theorem low_wide {e:En} {ps:List Ty} (hw:WideE e) (hp:ps.length≤140737488351232):WideE (lowE e ps):=by
 obtain⟨h1,h2,h3⟩:=hw
 refine⟨h1,by simpa[lowE] using h2,fun s hs=> ?_⟩
 rcases List.mem_or_eq_of_mem_set hs with h|h
 ·exact h3 s h
 ·rw[h]; exact hp
def bXiaW0:=aI @nilc_p (aI @zf6 (aI @ze9 (aI @zd6 (aI @eCo_0 (aI @eCo_1 (aI @eCo_2 (aI @eCo_3 (aI @eCo_4 (aI @zb4 (aI @za8 (aI @gdD (aI @anD (aI @zd7 (aI @ey_0 (aI @ey_fr (aI @ey_26 (aI @za6 (aI @za5 (aI @eSg_len @za4)))))))))))))))))))
def bXiaW1:=aI @nilc_p (aI @zf6 (aI @ze9 (aI @zd6 (aI @eCo_0 (aI @eCo_1 (aI @eCo_2 (aI @eCo_3 (aI @eCo_4 (aI @zb4 (aI @za8 (aI @gdD (aI @anD (aI @zd7 (aI @ey_0 (aI @ey_fr (aI @ey_26 (aI @za6 (aI @za5 (aI @eSg_len (aI @za4 @Int.ofNat_zero))))))))))))))))))))
theorem law5 (e:En) (loc:Int) (b:List Ty) (ps:List Ty) (hw:WideE e) (hb:b.length≤140737488351232) (hp:ps.length≤140737488351232):PCall Tryz.prog 5 [.agg (eCo e loc b),.slice .no (rws eT ps)] (.bool true):=by
 have hm:=F5.hm
 have hN:=of_decide_eq_true F5.hN
 refine F5.pcallC rfl fun T hT=> ?_
 refine awpC_step hm hN (fun _ _ h=>by cases h) ?_
 simp -implicitDefEqProofs only[go_sem,c5,hT,Nat.add_zero,bXiaW0]
 intro b2
 refine awpC_step hm hN (fun _ _ h=>by cases h) ?_
 simp -implicitDefEqProofs only[go_sem,hT,Nat.add_zero,bXiaW0]
 refine za3 (taken9 e loc b hw (by omega)) ?_
 by_cases h:(inferD e loc b).2.2=0
 case neg=>
  rw[decide_eq_false h]
  simp -implicitDefEqProofs only[go_sem,hT,Nat.add_zero,bXiaW0]
  done
 rw[decide_eq_true h]
 have hinf:=infer10 e loc b hw (by omega)
 obtain⟨hmay,hb4,r0,hg0,hla0,hi0⟩:=infer_last hw h
 have hel:=ents_len r0 b.length
 obtain⟨hc,hst0,hst1,hst2,hst⟩:=start_eq hmay
 obtain⟨hfn,hf0,hps,hp8,_⟩:=can_sig hc
 have hF:Falls e.cs e.cs.length:=can_falls hw hc
 have hcs:=hw.1.1
 have hs64:e.sgs.length*32≤140737488351232:=hw.2.1
 simp -implicitDefEqProofs only[go_sem,hT,Nat.add_zero,bXiaW0]
 refine awpC_step hm hN (fun _ _ h=>by cases h) ?_
 simp -implicitDefEqProofs only[go_sem,hT,Nat.add_zero,bXiaW0]
 refine callB_box1 (clone14b e.sgs .no (by simp[nilOk]) (by intro h0; rw[h0] at hfn; simp at hfn) (by omega)) fun d s' ⟨q,cap,junk,hd,hcap,hs⟩=>⟨q,_,hs,fun hq=> ?_⟩
 subst hd
 have q2:¬b2=q:=fun he=>hq (set_has.2 (.inl he.symm))
 simp -implicitDefEqProofs only[go_sem,hT,Nat.add_zero,bXiaW0]
 refine awpC_step hm hN (fun _ _ h=>by cases h) ?_
 have g0:(0≤e.fn)=True:=eq_true hf0
 have g1:(e.fn<e.sgs.length)=True:=eq_true (by omega)
 simp -implicitDefEqProofs only[go_sem,hT,Nat.add_zero,g0,g1,q2,bXiaW0]
 refine awpC_step hm hN (fun _ _ h=>by cases h) ?_
 have hcell:((rws eSg e.sgs).flatten++List.replicate junk D.any)[e.fn.toNat*2]? =some (.slice .no (rws eT (psOf e))):=by rw[flat_sg_at hfn,hps]
 have hcl:((rws eSg e.sgs).flatten++List.replicate junk D.any).length=e.sgs.length*2+junk:=by rw[List.length_append,flat_sg_len,List.length_replicate]
 by_cases hl:ps.length=(psOf e).length
 case neg=>
  have gl:((ps.length:Int)=(psOf e).length)=False:=eq_false (by omega)
  simp -implicitDefEqProofs only[go_sem,hT,Nat.add_zero,q2,Nat.zero_add,hcell,gl,bXiaW0]
  refine za3 hinf ?_
  rw[hi0]
  simp -implicitDefEqProofs only[go_sem,hT,Nat.add_zero,bXiaW1]
  done
 have gl:((ps.length:Int)=(psOf e).length)=True:=eq_true (by omega)
 simp -implicitDefEqProofs only[go_sem,hT,Nat.add_zero,q2,Nat.zero_add,hcell,gl,bXiaW0]
 refine awpC_step hm hN (fun _ _ h=>by cases h) ?_
 simp -implicitDefEqProofs only[go_sem,hT,Nat.add_zero,q2,bXiaW0]
 refine loopL F5 (fun i:Nat=>[(1,.slice .no (rws eT ps)),(2,.ptr b2 0),(5,.bsl q 0 e.sgs.length cap),(6,.ptr q (e.fn.toNat*2)),(53,.slice .no (rws eT ps)),(54,.int .i64 ps.length),(55,.int .i64 i)]) (fun _=>(({}:St).set b2 (eCo e loc b)).set q ((rws eSg e.sgs).flatten++List.replicate junk D.any)) (fun i=>i≤ps.length∧∀j,j<i→subB e.cs ((ps[j]?).getD 0) (((psOf e)[j]?).getD 0)=true) (fun i=>ps.length-i) 0 ⟨Nat.zero_le _,fun j h=>by omega⟩ ?_ (St.le.refl _) ?_
 ·simp -implicitDefEqProofs only[go_sem,hT,Int.ofNat_zero,Nat.zero_add]
 clear hT T
 rintro i ⟨hi,hsub⟩ T hT
 by_cases h':i<ps.length
 ·have g2:((i:Int)<ps.length)=True:=eq_true (by omega)
  have g3:(0≤(i:Int))=True:=eq_true (by omega)
  have g4:((i:Int)<(psOf e).length)=True:=eq_true (by omega)
  have w1:IntKind.wrap .i64 ((i:Int)+1)=((i+1:Nat):Int):=by rw[zb8 (by omega) (by omega)]; simp
  have h2:i<(psOf e).length:=by omega
  have hR1:(rws eT ps)[i]?.getD []=eT ps[i]:=rws_at h'
  have hR2:(rws eT (psOf e))[i]?.getD []=eT (psOf e)[i]:=rws_at h2
  have hg:ps[i]? =some ps[i]:=List.getElem?_eq_getElem h'
  have hg2:(psOf e)[i]? =some (psOf e)[i]:=List.getElem?_eq_getElem h2
  generalize ps[i]=t at *
  generalize (psOf e)[i]=u at *
  simp -implicitDefEqProofs only[go_sem,hT,nilc_p,zf6,ze9,zd6,eCo_0,eCo_1,eCo_2,eCo_3,eCo_4,zb4,za8,gdD,Nat.add_zero,anD,zd7,ey_0,ey_fr,ey_26,za6,za5,eSg_len,za4,q2,g2,g3,g4,hR1,hR2,hcell,eT_len,eT,Int.toNat_natCast]
  refine za3 (refSub79 e.cs .no t u hF (by omega)) ?_
  cases hsb:subB e.cs t u with
  |false=>
   simp -implicitDefEqProofs only[go_sem,hT,Nat.add_zero,bXiaW0]
   done
  |true=>
   simp -implicitDefEqProofs only[go_sem,hT,Nat.add_zero,w1,bXiaW0]
   refine⟨i+1,⟨by omega,fun j hj=> ?_⟩,by omega,rfl,St.le.refl _⟩
   by_cases hji:j=i
   ·subst hji; rw[hg,hg2]; exact hsb
   ·exact hsub j (by omega)
 have g2:((i:Int)<ps.length)=False:=eq_false (by omega)
 simp -implicitDefEqProofs only[go_sem,hT,g2]
 have hsub':∀j,j<ps.length→subB e.cs ((ps[j]?).getD 0) (((psOf e)[j]?).getD 0)=true:=fun j hj=>hsub j (by omega)
 refine awpC_step hm hN (fun _ _ h=>by cases h) ?_
 have hbk:((({}:St).set b2 (eCo e loc b)).set q ((rws eSg e.sgs).flatten++List.replicate junk D.any)).box q=some ((rws eSg e.sgs).flatten++List.replicate junk D.any):=by rw[St.set_box,if_pos rfl]
 have gk2:(e.fn.toNat*2+1≤((rws eSg e.sgs).flatten++List.replicate junk D.any).length)=True:=eq_true (by rw[hcl]; omega)
 have hcs2:=flat_sg_set hfn (J:=List.replicate junk D.any) (ps:=ps)
 simp -implicitDefEqProofs only[go_sem,hT,Nat.add_zero,bXiaW0]
 refine za3 (clone46 ps .no (by simp[nilOk]) (by omega)) ?_
 simp -implicitDefEqProofs only[go_sem,hT,Nat.add_zero,q2,Nat.zero_add,hcell,hbk,gk2,hcs2,bXiaW0]
 have hown:ownR e=e.sgs[e.fn.toNat].r:=by
  unfold ownR; rw[List.getElem?_eq_getElem hfn]; rfl
 have hlsg:(lowE e ps).sgs=e.sgs.set e.fn.toNat ⟨ps,e.sgs[e.fn.toNat].r⟩:=by rw[←hown]; rfl
 have hlen:(lowE e ps).sgs.length=e.sgs.length:=by rw[hlsg,List.length_set]
 have hcl0:(lowE e ps).cs=e.cs:=rfl
 have hfl0:(lowE e ps).fn=e.fn:=rfl
 have hw':=low_wide hw hp
 rw[←hlsg]
 refine awpC_give (t:=5) (b:=q) (s:=2) (cap:=cap) (rows:=rws eSg (lowE e ps).sgs) (junk:=List.replicate junk D.any) ?_ ?_ ?_ ?_ ?_
 ·simp -implicitDefEqProofs only[go_sem,hT,hlen]
  done
 ·rw[St.set_box,if_pos rfl]
 ·intro y hy
  rw[rws,List.mem_map] at hy
  obtain⟨z,_,rfl⟩:=hy
  rfl
 ·rw[za1,hlen]; exact hcap
 refine awpC_cut [(2,.ptr b2 0),(5,.slice .no (rws eSg (lowE e ps).sgs))] (({}:St).set b2 (eCo e loc b)) ?_ ?_ ?_
 ·simp -implicitDefEqProofs only[go_sem,hT]
  done
 ·exact del_le (le_add hq) hq
 clear hT T
 intro T hT
 refine awpC_of hm hN ?_
 simp -implicitDefEqProofs only[go_sem,hT,Nat.add_zero,bXiaW0]
 intro b12 m1 m2
 have hco:[D.slice .no (rws eC e.cs),D.slice .no (rws eSg (lowE e ps).sgs),D.int .i64 e.fn,D.int .i64 loc,D.slice .no (rws eT b)]=eCo (lowE e ps) loc b:=rfl
 rw[hco]
 refine za3 (taken9 (lowE e ps) loc b hw' (by omega)) ?_
 by_cases h':(inferD (lowE e ps) loc b).2.2=0
 case neg=>
  rw[decide_eq_false h']
  simp -implicitDefEqProofs only[go_sem,hT,Nat.add_zero,bXiaW0]
  done
 rw[decide_eq_true h']
 have hinf2:=infer10 (lowE e ps) loc b hw' (by omega)
 obtain⟨r,r',i1,i2,h0,hpos,hsame,hsubf⟩:=knows hw hw' h h' hl hsub'
 rw[i1] at hinf
 rw[i2] at hinf2
 have e1:=ents_adrs r b.length
 have e2:=ents_adrs r' b.length
 rw[←same_adrs hsame] at e2
 have l1:(entsD r b.length).length=(adrs r b.length).length:=by rw[e1,List.length_map]
 have l2:(entsD r' b.length).length=(adrs r b.length).length:=by rw[e2,List.length_map]
 have hml:=ents_len r b.length
 have hne:0<(adrs r b.length).length:=List.length_pos_of_mem (adrs_mem.2 ⟨hpos,h0⟩)
 have gp:(((adrs r b.length).length:Int)=0)=False:=eq_false (by omega)
 simp -implicitDefEqProofs only[go_sem,hT,Nat.add_zero,m1,m2,bXiaW0]
 refine za3 hinf ?_
 simp -implicitDefEqProofs only[go_sem,hT,Nat.add_zero,m1,m2,bXiaW0]
 refine za3 hinf2 ?_
 simp -implicitDefEqProofs only[go_sem,hT,Nat.add_zero,m1,m2,l1,l2,gp,bXiaW1]
 refine loopL F5 (fun i:Nat=>[(2,.ptr b2 0),(13,.slice .no (rws eEy (entsD r b.length))),(16,.slice .no (rws eEy (entsD r' b.length))),(136,.int .i64 (adrs r b.length).length),(137,.int .i64 i)]) (fun _=>({}:St).set b2 (eCo e loc b)) (fun i=>i≤(adrs r b.length).length) (fun i=>(adrs r b.length).length-i) 0 (Nat.zero_le _) ?_ (le_add fun h=>(set_has.1 h).elim m1 (St.not_has_nil _)) ?_
 ·simp -implicitDefEqProofs only[go_sem,hT,Int.ofNat_zero]
 clear hT T m1 m2 b12
 rintro i hi' T hT
 by_cases h':i<(adrs r b.length).length
 case neg=>
  have g2:((i:Int)<(adrs r b.length).length)=False:=eq_false (by omega)
  simp -implicitDefEqProofs only[go_sem,hT,g2]
  done
 have g2:((i:Int)<(adrs r b.length).length)=True:=eq_true (by omega)
 have g3:(0≤(i:Int))=True:=eq_true (by omega)
 have w1:IntKind.wrap .i64 ((i:Int)+1)=((i+1:Nat):Int):=by rw[zb8 (by omega) (by omega)]; simp
 have hR1:(rws eEy (entsD r b.length))[i]?.getD []=eEy ⟨((adrs r b.length)[i]:Int),false,frA r (adrs r b.length)[i]⟩:=by
  rw[rws_at (by omega)]; congr 1; simp only[e1,List.getElem_map]; rfl
 have hR2:(rws eEy (entsD r' b.length))[i]?.getD []=eEy ⟨((adrs r b.length)[i]:Int),false,frA r' (adrs r b.length)[i]⟩:=by
  rw[rws_at (by omega)]; congr 1; simp only[e2,List.getElem_map]; rfl
 have hsb:subFr e.cs (frA r' (adrs r b.length)[i]) (frA r (adrs r b.length)[i])=true:=subFr_iff.2 (hsubf _ (adrs_mem.1 (List.getElem_mem h')).2)
 generalize (adrs r b.length)[i]=a at *
 simp -implicitDefEqProofs only[go_sem,hT,g2,g3,hR1,hR2,l1,l2,nilc_p,zf6,ze9,zd6,eCo_0,eCo_1,eCo_2,eCo_3,eCo_4,zb4,za8,gdD,Nat.add_zero,anD,zd7,ey_0,ey_fr,ey_26,za6,za5,eSg_len,za4,Int.toNat_natCast]
 refine za3 (refSub38 e.cs .no _ _ hF (by omega)) ?_
 simp -implicitDefEqProofs only[go_sem,hT,Nat.add_zero,hsb,w1,bXiaW0]
 exact⟨i+1,by omega,by omega,rfl,St.le.refl _⟩
end Go.AL
