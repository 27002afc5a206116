import Derived.Test.YtjffaachihpjbaaGreatFu
import Derived.Test.YtjffaachihpjbaaGreatFs
import Derived.Test.YtjffaachihpjbaaGreatFo
import Derived.Test.YtjffaachihpjbaaGreatFp
import Derived.Test.YtjffaachihpjbaaGreatFe
import Derived.Test.YtjffaachihpjbaaGreatFm
import Derived.Test.YtjffaachihpjbaaGreatFl
set_option linter.unusedSimpArgs false
set_option linter.unusedVariables false
set_option maxRecDepth 100000
set_option linter.defProp false
set_option maxHeartbeats 4000000
namespace Go.AL
open Go.Proofs
theorem filterMap_if {α β:Type} {p:α→Bool} {g:α→β}:∀l:List α,(l.filterMap fun a=>if p a=true then some (g a) else none)=(l.filter p).map g
 |[]=>rfl
 |a::l=>by
  rw[List.filterMap_cons,List.filter_cons,filterMap_if l]
  cases p a <;> simp
def adrs (s:IS) (n:Nat):List Nat:=(List.range n).filter fun a=>(s.has[a]?).getD false
theorem ents_adrs (s:IS) (n:Nat):entsD s n=(adrs s n).map fun a:Nat=>(⟨(a:Int),false,(s.fr[a]?).getD (fr0 0)⟩:Ey):=by
 unfold entsD adrs
 rw[←filterMap_if]
theorem sort_sorted {l:List Int} (h:l.Pairwise (· ≤ ·)):sortZ l=l:=by
 unfold sortZ
 exact List.mergeSort_of_pairwise (h.imp fun h=>by simpa using h)
theorem keys_adrs {b:List Ty} {s:IS} {p:RS} {ks:List (Ky×Nat)} {vs:List D} {c:Nat} (hal:Alike b s p) (hm:MapR dF p.ff ks vs c) (hsz:s.sz (b.length+1)) (hend:(s.has[b.length]?).getD false=false):
  sortZ (ks.map fun p=>kyI p.1)=(adrs s b.length).map fun n:Nat=>(n:Int):=by
 have hmem:∀x:Nat,(s.has[x]?).getD false=true↔∃q∈ks,q.1=kyN x:=fun x=>by
  have hx:=hal.f x
  constructor
  ·intro hf
   rw[if_pos hf] at hx
   obtain⟨j,h1,_⟩:=hm.yes x _ hx
   obtain⟨t,ht⟩:=kf_some h1
   exact⟨_,List.mem_of_getElem? ht,rfl⟩
  ·rintro⟨q,hq,he⟩
   refine Classical.byContradiction fun hc=> ?_
   rw[if_neg hc] at hx
   exact kf_none (hm.no x hx) q hq he
 have hsorted:((adrs s b.length).map fun n:Nat=>(n:Int)).Pairwise (· ≤ ·):=by
  rw[List.pairwise_map]
  exact(List.Pairwise.filter _ List.pairwise_lt_range).imp fun h=>by omega
 rw[←sort_sorted hsorted]
 refine mergeSort_of_perm_i ((List.perm_ext_iff_of_nodup ?_ ?_).2 fun z=> ?_)
 ·have hn:=hm.nod
  have:ks.map (fun p=>kyI p.1)=(ks.map (·.1)).map kyI:=by rw[List.map_map]; rfl
  rw[this]
  refine List.pairwise_map.2 (List.Pairwise.imp_of_mem (R:=(· ≠ ·)) ?_ hn)
  intro x y hx hy hne he
  obtain⟨px,hpx,rfl⟩:=List.mem_map.1 hx
  obtain⟨py,hpy,rfl⟩:=List.mem_map.1 hy
  obtain⟨n,hn⟩:=hm.key px hpx
  obtain⟨m,hm⟩:=hm.key py hpy
  rw[hn,hm] at he hne
  simp only[kyN,kyI] at he
  exact hne (by simp only[kyN]; rw[he])
 ·refine List.pairwise_map.2 ((List.Pairwise.filter _ List.pairwise_lt_range).imp fun h he=>by omega)
 ·simp only[List.mem_map,adrs,List.mem_filter,List.mem_range]
  constructor
  ·rintro⟨q,hq,rfl⟩
   obtain⟨n,hn⟩:=hm.key q hq
   have hh:=(hmem n).2 ⟨q,hq,hn⟩
   have hlt:n<b.length:=by
    have h1:n<s.has.length:=Classical.byContradiction fun hc=>by rw[List.getElem?_eq_none (by omega)] at hh; cases hh
    rw[hsz.a] at h1
    have h2:n≠b.length:=fun he=>by rw[he,hend] at hh; cases hh
    omega
   exact⟨n,⟨hlt,hh⟩,by rw[hn]; rfl⟩
  ·rintro⟨n,⟨_,hh⟩,rfl⟩
   obtain⟨q,hq,he⟩:=(hmem n).1 hh
   exact⟨q,hq,by rw[he]; rfl⟩
theorem callB_new2 {P:Program} {N:Nat} {T:Env} {σ:St} {K:Env→St→Prop} {Q:XA→Env→St→Prop} {dst:Option Nat} {g:FuncId} {ds:List D} {R:D→St→Prop} (h:RCall P g ds {} R)
  (hk:∀d s',R d s'→∀τ,St.le s' τ→St.le σ τ→putK N dst d K T τ):callB P N [] false dst g ds K Q T σ:=by
 refine⟨{},σ,_,.pure σ,fun b hb=>(by cases hb),h,fun h=>(by cases h),fun x s' ⟨d,hx,hR⟩ hap _=> ?_⟩
 subst hx
 exact hk d s' hR _ ⟨fun x cs h=>by simp[St.join,h],fun x p h=>by simp[St.join,h],fun x o h=>by simp[St.join,h]⟩ (le_join hap)
open Go.Proofs
open Go.Proofs
open Go.Proofs
open Go.Proofs
open Go.Proofs
open Go.Proofs
open Go.Proofs
theorem eIn_0 (i:Ins):(eIn i)[0]? =some (.int .i64 i.pos):=rfl
theorem eIn_2 (i:Ins):(eIn i)[2]? =some (.int .i64 i.a):=rfl
theorem adrs_mem {s:IS} {n a:Nat}:a∈adrs s n↔a<n∧hasP s a:=by
 unfold adrs
 rw[List.mem_filter,List.mem_range]; rfl
open Go.Proofs
theorem next_jump {b:List Ty} {x:Nat} (h:(onD (decF b x).1 b.length).2=0) (hd:(decF b x).2=0) (hj:jumpsB (insA b x).op.val=true):(insA b x).a.toNat∈nextN b x:=by
 have hp:(insA b x).pos=x:=by
  have:=(decF_ok hd).2.1
  unfold insA; rw[this]; rfl
 unfold nextN
 unfold insA at *
 generalize decF b x=q at *
 unfold onD at h ⊢
 simp only at h ⊢
 split at h
 ·cases h
 rename_i h1
 split at h
 ·cases h
 rename_i h2
 rw[if_neg h1,if_neg h2]
 simp only[List.mem_map,List.mem_append]
 cases he:endsB q.1.op.val
 ·by_cases h3:q.1.a<q.1.pos+ze8 q.1.op.val
  ·exact⟨q.1.a,.inl (.inl (by simp[hj,h3])),rfl⟩
  ·by_cases h4:q.1.pos+(ze8 q.1.op.val:Int)<q.1.a
   ·exact⟨q.1.a,.inr (by simp[hj,h4]),rfl⟩
   ·exact⟨q.1.a,.inl (.inr (by simp; omega)),rfl⟩
 ·exact⟨q.1.a,.inl (.inl (by simp[hj])),rfl⟩
theorem next_behind {b:List Ty} {x:Nat} (h:(onD (decF b x).1 b.length).2=0) (hd:(decF b x).2=0) (he:endsB (insA b x).op.val=false):x+szA b x∈nextN b x∧x+szA b x≠b.length:=by
 have hp:(insA b x).pos=x:=by
  have:=(decF_ok hd).2.1
  unfold insA; rw[this]; rfl
 unfold nextN szA
 unfold insA at *
 generalize decF b x=q at *
 unfold onD at h ⊢
 simp only at h ⊢
 split at h
 ·cases h
 rename_i h1
 split at h
 ·cases h
 rename_i h2
 rw[if_neg h1,if_neg h2]
 simp only[List.mem_map,List.mem_append]
 refine⟨⟨q.1.pos+ze8 q.1.op.val,.inl (.inr (by simp[he])),by omega⟩,fun hc=>h2 ⟨he,by omega⟩⟩
open Go.Proofs
open Go.Proofs
def scanN (b:List Ty):Nat→Nat→List Nat×Nat×Nat
 |0,p=>([],0,0)
 |k+1,p=>if b.length≤p then([],0,0) else if(decF b p).2≠0 then([],p,(decF b p).2) else(p::(scanN b k (p+szA b p)).1,(scanN b k (p+szA b p)).2)
def scanD (b:List Ty):List Nat×Nat×Nat:=if 4096<b.length then([],0,4) else if(scanN b b.length 0).2.2≠0 then([],(scanN b b.length 0).2) else((scanN b b.length 0).1,0,0)
structure ScanP (b:List Ty) (p:Nat) (L:List Nat):Prop where
 each:∀a∈L,p≤a∧a<b.length∧(decF b a).2=0
 first:p<b.length→p∈L
 goes:∀a∈L,a+szA b a=b.length∨a+szA b a∈L
 rise:L.Pairwise fun x y=>x+szA b x≤y
theorem scan_ok {b:List Ty}:∀(k p:Nat),b.length≤p+k→p≤b.length→(scanN b k p).2.2=0→ScanP b p (scanN b k p).1
 |0,p,hk,hp,_=>⟨fun a h=>by simp[scanN] at h,fun h=>by omega,fun a h=>by simp[scanN] at h,List.Pairwise.nil⟩
 |k+1,p,hk,hp,h=>by
  rw[scanN] at h ⊢
  by_cases h1:b.length≤p
  ·rw[if_pos h1]; exact⟨fun a h=>by simp at h,fun h=>by omega,fun a h=>by simp at h,List.Pairwise.nil⟩
  rw[if_neg h1] at h ⊢
  by_cases h2:(decF b p).2=0
  case neg=>rw[if_pos h2] at h; exact absurd h h2
  have h2':¬(decF b p).2≠0:=fun h=>h h2
  rw[if_neg h2'] at h ⊢
  obtain⟨d1,d2,d3,d4⟩:=decF_ok h2
  have d3':1≤szA b p:=d3
  have d4':p+szA b p≤b.length:=d4
  have ih:=scan_ok k (p+szA b p) (by omega) d4' h
  generalize (scanN b k (p+szA b p)).1=L at ih ⊢
  refine⟨fun a ha=> ?_,fun _=>List.mem_cons_self ..,fun a ha=> ?_,List.pairwise_cons.2 ⟨fun y hy=>(ih.each y hy).1,ih.rise⟩⟩
  ·rcases List.mem_cons.1 ha with rfl|ha
   ·exact⟨Nat.le_refl _,d1,h2⟩
   ·obtain⟨e1,e2,e3⟩:=ih.each a ha
    exact⟨by omega,e2,e3⟩
  ·rcases List.mem_cons.1 ha with rfl|ha
   ·by_cases he:a+szA b a=b.length
    ·exact .inl he
    ·exact .inr (List.mem_cons_of_mem _ (ih.first (by omega)))
   ·exact(ih.goes a ha).imp id (List.mem_cons_of_mem _)
theorem scanD_ok {b:List Ty} (h:(scanD b).2.2=0):b.length≤4096∧ScanP b 0 (scanD b).1:=by
 unfold scanD at h ⊢
 split at h
 ·cases h
 rename_i h1
 split at h
 ·rename_i h2; exact absurd h h2
 rename_i h2
 rw[if_neg h1,if_neg h2]
 exact⟨by omega,scan_ok _ _ (by omega) (by omega) (Classical.not_not.1 h2)⟩
open Go.Proofs
open Go.Proofs
inductive Come (b:List Ty):Nat→Prop where
 |zero:Come b 0
 |step {x y:Nat}:Come b x→y∈nextN b x→Come b y
theorem last_come {e:En} {loc:Int} {b:List Ty} {r:IS} (hw:WideE e) (h:goneD e loc b=(r,0,0)) (hl:LastP e loc b r) (x:Nat):hasP r x↔Come b x:=by
 constructor
 ·obtain⟨r2,h1,h2,h3,⟨h4,_⟩,h6⟩:=gone_ind (I:=fun s=>(∀x,hasP s x→Come b x)∧True)
   (fun s a hs hf ⟨i1,_⟩ ha hn _ hR=>⟨fun x hx=>by
    rcases((round_handed hw hs ha hR).has x).1 hx with hx|hx
    ·exact i1 x hx
    ·exact .step (i1 a (hf a hn)) hx,trivial⟩)
   ⟨fun x hx=>by rw[is0_hasP] at hx; subst hx; exact .zero,trivial⟩ (show(goneD e loc b).2.2=0 by rw[h])
  rw[h] at h1
  cases h1
  exact h4 x
 ·intro hc
  induction hc with
  |zero=>exact hl.start.1
  |step _ hy ih=>exact((hl.goes _ ih).2.2.2 _ hy).1
theorem rise_eq:∀{L M:List Int},L.Pairwise (· < ·)→M.Pairwise (· < ·)→(∀x,x∈L↔x∈M)→L=M
 |[],[],_,_,_=>rfl
 |[],y::M,_,_,h=>by have:=(h y).2 (List.mem_cons_self ..); cases this
 |x::L,[],_,_,h=>by have:=(h x).1 (List.mem_cons_self ..); cases this
 |x::L,y::M,hL,hM,h=>by
  obtain⟨l1,l2⟩:=List.pairwise_cons.1 hL
  obtain⟨m1,m2⟩:=List.pairwise_cons.1 hM
  have hxy:x=y:=by
   rcases List.mem_cons.1 ((h x).1 (List.mem_cons_self ..)) with h1|h1
   ·exact h1
   ·rcases List.mem_cons.1 ((h y).2 (List.mem_cons_self ..)) with h2|h2
    ·exact h2.symm
    ·have:=m1 x h1; have:=l1 y h2; omega
  subst hxy
  congr 1
  refine rise_eq l2 m2 fun z=>⟨fun hz=> ?_,fun hz=> ?_⟩
  ·rcases List.mem_cons.1 ((h z).1 (List.mem_cons_of_mem _ hz)) with h1|h1
   ·have:=l1 z hz; omega
   ·exact h1
  ·rcases List.mem_cons.1 ((h z).2 (List.mem_cons_of_mem _ hz)) with h1|h1
   ·have:=m1 z hz; omega
   ·exact h1
open Go.Proofs
open Go.Proofs
def putI:List Int→Int→List Int
 |[],n=>[n]
 |x::r,n=>if n≤x then(if n<x then n::x::r else x::r) else x::putI r n
theorem putI_mem {n x:Int}:∀{l:List Int},x∈putI l n↔x=n∨x∈l
 |[]=>by simp[putI]
 |y::r=>by
  rw[putI]
  split
  ·split
   ·simp[List.mem_cons]
   ·have:n=y:=by omega
    subst this
    simp[List.mem_cons]
  ·simp only[List.mem_cons,putI_mem (l:=r)]
   constructor
   ·rintro(h|h|h)
    ·exact .inr (.inl h)
    ·exact .inl h
    ·exact .inr (.inr h)
   ·rintro(h|h|h)
    ·exact .inr (.inl h)
    ·exact .inl h
    ·exact .inr (.inr h)
theorem putI_rise {n:Int}:∀{l:List Int},l.Pairwise (· < ·)→(putI l n).Pairwise (· < ·)
 |[],_=>by simp[putI]
 |y::r,h=>by
  obtain⟨h1,h2⟩:=List.pairwise_cons.1 h
  rw[putI]
  split
  ·split
   ·rename_i h3
    exact List.pairwise_cons.2 ⟨fun z hz=>by
     rcases List.mem_cons.1 hz with rfl|hz
     ·exact h3
     ·have:=h1 z hz; omega,h⟩
   ·exact h
  ·exact List.pairwise_cons.2 ⟨fun z hz=>by
    rcases putI_mem.1 hz with rfl|hz
    ·omega
    ·exact h1 z hz,putI_rise h2⟩
def placedB (i:Ins):Bool:=decide (0≤i.pos∧i.pos<4096)
def nextI (i:Ins):List Int:=
 if ze8 i.op.val=0∨placedB i=false then []
 else
  let l:=if endsB i.op.val=false then putI [] (i.pos+ze8 i.op.val) else []
  if jumpsB i.op.val=true then putI l i.a else l
theorem nextI_mem {b:List Ty} {x:Nat} (hd:(decF b x).2=0) (hb:b.length≤4096) {z:Int}:z∈nextI (insA b x)↔(endsB (insA b x).op.val=false∧z=x+szA b x)∨(jumpsB (insA b x).op.val=true∧z=(insA b x).a):=by
 obtain⟨d1,d2,d3,d4⟩:=decF_ok hd
 have hp:(insA b x).pos=x:=by unfold insA; rw[d2]; rfl
 have hz:¬(ze8 (insA b x).op.val=0∨placedB (insA b x)=false):=by
  rintro(h|h)
  ·have:1≤ze8 (insA b x).op.val:=d3
   omega
  ·unfold placedB at h
   rw[decide_eq_false_iff_not,hp] at h
   omega
 unfold nextI
 rw[if_neg hz,hp]
 simp only
 cases he:endsB (insA b x).op.val <;> cases hj:jumpsB (insA b x).op.val <;> simp[putI_mem]
 exact or_comm
open Go.Proofs
end Go.AL
namespace Go.AL
open Go.Proofs Go.RowKit Go.Maps Go.WideElems Go.MapKept
open Go.Proofs
open Go.Proofs
open Go.Proofs
instance moY:Mo:=⟨fun t=>t==99||t==109||t==57,fun t=>t==85||t==86||t==87,fun t=>t==57||t==30⟩
theorem apsY {t:TypeId}:@Mo.aps moY t=(t==57||t==30):=rfl
attribute [go_sem] apsY
abbrev Li:=Option (Nat×Nat)
def rD (o:Li) (n:Nat):D:=match o with
 |none=> .slice .nil []
 |some p=> .bsl p.1 0 n p.2
def rS (o:Li) (X:List D) (σ:St):St:=match o with
 |none=>σ
 |some p=>σ.set p.1 X
def rO (o:Li) (n:Nat) (X:List D) (σ:St):Prop:=match o with
 |none=>n=0
 |some p=>¬σ.has p.1∧n≤p.2∧X.length=p.2*28
def liX (o:Li) (es:List Ey):List D:=match o with
 |none=>[]
 |some p=>fl eEy es++List.replicate ((p.2-es.length)*28) .any
theorem liX_len {p:Nat×Nat} {es:List Ey} (h:es.length≤p.2):(liX (some p) es).length=p.2*28:=by
 simp only[liX,List.length_append,fl_len ze9,List.length_replicate]
 rw[←Nat.add_mul]; congr 1; omega
theorem rO_has {o:Li} {n:Nat} {X Y:List D} {σ σ':St} (h:rO o n X σ) (hs:∀x,σ'.has x→σ.has x) (hl:∀p,o=some p→Y.length=p.2*28):rO o n Y σ':=by
 cases o with
 |none=>exact h
 |some p=>exact⟨fun hx=>h.1 (hs _ hx),h.2.1,hl p rfl⟩
theorem rS_has {o:Li} {X:List D} {σ:St} {x:Nat}:(rS o X σ).has x↔(∃p,o=some p∧x=p.1)∨σ.has x:=by
 cases o with
 |none=>simp[rS]
 |some p=>
  simp only[rS,set_has]
  constructor
  ·rintro(h|h)
   ·exact .inl ⟨p,rfl,h⟩
   ·exact .inr h
  ·rintro(⟨q,hq,h⟩|h)
   ·cases hq; exact .inl h
   ·exact .inr h
section
variable {N : Nat} {d : Option Nat} {K : Env → St → Prop} {T : Env} {σ : St}
theorem le_new {σ:St} {b b':Nat} {X Y:List D} (h:¬σ.has b):St.le (σ.set b' Y) ((σ.set b X).set b' Y):=le_set (le_add h)
theorem li_app {o:Li} {es:List Ey} {x:Ey} (ho:rO o es.length (liX o es) σ) (hl:es.length≤100000)
  (hk:∀o' σ',(∃p,o'=some p)→rO o' (es++[x]).length (liX o' (es++[x])) σ→St.le (rS o' (liX o' (es++[x])) σ) σ'→putK N d (rD o' (es++[x]).length) K T σ'):
  apK Tryz.prog N d true 30 30 (rD o es.length) (.slice .exact [eEy x]) K T (rS o (liX o es) σ):=by
 show appendB Tryz.prog N d 30 30 (rD o es.length) (.slice .exact [eEy x]) K T (rS o (liX o es) σ)
 have hn:(es++[x]).length=es.length+1:=by simp
 have hf:[eEy x].flatten=eEy x:=by simp
 have he:∀r∈[eEy x],r.length=28:=fun r hr=>by rw[List.mem_singleton] at hr; rw[hr,ze9]
 have hfl:fl eEy (es++[x])=fl eEy es++eEy x:=by rw[fl_app]; simp[fl,rws]
 rw[hn] at hk
 cases o with
 |none=>
  have hes:es=[]:=List.eq_nil_of_length_eq_zero ho
  subst hes
  simp only[appendB,rD,rS,Tryz.sli30,Tryz.sz40,Tryz.by40,Tryz.zero40,Option.map_some,true_and]
  refine⟨by simp,by omega,by omega,he,by simp,by simp,fun b cap h1 h2=> ?_⟩
  have h3:1≤cap:=by simpa using h2
  refine hk (some (b,cap)) _ ⟨_,rfl⟩ ⟨h1,h3,liX_len (by simpa using h3)⟩ ?_
  simp only[rS,liX,hfl,hf]
  exact St.le.refl _
 |some p=>
  obtain⟨h1,h2,h3⟩:=ho
  obtain⟨b,cap⟩:=p
  simp only at h1 h2 h3
  have hbox:(rS (some (b,cap)) (liX (some (b,cap)) es) σ).box b=some (liX (some (b,cap)) es):=by simp[rS,St.set_box]
  simp only[appendB,rD,hbox,Tryz.sli30,Tryz.sz40,Tryz.by40,Tryz.zero40,Option.map_some,true_and]
  have hlen:(fl eEy es).length=es.length*28:=fl_len ze9 es
  refine⟨by simp,by omega,by omega,he,h2,h3,by simp; omega,fun h=> ?_,fun h b' cap' h4 h5=> ?_⟩
  ·simp only[List.length_cons,List.length_nil,Nat.zero_add] at h ⊢
   refine hk (some (b,cap)) _ ⟨_,rfl⟩ ⟨h1,h,liX_len (by simpa using h)⟩ ?_
   have hlay:layD (liX (some (b,cap)) es) (es.length*28) (eEy x)=liX (some (b,cap)) (es++[x]):=by
    simp only[layD,liX,hfl]
    rw[List.take_left' hlen,List.drop_append,List.drop_eq_nil_of_le (by rw[hlen]; omega),hlen,ze9,hn]
    simp only[List.nil_append,List.drop_replicate,List.append_assoc]
    congr 3
    omega
   rw[hf,hlay]
   simp only[rS]
   rw[za4]
   exact St.le.refl _
  ·simp only[List.length_cons,List.length_nil,Nat.zero_add] at h h5 ⊢
   refine hk (some (b',cap')) _ ⟨_,rfl⟩ ⟨fun hx=>h4 (rS_has.2 (.inr hx)),h5,liX_len (by simpa using h5)⟩ ?_
   have hlay:(liX (some (b,cap)) es).take (es.length*28)++[eEy x].flatten++List.replicate ((cap'-(es.length+1))*28) D.any=liX (some (b',cap')) (es++[x]):=by
    simp only[liX,hfl,hf,hn]
    rw[List.take_left' hlen]
   rw[hlay]
   simp only[rS]
   exact le_new h1
end
open Go.Proofs
def c10:CT (Tryz.f10.body.getD .skip):=⟨_,by conv=>lhs; cbv⟩
theorem F10:Fun1 Tryz.prog 10 51 c10.1 [.tmp 6,.tmp 7,.tmp 8]:=mkT Tryz.func10 rfl (by decide +kernel) Tryz.ntmps10 rfl c10.2 rfl
open Go.Proofs
theorem rS_le {o:Li} {X:List D} {s σ:St} (h:St.le s σ):St.le (rS o X s) (rS o X σ):=by
 cases o with
 |none=>exact h
 |some p=>exact le_set h
theorem rS_mp {o:Li} {X:List D} {σ:St} {x:Nat}:(rS o X σ).mp x=σ.mp x:=by
 cases o with
 |none=>rfl
 |some p=>exact congrFun set_mp x
theorem rS_box {o:Li} {n:Nat} {X:List D} {σ:St} {x:Nat} {cs:List D} (h:rO o n X σ) (hx:σ.box x=some cs):(rS o X σ).box x=some cs:=by
 cases o with
 |none=>exact hx
 |some p=>
  simp only[rS,St.set_box]
  rw[if_neg fun he=>h.1 (by rw[←he]; exact .inl (by rw[hx]; simp))]
  exact hx
def inferR (e:En) (loc:Int) (b:List Ty) (d:D) (s':St):Prop:=
 ∃o:Li,rO o (inferD e loc b).1.length (liX o (inferD e loc b).1) {}∧d= .tup [rD o (inferD e loc b).1.length,.int .i64 (inferD e loc b).2.1,.int .i64 (inferD e loc b).2.2]∧s'=rS o (liX o (inferD e loc b).1) {}
theorem infer41 (e:En) (loc:Int) (b:List Ty) (hw:WideE e) (hb:b.length≤140737488355328):
  RCall Tryz.prog 10 [.agg (eEn e),.int .i64 loc,.slice .no (rws eT b)] {} (inferR e loc b):=by
 have hg:goneD e loc b=goD e b (fuelD b.length) (is0 b.length (startF e.cs.length (psOf e) loc).1) 0:=rfl
 refine F10.rcall rfl fun T hT=> ?_
 simp -implicitDefEqProofs only[go_sem,c10,hT,zb4,zb5,za9,za8,za6,za5,zb8,zb2,gdD,Nat.mul_one,Nat.add_zero,Nat.zero_add,nilc_p]
 intro b3
 refine callB_new2 (around79 e loc b hw hb) fun d s' hR τ hτ hτ3=> ?_
 unfold aroundR at hR
 by_cases g1:mayE e loc=0
 case neg=>
  have hI:inferD e loc b=([],0,mayE e loc):=by unfold inferD; rw[if_pos g1]
  rw[if_pos g1] at hR
  obtain⟨rfl,rfl⟩:=hR
  have g1':((mayE e loc:Int)=0)=False:=eq_false (by omega)
  simp -implicitDefEqProofs only[go_sem,hT,g1']
  refine⟨_,_,DLe.refl _,St.le.nil _,none, ?_, ?_, ?_⟩ <;> rw[hI] <;> rfl
 rw[if_neg (by omega)] at hR
 by_cases g2:4096<b.length
 ·have hI:inferD e loc b=([],0,4):=by unfold inferD; rw[if_neg (by omega),if_pos g2]
  rw[if_pos g2] at hR
  obtain⟨rfl,rfl⟩:=hR
  simp -implicitDefEqProofs only[go_sem,hT]
  refine⟨_,_,DLe.refl _,St.le.nil _,none, ?_, ?_, ?_⟩ <;> rw[hI] <;> rfl
 rw[if_neg g2] at hR
 by_cases g3:(goneD e loc b).2.2=0
 case neg=>
  have hI:inferD e loc b=([],(goneD e loc b).2.1,(goneD e loc b).2.2):=by unfold inferD; rw[if_neg (by omega),if_neg g2]; simp only; rw[←hg,if_pos g3]
  rw[if_pos g3] at hR
  obtain⟨rfl,rfl⟩:=hR
  have g3':(((goneD e loc b).2.2:Int)=0)=False:=eq_false (by omega)
  simp -implicitDefEqProofs only[go_sem,hT,g3']
  refine⟨_,_,DLe.refl _,St.le.nil _,none, ?_, ?_, ?_⟩ <;> rw[hI] <;> rfl
 have hI:inferD e loc b=(entsD (goneD e loc b).1 b.length,0,0):=by unfold inferD; rw[if_neg (by omega),if_neg g2]; simp only; rw[←hg,if_neg (by omega)]
 rw[if_neg (by omega)] at hR
 obtain⟨r,m,p,hne,hm,hal,hsz,rfl,rfl⟩:=hR
 have hend:=gone_end g3
 generalize (goneD e loc b).1=s at *
 have kq:τ.box r.q=some (eRn r e b p.wh):=hτ.box _ _ stR_q
 have kf:τ.mp r.f=some (.map (some .i64) m.kf m.vf m.cf):=hτ.mp _ _ (stR_f hne)
 have hkeys:=keys_adrs hal hm.f hsz hend
 have hAl:(adrs s b.length).length≤b.length:=by
  have:=List.length_filter_le (fun a=>(s.has[a]?).getD false) (List.range b.length)
  rw[List.length_range] at this; exact this
 have hkl:m.kf.length=(adrs s b.length).length:=by
  have:=congrArg List.length hkeys
  simpa[sortZ,List.length_mergeSort] using this
 have hk5:∀q∈m.kf,∃n,q.1=kyN n∧n≤5000:=fun q hq=>by
  obtain⟨n,hn⟩:=hm.f.key q hq
  refine⟨n,hn, ?_⟩
  have hmem:kyI q.1∈sortZ (m.kf.map fun p=>kyI p.1):=by
   unfold sortZ; rw[List.mem_mergeSort]; exact List.mem_map.2 ⟨q,hq,rfl⟩
  rw[hkeys,hn] at hmem
  obtain⟨x,hx,he⟩:=List.mem_map.1 hmem
  simp only[adrs,List.mem_filter,List.mem_range] at hx
  simp only[kyN,kyI] at he
  omega
 simp -implicitDefEqProofs only[go_sem,hT,zb4,zb5,za9,za8,za6,za5,zb8,zb2,gdD,Nat.mul_one,Nat.add_zero,Nat.zero_add,nilc_p,eRn_0,eRn_3,eRn_4,eRn_5,eRn_6,eRn_7,eRn_len,kq]
 refine callB_all (keys81 r.f τ) fun d s' ⟨c,hc,hd,hs⟩=> ?_
 subst hd; subst hs
 simp -implicitDefEqProofs only[go_sem,hT]
 refine callB_all (sorted80 (τ.set c [.map r.f]) c r.f m.kf m.vf m.cf (by rw[St.set_box,if_pos rfl]) (by rw[set_mp]; exact kf) hk5 (by omega)) fun d s' ⟨hd,hs⟩=> ?_
 subst hd; subst hs
 rw[hkeys]
 have hA:((adrs s b.length).map fun n:Nat=>(n:Int)).map (fun z=>[eZ z])=rws eN (adrs s b.length):=by rw[List.map_map]; rfl
 rw[hA]
 have hents:=ents_adrs s b.length
 have hEl:(entsD s b.length).length=(adrs s b.length).length:=by rw[hents,List.length_map]
 simp -implicitDefEqProofs only[go_sem,hT]
 refine loopL F10 (fun x:Nat×Li=>[(9,.ptr r.q 0),(12,rD x.2 ((entsD s b.length).take x.1).length),(32,.slice .no (rws eN (adrs s b.length))),(33,.int .i64 (adrs s b.length).length),(34,.int .i64 x.1)])
  (fun x=>rS x.2 (liX x.2 ((entsD s b.length).take x.1)) τ) (fun x=>x.1≤(adrs s b.length).length∧rO x.2 ((entsD s b.length).take x.1).length (liX x.2 ((entsD s b.length).take x.1)) τ)
  (fun x=>(adrs s b.length).length-x.1) (0,none) ⟨Nat.zero_le _,by simp[rO]⟩ ?_ ?_ ?_
 ·simp -implicitDefEqProofs only[go_sem,hT,rD,List.take_zero]
  rfl
 ·exact le_add hc
 clear hT T
 rintro⟨i,o⟩ ⟨hi,ho⟩ T hT
 simp only at hi ho hT ⊢
 by_cases h:i<(adrs s b.length).length
 case neg=>
  have g5:((i:Int)<(adrs s b.length).length)=False:=eq_false (by omega)
  have htk:(entsD s b.length).take i=entsD s b.length:=List.take_of_length_le (by omega)
  rw[htk] at ho hT ⊢
  simp -implicitDefEqProofs only[go_sem,hT,g5]
  refine⟨_,rS o (liX o (entsD s b.length)) {},DLe.refl _, ?_,o, ?_, ?_, ?_⟩
  ·exact rS_le (St.le.nil _)
  ·rw[hI]; exact rO_has ho (fun x hx=>(St.not_has_nil x hx).elim) fun p hp=>by subst hp; exact ho.2.2
  ·rw[hI]; rfl
  ·rw[hI]
 have g5:((i:Int)<(adrs s b.length).length)=True:=eq_true (by omega)
 have hget:=rws_at (enc:=eN) h
 have hkq2:=rS_box ho kq
 have hkf2:(rS o (liX o ((entsD s b.length).take i)) τ).mp r.f=some (.map (some .i64) m.kf m.vf m.cf):=by rw[rS_mp]; exact kf
 have hlk:=look143 (ok:=false) (n:=(adrs s b.length)[i]) hm.f hkf2
 have hmemA:(adrs s b.length)[i]∈adrs s b.length:=List.getElem_mem h
 have hhas:(s.has[(adrs s b.length)[i]]?).getD false=true:=by
  have:=hmemA
  unfold adrs at this
  rw[List.mem_filter] at this
  exact this.2
 have hff:=hal.f (adrs s b.length)[i]
 rw[if_pos hhas] at hff
 rw[hff] at hlk
 have w1:IntKind.wrap .i64 ((i:Int)+1)=((i+1:Nat):Int):=by rw[zb7 (by omega) (by omega)]; simp
 have hnext:(entsD s b.length).take (i+1)=(entsD s b.length).take i++[⟨((adrs s b.length)[i]:Int),false,(s.fr[(adrs s b.length)[i]]?).getD (fr0 0)⟩]:=by
  rw[List.take_add_one,hents,List.getElem?_map,List.getElem?_eq_getElem h]; rfl
 simp -implicitDefEqProofs only[go_sem,hT,g5,hget,zb4,zb5,za9,za8,za6,za5,zb8,zb2,gdD,Nat.mul_one,Nat.add_zero,Nat.zero_add,nilc_p,eRn_0,eRn_3,eRn_4,eRn_5,eRn_6,eRn_7,eRn_len,hkq2,hlk,lkV,pairD,dF,eN,frz,frz_fr2]
 refine⟨by omega,li_app (x:=⟨((adrs s b.length)[i]:Int),false,(s.fr[(adrs s b.length)[i]]?).getD (fr0 0)⟩) ho (by rw[List.length_take]; omega) fun o' σ' _ ho' hle=> ?_⟩
 simp -implicitDefEqProofs only[go_sem,hT,w1]
 rw[←hnext] at ho' hle ⊢
 exact⟨(i+1,o'),⟨by simp only; omega,ho'⟩,by simp only; omega,⟨rfl,rfl⟩,hle⟩
open Go.Proofs
instance moW:Mo:=⟨fun _=>false,fun _=>false,fun _=>false⟩
open Go.Proofs
def c18:CT (Tryz.f18.body.getD .skip):=⟨_,by conv=>lhs; cbv⟩
theorem F18:Fun1 Tryz.prog 18 36 c18.1 [.tmp 2,.tmp 3,.tmp 4]:=mkT Tryz.func18 rfl (by decide +kernel) Tryz.ntmps18 rfl c18.2 rfl
def c43:CT (Tryz.f43.body.getD .skip):=⟨_,by conv=>lhs; cbv⟩
theorem F43:Fun1 Tryz.prog 43 41 c43.1 [.tmp 4]:=mkT Tryz.func43 rfl (by decide +kernel) Tryz.ntmps43 rfl c43.2 rfl
open Go.Proofs
def c9:CT (Tryz.f9.body.getD .skip):=⟨_,by conv=>lhs; cbv⟩
theorem F9:Fun1 Tryz.prog 9 19 c9.1 [.tmp 2]:=mkT Tryz.func9 rfl (by decide +kernel) Tryz.ntmps9 rfl c9.2 rfl
def c37:CT (Tryz.f37.body.getD .skip):=⟨_,by conv=>lhs; cbv⟩
theorem F37:Fun1 Tryz.prog 37 33 c37.1 [.tmp 2]:=mkT Tryz.func37 rfl (by decide +kernel) Tryz.ntmps37 rfl c37.2 rfl
def c68:CT (Tryz.f68.body.getD .skip):=⟨_,by conv=>lhs; cbv⟩
theorem F68:Fun1 Tryz.prog 68 11 c68.1 [.tmp 2]:=mkT Tryz.func68 rfl (by decide +kernel) Tryz.ntmps68 rfl c68.2 rfl
def c42:CT (Tryz.f42.body.getD .skip):=⟨_,by conv=>lhs; cbv⟩
theorem F42:Fun1 Tryz.prog 42 20 c42.1 [.tmp 4]:=mkT Tryz.func42 rfl (by decide +kernel) Tryz.ntmps42 rfl c42.2 rfl
open Go.Proofs
open Go.Proofs
open Go.Proofs
open Go.Proofs
def c17:CT (Tryz.f17.body.getD .skip):=⟨_,by conv=>lhs; cbv⟩
theorem F17:Fun1 Tryz.prog 17 54 c17.1 [.tmp 2,.tmp 3]:=mkT Tryz.func17 rfl (by decide +kernel) Tryz.ntmps17 rfl c17.2 rfl
def c6:CT (Tryz.f6.body.getD .skip):=⟨_,by conv=>lhs; cbv⟩
theorem F6:Fun1 Tryz.prog 6 65 c6.1 [.tmp 2]:=mkT Tryz.func6 rfl (by decide +kernel) Tryz.ntmps6 rfl c6.2 rfl
open Go.Proofs
section
attribute [-instance] moW moY
def c20:CT (Tryz.f20.body.getD .skip):=⟨_,by conv=>lhs; cbv⟩
theorem F20:Fun1 Tryz.prog 20 71 c20.1 [.tmp 4]:=mkT Tryz.func20 rfl (by decide +kernel) Tryz.ntmps20 rfl c20.2 rfl
end
open Go.Proofs
theorem putI_len (l:List Int) (n:Int):(putI l n).length≤l.length+1:=by
 induction l with
 |nil=>simp[putI]
 |cons x r ih=>
  rw[putI]
  split
  ·split <;> simp
  ·simp only[List.length_cons]; omega
theorem put65 (l:List Int) (n:Int) (o:Own) (hl:l.length≤1000000):PCall Tryz.prog 43 [.slice o (rws eI l),.int .i64 n] (.slice .no (rws eI (putI l n))):=by
 have eIl:∀z:Int,(eI z).length=1:=fun z=>rfl
 have happ:∀(A:List Int) (z:Int),rws eI A++[[.int .i64 z]]=rws eI (A++[z]):=fun A z=>by simp[rws,eI]
 refine F43.pcallM rfl fun T hT=> ?_
 simp -implicitDefEqProofs only[go_sem,c43,hT]
 refine loopL F43 (fun x:Nat×Bool×List Int×Option Nat=>[(1,.int .i64 n),(5,grD 1 x.2.2.2 (rws eI x.2.2.1)),(6,.bool x.2.1),(9,.slice o (rws eI l)),(10,.int .i64 l.length),(11,.int .i64 x.1)]) (fun x=>grS 1 x.2.2.1.length x.2.2.2 {})
  (fun x=>x.1≤l.length∧(x.2.1=false→putI l n=x.2.2.1++putI (l.drop x.1) n)∧(x.2.1=true→putI l n=x.2.2.1++l.drop x.1)∧(x.2.1=false→x.2.2.1.length≤x.1)∧x.2.2.1.length≤x.1+1∧(x.2.2.2=none→x.2.2.1.length=0)) (fun x=>l.length-x.1) (0,false,[],none)
  ⟨Nat.zero_le _,fun _=>rfl,fun h=>(by cases h),fun _=>Nat.zero_le _,Nat.zero_le _,fun _=>rfl⟩ ?_ (St.le.refl _) ?_
 ·simp -implicitDefEqProofs only[go_sem,hT,Int.ofNat_zero]
  rfl
 clear hT T
 rintro⟨i,dn,out,ob⟩ ⟨hi,hf,ht,hl0,hlen,hok⟩ T hT
 simp only at hi hf ht hl0 hlen hok hT ⊢
 by_cases h:i<l.length
 case neg=>
  have g1:((i:Int)<l.length)=False:=eq_false (by omega)
  have hd:l.drop i=[]:=List.drop_eq_nil_of_le (by omega)
  rw[hd] at hf ht
  cases dn with
  |true=>
   rw[ht rfl,List.append_nil]
   simp -implicitDefEqProofs only[go_sem,hT,g1]
   exact grD_le
  |false=>
   rw[hf rfl]
   simp -implicitDefEqProofs only[go_sem,hT,g1,frz]
   refine app_gr' Tryz.sli57 Tryz.sz3 Tryz.by3 Tryz.zero3 rfl (n:=out.length) (m:=1) (base:={}) (by rw[za1]) rfl (St.le.refl _) grN_nil hok (by simp) (by omega) fun o' σ' hbox hle hn hno=> ?_
   simp -implicitDefEqProofs only[go_sem,hT,hbox]
   rw[happ]
   exact grD_le
 have g1:((i:Int)<l.length)=True:=eq_true (by omega)
 have g0:(0≤(i:Int))=True:=eq_true (by omega)
 have w1:IntKind.wrap .i64 ((i:Int)+1)=((i+1:Nat):Int):=by rw[zb7 (by omega) (by omega)]; simp
 have hR:(rws eI l)[i]?.getD []=eI l[i]:=rws_at h
 have hdr:l.drop i=l[i]::l.drop (i+1):=List.drop_eq_getElem_cons h
 rw[hdr] at hf ht
 generalize l[i]=x at *
 cases dn with
 |true=>
  simp -implicitDefEqProofs only[go_sem,hT,g1,g0,hR,eIl,eI,frz,Int.toNat_natCast]
  refine app_gr' Tryz.sli57 Tryz.sz3 Tryz.by3 Tryz.zero3 rfl (n:=out.length) (m:=1) (base:={}) (by rw[za1]) rfl (St.le.refl _) grN_nil hok (by simp) (by omega) fun o' σ' hbox hle hn hno=> ?_
  simp -implicitDefEqProofs only[go_sem,hT,hbox,w1]
  rw[happ]
  refine⟨(i+1,true,out++[x],o'),⟨by omega,fun h=>(by cases h),fun _=> ?_,fun h=>(by cases h),by simp only[List.length_append,List.length_cons,List.length_nil]; omega,fun h=>by simpa using hno h⟩,by omega, ?_,by simpa using hle⟩
  ·rw[ht rfl,List.append_assoc]; rfl
  ·trivial
 |false=>
  have hput:=hf rfl
  rw[putI] at hput
  by_cases h1:n≤x
  ·rw[if_pos h1] at hput
   have p1:(n≤x)=True:=eq_true h1
   by_cases h2:n<x
   ·rw[if_pos h2] at hput
    have p2:(n<x)=True:=eq_true h2
    simp -implicitDefEqProofs only[go_sem,hT,g1,g0,hR,eIl,eI,frz,Int.toNat_natCast,p1,p2]
    refine app_gr' Tryz.sli57 Tryz.sz3 Tryz.by3 Tryz.zero3 rfl (n:=out.length) (m:=1) (base:={}) (by rw[za1]) rfl (St.le.refl _) grN_nil hok (by simp) (by omega) fun o' σ' hbox hle hn hno=> ?_
    simp -implicitDefEqProofs only[go_sem,hT,hbox,frz]
    rw[happ]
    refine app_gr' Tryz.sli57 Tryz.sz3 Tryz.by3 Tryz.zero3 rfl (n:=out.length+1) (m:=1) (base:={}) (by rw[za1]; simp) rfl hle grN_nil (fun h=>by have:=hno h; omega) (by simp) (by omega) fun o2 σ2 hbox2 hle2 hn2 hno2=> ?_
    simp -implicitDefEqProofs only[go_sem,hT,hbox2,w1]
    rw[happ]
    refine⟨(i+1,true,out++[n]++[x],o2),⟨by omega,fun h=>(by cases h),fun _=> ?_,fun h=>(by cases h), ?_,fun h=>by have:=hno2 h; omega⟩,by omega, ?_,by simpa using hle2⟩
    ·rw[hput]; simp
    ·simp only[List.length_append,List.length_cons,List.length_nil]
     have:=hl0 rfl
     omega
    ·trivial
   ·rw[if_neg h2] at hput
    have p2:(n<x)=False:=eq_false h2
    simp -implicitDefEqProofs only[go_sem,hT,g1,g0,hR,eIl,eI,frz,Int.toNat_natCast,p1,p2]
    refine app_gr' Tryz.sli57 Tryz.sz3 Tryz.by3 Tryz.zero3 rfl (n:=out.length) (m:=1) (base:={}) (by rw[za1]) rfl (St.le.refl _) grN_nil hok (by simp) (by omega) fun o' σ' hbox hle hn hno=> ?_
    simp -implicitDefEqProofs only[go_sem,hT,hbox,w1]
    rw[happ]
    refine⟨(i+1,true,out++[x],o'),⟨by omega,fun h=>(by cases h),fun _=> ?_,fun h=>(by cases h),by simp only[List.length_append,List.length_cons,List.length_nil]; omega,fun h=>by simpa using hno h⟩,by omega, ?_,by simpa using hle⟩
    ·rw[hput]; simp
    ·trivial
  ·rw[if_neg h1] at hput
   have p1:(n≤x)=False:=eq_false h1
   simp -implicitDefEqProofs only[go_sem,hT,g1,g0,hR,eIl,eI,frz,Int.toNat_natCast,p1]
   refine app_gr' Tryz.sli57 Tryz.sz3 Tryz.by3 Tryz.zero3 rfl (n:=out.length) (m:=1) (base:={}) (by rw[za1]) rfl (St.le.refl _) grN_nil hok (by simp) (by omega) fun o' σ' hbox hle hn hno=> ?_
   simp -implicitDefEqProofs only[go_sem,hT,hbox,w1]
   rw[happ]
   refine⟨(i+1,false,out++[x],o'),⟨by omega,fun _=> ?_,fun h=>(by cases h),fun _=>by have:=hl0 rfl; simp only[List.length_append,List.length_cons,List.length_nil]; omega,by have:=hl0 rfl; simp only[List.length_append,List.length_cons,List.length_nil]; omega,fun h=>by simpa using hno h⟩,by omega, ?_,by simpa using hle⟩
   ·rw[hput]; simp
   ·trivial
theorem scanN_step {b:List Ty} {k p:Nat} (h:p<b.length):scanN b (k+1) p=if(decF b p).2≠0 then([],p,(decF b p).2) else(p::(scanN b k (p+szA b p)).1,(scanN b k (p+szA b p)).2):=by
 rw[scanN,if_neg (by omega)]
theorem scanN_end {b:List Ty} {k p:Nat} (h:b.length≤p):scanN b k p=([],0,0):=by
 cases k with
 |zero=>rfl
 |succ k=>rw[scanN,if_pos h]
def insL (b:List Ty) (L:List Nat):List Ins:=L.map (insA b)
def bXiaA0:=aI @zb3 (aI @za7 (aI @anD (aI @za4 (aI @eIn_1 @gdD))))
theorem scan23 (b:List Ty) (o:Own) (hb:b.length≤140737488355328):PCall Tryz.prog 18 [.slice o (rws eT b)] (.tup [.slice .no (rws eIn (insL b (scanD b).1)),.int .i64 (scanD b).2.1,.int .i64 (scanD b).2.2]):=by
 refine F18.pcallM rfl fun T hT=> ?_
 by_cases h4:4096<b.length
 ·have g4:((4096:Int)<b.length)=True:=eq_true (by omega)
  rw[show scanD b=([],0,4) by unfold scanD; rw[if_pos h4]]
  simp -implicitDefEqProofs only[go_sem,c18,hT,Nat.add_zero,g4,bXiaA0]
  exact DLe.tup (.cons (DLe.slice _ _) (.cons (DLe.refl _) (.cons (DLe.refl _) .nil)))
 have g4:((4096:Int)<b.length)=False:=eq_false (by omega)
 obtain⟨W,hW⟩:∃W,scanN b b.length 0=W:=⟨_,rfl⟩
 have hsd:scanD b=if W.2.2≠0 then([],W.2) else(W.1,0,0):=by unfold scanD; rw[if_neg h4,hW]
 rw[hsd]
 simp -implicitDefEqProofs only[go_sem,c18,hT,Nat.add_zero,g4,bXiaA0]
 refine loopL F18 (fun x:Nat×Nat×List Nat×Option Nat=>[(0,.slice o (rws eT b)),(5,grD 4 x.2.2.2 (rws eIn (insL b x.2.2.1))),(6,.int .i64 x.2.1)]) (fun x=>grS 4 x.2.2.1.length x.2.2.2 {})
  (fun x=>x.2.1≤b.length∧b.length≤x.2.1+x.1∧W.1=x.2.2.1++(scanN b x.1 x.2.1).1∧W.2=(scanN b x.1 x.2.1).2∧x.2.2.1.length≤x.2.1∧(x.2.2.2=none→x.2.2.1.length=0)) (fun x=>b.length-x.2.1) (b.length,0,[],none)
  ⟨Nat.zero_le _,by simp,by rw[hW]; rfl,by rw[hW],Nat.zero_le _,fun _=>rfl⟩ ?_ (St.le.refl _) ?_
 ·simp -implicitDefEqProofs only[go_sem,hT,Int.ofNat_zero]
  rfl
 clear hT T
 rintro⟨k,p,A,ob⟩ ⟨hp,hk,h1,h2,hlen,hok⟩ T hT
 simp only at hp hk h1 h2 hlen hok hT ⊢
 by_cases h:p<b.length
 case neg=>
  have g1:((p:Int)<b.length)=False:=eq_false (by omega)
  rw[scanN_end (by omega)] at h1 h2
  rw[h2,if_neg (by simp),h1,List.append_nil]
  simp -implicitDefEqProofs only[go_sem,hT,Nat.add_zero,g1,bXiaA0]
  exact DLe.tup (.cons grD_le (.cons (DLe.refl _) (.cons (DLe.refl _) .nil)))
 have g1:((p:Int)<b.length)=True:=eq_true (by omega)
 obtain⟨k,rfl⟩:∃k',k=k'+1:=⟨k-1,by omega⟩
 rw[scanN_step h] at h1 h2
 simp -implicitDefEqProofs only[go_sem,hT,Nat.add_zero,g1,bXiaA0]
 refine za3 (refDecode19 b o p hb (by omega)) ?_
 simp -implicitDefEqProofs only[go_sem,hT,Nat.add_zero,bXiaA0]
 intro b7 hb7
 by_cases hd:(decF b p).2=0
 case neg=>
  have gd:(((decF b p).2:Int)=0)=False:=eq_false (by omega)
  rw[if_pos hd] at h1 h2
  rw[h2,if_pos hd]
  simp -implicitDefEqProofs only[go_sem,hT,Nat.add_zero,gd,bXiaA0]
  exact DLe.tup (.cons (DLe.slice _ _) (.cons (DLe.refl _) (.cons (DLe.refl _) .nil)))
 have gd:(((decF b p).2:Int)=0)=True:=eq_true (by omega)
 rw[if_neg (by omega)] at h1 h2
 obtain⟨d1,d2,d3,d4⟩:=decF_ok hd
 have d3':1≤szA b p:=d3
 have d4':p+szA b p≤b.length:=d4
 have hi:(decF b p).1=insA b p:=rfl
 have hfz:∀i:Ins,(eIn i).map frz=eIn i:=fun i=>rfl
 simp -implicitDefEqProofs only[go_sem,hT,Nat.add_zero,gd,hi,hfz,bXiaA0]
 refine app_gr' Tryz.sli54 Tryz.sz67 Tryz.by67 Tryz.zero67 rfl (n:=A.length) (m:=1) (base:={}) (by rw[za1,insL,List.length_map]) rfl (le_add hb7) grN_nil hok (fun r hr=>by rw[List.mem_singleton.1 hr]; rfl) (by omega) fun o' σ' hbox hle hn hno=> ?_
 simp -implicitDefEqProofs only[go_sem,hT,hbox,Nat.add_zero,hi,bXiaA0]
 refine za3 (refSize74 _) ?_
 have w1:IntKind.wrap .i64 ((p:Int)+ze8 (insA b p).op.val)=((p+szA b p:Nat):Int):=by rw[zb7 (by omega) (by have:ze8 (insA b p).op.val=szA b p:=rfl; omega)]; simp
 simp -implicitDefEqProofs only[go_sem,hT,w1]
 have happ:rws eIn (insL b A)++[eIn (insA b p)]=rws eIn (insL b (A++[p])):=by simp[rws,insL]
 rw[happ]
 refine⟨(k,p+szA b p,A++[p],o'),⟨d4',by simp only; omega, ?_, ?_,by simp only[List.length_append,List.length_cons,List.length_nil]; omega,fun h=>by simpa using hno h⟩,by simp only; omega, ?_,by simpa using hle⟩
 ·rw[h1]; simp
 ·rw[h2]
 ·trivial
open Go.Proofs
def eCo (e:En) (loc:Int) (b:List Ty):List D:=[.slice .no (rws eC e.cs),.slice .no (rws eSg e.sgs),.int .i64 e.fn,.int .i64 loc,.slice .no (rws eT b)]
theorem eCo_len (e:En) (loc:Int) (b:List Ty):(eCo e loc b).length=5:=rfl
theorem zf9 (e:En) (loc:Int) (b:List Ty):(eCo e loc b).take 5=eCo e loc b:=rfl
theorem zf5 (e:En) (loc:Int) (b:List Ty):(eCo e loc b).take 3=eEn e:=rfl
theorem eCo_3 (e:En) (loc:Int) (b:List Ty):(eCo e loc b)[3]? =some (.int .i64 loc):=rfl
theorem eCo_4 (e:En) (loc:Int) (b:List Ty):(eCo e loc b)[4]? =some (.slice .no (rws eT b)):=rfl
theorem taken9 (e:En) (loc:Int) (b:List Ty) (hw:WideE e) (hb:b.length≤140737488355328):PCall Tryz.prog 9 [.agg (eCo e loc b)] (.bool (decide ((inferD e loc b).2.2=0))):=by
 have hinf:=infer26 e loc b .no hw hb
 generalize inferD e loc b=r at *
 refine F9.pcallM rfl fun T hT=> ?_
 simp -implicitDefEqProofs only[go_sem,c9,hT,eCo_len,zf9,zf5,eCo_3,eCo_4,zb8,zb2,gdD,Nat.add_zero,anD]
 intro b1
 refine za3 hinf ?_
 simp -implicitDefEqProofs only[go_sem,hT,eCo_len,zf9,zf5,eCo_3,eCo_4,zb8,zb2,gdD,Nat.add_zero,anD]
 exact zf3 (by rw[decide_eq_decide]; omega)
theorem placed68 (i:Ins):PCall Tryz.prog 68 [.agg (eIn i)] (.bool (placedB i)):=by
 refine F68.pcallM rfl fun T hT=> ?_
 simp -implicitDefEqProofs only[go_sem,mmB,c68,hT,zb3,za7,eIn_0,anD,gdD,Nat.add_zero]
 refine zf3 ?_
 rw[Bool.eq_iff_iff]
 simp[placedB]
def bXiaB0:=aI @zb3 (aI @za7 (aI @eIn_0 (aI @eIn_1 (aI @eIn_2 (aI @anD @gdD)))))
theorem next37 (i:Ins):PCall Tryz.prog 37 [.agg (eIn i)] (.slice .no (rws eI (nextI i))):=by
 refine F37.pcallM rfl fun T hT=> ?_
 simp -implicitDefEqProofs only[go_sem,c37,hT,Nat.add_zero,bXiaB0]
 intro b1
 refine za3 (refSize74 _) ?_
 by_cases hz:ze8 i.op.val=0
 ·have gz:((ze8 i.op.val:Int)=0)=True:=eq_true (by omega)
  rw[show nextI i=[] by unfold nextI; rw[if_pos (.inl hz)]]
  simp -implicitDefEqProofs only[go_sem,hT,Nat.add_zero,gz,bXiaB0]
  exact DLe.slice _ _
 have gz:((ze8 i.op.val:Int)=0)=False:=eq_false (by omega)
 simp -implicitDefEqProofs only[go_sem,hT,Nat.add_zero,gz,bXiaB0]
 refine za3 (placed68 i) ?_
 cases hp:placedB i with
 |false=>
  rw[show nextI i=[] by unfold nextI; rw[if_pos (.inr hp)]]
  simp -implicitDefEqProofs only[go_sem,hT,Nat.add_zero,bXiaB0]
  exact DLe.slice _ _
 |true=>
  have hpp:0≤i.pos∧i.pos<4096:=of_decide_eq_true hp
  have hs6:=sizeOp_le i.op.val
  have w1:IntKind.wrap .i64 (i.pos+(ze8 i.op.val:Int))=i.pos+ze8 i.op.val:=zb7 (by omega) (by omega)
  have hno:¬(ze8 i.op.val=0∨placedB i=false):=by
   rintro(h|h)
   ·exact hz h
   ·rw[hp] at h; cases h
  have hn:nextI i=(if jumpsB i.op.val=true then putI (if endsB i.op.val=false then putI [] (i.pos+ze8 i.op.val) else []) i.a else(if endsB i.op.val=false then putI [] (i.pos+ze8 i.op.val) else [])):=by
   unfold nextI; rw[if_neg hno]
  have pn:PCall Tryz.prog 43 [.slice .nil [],.int .i64 (i.pos+ze8 i.op.val)] (.slice .no (rws eI (putI [] (i.pos+ze8 i.op.val)))):=put65 [] _ .nil (by simp)
  have pj:PCall Tryz.prog 43 [.slice .nil [],.int .i64 i.a] (.slice .no (rws eI (putI [] i.a))):=put65 [] _ .nil (by simp)
  rw[hn]
  simp -implicitDefEqProofs only[go_sem,hT,Nat.add_zero,bXiaB0]
  refine za3 (refEnds41 _) ?_
  cases he:endsB i.op.val with
  |true=>
   simp -implicitDefEqProofs only[go_sem,hT,Nat.add_zero,bXiaB0]
   refine za3 (refJumps22 _) ?_
   cases hj:jumpsB i.op.val with
   |true=>
    simp -implicitDefEqProofs only[go_sem,hT,Nat.add_zero,bXiaB0]
    refine za3 pj ?_
    simp -implicitDefEqProofs only[go_sem,hT,Nat.add_zero,bXiaB0]
    done
   |false=>
    simp -implicitDefEqProofs only[go_sem,hT,Nat.add_zero,bXiaB0]
    exact DLe.slice _ _
  |false=>
   simp -implicitDefEqProofs only[go_sem,hT,Nat.add_zero,w1,bXiaB0]
   refine za3 pn ?_
   simp -implicitDefEqProofs only[go_sem,hT,Nat.add_zero,bXiaB0]
   refine za3 (refJumps22 _) ?_
   cases hj:jumpsB i.op.val with
   |true=>
    simp -implicitDefEqProofs only[go_sem,hT,Nat.add_zero,bXiaB0]
    refine za3 (put65 _ i.a .no (by simp[putI])) ?_
    simp -implicitDefEqProofs only[go_sem,hT,Nat.add_zero,bXiaB0]
    done
   |false=>
    simp -implicitDefEqProofs only[go_sem,hT,Nat.add_zero,bXiaB0]
open Go.Proofs
theorem infer10 (e:En) (loc:Int) (b:List Ty) (hw:WideE e) (hb:b.length≤140737488355328):
  PCall Tryz.prog 10 [.agg (eEn e),.int .i64 loc,.slice .no (rws eT b)] (.tup [.slice .no (rws eEy (inferD e loc b).1),.int .i64 (inferD e loc b).2.1,.int .i64 (inferD e loc b).2.2]):=by
 refine(infer41 e loc b hw hb).shut fun d s' ⟨o,ho,hd,hs⟩=> ?_
 generalize inferD e loc b=r at *
 subst hd
 cases o with
 |none=>
  have h0:r.1.length=0:=ho
  have h1:r.1=[]:=List.eq_nil_of_length_eq_zero h0
  refine .inl ⟨hs, ?_⟩
  rw[h1]
  exact DLe.tup (.cons (DLe.slice _ _) (.refl _))
 |some p=>
  obtain⟨_,h2,h3⟩:=ho
  refine .inr ⟨p.1,p.2,28,rws eEy r.1,List.replicate ((p.2-r.1.length)*28) .any,[.int .i64 r.2.1,.int .i64 r.2.2], ?_,hs,fun x hx=> ?_,by rw[za1]; exact h2,rfl⟩
  ·rw[za1]; rfl
  ·rw[rws,List.mem_map] at hx
   obtain⟨y,_,rfl⟩:=hx
   exact ze9 y
theorem nextI_len (i:Ins):(nextI i).length≤2:=by
 unfold nextI
 split
 ·simp
 ·simp only
  split
  ·split
   ·exact Nat.le_trans (putI_len _ _) (by simp[putI])
   ·exact Nat.le_trans (putI_len _ _) (by simp)
  ·split
   ·simp[putI]
   ·simp
open Go.Proofs
open Go.Proofs
end Go.AL
