import Derived.Test.YtobmoajkfbigkaaGreatPy
import Derived.Test.YtobmoajkfbigkaaGreatPo
import Derived.Test.YtobmoajkfbigkaaGreatPv
import Derived.Test.YtobmoajkfbigkaaGreatPr
import Derived.Test.YtobmoajkfbigkaaGreatPw
set_option linter.unusedSimpArgs false
set_option linter.unusedVariables false
set_option maxRecDepth 100000
set_option linter.defProp false
set_option maxHeartbeats 4000000
namespace Go.AL
open Go.Proofs Go.RowKit Go.Maps Go.WideElems Go.MapKept
def kyI:Ky→Int
 | .int _ n=>n
 | .str _=>0
def rdU (_:Value):Option (DataW Unit×List MemPlace):=some (.nil,[])
theorem ky_inj:∀{a b:Ky},a.v=b.v→a=b
 | .int k n,.int k' n',h=>by simp only[Ky.v,Value.int.injEq] at h; obtain⟨rfl,rfl⟩:=h; rfl
 | .str s,.str s',h=>by simp only[Ky.v,Value.string.injEq] at h; rw[h]
 | .int _ _,.str _,h=>by simp[Ky.v] at h
 | .str _,.int _ _,h=>by simp[Ky.v] at h
theorem own_map {M:MMap} {w:World} {b:Nat} {ks:List (Ky×Nat)} {vs:List D} {clock:Nat} (h:MpAt M w b (.map (some .i64) ks vs clock)) (hk:∀p∈ks,∃n,p.1=kyN n∧n≤5000) (hl:ks.length≤5000):
  ∃D0:DataW Unit,w.ownsMap Tryz.prog 3 rdU b 5000 D0∧Maps.size D0=ks.length∧(intKeys D0).Perm (ks.map fun p=>kyI p.1):=by
 obtain⟨_,x,hx,es,rfl,h1,h2,h3,h4,h5,h6,h7⟩:=h
 have hlen:es.toList.length=ks.length:=by have:=congrArg List.length h1; simpa using this
 have key:∀y∈es.toList,∃n:Nat,n≤5000∧y.key= .int .i64 (n:Int):=fun y hy=>by
  have:y.key∈ks.map (·.1.v):=by rw[←h1]; exact List.mem_map.2 ⟨y,hy,rfl⟩
  obtain⟨p,hp,he⟩:=List.mem_map.1 this
  obtain⟨n,hn,hle⟩:=hk p hp
  exact⟨n,hle,by rw[←he,hn]; rfl⟩
 have hrd:∀y∈es.toList,∃n:Nat,y.key= .int .i64 (n:Int)∧rd Tryz.prog 3 rdU y=some (.int .i64 (n:Int),.nil):=fun y hy=>by
  obtain⟨n,hn,he⟩:=key y hy
  refine⟨n,he, ?_⟩
  have hko:keyOf Tryz.prog 3 y.key=some (.int .i64 (n:Int)):=by
   rw[he]
   exact keyOf_int_mk under3 (by
    have e1:IntKind.min .i64= -9223372036854775808:=by decide
    have e2:IntKind.max .i64=9223372036854775807:=by decide
    simp only[Lit.wf,e1,e2,Bool.and_eq_true,decide_eq_true_eq]; omega)
  simp[rd,hko,rdU]
 have hmax:maxLen=9223372036854775807∨5000≤maxLen:= .inr (by decide)
 have hsz:es.size=ks.length:=by simpa using hlen
 refine⟨.map ((es.toList.map (WideElems.rg Tryz.prog 3 rdU)).foldr DataW.insert []),⟨es,clock,hx,⟨?_, ?_,fun y hy=> ?_⟩,by omega,rfl⟩, ?_, ?_⟩
 ·rw[hsz]; rcases hmax with h|h <;> omega
 ·rw[stamped_iff]
  refine⟨fun y hy=> ?_,by rw[h2]; exact h5, ?_⟩
  ·have:y.born∈ks.map (·.2):=by rw[←h2]; exact List.mem_map.2 ⟨y,hy,rfl⟩
   obtain⟨p,hp,he⟩:=List.mem_map.1 this
   rw[←he]; exact h6 p hp
  ·have:(es.toList.map (·.key)).Pairwise (· ≠ ·):=by
    rw[h1,List.pairwise_map]
    have hn:(ks.map (·.1)).Pairwise (· ≠ ·):=h4
    rw[List.pairwise_map] at hn
    exact hn.imp fun hne he=>hne (ky_inj he)
   rwa[List.pairwise_map] at this
 ·obtain⟨n,_,h⟩:=hrd y hy; exact⟨_,h⟩
 ·show List.length _=_
  rw[length_sorted,List.length_map,hlen]
 ·show(List.map (fun p:Lit×DataW Unit=>intOf p.1) _).Perm _
  refine((WideShapes.sorted_perm _).map _).trans ?_
  rw[List.map_map]
  have e1:es.toList.map ((fun p:Lit×DataW Unit=>intOf p.1)∘WideElems.rg Tryz.prog 3 rdU)=(es.toList.map (·.key)).map fun v=>match v with| .int _ n=>n|_=>0:=by
   rw[List.map_map]
   refine List.map_congr_left fun y hy=> ?_
   obtain⟨n,hn,hr⟩:=hrd y hy
   simp only[Function.comp,rg_of hr,hn,intOf]
  rw[e1,h1,List.map_map]
  refine List.Perm.of_eq (List.map_congr_left fun p hp=> ?_)
  obtain⟨n,hn,_⟩:=hk p hp
  simp[Function.comp,hn,kyN,Ky.v,kyI]
theorem sorted80 (s:St) (c b:Nat) (ks:List (Ky×Nat)) (vs:List D) (clock:Nat) (hc:s.box c=some [.map b]) (hb:s.mp b=some (.map (some .i64) ks vs clock)) (hk:∀p∈ks,∃n,p.1=kyN n∧n≤5000) (hl:ks.length≤5000):
  RCall Tryz.prog 80 [.func (.func 126) [] [.ptr c 0]] s fun d s'=>d= .slice .no ((sortZ (ks.map fun p=>kyI p.1)).map fun z=>[eZ z])∧s'=s:=by
 refine⟨⟨_,Tryz.func80,by kernel_rfl,rfl⟩,fun M w vs' hi hv=> ?_⟩
 obtain⟨v,vs2,rfl,⟨vf,vc,rfl,hf,hcap⟩,hv2⟩:=hv
 obtain rfl:vs2=[]:=hv2
 have hf:vf.toList=[]:=hf
 obtain⟨pv,pr,hp1,hp2,hp3⟩:=hcap
 obtain rfl:pr=[]:=hp3
 have hp2:pv= .pointer (some ⟨c,0,none⟩):=hp2
 obtain rfl:vf= #[]:=by simpa using hf
 obtain rfl:vc= #[.pointer (some ⟨c,0,none⟩)]:=by
  apply Array.toList_inj.1; rw[hp1,hp2]
 obtain⟨hM,cc,e,hheap,hrep,hone⟩:=hi.box c _ hc
 obtain⟨v1,r1,hr1,hr2,hr3⟩:=hrep
 obtain rfl:r1=[]:=hr3
 have hr2:v1= .map (some b):=hr2
 have hcell:w.cell? ⟨c,0,none⟩=some (.map (some b)):=by
  refine cell_of hheap ?_
  rw[←Array.getElem?_toList,hr1,hr2]; rfl
 obtain⟨D0,o1,o2,o3⟩:=own_map (hi.mp b _ hb) hk hl
 have hmax:5000≤maxLen:=by decide
 refine(sortedK c b 5000 D0 rdU w hcell (heap_lt hheap) o1 (by omega) (by omega)).mono fun ev w' ⟨v,ss,he,hp,hown,hnil,hbel⟩=> ?_
 subst he
 obtain⟨k1,k2⟩:=below_keep hi hbel
 refine⟨M,s,.ret _,⟨v,rfl, ?_⟩,k1,k2,_,rfl,rfl,rfl⟩
 have hss:ss.mergeSort (fun x y=>decide (x≤y))=sortZ (ks.map fun p=>kyI p.1):=mergeSort_of_perm_i (hp.trans o3)
 rw[hss] at hown
 have hlen:(sortZ (ks.map fun p=>kyI p.1)).length=ss.length:=by rw[←hss,List.length_mergeSort]
 generalize sortZ (ks.map fun p=>kyI p.1)=zs at hown hlen
 obtain⟨ho1,ho2⟩:=hown
 rcases ho2 with⟨rfl,h0⟩|⟨g,cap,cur,rfl,hg,hcur,hle,hcm,hcs,htake⟩
 ·refine .inl ⟨rfl, ?_⟩
  rw[h0] at hlen
  rw[List.eq_nil_of_length_eq_zero hlen]; rfl
 ·refine .inr (.inl ⟨g,0,cap,1,by simp[hlen],by simpa[hlen] using hle, ?_⟩)
  have hMg:M g=none:=by
   cases hm:M g with
   |none=>rfl
   |some x=>have:=hi.dom g (by rw[hm]; simp); omega
  refine RepRows.mk fun i r hr=> ?_
  rw[List.getElem?_map] at hr
  cases hz:zs[i]? with
  |none=>rw[hz] at hr; simp at hr
  |some z=>
   rw[hz] at hr
   simp only[Option.map_some,Option.some.injEq] at hr
   subst hr
   refine⟨rfl,RepCells.mk fun j d hd=> ?_⟩
   cases j with
   |succ j=>simp at hd
   |zero=>
    simp only[List.getElem?_cons_zero,Option.some.injEq] at hd
    subst hd
    refine⟨encZ z, ?_,rfl,by simp[ImmAt,hMg],rfl⟩
    have h1:(cur.toList.take (ss.length*1))[i]? =some (encZ z):=by rw[htake,List.getElem?_map,hz]; rfl
    rw[List.getElem?_take] at h1
    split at h1
    ·refine cell_of hcur ?_
     rw[←Array.getElem?_toList]
     simpa using h1
    ·cases h1
open Go.Proofs
theorem least_neg {l:List Bool} (h:leastD l<0) (x:Nat):(l[x]?).getD false=false:=by
 unfold leastD at h
 split at h
 ·omega
 ·rename_i hn
  rw[List.findIdx?_eq_none_iff] at hn
  cases hx:l[x]? with
  |none=>rfl
  |some v=>exact hn v (List.mem_of_getElem? hx)
theorem goD_ind {e:En} {b:List Ty} {I:IS→Prop} (hI:∀(s:IS) (a:Nat),s.sz (b.length+1)→FH s→I s→a≤b.length→(s.fresh[a]?).getD false=true→leastD s.fresh=a→(roundD e b s a).2.2=0→I (roundD e b s a).1):
  ∀(k:Nat) (s:IS),s.sz (b.length+1)→FH s→muS e.cs s (b.length+1)<k→I s→(goD e b k s (leastD s.fresh)).2.2=0→
   ∃r:IS,goD e b k s (leastD s.fresh)=(r,0,0)∧r.sz (b.length+1)∧FH r∧I r∧∀x:Nat,(r.fresh[x]?).getD false=false
 |0,s,_,_,hk,_,_=>absurd hk (Nat.not_lt_zero _)
 |k+1,s,hs,hf,hk,hi,h=>by
  rw[goD] at h ⊢
  by_cases h0:leastD s.fresh<0
  ·rw[if_pos h0]
   exact⟨s,rfl,hs,hf,hi,least_neg h0⟩
  ·rw[if_neg h0] at h ⊢
   obtain⟨a,ha⟩:∃a:Nat,leastD s.fresh=a:=⟨_,(Int.toNat_of_nonneg (by omega)).symm⟩
   obtain⟨h1,h2⟩:=least_in ha (by omega)
   rw[Int.toNat_natCast] at h1 h2
   rw[hs.c] at h1
   rw[ha,Int.toNat_natCast] at h ⊢
   have hal:a≤b.length:=by omega
   by_cases hr:(roundD e b s a).2.2=0
   ·have hr':¬(roundD e b s a).2.2≠0:=fun h=>h hr
    rw[if_neg hr'] at h ⊢
    obtain⟨_,_,_,_,_,_,r6,_,_⟩:=round_shape (e:=e) hs hal
    exact goD_ind hI k _ r6 (round_FH hf hs hal) (Nat.lt_of_lt_of_le (round_falls (e:=e) hs hal h2) (Nat.le_of_lt_succ hk)) (hI s a hs hf hi hal h2 ha hr) h
   ·rw[if_pos hr] at h; exact absurd h hr
theorem is0_sz {n:Nat} {f:Fr}:(is0 n f).sz (n+1):=⟨by simp[is0],by simp[is0],by simp[is0],by simp[is0]⟩
theorem is0_FH {n:Nat} {f:Fr}:FH (is0 n f):=fun x hx=>hx
theorem is0_has {n:Nat} {f:Fr} {x:Nat}:((is0 n f).has[x]?).getD false=decide (x=0):=by
 simp only[is0]
 rw[set_at (by simp)]
 by_cases hx:x=0
 ·rw[if_pos hx]; simp[hx]
 ·rw[if_neg hx,List.getElem?_replicate]; split <;> simp[hx]
theorem is0_fr {n:Nat} {f:Fr}:((is0 n f).fr[0]?).getD (fr0 0)=f:=by
 simp only[is0]
 rw[set_at (by simp),if_pos rfl]
theorem is0_least {n:Nat} {f:Fr}:leastD (is0 n f).fresh=((0:Nat):Int):=least_at (by simp[is0]) (by simp[is0]) (fun j hj=>by omega)
theorem is0_mu {l:List Cl} {n:Nat} {f:Fr}:muS l (is0 n f) (n+1)<fuelD n:=by
 have:=muS_le (l:=l) (s:=is0 n f) (m:=n+1)
 unfold fuelD
 rw[show n+1+1=n+2 from rfl] at this
 generalize (n+1)*6145*(n+2)=P at *
 omega
theorem gone_ind {e:En} {loc:Int} {b:List Ty} {I:IS→Prop} (hI:∀(s:IS) (a:Nat),s.sz (b.length+1)→FH s→I s→a≤b.length→(s.fresh[a]?).getD false=true→leastD s.fresh=a→(roundD e b s a).2.2=0→I (roundD e b s a).1)
  (h0:I (is0 b.length (startF e.cs.length (psOf e) loc).1)) (h:(goneD e loc b).2.2=0):
  ∃r:IS,goneD e loc b=(r,0,0)∧r.sz (b.length+1)∧FH r∧I r∧∀x:Nat,(r.fresh[x]?).getD false=false:=by
 have hl:(0:Int)=leastD (is0 b.length (startF e.cs.length (psOf e) loc).1).fresh:=is0_least.symm
 unfold goneD at h ⊢
 rw[hl] at h ⊢
 exact goD_ind hI _ _ is0_sz is0_FH is0_mu h0 h
def EndI (n:Nat) (s:IS):Prop:=(s.has[n]?).getD false=true→(s.fresh[n]?).getD false=true
theorem hand_end {l:List Cl} {s:IS} {m a n:Nat} {g:Fr} (h:EndI n s) (hs:s.sz m) (ha:a<m):EndI n (handD l s a g).1:=by
 unfold handD
 split
 ·intro hx
  simp only at hx ⊢
  rw[set_at (by rw[hs.c]; omega)]
  rw[set_at (by rw[hs.a]; omega)] at hx
  by_cases he:n=a
  ·rw[if_pos he]
  ·rw[if_neg he] at hx ⊢; exact h hx
 split
 ·exact h
 split
 ·intro hx
  simp only at hx ⊢
  rw[set_at (by rw[hs.c]; omega)]
  by_cases he:n=a
  ·rw[if_pos he]
  ·rw[if_neg he]; exact h hx
 ·exact h
theorem hands_end {l:List Cl} {m n:Nat} {g:Fr}:∀{to:List Int} {s:IS},EndI n s→s.sz m→(∀x∈to,0≤x∧x<m)→EndI n (handsD l g to s).1
 |[],s,h,_,_=>h
 |a::r,s,h,hs,ht=>by
  have h1:=hand_end (l:=l) (g:=g) h hs (show a.toNat<m by have:=ht a (List.mem_cons_self ..); omega)
  rw[handsD]
  split
  ·exact h1
  ·exact hands_end h1 (hand_sz hs) fun x hx=>ht x (List.mem_cons_of_mem _ hx)
theorem round_ok {e:En} {b:List Ty} {s:IS} {a:Nat} (h:(roundD e b s a).2.2=0):
  a≠b.length∧(decF b a).2=0∧overB s.tk a (zf3 (decF b a).1.op.val)=false∧(applyR e ((s.fr[a]?).getD (fr0 0)) (decF b a).1).2=0∧(onD (decF b a).1 b.length).2=0∧
   roundD e b s a=handsD e.cs (applyR e ((s.fr[a]?).getD (fr0 0)) (decF b a).1).1 (onD (decF b a).1 b.length).1 ⟨s.has,s.fr,s.fresh.set a false,s.tk.set a (zf3 (decF b a).1.op.val)⟩:=by
 by_cases g1:a=b.length
 ·unfold roundD at h; rw[if_pos g1] at h; cases h
 by_cases g2:(decF b a).2=0
 case neg=>unfold roundD at h; rw[if_neg g1,if_pos g2] at h; exact absurd h g2
 have q2:¬(decF b a).2≠0:=fun h=>h g2
 cases g3:overB s.tk a (zf3 (decF b a).1.op.val)
 case true=>unfold roundD at h; rw[if_neg g1,if_neg q2,if_pos g3] at h; cases h
 have q3:¬overB s.tk a (zf3 (decF b a).1.op.val)=true:=by rw[g3]; simp
 by_cases g4:(applyR e ((s.fr[a]?).getD (fr0 0)) (decF b a).1).2=0
 case neg=>unfold roundD at h; rw[if_neg g1,if_neg q2,if_neg q3] at h; simp only at h; rw[if_pos g4] at h; exact absurd h g4
 have q4:¬(applyR e ((s.fr[a]?).getD (fr0 0)) (decF b a).1).2≠0:=fun h=>h g4
 by_cases g5:(onD (decF b a).1 b.length).2=0
 case neg=>unfold roundD at h; rw[if_neg g1,if_neg q2,if_neg q3] at h; simp only at h; rw[if_neg q4,if_pos g5] at h; exact absurd h g5
 have q5:¬(onD (decF b a).1 b.length).2≠0:=fun h=>h g5
 refine⟨g1,g2,rfl,g4,g5, ?_⟩
 unfold roundD; rw[if_neg g1,if_neg q2,if_neg q3]; simp only; rw[if_neg q4,if_neg q5]
theorem round_end {e:En} {b:List Ty} {s:IS} {a:Nat} (hi:EndI b.length s) (hs:s.sz (b.length+1)) (ha:a≤b.length) (h:(roundD e b s a).2.2=0):EndI b.length (roundD e b s a).1:=by
 obtain⟨h1,h2,h3,h4,h5,h6⟩:=round_ok h
 rw[h6]
 refine hands_end (m:=b.length+1) ?_ ⟨hs.a,hs.b,by simpa using hs.c,by simpa using hs.d⟩ fun x hx=>by have:=on_in h2 hx; omega
 intro hx
 simp only
 rw[set_at (by rw[hs.c]; omega),if_neg (Ne.symm h1)]
 exact hi hx
theorem gone_end {e:En} {loc:Int} {b:List Ty} (h:(goneD e loc b).2.2=0):((goneD e loc b).1.has[b.length]?).getD false=false:=by
 obtain⟨r,h1,h2,h3,h4,h5⟩:=gone_ind (I:=EndI b.length) (fun s a hs hf hi ha _ _ hr=>round_end hi hs ha hr) (fun hx=>by
  have h0:=hx; rw[is0_has] at h0; simp only[decide_eq_true_eq] at h0
  simp[is0,h0]) h
 rw[h1]
 cases hx:(r.has[b.length]?).getD false with
 |false=>rfl
 |true=>have:=h4 hx; rw[h5] at this; cases this
open Go.Proofs
theorem filterMap_if {α β:Type} {p:α→Bool} {g:α→β}:∀l:List α,(l.filterMap fun a=>if p a=true then some (g a) else none)=(l.filter p).map g
 |[]=>rfl
 |a::l=>by
  rw[List.filterMap_cons,List.filter_cons,filterMap_if l]
  cases p a <;> simp
def adrs (s:IS) (n:Nat):List Nat:=(List.range n).filter fun a=>(s.has[a]?).getD false
theorem ents_adrs (s:IS) (n:Nat):entsD s n=(adrs s n).map fun a:Nat=>(⟨(a:Int),false,(s.fr[a]?).getD (fr0 0)⟩:Ey):=by
 unfold entsD adrs
 rw[←filterMap_if]
theorem sort_sorted {l:List Int} (h:l.Pairwise (· ≤ ·)):sortZ l=l:=by
 unfold sortZ
 exact List.mergeSort_of_pairwise (h.imp fun h=>by simpa using h)
theorem keys_adrs {b:List Ty} {s:IS} {p:RS} {ks:List (Ky×Nat)} {vs:List D} {c:Nat} (hal:Alike b s p) (hm:MapR dF p.ff ks vs c) (hsz:s.sz (b.length+1)) (hend:(s.has[b.length]?).getD false=false):
  sortZ (ks.map fun p=>kyI p.1)=(adrs s b.length).map fun n:Nat=>(n:Int):=by
 have hmem:∀x:Nat,(s.has[x]?).getD false=true↔∃q∈ks,q.1=kyN x:=fun x=>by
  have hx:=hal.f x
  constructor
  ·intro hf
   rw[if_pos hf] at hx
   obtain⟨j,h1,_⟩:=hm.yes x _ hx
   obtain⟨t,ht⟩:=kf_some h1
   exact⟨_,List.mem_of_getElem? ht,rfl⟩
  ·rintro⟨q,hq,he⟩
   refine Classical.byContradiction fun hc=> ?_
   rw[if_neg hc] at hx
   exact kf_none (hm.no x hx) q hq he
 have hsorted:((adrs s b.length).map fun n:Nat=>(n:Int)).Pairwise (· ≤ ·):=by
  rw[List.pairwise_map]
  exact(List.Pairwise.filter _ List.pairwise_lt_range).imp fun h=>by omega
 rw[←sort_sorted hsorted]
 refine mergeSort_of_perm_i ((List.perm_ext_iff_of_nodup ?_ ?_).2 fun z=> ?_)
 ·have hn:=hm.nod
  have:ks.map (fun p=>kyI p.1)=(ks.map (·.1)).map kyI:=by rw[List.map_map]; rfl
  rw[this]
  refine List.pairwise_map.2 (List.Pairwise.imp_of_mem (R:=(· ≠ ·)) ?_ hn)
  intro x y hx hy hne he
  obtain⟨px,hpx,rfl⟩:=List.mem_map.1 hx
  obtain⟨py,hpy,rfl⟩:=List.mem_map.1 hy
  obtain⟨n,hn⟩:=hm.key px hpx
  obtain⟨m,hm⟩:=hm.key py hpy
  rw[hn,hm] at he hne
  simp only[kyN,kyI] at he
  exact hne (by simp only[kyN]; rw[he])
 ·refine List.pairwise_map.2 ((List.Pairwise.filter _ List.pairwise_lt_range).imp fun h he=>by omega)
 ·simp only[List.mem_map,adrs,List.mem_filter,List.mem_range]
  constructor
  ·rintro⟨q,hq,rfl⟩
   obtain⟨n,hn⟩:=hm.key q hq
   have hh:=(hmem n).2 ⟨q,hq,hn⟩
   have hlt:n<b.length:=by
    have h1:n<s.has.length:=Classical.byContradiction fun hc=>by rw[List.getElem?_eq_none (by omega)] at hh; cases hh
    rw[hsz.a] at h1
    have h2:n≠b.length:=fun he=>by rw[he,hend] at hh; cases hh
    omega
   exact⟨n,⟨hlt,hh⟩,by rw[hn]; rfl⟩
  ·rintro⟨n,⟨_,hh⟩,rfl⟩
   obtain⟨q,hq,he⟩:=(hmem n).1 hh
   exact⟨q,hq,by rw[he]; rfl⟩
theorem callB_new2 {P:Program} {N:Nat} {T:Env} {σ:St} {K:Env→St→Prop} {Q:XA→Env→St→Prop} {dst:Option Nat} {g:FuncId} {ds:List D} {R:D→St→Prop} (h:RCall P g ds {} R)
  (hk:∀d s',R d s'→∀τ,St.le s' τ→St.le σ τ→putK N dst d K T τ):callB P N [] false dst g ds K Q T σ:=by
 refine⟨{},σ,_,.pure σ,fun b hb=>(by cases hb),h,fun h=>(by cases h),fun x s' ⟨d,hx,hR⟩ hap _=> ?_⟩
 subst hx
 exact hk d s' hR _ ⟨fun x cs h=>by simp[St.join,h],fun x p h=>by simp[St.join,h],fun x o h=>by simp[St.join,h]⟩ (le_join hap)
open Go.Proofs
theorem SubF.refl {l:List Cl} {f:Fr} (h:checkF l.length f=0):SubF l f f:=⟨h,h,rfl,rfl,fun i hi=>subB_refl ((checkF_iff.1 h).2.2 i hi)⟩
theorem SubF.trans {l:List Cl} {f g k:Fr} (h:SubF l f g) (h':SubF l g k):SubF l f k:=⟨h.ca,h'.cb,h.loc.trans h'.loc,h.h.trans h'.h,fun i hi=>subB_trans (h.sl i hi) (h'.sl i hi)⟩
theorem mergeF_ok {l:List Cl} {f g:Fr} (h:(mergeF l f g).2=0):alikeF l.length f g=0∧mergeF l f g=(mgAt l f g (f.loc+f.h).toNat,0):=by
 unfold mergeF at h ⊢
 by_cases h0:alikeF l.length f g=0
 ·exact⟨h0,by rw[if_neg (by omega)]⟩
 ·rw[if_pos h0] at h; exact absurd h h0
theorem mergeF_up {l:List Cl} {f g:Fr} (h:(mergeF l f g).2=0):SubF l f (mergeF l f g).1∧SubF l g (mergeF l f g).1∧∀u,SubF l f u→SubF l g u→SubF l (mergeF l f g).1 u:=by
 obtain⟨h0,h1⟩:=mergeF_ok h
 rw[h1]
 simp only
 obtain⟨ca,cb,hloc,hh⟩:=alike_zero h0
 obtain⟨a1,a2,a3⟩:=checkF_iff.1 ca
 obtain⟨b1,b2,b3⟩:=checkF_iff.1 cb
 obtain⟨s1,s2,s3,s4⟩:=shaped_of a1
 have h24:(f.loc+f.h).toNat≤24:=by omega
 obtain⟨m1,m2⟩:=mgAt_loc (l:=l) (a:=f) (b:=g) (f.loc+f.h).toNat
 have msl:=fun i hi=>mgAt_sl (l:=l) (a:=f) (b:=g) (f.loc+f.h).toNat h24 i hi
 have out:∀k:Fr,bareF k=k→k.loc=f.loc→k.h=f.h→∀i,i<24→¬i<(f.loc+f.h).toNat→slAt k i=0:=fun k hb hl hk i hi hn=>by
  rw[←hb,slAt_bare k hi,if_neg (by omega)]
 generalize mgAt l f g (f.loc+f.h).toNat=m at m1 m2 msl
 have cm:checkF l.length m=0:=by
  refine checkF_iff.2 ⟨?_,fr_ext ?_ ?_ fun i hi=> ?_,fun i hi=> ?_⟩
  ·simp only[shapedB,m1,m2]; simpa[shapedB] using a1
  ·exact bare_loc _
  ·exact bare_h _
  ·rw[slAt_bare m hi,m1,m2]
   by_cases hc:(i:Int)<f.loc+f.h
   ·rw[if_pos hc]
   ·rw[if_neg hc,msl i hi,if_neg (by omega),out f a2 rfl rfl i hi (by omega)]
  ·rw[msl i hi]
   split
   ·exact merge_valid _ _
   ·exact a3 i hi
 refine⟨⟨ca,cm,m1.symm,m2.symm,fun i hi=> ?_⟩,⟨cb,cm,by omega,by omega,fun i hi=> ?_⟩,fun u h1 h2=>⟨cm,h1.cb,m1.trans h1.loc,m2.trans h1.h,fun i hi=> ?_⟩⟩
 ·rw[msl i hi]
  split
  ·exact(merge_up (a3 i hi) (b3 i hi)).1
  ·exact subB_refl (a3 i hi)
 ·rw[msl i hi]
  split
  ·exact(merge_up (a3 i hi) (b3 i hi)).2.1
  ·rename_i hn
   rw[out f a2 rfl rfl i hi hn,out g b2 hloc.symm hh.symm i hi hn]; exact subB_zero l
 ·rw[msl i hi]
  split
  ·exact(merge_up (a3 i hi) (b3 i hi)).2.2 _ (h1.sl i hi) (h2.sl i hi)
  ·exact h1.sl i hi
theorem mergeF_can {l:List Cl} {f g u:Fr} (h1:SubF l f u) (h2:SubF l g u):(mergeF l f g).2=0:=by
 unfold mergeF
 have:=alike_of h1.ca h2.ca (h1.loc.trans h2.loc.symm) (h1.h.trans h2.h.symm)
 rw[if_neg (by omega)]
def hasP (s:IS) (x:Nat):Prop:=(s.has[x]?).getD false=true
def newP (s:IS) (x:Nat):Prop:=(s.fresh[x]?).getD false=true
def frA (s:IS) (x:Nat):Fr:=(s.fr[x]?).getD (fr0 0)
structure Handed (l:List Cl) (g:Fr) (T:List Nat) (s s':IS):Prop where
 has:∀x,hasP s' x↔hasP s x∨x∈T
 old:∀x,hasP s' x→¬newP s' x→hasP s x∧¬newP s x∧frA s' x=frA s x
 up:∀x,hasP s x→frA s' x=frA s x∨SubF l (frA s x) (frA s' x)
 got:∀x∈T,SubF l g (frA s' x)
 least:∀F:Nat→Fr,(∀x,hasP s x→SubF l (frA s x) (F x))→(∀x∈T,SubF l g (F x))→∀x,hasP s' x→SubF l (frA s' x) (F x)
theorem Handed.nil {l:List Cl} {g:Fr} {s:IS}:Handed l g [] s s:=⟨fun x=>by simp,fun x h1 h2=>⟨h1,h2,rfl⟩,fun x _=> .inl rfl,fun x h=>(by cases h),fun F h _ x hx=>h x hx⟩
theorem Handed.trans {l:List Cl} {g:Fr} {T T':List Nat} {s s1 s2:IS} (h:Handed l g T s s1) (h':Handed l g T' s1 s2):Handed l g (T++T') s s2:=by
 refine⟨fun x=> ?_,fun x h1 h2=> ?_,fun x hx=> ?_,fun x hx=> ?_,fun F h1 h2 x hx=> ?_⟩
 ·rw[h'.has,h.has,List.mem_append,or_assoc]
 ·obtain⟨a1,a2,a3⟩:=h'.old x h1 h2
  obtain⟨b1,b2,b3⟩:=h.old x a1 a2
  exact⟨b1,b2,a3.trans b3⟩
 ·rcases h.up x hx with h3|h3 <;> rcases h'.up x ((h.has x).2 (.inl hx)) with h4|h4
  ·exact .inl (h4.trans h3)
  ·exact .inr (h3▸h4)
  ·exact .inr (h4▸h3)
  ·exact .inr (h3.trans h4)
 ·rcases List.mem_append.1 hx with hx|hx
  ·rcases h'.up x ((h.has x).2 (.inr hx)) with h4|h4
   ·rw[h4]; exact h.got x hx
   ·exact(h.got x hx).trans h4
  ·exact h'.got x hx
 ·exact h'.least F (h.least F h1 fun y hy=>h2 y (List.mem_append_left _ hy)) (fun y hy=>h2 y (List.mem_append_right _ hy)) x hx
theorem hand_handed {l:List Cl} {s:IS} {m a:Nat} {g:Fr} (hs:s.sz m) (ha:a<m) (hg:checkF l.length g=0) (h:(handD l s a g).2=0):Handed l g [a] s (handD l s a g).1:=by
 have hla:a<s.has.length:=by rw[hs.a]; omega
 have hlb:a<s.fr.length:=by rw[hs.b]; omega
 have hlc:a<s.fresh.length:=by rw[hs.c]; omega
 unfold handD at h ⊢
 by_cases g1:(s.has[a]?).getD false=false
 ·rw[if_pos g1]
  have e1:∀x,hasP ⟨s.has.set a true,s.fr.set a g,s.fresh.set a true,s.tk⟩ x↔x=a∨hasP s x:=fun x=>by
   simp only[hasP]; rw[set_at hla]; split <;> simp_all
  have e2:∀x,newP ⟨s.has.set a true,s.fr.set a g,s.fresh.set a true,s.tk⟩ x↔x=a∨newP s x:=fun x=>by
   simp only[newP]; rw[set_at hlc]; split <;> simp_all
  have e3:∀x,frA ⟨s.has.set a true,s.fr.set a g,s.fresh.set a true,s.tk⟩ x=if x=a then g else frA s x:=fun x=>by
   simp only[frA]; rw[set_at hlb]
  have hna:∀x,hasP s x→x≠a:=fun x hx he=>by rw[he] at hx; unfold hasP at hx; rw[g1] at hx; cases hx
  refine⟨fun x=>by rw[e1]; simp[or_comm],fun x h1 h2=> ?_,fun x hx=> ?_,fun x hx=> ?_,fun F h1 h2 x hx=> ?_⟩
  ·rw[e2,not_or] at h2
   rw[e1] at h1
   rw[e3,if_neg h2.1]
   exact⟨h1.resolve_left h2.1,h2.2,rfl⟩
  ·rw[e3,if_neg (hna x hx)]; exact .inl rfl
  ·have:x=a:=by simpa using hx
   rw[e3,if_pos this]; exact SubF.refl hg
  ·rw[e3]
   by_cases he:x=a
   ·rw[if_pos he]; exact h2 x (by simp[he])
   ·rw[if_neg he]; exact h1 x (((e1 x).1 hx).resolve_left he)
 rw[if_neg g1] at h ⊢
 have hsa:hasP s a:=by unfold hasP; simpa using g1
 by_cases g2:(mergeF l ((s.fr[a]?).getD (fr0 0)) g).2=0
 case neg=>rw[if_pos g2] at h; exact absurd h g2
 have g2':¬(mergeF l ((s.fr[a]?).getD (fr0 0)) g).2≠0:=fun h=>h g2
 rw[if_neg g2'] at h ⊢
 obtain⟨u1,u2,u3⟩:=mergeF_up g2
 by_cases g3:(mergeF l ((s.fr[a]?).getD (fr0 0)) g).1=(s.fr[a]?).getD (fr0 0)
 ·have g3':¬(mergeF l ((s.fr[a]?).getD (fr0 0)) g).1≠(s.fr[a]?).getD (fr0 0):=fun h=>h g3
  rw[if_neg g3']
  refine⟨fun x=> ?_,fun x h1 h2=>⟨h1,h2,rfl⟩,fun x _=> .inl rfl,fun x hx=> ?_,fun F h1 _ x hx=>h1 x hx⟩
  ·constructor
   ·exact .inl
   ·rintro(h|h)
    ·exact h
    ·rw[show x=a by simpa using h]; exact hsa
  ·rw[show x=a by simpa using hx]
   show SubF l g ((s.fr[a]?).getD (fr0 0))
   rw[←g3]; exact u2
 ·rw[if_pos g3]
  generalize (mergeF l ((s.fr[a]?).getD (fr0 0)) g).1=M at u1 u2 u3 g3
  have e2:∀x,newP ⟨s.has,s.fr.set a M,s.fresh.set a true,s.tk⟩ x↔x=a∨newP s x:=fun x=>by
   simp only[newP]; rw[set_at hlc]; split <;> simp_all
  have e3:∀x,frA ⟨s.has,s.fr.set a M,s.fresh.set a true,s.tk⟩ x=if x=a then M else frA s x:=fun x=>by
   simp only[frA]; rw[set_at hlb]
  refine⟨fun x=> ?_,fun x h1 h2=> ?_,fun x hx=> ?_,fun x hx=> ?_,fun F h1 h2 x hx=> ?_⟩
  ·constructor
   ·exact .inl
   ·rintro(h|h)
    ·exact h
    ·rw[show x=a by simpa using h]; exact hsa
  ·rw[e2,not_or] at h2
   rw[e3,if_neg h2.1]
   exact⟨h1,h2.2,rfl⟩
  ·rw[e3]
   by_cases he:x=a
   ·subst he; rw[if_pos rfl]; exact .inr u1
   ·rw[if_neg he]; exact .inl rfl
  ·rw[e3,if_pos (show x=a by simpa using hx)]; exact u2
  ·rw[e3]
   by_cases he:x=a
   ·subst he; rw[if_pos rfl]; exact u3 _ (h1 x hx) (h2 x (by simp))
   ·rw[if_neg he]; exact h1 x hx
theorem hands_handed {l:List Cl} {m:Nat} {g:Fr} (hg:checkF l.length g=0):∀{to:List Int} {s:IS},s.sz m→(∀x∈to,0≤x∧x<m)→(handsD l g to s).2.2=0→Handed l g (to.map Int.toNat) s (handsD l g to s).1
 |[],s,_,_,_=> .nil
 |a::r,s,hs,ht,h=>by
  have ha:=ht a (List.mem_cons_self ..)
  rw[handsD] at h ⊢
  by_cases h0:(handD l s a.toNat g).2=0
  case neg=>rw[if_pos h0] at h; exact absurd h h0
  have h0':¬(handD l s a.toNat g).2≠0:=fun h=>h h0
  rw[if_neg h0'] at h ⊢
  exact(hand_handed hs (by omega) hg h0).trans (hands_handed hg (hand_sz hs) (fun x hx=>ht x (List.mem_cons_of_mem _ hx)) h)
def nextN (b:List Ty) (a:Nat):List Nat:=(onD (decF b a).1 b.length).1.map Int.toNat
def insA (b:List Ty) (a:Nat):Ins:=(decF b a).1
abbrev szA (b:List Ty) (x:Nat):Nat:=zf3 (insA b x).op.val
def behA (e:En) (b:List Ty) (s:IS) (a:Nat):Fr:=(applyR e (frA s a) (insA b a)).1
theorem round_handed {e:En} {b:List Ty} {s:IS} {a:Nat} (hw:WideE e) (hs:s.sz (b.length+1)) (ha:a≤b.length) (h:(roundD e b s a).2.2=0):
  Handed e.cs (behA e b s a) (nextN b a) ⟨s.has,s.fr,s.fresh.set a false,s.tk.set a (zf3 (decF b a).1.op.val)⟩ (roundD e b s a).1:=by
 obtain⟨h1,h2,h3,h4,h5,h6⟩:=round_ok h
 rw[h6] at h ⊢
 exact hands_handed (done_check hw (done_iff.1 h4)) ⟨hs.a,hs.b,by simpa using hs.c,by simpa using hs.d⟩ (fun x hx=>by have:=on_in h2 hx; omega) h
def FixI (e:En) (b:List Ty) (s:IS):Prop:=∀x,hasP s x→¬newP s x→x≠b.length∧(decF b x).2=0∧(applyR e (frA s x) (insA b x)).2=0∧(onD (decF b x).1 b.length).2=0∧∀y∈nextN b x,hasP s y∧SubF e.cs (behA e b s x) (frA s y)
theorem round_fix {e:En} {b:List Ty} {s:IS} {a:Nat} (hw:WideE e) (hs:s.sz (b.length+1)) (ha:a≤b.length) (hn:newP s a) (hi:FixI e b s) (hf:FH s) (h:(roundD e b s a).2.2=0):FixI e b (roundD e b s a).1:=by
 have H:=round_handed hw hs ha h
 obtain⟨h1,h2,h3,h4,h5,h6⟩:=round_ok h
 have lc:a<s.fresh.length:=by rw[hs.c]; omega
 generalize (roundD e b s a).1=s' at H
 intro x hx hnx
 obtain⟨o1,o2,o3⟩:=H.old x hx hnx
 have o1:hasP s x:=o1
 have o3:frA s' x=frA s x:=o3
 have hb:behA e b s' x=behA e b s x:=by unfold behA; rw[o3]
 have up:∀y g,hasP s y→SubF e.cs g (frA s y)→hasP s' y∧SubF e.cs g (frA s' y):=fun y g hy hg=>⟨(H.has y).2 (.inl hy),by
  rcases H.up y hy with h|h
  ·rw[h]; exact hg
  ·exact hg.trans h⟩
 rw[hb,o3]
 by_cases he:x=a
 ·subst he
  exact⟨h1,h2,h4,h5,fun y hy=>⟨(H.has y).2 (.inr hy),H.got y hy⟩⟩
 ·have hnn:¬newP s x:=fun hc=>o2 (by
   unfold newP at hc ⊢
   simp only
   rw[set_at lc,if_neg he]; exact hc)
  obtain⟨i1,i2,i3,i4,i5⟩:=hi x o1 hnn
  exact⟨i1,i2,i3,i4,fun y hy=>up y _ (i5 y hy).1 (i5 y hy).2⟩
def StartI (e:En) (f0:Fr) (s:IS):Prop:=hasP s 0∧SubF e.cs f0 (frA s 0)∧∀x,hasP s x→checkF e.cs.length (frA s x)=0
theorem round_start {e:En} {b:List Ty} {s:IS} {a:Nat} {f0:Fr} (hw:WideE e) (hs:s.sz (b.length+1)) (ha:a≤b.length) (hi:StartI e f0 s) (h:(roundD e b s a).2.2=0):StartI e f0 (roundD e b s a).1:=by
 have H:=round_handed hw hs ha h
 generalize (roundD e b s a).1=s' at H
 obtain⟨i1,i2,i3⟩:=hi
 refine⟨(H.has 0).2 (.inl i1), ?_,fun x hx=> ?_⟩
 ·rcases H.up 0 i1 with h|h
  ·rw[h]; exact i2
  ·exact i2.trans h
 ·rcases(H.has x).1 hx with hx|hx
  ·rcases H.up x hx with h|h
   ·rw[h]; exact i3 x hx
   ·exact h.cb
  ·exact(H.got x hx).cb
structure FamP (e:En) (b:List Ty) (f0:Fr) (F:Nat→Option Fr):Prop where
 start:∃g,F 0=some g∧SubF e.cs f0 g
 goes:∀x g,F x=some g→(applyR e g (insA b x)).2=0∧∀y∈nextN b x,∃k,F y=some k∧SubF e.cs (applyR e g (insA b x)).1 k
def LeastI (e:En) (F:Nat→Option Fr) (s:IS):Prop:=∀x,hasP s x→∃g,F x=some g∧SubF e.cs (frA s x) g
theorem round_least {e:En} {b:List Ty} {s:IS} {a:Nat} {f0:Fr} {F:Nat→Option Fr} (hw:WideE e) (hs:s.sz (b.length+1)) (ha:a≤b.length) (hh:hasP s a) (hF:FamP e b f0 F) (hi:LeastI e F s) (h:(roundD e b s a).2.2=0):LeastI e F (roundD e b s a).1:=by
 have H:=round_handed hw hs ha h
 obtain⟨h1,h2,h3,h4,h5,h6⟩:=round_ok h
 obtain⟨g,hg,hsub⟩:=hi a hh
 obtain⟨w1,w2⟩:=hF.goes a g hg
 obtain⟨d1,d2⟩:=mono hw (done_iff.1 w1) hsub
 have hnext:∀y∈nextN b a,∃k,F y=some k∧SubF e.cs (behA e b s a) k:=fun y hy=>by
  obtain⟨k,hk,hk2⟩:=w2 y hy
  exact⟨k,hk,d2.trans hk2⟩
 generalize (roundD e b s a).1=s' at H
 have hl:=H.least (fun x=>(F x).getD (fr0 0)) (fun x hx=>by
  obtain⟨k,hk,hk2⟩:=hi x hx
  show SubF e.cs (frA s x) ((F x).getD (fr0 0))
  rw[hk]; exact hk2) (fun y hy=>by
  obtain⟨k,hk,hk2⟩:=hnext y hy
  rw[hk]; exact hk2)
 intro x hx
 have:=hl x hx
 rcases(H.has x).1 hx with hx|hx
 ·obtain⟨k,hk,_⟩:=hi x hx
  exact⟨k,hk,by rw[hk] at this; exact this⟩
 ·obtain⟨k,hk,_⟩:=hnext x hx
  exact⟨k,hk,by rw[hk] at this; exact this⟩
open Go.Proofs
theorem slAt_slOf {a h:Int} {ts:List Ty} {i:Nat} (hi:i<24):slAt ⟨a,h,slOf ts⟩ i=(ts[i]?).getD 0:=by
 simp[slAt,slOf,hi]
theorem start_eq {e:En} {loc:Int} (h:mayE e loc=0):canB e=true∧(psOf e).length≤loc∧loc≤16∧(∀t∈psOf e,storedN e.cs.length t=true)∧startF e.cs.length (psOf e) loc=(⟨loc,0,slOf (psOf e)⟩,0):=by
 have hno:¬(canB e=false∨loc<(psOf e).length∨16<loc):=fun hc=>(may_can e loc).2 hc h
 have hcan:canB e=true:=by
  cases h:canB e with
  |true=>rfl
  |false=>exact absurd (.inl h) hno
 obtain⟨hs,h0,hps,hp8,hst⟩:=can_sig hcan
 have h1:¬loc<(psOf e).length:=fun h=>hno (.inr (.inl h))
 have h2:¬16<loc:=fun h=>hno (.inr (.inr h))
 have hok:=start_ok hcan (n:=loc) h1 h2
 refine⟨hcan,by omega,by omega,hst, ?_⟩
 unfold startF at hok ⊢
 split
 ·rename_i hc; rw[if_pos hc] at hok; cases hok
 ·rfl
theorem start_check {e:En} {loc:Int} (h:mayE e loc=0):checkF e.cs.length (startF e.cs.length (psOf e) loc).1=0:=by
 obtain⟨_,h1,h2,h3,h4⟩:=start_eq h
 rw[h4]
 simp only
 refine checkF_iff.2 ⟨?_,fr_ext (bare_loc _) (bare_h _) fun i hi=> ?_,fun i hi=> ?_⟩
 ·simp only[shapedB,decide_eq_true_eq]; omega
 ·rw[slAt_bare _ hi]
  split
  ·rfl
  ·rename_i hc
   simp only at hc
   rw[slAt_slOf hi,List.getElem?_eq_none (by omega)]; rfl
 ·rw[slAt_slOf hi]
  cases hx:(psOf e)[i]? with
  |none=>exact valid_0 _
  |some t=>exact stored_valid (h3 t (List.mem_of_getElem? hx))
structure LastP (e:En) (loc:Int) (b:List Ty) (r:IS):Prop where
 sz:r.sz (b.length+1)
 lt:∀x,hasP r x→x<b.length
 start:StartI e (startF e.cs.length (psOf e) loc).1 r
 goes:∀x,hasP r x→(decF b x).2=0∧(applyR e (frA r x) (insA b x)).2=0∧(onD (decF b x).1 b.length).2=0∧∀y∈nextN b x,hasP r y∧SubF e.cs (behA e b r x) (frA r y)
theorem hasP_lt {s:IS} {m x:Nat} (hs:s.sz m) (h:hasP s x):x<m:=by
 unfold hasP at h
 rw[←hs.a]
 exact Classical.byContradiction fun hc=>by rw[List.getElem?_eq_none (by omega)] at h; cases h
theorem is0_hasP {n:Nat} {f:Fr} {x:Nat}:hasP (is0 n f) x↔x=0:=by unfold hasP; rw[is0_has]; simp
theorem gone_last {e:En} {loc:Int} {b:List Ty} (hw:WideE e) (hm:mayE e loc=0) (h:(goneD e loc b).2.2=0):∃r,goneD e loc b=(r,0,0)∧LastP e loc b r:=by
 have hend:=gone_end h
 obtain⟨r,h1,h2,h3,⟨h4,h5⟩,h6⟩:=gone_ind (I:=fun s=>FixI e b s∧StartI e (startF e.cs.length (psOf e) loc).1 s)
  (fun s a hs hf ⟨i1,i2⟩ ha hn _ hr=>⟨round_fix hw hs ha hn i1 hf hr,round_start hw hs ha i2 hr⟩)
  ⟨fun x hx hn=>by
   rw[is0_hasP] at hx
   exact absurd (show newP (is0 b.length _) x by subst hx; simp[newP,is0]) hn,
   by rw[is0_hasP],by
   have:frA (is0 b.length (startF e.cs.length (psOf e) loc).1) 0=(startF e.cs.length (psOf e) loc).1:=is0_fr
   rw[this]; exact SubF.refl (start_check hm),fun x hx=>by
   rw[is0_hasP] at hx
   subst hx
   have:frA (is0 b.length (startF e.cs.length (psOf e) loc).1) 0=(startF e.cs.length (psOf e) loc).1:=is0_fr
   rw[this]; exact start_check hm⟩ h
 have hno:∀x,¬newP r x:=fun x hx=>by unfold newP at hx; rw[h6] at hx; cases hx
 refine⟨r,h1,h2,fun x hx=> ?_,h5,fun x hx=>(h4 x hx (hno x)).2⟩
 have:=hasP_lt h2 hx
 have:=(h4 x hx (hno x)).1
 omega
theorem infer_last {e:En} {loc:Int} {b:List Ty} (hw:WideE e) (h:(inferD e loc b).2.2=0):mayE e loc=0∧b.length≤4096∧∃r,goneD e loc b=(r,0,0)∧LastP e loc b r∧inferD e loc b=(entsD r b.length,0,0):=by
 unfold inferD at h ⊢
 by_cases h1:mayE e loc=0
 case neg=>rw[if_pos h1] at h; exact absurd h h1
 have h1':¬mayE e loc≠0:=fun h=>h h1
 rw[if_neg h1'] at h ⊢
 by_cases h2:4096<b.length
 ·rw[if_pos h2] at h; cases h
 rw[if_neg h2] at h ⊢
 simp only at h ⊢
 have hg:goneD e loc b=goD e b (fuelD b.length) (is0 b.length (startF e.cs.length (psOf e) loc).1) 0:=rfl
 rw[←hg] at h ⊢
 by_cases h3:(goneD e loc b).2.2=0
 case neg=>rw[if_pos h3] at h; exact absurd h h3
 obtain⟨r,h4,h5⟩:=gone_last hw h1 h3
 refine⟨h1,by omega,r,h4,h5, ?_⟩
 rw[h4]; rfl
theorem ents_mem {s:IS} {n:Nat} {x:Ey}:x∈entsD s n↔∃a:Nat,a<n∧hasP s a∧x=⟨(a:Int),false,frA s a⟩:=by
 unfold entsD
 rw[List.mem_filterMap]
 constructor
 ·rintro⟨a,ha,hx⟩
  rw[List.mem_range] at ha
  split at hx
  ·rename_i hh; exact⟨a,ha,hh,by simpa[frA] using hx.symm⟩
  ·cases hx
 ·rintro⟨a,ha,hh,rfl⟩
  exact⟨a,List.mem_range.2 ha,by unfold hasP at hh; rw[if_pos hh]; rfl⟩
theorem gone_least {e:En} {loc:Int} {b:List Ty} {F:Nat→Option Fr} (hw:WideE e) (hF:FamP e b (startF e.cs.length (psOf e) loc).1 F) {r:IS} (h:goneD e loc b=(r,0,0)):LeastI e F r:=by
 obtain⟨r',h1,h2,h3,⟨h4,_⟩,h6⟩:=gone_ind (I:=fun s=>LeastI e F s∧True)
  (fun s a hs hf ⟨i1,_⟩ ha hn _ hr=>⟨round_least hw hs ha (hf a hn) hF i1 hr,trivial⟩)
  ⟨fun x hx=>by
   rw[is0_hasP] at hx
   subst hx
   have:frA (is0 b.length (startF e.cs.length (psOf e) loc).1) 0=(startF e.cs.length (psOf e) loc).1:=is0_fr
   rw[this]; exact hF.start,trivial⟩ (show(goneD e loc b).2.2=0 by rw[h])
 rw[h] at h1
 cases h1
 exact h4
open Go.Proofs
structure FamX (e:En) (b:List Ty) (f0:Fr) (F:Nat→Option Fr):Prop extends FamP e b f0 F where
 dec:∀x g,F x=some g→(decF b x).2=0∧(onD (decF b x).1 b.length).2=0
 disj:∀x g y k,F x=some g→F y=some k→x<y→x+szA b x≤y
theorem next_mem {b:List Ty} {x y:Nat} (hd:(decF b x).2=0) (h:y∈nextN b x):(jumpsB (insA b x).op.val=true∧y=(insA b x).a.toNat∧0≤(insA b x).a)∨(endsB (insA b x).op.val=false∧y=x+szA b x):=by
 have hp:(insA b x).pos=x:=by
  have:=(decF_ok hd).2.1
  unfold insA; rw[this]; rfl
 unfold nextN onD at h
 simp only[List.mem_map] at h
 obtain⟨z,hz,rfl⟩:=h
 have hj0:=fun hj=>jumps_a hd hj
 unfold insA szA insA at *
 split at hz
 ·cases hz
 split at hz
 ·cases hz
 simp only[List.mem_append] at hz
 rcases hz with(hz|hz)|hz
 ·split at hz
  ·rename_i h; left; simp only[List.mem_singleton] at hz; subst hz; exact⟨h.1,rfl,hj0 h.1⟩
  ·cases hz
 ·split at hz
  ·rename_i h; right; simp only[List.mem_singleton] at hz; subst hz; exact⟨h,by omega⟩
  ·cases hz
 ·split at hz
  ·rename_i h; left; simp only[List.mem_singleton] at hz; subst hz; exact⟨h.1,rfl,hj0 h.1⟩
  ·cases hz
theorem on_zero {b:List Ty} {x:Nat} (hd:(decF b x).2=0) (h1:jumpsB (insA b x).op.val=true→(insA b x).a<b.length) (h2:endsB (insA b x).op.val=false→x+szA b x≠b.length):(onD (decF b x).1 b.length).2=0:=by
 have hp:(insA b x).pos=x:=by
  have:=(decF_ok hd).2.1
  unfold insA; rw[this]; rfl
 unfold szA insA at *
 unfold onD
 simp only
 rw[if_neg (fun h=>by have:=h1 h.1; omega),if_neg (fun h=>by have:=h2 h.1; omega)]
theorem come_on2 {cs:List Cl} {l:List Ey} {n:Nat} {s s':PS} (h:comeD cs l n s= .ok (s',true)):
  (findE l s.p=none∧s.live=true∧s'.fr=s.fr)∨∃x,findE l s.p=some x∧x.dead=false∧s'.fr=x.fr∧(s.live=true→subFr cs s.fr x.fr=true):=by
 unfold comeD at h
 split at h
 ·rename_i hx
  split at h
  ·rename_i hl
   simp only[Rz.ok.injEq,Prod.mk.injEq,and_true] at h
   subst h
   exact .inl ⟨hx,hl,rfl⟩
  ·cases h
 ·rename_i x hx
  split at h; · cases h
  split at h; · cases h
  rename_i h2
  split at h
  ·simp at h
  ·rename_i hd
   simp only[Rz.ok.injEq,Prod.mk.injEq,and_true] at h
   subst h
   exact .inr ⟨x,hx,by simpa using hd,rfl,fun hl=>by
    cases hs:subFr cs s.fr x.fr with
    |true=>rfl
    |false=>exact absurd ⟨hl,hs⟩ h2⟩
theorem jumpD_ok {cs:List Cl} {l:List Ey} {n p:Nat} {a:Int} {f:Fr} (h:jumpD cs l n p a f=none):a<n∧∃x,findE l a=some x∧x.dead=false∧SubF cs f x.fr:=by
 unfold jumpD at h
 split at h; · cases h
 split at h; · cases h
 rename_i h1 x hx
 split at h; · cases h
 split at h; · cases h
 rename_i h2 h3
 refine⟨by omega,x,hx,by simpa using h2,subFr_iff.1 ?_⟩
 simpa using h3
theorem findE_mem {l:List Ey} {a:Int} {x:Ey} (h:findE l a=some x):x∈l∧x.pos=a:=by
 unfold findE at h
 exact⟨List.mem_of_find?_eq_some h,by have:=List.find?_some h; simpa using this⟩
theorem findE_of:∀{l:List Ey},Rise l→∀{y:Ey},y∈l→findE l y.pos=some y
 |[],_,y,h=>by cases h
 |x::r,hr,y,h=>by
  obtain⟨h1,h2⟩:=rise_cons hr
  unfold findE
  rcases List.mem_cons.1 h with rfl|h
  ·rw[List.find?_cons_of_pos (by simp)]
  ·rw[List.find?_cons_of_neg (by have:=h1 y h; simp; omega)]
   exact findE_of h2 h
theorem nextP_le {l:List Ey} (hr:Rise l) {n p:Nat} {y:Ey} (hy:y∈l) (hp:(p:Int)+1≤y.pos) (hn:y.pos<nextP l n p):False:=by
 unfold nextP at hn
 split at hn
 ·rename_i z hz
  have hle:z.pos≤y.pos:=by
   clear hn
   induction l with
   |nil=>cases hy
   |cons x r ih=>
    obtain⟨h1,h2⟩:=rise_cons hr
    by_cases hx:(p:Int)+1≤x.pos
    ·rw[List.find?_cons_of_pos (by simpa using hx)] at hz
     cases hz
     rcases List.mem_cons.1 hy with rfl|hy
     ·exact Int.le_refl _
     ·exact Int.le_of_lt (h1 y hy)
    ·rw[List.find?_cons_of_neg (by simpa using hx)] at hz
     rcases List.mem_cons.1 hy with rfl|hy
     ·exact absurd hp hx
     ·exact ih h2 hy hz
  split at hn <;> omega
 ·rename_i hz
  rw[List.find?_eq_none] at hz
  exact hz y hy (by simpa using hp)
structure PassG (e:En) (b:List Ty) (l:List Ey) (f0:Fr) (p:Nat) (F:Nat→Option Fr) (at0:Prop) (Nx:Nat→Fr→Prop):Prop where
 dom:∀x g,F x=some g→x+szA b x≤p
 good:∀x g,F x=some g→(decF b x).2=0∧(applyR e g (insA b x)).2=0∧(jumpsB (insA b x).op.val=true→jumpD e.cs l b.length x (insA b x).a (applyR e g (insA b x)).1=none)∧
  (endsB (insA b x).op.val=false→x+szA b x<b.length∧((∃k,F (x+szA b x)=some k∧SubF e.cs (applyR e g (insA b x)).1 k)∨Nx (x+szA b x) (applyR e g (insA b x)).1))
 ent:∀y∈l,y.pos<p→(y.dead=true∧F y.pos.toNat=none)∨(y.dead=false∧F y.pos.toNat=some y.fr)
 first:at0∨∃g,F 0=some g∧SubF e.cs f0 g
 disj:∀x g y k,F x=some g→F y=some k→x<y→x+szA b x≤y
def PassI (e:En) (b:List Ty) (l:List Ey) (f0:Fr) (s:PS):Prop:=∃F,PassG e b l f0 s.p F (s.p=0∧s.live=true∧s.fr=f0) fun q f=>s.p=q∧s.live=true∧s.fr=f
def PassJ (e:En) (b:List Ty) (l:List Ey) (f0:Fr) (s:PS):Prop:=∃F,PassG e b l f0 s.p F (s.p=0∧SubF e.cs f0 s.fr) (fun q f=>s.p=q∧SubF e.cs f s.fr)∧∀y∈l,y.pos=s.p→y.dead=false∧s.fr=y.fr
theorem pass_run {e:En} {b:List Ty} {l:List Ey} {f0:Fr} (hw:WideE e) (hr:Rise l) (hpos:∀y∈l,0≤y.pos) (hf0:checkF e.cs.length f0=0) (k:Nat) (s s':PS) (h0:PassI e b l f0 s) (h:runD e b l k s= .ok s'):PassI e b l f0 s':=by
 refine runD_inv (J:=PassI e b l f0) (J':=PassJ e b l f0) ?_ ?_ ?_ k s s' h0 h
 ·rintro s s' hp ⟨F,G⟩ hc
  obtain⟨hl,rfl,x,hx,hxd⟩:=come_off hc
  have hno:∀{q:Nat} {f:Fr},¬(s.p=q∧s.live=true∧s.fr=f):=fun h=>by rw[hl] at h; exact absurd h.2.1 (by simp)
  have hgt:=nextP_gt (l:=l) hp
  refine⟨F,fun x g hg=>by have:=G.dom x g hg; simp only; omega,fun x g hg=> ?_,fun y hy hlt=> ?_,.inr (G.first.resolve_left fun h=>by rw[hl] at h; exact absurd h.2.1 (by simp)),G.disj⟩
  ·obtain⟨g1,g2,g3,g4⟩:=G.good x g hg
   exact⟨g1,g2,g3,fun he=>⟨(g4 he).1,.inl ((g4 he).2.resolve_right hno)⟩⟩
  ·simp only at hlt
   by_cases h1:y.pos<s.p
   ·exact G.ent y hy h1
   by_cases h2:y.pos=s.p
   ·have:=findE_of hr hy
    rw[h2,hx] at this
    cases this
    refine .inl ⟨hxd, ?_⟩
    cases hF:F x.pos.toNat with
    |none=>rfl
    |some g=>
     have h3:=G.dom _ _ hF
     have h4:=(decF_ok (G.good _ _ hF).1).2.2.1
     unfold szA insA at h3
     omega
   ·exact(nextP_le hr hy (by omega) hlt).elim
 ·rintro s s' hp ⟨F,G⟩ hc
  have hp1:=(come_on hc).1
  have hsub:s.live=true→checkF e.cs.length s.fr=0→SubF e.cs s.fr s'.fr:=fun hl hck=>by
   rcases come_on2 hc with⟨_,_,h3⟩|⟨x,_,_,h3,h4⟩
   ·rw[h3]; exact SubF.refl hck
   ·rw[h3]; exact subFr_iff.1 (h4 hl)
  refine⟨F,⟨fun x g hg=>by have:=G.dom x g hg; omega,fun x g hg=> ?_,fun y hy hlt=>G.ent y hy (by omega), ?_,G.disj⟩,fun y hy he=> ?_⟩
  ·obtain⟨g1,g2,g3,g4⟩:=G.good x g hg
   refine⟨g1,g2,g3,fun he=>⟨(g4 he).1, ?_⟩⟩
   rcases(g4 he).2 with h|⟨h1,h2,h3⟩
   ·exact .inl h
   ·refine .inr ⟨by omega, ?_⟩
    have hck:checkF e.cs.length (applyR e g (insA b x)).1=0:=done_check hw (done_iff.1 g2)
    rw[←h3] at hck ⊢
    exact hsub h2 hck
  ·rcases G.first with⟨h1,h2,h3⟩|h
   ·exact .inl ⟨by omega,by rw[←h3] at hf0 ⊢; exact hsub h2 hf0⟩
   ·exact .inr h
  ·rcases come_on2 hc with⟨h1,_,_⟩|⟨x,h1,h2,h3,_⟩
   ·have:=findE_of hr hy
    rw[he,hp1,h1] at this; cases this
   ·have:=findE_of hr hy
    rw[he,hp1,h1] at this
    cases this
    exact⟨h2,h3⟩
 ·rintro s s' ⟨F,G,hE⟩ hf
  obtain⟨f1,f2,f3,f4,f5,rfl⟩:=fet_ok hf
  have hsz:=(decF_ok f1).2.2.1
  have hne:∀x g,F x=some g→x≠s.p:=fun x g hg he=>by
   subst he
   have h1:=G.dom _ _ hg
   have h2:=(decF_ok (G.good _ _ hg).1).2.2.1
   unfold szA insA at h1
   omega
  refine⟨fun x=>if x=s.p then some s.fr else F x,fun x g hg=> ?_,fun x g hg=> ?_,fun y hy hlt=> ?_, ?_,fun x g y k hx hy hlt=> ?_⟩
  ·simp only at hg ⊢
   by_cases he:x=s.p
   ·subst he; exact Nat.le_refl _
   ·rw[if_neg he] at hg
    have:=G.dom x g hg; omega
  ·simp only at hg ⊢
   by_cases he:x=s.p
   ·subst he
    rw[if_pos rfl] at hg
    cases hg
    exact⟨f1,f3,f4,fun hen=>⟨f5 hen,.inr ⟨rfl,by rw[show endsB (decF b s.p).1.op.val=false from hen]; rfl,rfl⟩⟩⟩
   ·rw[if_neg he] at hg
    obtain⟨g1,g2,g3,g4⟩:=G.good x g hg
    refine⟨g1,g2,g3,fun hen=>⟨(g4 hen).1,.inl ?_⟩⟩
    rcases(g4 hen).2 with⟨k,h1,h2⟩|⟨h1,h2⟩
    ·exact⟨k,by rw[if_neg (hne _ _ h1)]; exact h1,h2⟩
    ·exact⟨s.fr,by rw[if_pos h1.symm],h2⟩
  ·simp only at hlt ⊢
   by_cases h1:y.pos<s.p
   ·rw[if_neg (by have:=hpos y hy; omega)]
    exact G.ent y hy h1
   by_cases h2:y.pos=s.p
   ·obtain⟨h3,h4⟩:=hE y hy h2
    exact .inr ⟨h3,by rw[if_pos (by omega),h4]⟩
   ·exact(stray_none f2 y hy ⟨by omega,hlt⟩).elim
  ·rcases G.first with⟨h1,h2⟩|⟨g,h1,h2⟩
   ·exact .inr ⟨s.fr,by simp[h1],h2⟩
   ·exact .inr ⟨g,by rw[if_neg (hne _ _ h1)]; exact h1,h2⟩
  ·skip
   by_cases h1:x=s.p
   ·by_cases h2:y=s.p
    ·omega
    ·rw[if_neg h2] at hy
     have:=G.dom y k hy
     have:=(decF_ok (G.good _ _ hy).1).2.2.1
     omega
   ·rw[if_neg h1] at hx
    by_cases h2:y=s.p
    ·rw[h2]; exact G.dom x g hx
    ·rw[if_neg h2] at hy
     exact G.disj x g y k hx hy hlt
theorem pass_fam {e:En} {b:List Ty} {l:List Ey} {f0:Fr} {s:PS} {cmp:Nat} (hw:WideE e) (hr:Rise l) (hpos:∀y∈l,0≤y.pos) (hf0:checkF e.cs.length f0=0) (hn:b.length≠0) (h:runD e b l (b.length+1) ⟨0,f0,true,cmp,[]⟩= .ok s):
  ∃F,FamX e b f0 F∧∀y∈l,y.pos<b.length→(y.dead=true∧F y.pos.toNat=none)∨(y.dead=false∧F y.pos.toNat=some y.fr):=by
 obtain⟨F,G⟩:=pass_run hw hr hpos hf0 _ _ _ ⟨fun _=>none,fun x g h=>(by cases h),fun x g h=>(by cases h),fun y hy hlt=>by have:=hpos y hy; simp only at hlt; omega,.inl ⟨rfl,rfl,rfl⟩,fun x g y k h=>(by cases h)⟩ h
 have hend:=runD_end _ _ _ (by simp only; omega) h
 have hent:∀y∈l,y.pos<b.length→(y.dead=true∧F y.pos.toNat=none)∨(y.dead=false∧F y.pos.toNat=some y.fr):=fun y hy hlt=>G.ent y hy (by omega)
 refine⟨F,⟨⟨G.first.resolve_left fun h=>by omega,fun x g hg=> ?_⟩,fun x g hg=> ?_,G.disj⟩,hent⟩
 ·obtain⟨g1,g2,g3,g4⟩:=G.good x g hg
  refine⟨g2,fun y hy=> ?_⟩
  rcases next_mem g1 hy with⟨h1,rfl,h0⟩|⟨h1,rfl⟩
  ·obtain⟨h2,z,h3,h4,h5⟩:=jumpD_ok (g3 h1)
   obtain⟨h6,h7⟩:=findE_mem h3
   rcases hent z h6 (by omega) with⟨h8,_⟩|⟨_,h8⟩
   ·rw[h4] at h8; cases h8
   ·exact⟨z.fr,by rw[←h7]; exact h8,h5⟩
  ·rcases(g4 h1).2 with h2|⟨h2,_⟩
   ·exact h2
   ·have:=(g4 h1).1; omega
 ·obtain⟨g1,g2,g3,g4⟩:=G.good x g hg
  exact⟨g1,on_zero g1 (fun hj=>(jumpD_ok (g3 hj)).1) fun he=>by have:=(g4 he).1; omega⟩
theorem hands_can {l:List Cl} {m:Nat} {g:Fr} {G:Nat→Fr} (hg:checkF l.length g=0):∀{to:List Int} {s:IS},s.sz m→(∀x∈to,0≤x∧x<m)→(∀x,hasP s x→SubF l (frA s x) (G x))→(∀x∈to,SubF l g (G x.toNat))→(handsD l g to s).2.2=0
 |[],s,_,_,_,_=>rfl
 |a::r,s,hs,ht,h1,h2=>by
  have ha:=ht a (List.mem_cons_self ..)
  have hok:(handD l s a.toNat g).2=0:=by
   unfold handD
   by_cases g1:(s.has[a.toNat]?).getD false=false
   ·rw[if_pos g1]
   rw[if_neg g1]
   have hm:=mergeF_can (h1 a.toNat (by unfold hasP; simpa using g1)) (h2 a (List.mem_cons_self ..))
   unfold frA at hm
   rw[if_neg (by omega)]
   split <;> rfl
  have H:=hand_handed hs (show a.toNat<m by omega) hg hok
  rw[handsD,if_neg (by omega)]
  exact hands_can hg (hand_sz hs) (fun x hx=>ht x (List.mem_cons_of_mem _ hx)) (H.least G h1 fun x hx=>by
   rw[List.mem_singleton] at hx
   rw[hx]; exact h2 a (List.mem_cons_self ..)) fun x hx=>h2 x (List.mem_cons_of_mem _ hx)
def TakI (b:List Ty) (F:Nat→Option Fr) (s:IS):Prop:=∀x,(s.tk[x]?).getD 0≠0→∃g,F x=some g∧(s.tk[x]?).getD 0=szA b x
theorem hands_tk2 {e:En} {b:List Ty} {s:IS} {a:Nat} (h:(roundD e b s a).2.2=0):(roundD e b s a).1.tk=s.tk.set a (szA b a):=by
 obtain⟨_,_,_,_,_,h6⟩:=round_ok h
 rw[h6,hands_tk]; rfl
theorem round_can {e:En} {b:List Ty} {s:IS} {a:Nat} {f0 g:Fr} {F:Nat→Option Fr} (hw:WideE e) (hs:s.sz (b.length+1)) (ha:a≤b.length) (hF:FamX e b f0 F) (hg:F a=some g) (hh:hasP s a) (hi:LeastI e F s) (ht:TakI b F s):(roundD e b s a).2.2=0:=by
 obtain⟨d1,d2⟩:=hF.dec a g hg
 obtain⟨w1,w2⟩:=hF.goes a g hg
 obtain⟨k,hk,hsub⟩:=hi a hh
 rw[hg] at hk
 cases hk
 obtain⟨m1,m2⟩:=mono hw (done_iff.1 w1) hsub
 have q1:=decF_ok d1
 have hov:overB s.tk a (zf3 (decF b a).1.op.val)=false:=by
  cases ho:overB s.tk a (zf3 (decF b a).1.op.val) with
  |false=>rfl
  |true=>
   unfold overB at ho
   rw[List.any_eq_true] at ho
   obtain⟨x,hx,hd⟩:=ho
   rw[decide_eq_true_eq] at hd
   obtain⟨h1,h2,h3,h4⟩:=hd
   obtain⟨g',hg',he⟩:=ht x (by omega)
   rw[he] at h1 h3
   rcases Nat.lt_or_gt_of_ne h2 with hlt|hlt
   ·have:=hF.disj x g' a _ hg' hg hlt
    omega
   ·have:a+szA b a≤x:=hF.disj a _ x g' hg hg' hlt
    unfold szA insA at this
    omega
 have hap:(applyR e ((s.fr[a]?).getD (fr0 0)) (decF b a).1).2=0:=done_iff.2 m1
 unfold roundD
 rw[if_neg (by omega),if_neg (by omega),if_neg (by rw[hov]; simp)]
 simp only
 rw[if_neg (by omega),if_neg (by omega)]
 refine hands_can (m:=b.length+1) (G:=fun x=>(F x).getD (fr0 0)) (done_check hw m1) ⟨hs.a,hs.b,by simpa using hs.c,by simpa using hs.d⟩ (fun x hx=>by have:=on_in d1 hx; omega) (fun x hx=> ?_) fun x hx=> ?_
 ·obtain⟨k,hk,hk2⟩:=hi x hx
  show SubF e.cs (frA s x) ((F x).getD (fr0 0))
  rw[hk]; exact hk2
 ·obtain⟨k,hk,hk2⟩:=w2 x.toNat (List.mem_map.2 ⟨x,hx,rfl⟩)
  rw[hk]; exact m2.trans hk2
theorem goD_can {e:En} {b:List Ty} {f0:Fr} {F:Nat→Option Fr} (hw:WideE e) (hF:FamX e b f0 F):∀(k:Nat) (s:IS),s.sz (b.length+1)→FH s→LeastI e F s→TakI b F s→muS e.cs s (b.length+1)<k→(goD e b k s (leastD s.fresh)).2.2=0
 |0,s,_,_,_,_,hk=>absurd hk (Nat.not_lt_zero _)
 |k+1,s,hs,hf,hi,ht,hk=>by
  rw[goD]
  by_cases h0:leastD s.fresh<0
  ·rw[if_pos h0]
  ·rw[if_neg h0]
   obtain⟨a,ha⟩:∃a:Nat,leastD s.fresh=a:=⟨_,(Int.toNat_of_nonneg (by omega)).symm⟩
   obtain⟨h1,h2⟩:=least_in ha (by omega)
   rw[Int.toNat_natCast] at h1 h2
   rw[hs.c] at h1
   rw[ha,Int.toNat_natCast]
   have hal:a≤b.length:=by omega
   have hh:hasP s a:=hf a h2
   obtain⟨g,hg,_⟩:=hi a hh
   have hr:=round_can hw hs hal hF hg hh hi ht
   obtain⟨_,_,_,_,_,_,r6,_,_⟩:=round_shape (e:=e) hs hal
   rw[if_neg (by omega)]
   refine goD_can hw hF k _ r6 (round_FH hf hs hal) (round_least hw hs hal hh hF.toFamP hi hr) (fun x hx=> ?_) (Nat.lt_of_lt_of_le (round_falls (e:=e) hs hal h2) (Nat.le_of_lt_succ hk))
   rw[hands_tk2 hr] at hx ⊢
   rw[set_at (by rw[hs.d]; omega)] at hx ⊢
   by_cases he:x=a
   ·rw[if_pos he]; exact⟨g,by rw[he]; exact hg,by rw[he]⟩
   ·rw[if_neg he] at hx ⊢; exact ht x hx
theorem gone_can {e:En} {loc:Int} {b:List Ty} {F:Nat→Option Fr} (hw:WideE e) (hm:mayE e loc=0) (hF:FamX e b (startF e.cs.length (psOf e) loc).1 F):(goneD e loc b).2.2=0:=by
 have hl:(0:Int)=leastD (is0 b.length (startF e.cs.length (psOf e) loc).1).fresh:=is0_least.symm
 unfold goneD
 rw[hl]
 refine goD_can hw hF _ _ is0_sz is0_FH (fun x hx=> ?_) (fun x hx=> ?_) is0_mu
 ·rw[is0_hasP] at hx
  subst hx
  have:frA (is0 b.length (startF e.cs.length (psOf e) loc).1) 0=(startF e.cs.length (psOf e) loc).1:=is0_fr
  rw[this]; exact hF.start
 ·exfalso; apply hx
  simp only[is0,List.getElem?_replicate]
  split <;> rfl
theorem higher {e:En} {n:Int} {b c:List Ty} (hw:WideE e) (h:(checkD e n b c).2.2=0):
  ∃r,inferD e n b=(entsD r b.length,0,0)∧hasP r 0∧b.length≠0∧∀x,hasP r x→∀y∈(decC c).1.es,y.pos=x→x<b.length→y.dead=false∧SubF e.cs (frA r x) y.fr:=by
 unfold checkD at h
 split at h
 ·rename_i a w hb
  simp only at h
  exfalso
  unfold beginD at hb
  split at hb
  ·cases hb; cases h
  split at hb
  ·cases hb; cases h
  split at hb
  ·cases hb; cases h
  split at hb
  ·rename_i h4; cases hb; exact h4 h
  split at hb
  ·cases hb; cases h
  ·split at hb
   ·cases hb; cases h
   ·cases hb
 rename_i hb
 have hbeg:¬(canB e=false∨n<(psOf e).length∨16<n)∧b.length≤4096∧b.length≠0:=by
  unfold beginD at hb
  split at hb
  ·cases hb
  rename_i h1
  split at hb
  ·cases hb
  split at hb
  ·cases hb
  exact⟨h1,by omega,by assumption⟩
 obtain⟨h1,h2,h3⟩:=hbeg
 have hm:mayE e n=0:=Classical.byContradiction fun hc=>h1 ((may_can e n).1 hc)
 obtain⟨hr,hpos,_,_⟩:=decC_rise c
 split at h
 ·rename_i a w hrun
  exact absurd h (runD_no _ _ hrun)
 rename_i s hrun
 obtain⟨F,hF,hent⟩:=pass_fam hw hr (fun y hy=>(hpos y hy).1) (start_check hm) h3 hrun
 have hok:=gone_can hw hm hF
 obtain⟨r,g1,g2⟩:=gone_last hw hm hok
 have hleast:=gone_least hw hF.toFamP g1
 refine⟨r, ?_,g2.start.1,h3,fun x hx y hy hxy hlt=> ?_⟩
 ·unfold inferD
  rw[if_neg (by omega),if_neg (by omega)]
  have hg:goneD e n b=goD e b (fuelD b.length) (is0 b.length (startF e.cs.length (psOf e) n).1) 0:=rfl
  simp only
  rw[←hg,g1]; rfl
 ·obtain⟨k,hk,hsub⟩:=hleast x hx
  rcases hent y hy (by omega) with⟨_,hd⟩|⟨hd0,hd⟩ <;> rw[show y.pos.toNat=x by omega,hk] at hd
  ·cases hd
  ·cases hd
   exact⟨hd0,hsub⟩
open Go.Proofs
open Go.Proofs
open Go.Proofs
theorem ey_fr (x:Ey):((eEy x).drop 2).take 26=eFr x.fr:=by
 show(eFr x.fr).take 26=_
 exact za4 _
theorem ey_26 (x:Ey):(26≤((eEy x).drop 2).length)=True:=eq_true (by simp[eEy,eFr])
open Go.Proofs
end Go.AL
