import Derived.Test.YtobmoajkfbigkaaGreatSx
import Derived.Test.YtobmoajkfbigkaaGreatSp
import Derived.Test.YtobmoajkfbigkaaGreatSw
import Derived.Test.YtobmoajkfbigkaaGreatSu
import Derived.Test.YtobmoajkfbigkaaGreatSe
set_option linter.unusedSimpArgs false
set_option linter.unusedVariables false
set_option maxRecDepth 100000
set_option linter.defProp false
set_option maxHeartbeats 4000000
namespace Go.AL
open Go.Proofs
def wantX (b:List Ty) (x a:Nat):Bool:=(jumpsB (insA b x).op.val&&decide ((insA b x).a=(a:Int)))||(endsB (insA b x).op.val&&decide (x+szA b x=a))
def wantL (b:List Ty) (L:List Nat) (a:Nat):Bool:=L.any fun x=>wantX b x a
def hasB (s:IS) (a:Nat):Bool:=(s.has[a]?).getD false
def entA (s:IS) (a:Nat):Ey:=if hasB s a=true then⟨(a:Int),false,frA s a⟩ else⟨(a:Int),true,fr0 0⟩
def certE (b:List Ty) (s:IS):List Ey:=((List.range b.length).filter (wantL b (adrs s b.length))).map (entA s)
def emitD (e:En) (loc:Int) (b:List Ty):List Ty×Int×Nat:=
 if(inferD e loc b).2.2≠0 then([],(inferD e loc b).2.1,(inferD e loc b).2.2)
 else((encC loc (certE b (goneD e loc b).1)).1,0,(encC loc (certE b (goneD e loc b).1)).2)
theorem eIn_2 (i:Ins):(eIn i)[2]? =some (.int .i64 i.a):=rfl
theorem hasB_iff {s:IS} {a:Nat}:hasB s a=true↔hasP s a:=Iff.rfl
theorem adrs_mem {s:IS} {n a:Nat}:a∈adrs s n↔a<n∧hasP s a:=by
 unfold adrs
 rw[List.mem_filter,List.mem_range]; rfl
theorem last_leads {e:En} {loc:Int} {b:List Ty} {r:IS} (h:LastP e loc b r) {x:Nat} (hx:x∈adrs r b.length):
  (decF b x).2=0∧(jumpsB (insA b x).op.val=true→0≤(insA b x).a∧(insA b x).a<b.length)∧x+szA b x≤b.length:=by
 obtain⟨_,hh⟩:=adrs_mem.1 hx
 obtain⟨h1,_,h3,_⟩:=h.goes x hh
 refine⟨h1,fun hj=>⟨jumps_a h1 hj, ?_⟩,(decF_ok h1).2.2.2⟩
 refine Classical.byContradiction fun hc=> ?_
 unfold onD at h3
 unfold insA at hj hc
 simp only at h3
 rw[if_pos ⟨hj,by omega⟩] at h3
 cases h3
open Go.Proofs
def DisI (b:List Ty) (s:IS):Prop:=(∀x,hasP s x→¬newP s x→(s.tk[x]?).getD 0=szA b x)∧∀x y,(s.tk[x]?).getD 0≠0→(s.tk[y]?).getD 0≠0→x<y→x+(s.tk[x]?).getD 0≤y
theorem round_dis {e:En} {b:List Ty} {s:IS} {a:Nat} (hw:WideE e) (hs:s.sz (b.length+1)) (ha:a≤b.length) (hi:DisI b s) (h:(roundD e b s a).2.2=0):DisI b (roundD e b s a).1:=by
 have H:=round_handed hw hs ha h
 have htk:=hands_tk2 h
 obtain⟨h1,h2,h3,h4,h5,h6⟩:=round_ok h
 have lc:a<s.fresh.length:=by rw[hs.c]; omega
 have ld:a<s.tk.length:=by rw[hs.d]; omega
 have hov:∀x,(s.tk[x]?).getD 0≠0→x≠a→¬(a<x+(s.tk[x]?).getD 0∧x<a+szA b a):=fun x hx hne hc=>by
  have hxl:x<s.tk.length:=Classical.byContradiction fun hn=>hx (by rw[List.getElem?_eq_none (by omega)]; rfl)
  unfold overB at h3
  rw[List.any_eq_false] at h3
  have:=h3 x (List.mem_range.2 hxl)
  rw[decide_eq_true_eq] at this
  exact this ⟨by omega,hne,hc.1,hc.2⟩
 generalize (roundD e b s a).1=s' at H htk
 obtain⟨i1,i2⟩:=hi
 refine⟨fun x hx hnx=> ?_,fun x y hx hy hlt=> ?_⟩
 ·obtain⟨o1,o2,_⟩:=H.old x hx hnx
  rw[htk,set_at ld]
  by_cases he:x=a
  ·rw[if_pos he,he]
  ·rw[if_neg he]
   exact i1 x o1 fun hc=>o2 (by
    unfold newP at hc ⊢
    simp only
    rw[set_at lc,if_neg he]; exact hc)
 ·rw[htk,set_at ld] at hx hy ⊢
  by_cases he:x=a
  ·rw[if_pos he] at hx ⊢
   have hny:y≠a:=by omega
   rw[if_neg hny] at hy
   have:=hov y hy hny
   omega
  ·rw[if_neg he] at hx ⊢
   by_cases hf:y=a
   ·have:=hov x hx he
    have hz:1≤szA b a:=(decF_ok h2).2.2.1
    omega
   ·rw[if_neg hf] at hy
    exact i2 x y hx hy hlt
theorem last_disj {e:En} {loc:Int} {b:List Ty} {r:IS} (hw:WideE e) (h:goneD e loc b=(r,0,0)) (hl:LastP e loc b r):∀x y,hasP r x→hasP r y→x<y→x+szA b x≤y:=by
 obtain⟨r2,h1,h2,h3,⟨h4,h5⟩,h6⟩:=gone_ind (I:=DisI b)
  (fun s a hs hf hi ha hn _ hR=>round_dis hw hs ha hi hR)
  ⟨fun x hx hn=>by
   rw[is0_hasP] at hx
   exact absurd (show newP (is0 b.length _) x by subst hx; simp[newP,is0]) hn,fun x y hx _ _=>by
   exfalso; apply hx
   simp only[is0]
   rw[List.getElem?_replicate]; split <;> rfl⟩ (show(goneD e loc b).2.2=0 by rw[h])
 rw[h] at h1
 cases h1
 have hno:∀x,¬newP r x:=fun x hx=>by unfold newP at hx; rw[h6] at hx; cases hx
 intro x y hx hy hlt
 have ex:=h4 x hx (hno x)
 have ey:=h4 y hy (hno y)
 have zx:1≤szA b x:=(decF_ok (hl.goes x hx).1).2.2.1
 have zy:1≤szA b y:=(decF_ok (hl.goes y hy).1).2.2.1
 have:=h5 x y (by omega) (by omega) hlt
 omega
theorem next_jump {b:List Ty} {x:Nat} (h:(onD (decF b x).1 b.length).2=0) (hd:(decF b x).2=0) (hj:jumpsB (insA b x).op.val=true):(insA b x).a.toNat∈nextN b x:=by
 have hp:(insA b x).pos=x:=by
  have:=(decF_ok hd).2.1
  unfold insA; rw[this]; rfl
 unfold nextN
 unfold insA at *
 generalize decF b x=q at *
 unfold onD at h ⊢
 simp only at h ⊢
 split at h
 ·cases h
 rename_i h1
 split at h
 ·cases h
 rename_i h2
 rw[if_neg h1,if_neg h2]
 simp only[List.mem_map,List.mem_append]
 cases he:endsB q.1.op.val
 ·by_cases h3:q.1.a<q.1.pos+zf1 q.1.op.val
  ·exact⟨q.1.a,.inl (.inl (by simp[hj,h3])),rfl⟩
  ·by_cases h4:q.1.pos+(zf1 q.1.op.val:Int)<q.1.a
   ·exact⟨q.1.a,.inr (by simp[hj,h4]),rfl⟩
   ·exact⟨q.1.a,.inl (.inr (by simp; omega)),rfl⟩
 ·exact⟨q.1.a,.inl (.inl (by simp[hj])),rfl⟩
theorem next_behind {b:List Ty} {x:Nat} (h:(onD (decF b x).1 b.length).2=0) (hd:(decF b x).2=0) (he:endsB (insA b x).op.val=false):x+szA b x∈nextN b x∧x+szA b x≠b.length:=by
 have hp:(insA b x).pos=x:=by
  have:=(decF_ok hd).2.1
  unfold insA; rw[this]; rfl
 unfold nextN szA
 unfold insA at *
 generalize decF b x=q at *
 unfold onD at h ⊢
 simp only at h ⊢
 split at h
 ·cases h
 rename_i h1
 split at h
 ·cases h
 rename_i h2
 rw[if_neg h1,if_neg h2]
 simp only[List.mem_map,List.mem_append]
 refine⟨⟨q.1.pos+zf1 q.1.op.val,.inl (.inr (by simp[he])),by omega⟩,fun hc=>h2 ⟨he,by omega⟩⟩
theorem cert_mem {b:List Ty} {r:IS} {y:Ey}:y∈certE b r↔∃a:Nat,a<b.length∧wantL b (adrs r b.length) a=true∧y=entA r a:=by
 unfold certE
 simp only[List.mem_map,List.mem_filter,List.mem_range]
 constructor
 ·rintro⟨a,⟨h1,h2⟩,rfl⟩; exact⟨a,h1,h2,rfl⟩
 ·rintro⟨a,h1,h2,rfl⟩; exact⟨a,⟨h1,h2⟩,rfl⟩
theorem entA_pos {r:IS} {a:Nat}:(entA r a).pos=a:=by unfold entA; split <;> rfl
theorem cert_rise (b:List Ty) (r:IS):Rise (certE b r):=by
 unfold Rise certE
 rw[List.pairwise_map]
 refine(List.Pairwise.filter _ List.pairwise_lt_range).imp fun h=> ?_
 rw[entA_pos,entA_pos]; omega
theorem want_iff {b:List Ty} {r:IS} {a:Nat}:wantL b (adrs r b.length) a=true↔∃x,x<b.length∧hasP r x∧((jumpsB (insA b x).op.val=true∧(insA b x).a=a)∨(endsB (insA b x).op.val=true∧x+szA b x=a)):=by
 unfold wantL
 rw[List.any_eq_true]
 simp only[wantX,Bool.or_eq_true,Bool.and_eq_true,decide_eq_true_eq]
 constructor
 ·rintro⟨x,h1,h2⟩; obtain⟨h3,h4⟩:=adrs_mem.1 h1; exact⟨x,h3,h4,h2⟩
 ·rintro⟨x,h1,h2,h3⟩; exact⟨x,adrs_mem.2 ⟨h1,h2⟩,h3⟩
theorem cert_find {b:List Ty} {r:IS} {a:Nat} {x:Ey} (h:findE (certE b r) a=some x):x=entA r a∧wantL b (adrs r b.length) a=true:=by
 obtain⟨h1,h2⟩:=findE_mem h
 obtain⟨c,h3,h4,rfl⟩:=cert_mem.1 h1
 rw[entA_pos] at h2
 have:c=a:=by omega
 subst this
 exact⟨rfl,h4⟩
theorem cert_there {b:List Ty} {r:IS} {a:Nat} (ha:a<b.length) (h:wantL b (adrs r b.length) a=true):findE (certE b r) a=some (entA r a):=by
 have:=findE_of (cert_rise b r) (cert_mem.2 ⟨a,ha,h,rfl⟩)
 rwa[entA_pos] at this
theorem entA_live {r:IS} {a:Nat} (h:hasP r a):entA r a=⟨(a:Int),false,frA r a⟩:=by unfold entA; rw[if_pos (hasB_iff.2 h)]
theorem entA_dead {r:IS} {a:Nat} (h:¬hasP r a):entA r a=⟨(a:Int),true,fr0 0⟩:=by unfold entA; rw[if_neg (fun hc=>h (hasB_iff.1 hc))]
def PJ (e:En) (b:List Ty) (r:IS) (s:PS):Prop:=b.length≤s.p∨(s.live=true∧hasP r s.p∧SubF e.cs s.fr (frA r s.p))∨(s.live=false∧∃x∈certE b r,x.pos=s.p)
theorem emit_fet {e:En} {loc:Int} {b:List Ty} {r:IS} {s:PS} (hw:WideE e) (hl:LastP e loc b r) (hdj:∀x y,hasP r x→hasP r y→x<y→x+szA b x≤y) (hp:s.p<b.length) (hh:hasP r s.p) (hs:SubF e.cs s.fr (frA r s.p)):
  ∃s',fetD e b (certE b r) s= .ok s'∧PJ e b r s':=by
 obtain⟨g1,g2,g3,g4⟩:=hl.goes s.p hh
 obtain⟨d1,d2⟩:=mono hw (done_iff.1 g2) hs
 have hap:(applyR e s.fr (insA b s.p)).2=0:=done_iff.2 d1
 have hstray:strayE (certE b r) s.p (s.p+zf1 (decF b s.p).1.op.val)=none:=by
  unfold strayE
  refine find_none fun y hy=> ?_
  rw[decide_eq_false_iff_not]
  rintro⟨k1,k2⟩
  obtain⟨a,q1,q2,rfl⟩:=cert_mem.1 hy
  rw[entA_pos] at k1 k2
  have k2':a<s.p+szA b s.p:=by unfold szA insA; omega
  obtain⟨x,x1,x2,x3⟩:=want_iff.1 q2
  obtain⟨f1,f2,f3,f4⟩:=hl.goes x x2
  rcases x3 with⟨x3,x4⟩|⟨x3,x4⟩
  ·have:=(f4 _ (next_jump f3 f1 x3)).1
   rw[show(insA b x).a.toNat=a by omega] at this
   have:=hdj s.p a hh this (by omega)
   omega
  ·have hz:1≤szA b x:=(decF_ok f1).2.2.1
   rcases Nat.lt_trichotomy x s.p with h|h|h
   ·have:=hdj x s.p x2 hh h
    omega
   ·subst h; omega
   ·have:=hdj s.p x hh x2 h
    omega
 have hend:∀cmp fet,∃s',endD b.length s.p (s.p+zf1 (decF b s.p).1.op.val) (decF b s.p).1.op.val (applyR e s.fr (decF b s.p).1).1 cmp fet= .ok s'∧PJ e b r s':=fun cmp fet=>by
  have hle:s.p+szA b s.p≤b.length:=(decF_ok g1).2.2.2
  unfold endD
  by_cases he:endsB (decF b s.p).1.op.val=true
  ·rw[if_pos he]
   refine⟨_,rfl, ?_⟩
   by_cases hq:b.length≤s.p+zf1 (decF b s.p).1.op.val
   ·exact .inl hq
   ·refine .inr (.inr ⟨rfl,entA r (s.p+szA b s.p),cert_mem.2 ⟨_,by unfold szA insA; omega,want_iff.2 ⟨s.p,hp,hh,.inr ⟨he,rfl⟩⟩,rfl⟩,entA_pos⟩)
  ·have he':endsB (insA b s.p).op.val=false:=by unfold insA; simpa using he
   obtain⟨n1,n2⟩:=next_behind g3 g1 he'
   obtain⟨n3,n4⟩:=g4 _ n1
   rw[if_neg he,if_neg (by unfold szA insA at n2 hle; omega)]
   exact⟨_,rfl,.inr (.inl ⟨rfl,n3,d2.trans n4⟩)⟩
 unfold fetD
 rw[if_neg (by omega),hstray]
 simp only
 unfold insA at hap
 rw[if_neg (by omega)]
 split
 ·rename_i hj
  have hj':jumpsB (insA b s.p).op.val=true:=hj
  obtain⟨_,w2,_⟩:=last_leads hl (adrs_mem.2 ⟨hp,hh⟩)
  obtain⟨w3,w4⟩:=w2 hj'
  obtain⟨m1,m2⟩:=g4 _ (next_jump g3 g1 hj')
  obtain⟨c,hc⟩:∃c:Nat,(insA b s.p).a=c:=⟨(insA b s.p).a.toNat,by omega⟩
  rw[hc,Int.toNat_natCast] at m1 m2
  have hf:findE (certE b r) (c:Int)=some (entA r c):=cert_there (by omega) (want_iff.2 ⟨s.p,hp,hh,.inl ⟨hj',hc⟩⟩)
  have hjn:jumpD e.cs (certE b r) b.length s.p (decF b s.p).1.a (applyR e s.fr (decF b s.p).1).1=none:=by
   have hc':(decF b s.p).1.a=c:=hc
   unfold jumpD
   rw[hc',if_neg (by omega),hf,entA_live m1]
   simp only[Bool.false_eq_true,if_false]
   have:subFr e.cs (applyR e s.fr (decF b s.p).1).1 (frA r c)=true:=subFr_iff.2 (d2.trans m2)
   rw[this]; simp
  rw[hjn]
  exact hend _ _
 ·exact hend _ _
theorem emit_run {e:En} {loc:Int} {b:List Ty} {r:IS} (hw:WideE e) (hl:LastP e loc b r) (hdj:∀x y,hasP r x→hasP r y→x<y→x+szA b x≤y):
  ∀(k:Nat) (s:PS),PJ e b r s→∃s',runD e b (certE b r) k s= .ok s'
 |0,s,_=>⟨s,rfl⟩
 |k+1,s,hj=>by
  rw[runD]
  by_cases hp:b.length≤s.p
  ·rw[if_pos hp]; exact⟨s,rfl⟩
  rw[if_neg hp]
  have go:∀s1:PS,comeD e.cs (certE b r) b.length s= .ok (s1,true)→s1.p=s.p→hasP r s.p→SubF e.cs s1.fr (frA r s.p)→∃s',(match comeD e.cs (certE b r) b.length s with
    | .no a w=>Rz.no a w
    | .ok (s',false)=>runD e b (certE b r) k s'
    | .ok (s',true)=>match fetD e b (certE b r) s' with
     | .no a w=> .no a w
     | .ok s''=>runD e b (certE b r) k s'')= .ok s':=fun s1 h1 h2 h3 h4=>by
   obtain⟨s2,f1,f2⟩:=emit_fet hw hl hdj (s:=s1) (by omega) (by rw[h2]; exact h3) (by rw[h2]; exact h4)
   rw[h1]
   simp only[f1]
   exact emit_run hw hl hdj k s2 f2
  rcases hj with h|⟨h1,h2,h3⟩|⟨h1,x,hx,hxp⟩
  ·exact absurd h hp
  ·cases hf:findE (certE b r) s.p with
   |none=>
    refine go s ?_ rfl h2 h3
    unfold comeD
    rw[hf]
    simp only
    rw[if_pos h1]
   |some x=>
    obtain⟨rfl,_⟩:=cert_find hf
    refine go {s with fr:=frA r s.p,live:=true,cmp:=s.cmp+(if s.live=true then 1 else 0)} ?_ rfl h2 (SubF.refl (hl.start.2.2 _ h2))
    unfold comeD
    rw[hf,entA_live h2]
    simp only
    have hs:=subFr_iff.2 h3
    rw[if_neg (by simp),if_neg (by rw[hs]; simp),if_neg (by simp)]
  ·have hf:=findE_of (cert_rise b r) hx
   rw[hxp] at hf
   obtain⟨rfl,_⟩:=cert_find hf
   by_cases hh:hasP r s.p
   ·refine go {s with fr:=frA r s.p,live:=true,cmp:=s.cmp+(if s.live=true then 1 else 0)} ?_ rfl hh (SubF.refl (hl.start.2.2 _ hh))
    unfold comeD
    rw[hf,entA_live hh]
    simp only
    rw[if_neg (by simp),if_neg (by rw[h1]; simp),if_neg (by simp)]
   ·have hc:comeD e.cs (certE b r) b.length s= .ok ({s with p:=nextP (certE b r) b.length s.p},false):=by
     unfold comeD
     rw[hf,entA_dead hh]
     simp only
     rw[if_neg (by rw[h1]; simp),if_neg (by rw[h1]; simp),if_pos trivial]
    rw[hc]
    refine emit_run hw hl hdj k _ ?_
    rcases nextP_spec (certE b r) b.length s.p with hn|⟨y,hy,y1,y2,y3⟩
    ·exact .inl (by simp only; omega)
    ·exact .inr (.inr ⟨h1,y,hy,by simp only; omega⟩)
open Go.Proofs
theorem bt_drop (b:List Ty) (p i:Nat):bt b (p+i)=(((b.drop p)[i]?).getD 0).val:=by unfold bt; rw[List.getElem?_drop]
theorem scan_all {b:List Ty}:∀(m q:Nat),q+m≤b.length→(∀i,i<m→knownT ((b[q+i]?).getD 0)=true)→scanT b q m=(q+m,0)
 |0,q,_,_=>rfl
 |m+1,q,hl,hk=>by
  rw[scanT,if_neg (by omega),if_pos (show knownT ((b[q]?).getD 0)=true from hk 0 (by omega)),scan_all m (q+1) (by omega) fun i hi=>by
   have:=hk (i+1) (by omega)
   rwa[show q+1+i=q+(i+1) by omega]]
  rw[show q+1+m=q+(m+1) by omega]
theorem frame_all {loc:Int} {f:Fr} (h:frameE loc f=0):(∀i:Nat,i<24→loc+f.h≤(i:Int)→slAt f i=0)∧∀i:Nat,i<24→knownT (slAt f i)=true:=by
 unfold frameE at h
 split at h
 ·cases h
 split at h
 ·cases h
 rename_i h2
 split at h
 ·cases h
 rename_i h3
 rw[Bool.not_eq_false,List.all_eq_true] at h2 h3
 exact⟨fun i hi hle=>by have:=h2 i (List.mem_range.2 hi); rw[decide_eq_true_eq] at this; exact this hle,fun i hi=>h3 i (List.mem_range.2 hi)⟩
theorem byT_of {n:Nat} (h:n<256):(byT n).val=n:=Nat.mod_eq_of_lt h
theorem ent_read {b:List Ty} {n p:Nat} {last:Int} {x:Ey} {rest:List Ty} (hb:b.drop p=bytesE n x++rest) (hp:p≤b.length) (hn:n≤16) (ha:afterE x.pos last=0) (hx:bodyE n x=0):
  entD b n p last=(x,p+(bytesE n x).length,0):=by
 obtain⟨a1,a2,a3⟩:=after_zero ha
 obtain⟨pos,dead,fr⟩:=x
 simp only at a1 a2 a3 ha
 obtain⟨k,rfl⟩:∃k:Nat,pos=k:=⟨pos.toNat,by omega⟩
 have hlen:b.length=p+((bytesE n ⟨(k:Int),dead,fr⟩).length+rest.length):=by
  have:=congrArg List.length hb
  rw[List.length_drop,List.length_append] at this; omega
 have hat:∀i,bt b (p+i)=(((bytesE n ⟨(k:Int),dead,fr⟩++rest)[i]?).getD 0).val:=fun i=>by rw[bt_drop,hb]
 have hg:∀i,b[p+i]? =(bytesE n ⟨(k:Int),dead,fr⟩++rest)[i]? :=fun i=>by rw[←List.getElem?_drop,hb]
 have b0:bt b p=k/256:=by
  have:=hat 0
  rw[Nat.add_zero] at this
  rw[this]
  show(byT ((k:Int).toNat/256)).val=_
  rw[Int.toNat_natCast,byT_of (by omega)]
 have b1:bt b (p+1)=k%256:=by
  rw[hat 1]
  show(byT (k:Int).toNat).val=_
  rw[Int.toNat_natCast]; rfl
 have hw:word2 b p=k:=by unfold word2; rw[b0,b1]; omega
 unfold entD
 rw[hw]
 have haf:¬afterE (k:Int) last≠0:=fun h=>h ha
 cases dead with
 |true=>
  rw[bodyE_dead rfl] at hx
  have hf:fr=fr0 0:=by
   by_cases hf:fr=fr0 0
   ·exact hf
   ·simp only at hx; rw[if_neg hf] at hx; cases hx
  subst hf
  have l3:(bytesE n ⟨(k:Int),true,fr0 0⟩).length=3:=rfl
  have b2:bt b (p+2)=0:=by rw[hat 2]; rfl
  rw[l3] at hlen ⊢
  rw[if_neg (by omega),if_neg haf,if_neg (by omega),b2,if_neg (by omega),if_pos rfl]
 |false=>
  rw[bodyE_live rfl] at hx
  simp only at hx
  obtain⟨f1,f2,f3⟩:=frame_zero hx
  obtain⟨f4,f5⟩:=frame_all hx
  obtain⟨floc,fh,fsl⟩:=fr
  simp only at f1 f2 f3
  subst f1
  obtain⟨h,rfl⟩:∃h:Nat,fh=h:=⟨fh.toNat,by omega⟩
  have l4:(bytesE n ⟨(k:Int),false,⟨n,h,fsl⟩⟩).length=4+(n+h):=by
   show(byT _::byT _::1::byT (h:Int).toNat::fsl.toList.take (n+(h:Int).toNat)).length=_
   simp only[List.length_cons,List.length_take,Vector.length_toList,Int.toNat_natCast]; omega
  have b2:bt b (p+2)=1:=by rw[hat 2]; rfl
  have b3:bt b (p+3)=h:=by
   rw[hat 3]
   show(byT (h:Int).toNat).val=_
   rw[Int.toNat_natCast,byT_of (by omega)]
  have hdr:(b.drop (p+4)).take (n+h)=fsl.toList.take (n+h):=by
   rw[←List.drop_drop,hb]
   show(fsl.toList.take (n+(h:Int).toNat)++rest).take (n+h)=_
   rw[Int.toNat_natCast,List.take_append_of_le_length (by simp only[List.length_take,Vector.length_toList]; omega),List.take_take,Nat.min_self]
  have hsl:∀i,i<n+h→(b[p+4+i]?).getD 0=slAt ⟨n,h,fsl⟩ i:=fun i hi=>by
   have:((b.drop (p+4)).take (n+h))[i]? =(fsl.toList.take (n+h))[i]? :=by rw[hdr]
   rw[List.getElem?_take,if_pos hi,List.getElem?_drop,List.getElem?_take,if_pos hi] at this
   rw[this]; rfl
  rw[l4] at hlen ⊢
  have hsc:scanT b (p+4) (n+h)=(p+4+(n+h),0):=scan_all _ _ (by omega) fun i hi=>by rw[hsl i hi]; exact f5 i (by omega)
  rw[if_neg (by omega),if_neg haf,if_neg (by omega),b2,if_neg (by omega),if_neg (by omega),if_neg (by omega),b3,if_neg (by omega),hsc,if_neg (by simp),hdr]
  have hfr:(⟨n,h,slOf (fsl.toList.take (n+h))⟩:Fr)=⟨n,h,fsl⟩:=fr_ext rfl rfl fun i hi=>by
   rw[slAt_slOf hi,List.getElem?_take]
   split
   ·rfl
   ·exact(f4 i hi (by simp only; omega)).symm
  rw[hfr]
  refine Prod.ext rfl (Prod.ext ?_ rfl)
  show p+4+(n+h)=p+(4+(n+h))
  omega
theorem dec_all {b:List Ty} {n:Nat} (hn:n≤16):∀(es:List Ey) (p i:Nat) (last:Int),b.drop p=es.flatMap (bytesE n)→p≤b.length→(chkC n last i es).2=0→esOf (decP b n es.length p last).1=es∧(decP b n es.length p last).2=(b.length,0)
 |[],p,i,last,hb,hp,_=>by
  have:b.length=p:=by
   have:=congrArg List.length hb
   rw[List.length_drop] at this
   simp only[List.flatMap_nil,List.length_nil] at this
   omega
  exact⟨rfl,by rw[this]; rfl⟩
 |x::r,p,i,last,hb,hp,h=>by
  rw[chkC] at h
  by_cases h1:afterE x.pos last=0
  case neg=>rw[if_pos h1] at h; exact absurd h h1
  rw[if_neg (by omega)] at h
  by_cases h2:bodyE n x=0
  case neg=>rw[if_pos h2] at h; exact absurd h h2
  rw[if_neg (by omega)] at h
  rw[List.flatMap_cons] at hb
  have he:=ent_read hb hp hn h1 h2
  have hr:b.drop (p+(bytesE n x).length)=r.flatMap (bytesE n):=by rw[←List.drop_drop,hb,List.drop_left]
  have hl:p+(bytesE n x).length≤b.length:=by
   have:=congrArg List.length hb
   rw[List.length_drop,List.length_append] at this; omega
  obtain⟨q1,q2⟩:=dec_all hn r _ (i+1) x.pos hr hl h
  rw[List.length_cons,decP,he]
  simp only
  rw[if_neg (by simp)]
  refine⟨?_,q2⟩
  show x::esOf _=_
  rw[q1]
theorem dec_enc {loc:Int} {es:List Ey} (h:(encC loc es).2=0):∃n:Nat,loc=n∧decC (encC loc es).1=(⟨n,es⟩,0,0):=by
 unfold encC at h ⊢
 by_cases h1:(checkC loc es).2=0
 case neg=>rw[if_pos h1] at h; exact absurd h h1
 rw[if_neg (by omega)]
 obtain⟨n,hn,n16,hlen,_⟩:=check_ok h1
 subst hn
 refine⟨n,rfl, ?_⟩
 have hchk:(chkC n (-1) 0 es).2=0:=by
  unfold checkC at h1
  split at h1
  ·cases h1
  split at h1
  ·cases h1
  exact h1
 show decC (encB (n:Int).toNat es)=_
 rw[Int.toNat_natCast]
 generalize hb:encB n es=b
 have hd:b.drop 6=es.flatMap (bytesE n):=by rw[←hb]; rfl
 have h6:6≤b.length:=by rw[←hb]; unfold encB headB; simp
 have c0:bt b 0=112:=by rw[←hb]; rfl
 have c1:bt b 1=118:=by rw[←hb]; rfl
 have c2:bt b 2=1:=by rw[←hb]; rfl
 have c3:bt b 3=n:=by
  rw[←hb]
  show(byT n).val=n
  exact byT_of (by omega)
 have c4:word2 b 4=es.length:=by
  have e4:bt b 4=es.length/256:=by
   rw[←hb]
   show(byT (es.length/256)).val=_
   exact byT_of (by omega)
  have e5:bt b (4+1)=es.length%256:=by rw[←hb]; rfl
  unfold word2; rw[e4,e5]; omega
 have hh:headD b=(0,0):=by
  unfold headD
  rw[c0,c1,c2,c3,c4,if_neg (by omega),if_neg (by omega),if_neg (by omega),if_neg (by omega),if_neg (by omega),if_neg (by omega),if_neg (by omega)]
 obtain⟨q1,q2⟩:=dec_all n16 es 6 0 (-1) hd h6 hchk
 have ht:toldD b=((decP b n es.length 6 (-1)).1,0,0):=by
  unfold toldD
  rw[hh,c3,c4,q2,if_neg (by simp),if_neg (by simp),if_neg (by simp)]
 unfold decC
 rw[ht,c3]
 simp only
 rw[if_neg (by simp),q1]
theorem emit_taken {e:En} {loc:Int} {b:List Ty} (hw:WideE e) (h:(emitD e loc b).2.2=0):(checkD e loc b (emitD e loc b).1).2=(0,0):=by
 unfold emitD at h ⊢
 by_cases h1:(inferD e loc b).2.2=0
 case neg=>rw[if_pos h1] at h; exact absurd h h1
 have h1':¬(inferD e loc b).2.2≠0:=fun h=>h h1
 rw[if_neg h1'] at h ⊢
 obtain⟨hm,hb,r,hg,hl,_⟩:=infer_last hw h1
 rw[hg] at h ⊢
 simp only at h ⊢
 obtain⟨n,hn,hd⟩:=dec_enc h
 have hdj:=last_disj hw hg hl
 obtain⟨hcan,hps,h16,_,_⟩:=start_eq hm
 have h0:0<b.length:=hl.lt 0 hl.start.1
 have hbad:badE e (certE b r)=none:=by
  unfold badE
  refine find_none fun y hy=> ?_
  obtain⟨a,_,_,rfl⟩:=cert_mem.1 hy
  by_cases hh:hasP r a
  ·rw[entA_live hh]
   have:=hl.start.2.2 a hh
   simp[this]
  ·rw[entA_dead hh]; rfl
 have hlate:lateE (certE b r) b.length=none:=by
  unfold lateE
  refine find_none fun y hy=> ?_
  obtain⟨a,h2,_,rfl⟩:=cert_mem.1 hy
  rw[entA_pos,decide_eq_false_iff_not]; omega
 have hno:¬(canB e=false∨loc<(psOf e).length∨16<loc):=by
  rintro(h|h|h)
  ·rw[hcan] at h; cases h
  ·omega
  ·omega
 have hbg:beginD e loc b.length (encC loc (certE b r)).1=none:=by
  unfold beginD
  rw[if_neg hno,if_neg (by omega),if_neg (by omega),hd]
  simp only
  rw[if_neg (by simp),hbad]
  simp only
  rw[if_neg (by omega)]
 unfold checkD
 rw[hbg,hd]
 simp only
 obtain⟨s',hs⟩:=emit_run hw hl hdj (b.length+1) (startS e loc) (.inr (.inl ⟨rfl,hl.start.1,hl.start.2.1⟩))
 rw[hs]
 simp only
 rw[hlate]
open Go.Proofs
def scanN (b:List Ty):Nat→Nat→List Nat×Nat×Nat
 |0,p=>([],0,0)
 |k+1,p=>if b.length≤p then([],0,0) else if(decF b p).2≠0 then([],p,(decF b p).2) else(p::(scanN b k (p+szA b p)).1,(scanN b k (p+szA b p)).2)
def scanD (b:List Ty):List Nat×Nat×Nat:=if 4096<b.length then([],0,4) else if(scanN b b.length 0).2.2≠0 then([],(scanN b b.length 0).2) else((scanN b b.length 0).1,0,0)
structure ScanP (b:List Ty) (p:Nat) (L:List Nat):Prop where
 each:∀a∈L,p≤a∧a<b.length∧(decF b a).2=0
 first:p<b.length→p∈L
 goes:∀a∈L,a+szA b a=b.length∨a+szA b a∈L
 rise:L.Pairwise fun x y=>x+szA b x≤y
theorem scan_ok {b:List Ty}:∀(k p:Nat),b.length≤p+k→p≤b.length→(scanN b k p).2.2=0→ScanP b p (scanN b k p).1
 |0,p,hk,hp,_=>⟨fun a h=>by simp[scanN] at h,fun h=>by omega,fun a h=>by simp[scanN] at h,List.Pairwise.nil⟩
 |k+1,p,hk,hp,h=>by
  rw[scanN] at h ⊢
  by_cases h1:b.length≤p
  ·rw[if_pos h1]; exact⟨fun a h=>by simp at h,fun h=>by omega,fun a h=>by simp at h,List.Pairwise.nil⟩
  rw[if_neg h1] at h ⊢
  by_cases h2:(decF b p).2=0
  case neg=>rw[if_pos h2] at h; exact absurd h h2
  have h2':¬(decF b p).2≠0:=fun h=>h h2
  rw[if_neg h2'] at h ⊢
  obtain⟨d1,d2,d3,d4⟩:=decF_ok h2
  have d3':1≤szA b p:=d3
  have d4':p+szA b p≤b.length:=d4
  have ih:=scan_ok k (p+szA b p) (by omega) d4' h
  generalize (scanN b k (p+szA b p)).1=L at ih ⊢
  refine⟨fun a ha=> ?_,fun _=>List.mem_cons_self ..,fun a ha=> ?_,List.pairwise_cons.2 ⟨fun y hy=>(ih.each y hy).1,ih.rise⟩⟩
  ·rcases List.mem_cons.1 ha with rfl|ha
   ·exact⟨Nat.le_refl _,d1,h2⟩
   ·obtain⟨e1,e2,e3⟩:=ih.each a ha
    exact⟨by omega,e2,e3⟩
  ·rcases List.mem_cons.1 ha with rfl|ha
   ·by_cases he:a+szA b a=b.length
    ·exact .inl he
    ·exact .inr (List.mem_cons_of_mem _ (ih.first (by omega)))
   ·exact(ih.goes a ha).imp id (List.mem_cons_of_mem _)
theorem scanD_ok {b:List Ty} (h:(scanD b).2.2=0):b.length≤4096∧ScanP b 0 (scanD b).1:=by
 unfold scanD at h ⊢
 split at h
 ·cases h
 rename_i h1
 split at h
 ·rename_i h2; exact absurd h h2
 rename_i h2
 rw[if_neg h1,if_neg h2]
 exact⟨by omega,scan_ok _ _ (by omega) (by omega) (Classical.not_not.1 h2)⟩
theorem ScanP.last {b:List Ty} {L:List Nat} (h:ScanP b 0 L) {i:Nat} (hi:i<L.length):L[i]+szA b L[i]=b.length↔i=L.length-1:=by
 have hr:=List.pairwise_iff_getElem.1 h.rise
 have hsz:∀a∈L,1≤szA b a:=fun a ha=>(decF_ok (h.each a ha).2.2).2.2.1
 constructor
 ·intro he
  refine Classical.byContradiction fun hn=> ?_
  have h1:=hr i (i+1) hi (by omega) (by omega)
  have h2:=(h.each L[i+1] (List.getElem_mem _)).2.1
  omega
 ·intro he
  rcases h.goes L[i] (List.getElem_mem _) with h1|h1
  ·exact h1
  ·exfalso
   obtain⟨j,hj,hjv⟩:=List.getElem_of_mem h1
   have hs:=hsz L[i] (List.getElem_mem _)
   by_cases hij:j=i
   ·subst hij; omega
   ·have h2:=hr j i hj hi (by omega)
    omega
theorem check_begin {e:En} {n:Int} {b c:List Ty} (h:(checkD e n b c).2.2=0):(decC c).2.2=0:=by
 unfold checkD at h
 split at h
 ·rename_i a w hb
  simp only at h
  exfalso
  unfold beginD at hb
  split at hb
  ·cases hb; cases h
  split at hb
  ·cases hb; cases h
  split at hb
  ·cases hb; cases h
  split at hb
  ·rename_i h4; cases hb; exact h4 h
  split at hb
  ·cases hb; cases h
  ·split at hb
   ·cases hb; cases h
   ·cases hb
 rename_i hb
 unfold beginD at hb
 split at hb
 ·cases hb
 split at hb
 ·cases hb
 split at hb
 ·cases hb
 split at hb
 ·cases hb
 rename_i h4
 exact Classical.not_not.1 h4
theorem line_reach {e:En} {loc:Int} {b:List Ty} {L:List Nat} {r:IS} (hw:WideE e) (hL:ScanP b 0 L) (hne:L≠[]) (hj:∀a∈L,jumpsB (insA b a).op.val=false) (h:goneD e loc b=(r,0,0)):∀x,hasP r x→x∈L:=by
 have h0:0∈L:=by
  refine hL.first ?_
  obtain⟨a,ha⟩:=List.exists_mem_of_ne_nil L hne
  have:=(hL.each a ha).2.1; omega
 obtain⟨r2,h1,h2,h3,⟨h4,_⟩,h6⟩:=gone_ind (I:=fun s=>(∀x,hasP s x→x∈L)∧True)
  (fun s a hs hf ⟨i1,_⟩ ha hn _ hR=>⟨fun x hx=>by
   rcases((round_handed hw hs ha hR).has x).1 hx with hx|hx
   ·exact i1 x hx
   ·have hm:=i1 a (hf a hn)
    obtain⟨k1,k2,k3,k4,k5,k6⟩:=round_ok hR
    rcases next_mem k2 hx with⟨q1,_,_⟩|⟨q1,rfl⟩
    ·rw[hj a hm] at q1; cases q1
    ·exact(hL.goes a hm).resolve_left (next_behind k5 k2 q1).2,trivial⟩)
  ⟨fun x hx=>by rw[is0_hasP] at hx; subst hx; exact h0,trivial⟩ (show(goneD e loc b).2.2=0 by rw[h])
 rw[h] at h1
 cases h1
 exact h4
theorem line_iff {e:En} {loc:Int} {b:List Ty} {L:List Nat} (hw:WideE e) (hL:ScanP b 0 L) (hne:L≠[]) (hj:∀a∈L,jumpsB (insA b a).op.val=false) (hend:∀i (h:i<L.length),endsB (insA b L[i]).op.val=decide (i=L.length-1)):
  (checkD e loc b (encC loc []).1).2.2=0↔(inferD e loc b).2.2=0∧(encC loc []).2=0:=by
 constructor
 ·intro h
  obtain⟨r,hr,_⟩:=higher hw h
  refine⟨by rw[hr],Classical.byContradiction fun hn=> ?_⟩
  have hd:=check_begin h
  unfold encC at hd hn
  by_cases h1:(checkC loc []).2=0
  ·rw[if_neg (by omega)] at hn; exact hn rfl
  ·rw[if_pos h1] at hd
   have:(decC []).2.2=2:=rfl
   simp only at hd
   rw[this] at hd; cases hd
 ·rintro⟨h1,h2⟩
  obtain⟨hm,hb,r,hg,hl,_⟩:=infer_last hw h1
  have hreach:=line_reach hw hL hne hj hg
  have hc:certE b r=[]:=by
   unfold certE
   rw[List.map_eq_nil_iff,List.filter_eq_nil_iff]
   intro a ha hwant
   rw[List.mem_range] at ha
   obtain⟨x,x1,x2,x3⟩:=want_iff.1 hwant
   have hx:=hreach x x2
   rcases x3 with⟨x3,_⟩|⟨x3,x4⟩
   ·rw[hj x hx] at x3; cases x3
   ·obtain⟨i,hi,hiv⟩:=List.getElem_of_mem hx
    have he:=hend i hi
    rw[hiv,x3] at he
    have:=(hL.last hi).2 (of_decide_eq_true he.symm)
    rw[hiv] at this
    omega
  have he:emitD e loc b=((encC loc []).1,0,(encC loc []).2):=by
   unfold emitD
   rw[if_neg (by omega),hg]
   simp only
   rw[hc]
  have:=emit_taken hw (loc:=loc) (b:=b) (by rw[he]; exact h2)
  rw[he] at this
  rw[this]
open Go.Proofs
open Go.Proofs
open Go.Proofs
open Go.Proofs
def putI:List Int→Int→List Int
 |[],n=>[n]
 |x::r,n=>if n≤x then(if n<x then n::x::r else x::r) else x::putI r n
theorem putI_mem {n x:Int}:∀{l:List Int},x∈putI l n↔x=n∨x∈l
 |[]=>by simp[putI]
 |y::r=>by
  rw[putI]
  split
  ·split
   ·simp[List.mem_cons]
   ·have:n=y:=by omega
    subst this
    simp[List.mem_cons]
  ·simp only[List.mem_cons,putI_mem (l:=r)]
   constructor
   ·rintro(h|h|h)
    ·exact .inr (.inl h)
    ·exact .inl h
    ·exact .inr (.inr h)
   ·rintro(h|h|h)
    ·exact .inr (.inl h)
    ·exact .inl h
    ·exact .inr (.inr h)
open Go.Proofs
end Go.AL
namespace Go.AL
open Go.Proofs Go.RowKit Go.Maps Go.WideElems Go.MapKept
open Go.Proofs
open Go.Proofs
open Go.Proofs
open Go.Proofs
open Go.Proofs
open Go.Proofs
open Go.Proofs
open Go.Proofs
instance moW:Mo:=⟨fun _=>false,fun _=>false,fun _=>false⟩
open Go.Proofs
def c23:CT (Tryz.f23.body.getD .skip):=⟨_,by conv=>lhs; cbv⟩
theorem F23:Fun1 Tryz.prog 23 36 c23.1 [.tmp 2,.tmp 3,.tmp 4]:=mkT Tryz.func23 rfl (by decide +kernel) Tryz.ntmps23 rfl c23.2 rfl
def c24:CT (Tryz.f24.body.getD .skip):=⟨_,by conv=>lhs; cbv⟩
theorem F24:Fun1 Tryz.prog 24 21 c24.1 [.tmp 2]:=mkT Tryz.func24 rfl (by decide +kernel) Tryz.ntmps24 rfl c24.2 rfl
def c65:CT (Tryz.f65.body.getD .skip):=⟨_,by conv=>lhs; cbv⟩
theorem F65:Fun1 Tryz.prog 65 41 c65.1 [.tmp 4]:=mkT Tryz.func65 rfl (by decide +kernel) Tryz.ntmps65 rfl c65.2 rfl
open Go.Proofs
theorem putI_len (l:List Int) (n:Int):(putI l n).length≤l.length+1:=by
 induction l with
 |nil=>simp[putI]
 |cons x r ih=>
  rw[putI]
  split
  ·split <;> simp
  ·simp only[List.length_cons]; omega
theorem put65 (l:List Int) (n:Int) (o:Own) (hl:l.length≤1000000):PCall Tryz.prog 65 [.slice o (rws eI l),.int .i64 n] (.slice .no (rws eI (putI l n))):=by
 have eIl:∀z:Int,(eI z).length=1:=fun z=>rfl
 have happ:∀(A:List Int) (z:Int),rws eI A++[[.int .i64 z]]=rws eI (A++[z]):=fun A z=>by simp[rws,eI]
 refine F65.pcallM rfl fun T hT=> ?_
 simp -implicitDefEqProofs only[go_sem,c65,hT]
 refine loopL F65 (fun x:Nat×Bool×List Int×Option Nat=>[(1,.int .i64 n),(5,grD 1 x.2.2.2 (rws eI x.2.2.1)),(6,.bool x.2.1),(9,.slice o (rws eI l)),(10,.int .i64 l.length),(11,.int .i64 x.1)]) (fun x=>grS 1 x.2.2.1.length x.2.2.2 {})
  (fun x=>x.1≤l.length∧(x.2.1=false→putI l n=x.2.2.1++putI (l.drop x.1) n)∧(x.2.1=true→putI l n=x.2.2.1++l.drop x.1)∧(x.2.1=false→x.2.2.1.length≤x.1)∧x.2.2.1.length≤x.1+1∧(x.2.2.2=none→x.2.2.1.length=0)) (fun x=>l.length-x.1) (0,false,[],none)
  ⟨Nat.zero_le _,fun _=>rfl,fun h=>(by cases h),fun _=>Nat.zero_le _,Nat.zero_le _,fun _=>rfl⟩ ?_ (St.le.refl _) ?_
 ·simp -implicitDefEqProofs only[go_sem,hT,Int.ofNat_zero]
  rfl
 clear hT T
 rintro⟨i,dn,out,ob⟩ ⟨hi,hf,ht,hl0,hlen,hok⟩ T hT
 simp only at hi hf ht hl0 hlen hok hT ⊢
 by_cases h:i<l.length
 case neg=>
  have g1:((i:Int)<l.length)=False:=eq_false (by omega)
  have hd:l.drop i=[]:=List.drop_eq_nil_of_le (by omega)
  rw[hd] at hf ht
  cases dn with
  |true=>
   rw[ht rfl,List.append_nil]
   simp -implicitDefEqProofs only[go_sem,hT,g1]
   exact grD_le
  |false=>
   rw[hf rfl]
   simp -implicitDefEqProofs only[go_sem,hT,g1,frz]
   refine app_gr' Tryz.sli29 Tryz.sz3 Tryz.by3 Tryz.zero3 rfl (n:=out.length) (m:=1) (base:={}) (by rw[za0]) rfl (St.le.refl _) grN_nil hok (by simp) (by omega) fun o' σ' hbox hle hn hno=> ?_
   simp -implicitDefEqProofs only[go_sem,hT,hbox]
   rw[happ]
   exact grD_le
 have g1:((i:Int)<l.length)=True:=eq_true (by omega)
 have g0:(0≤(i:Int))=True:=eq_true (by omega)
 have w1:IntKind.wrap .i64 ((i:Int)+1)=((i+1:Nat):Int):=by rw[zc1 (by omega) (by omega)]; simp
 have hR:(rws eI l)[i]?.getD []=eI l[i]:=rws_at h
 have hdr:l.drop i=l[i]::l.drop (i+1):=List.drop_eq_getElem_cons h
 rw[hdr] at hf ht
 generalize l[i]=x at *
 cases dn with
 |true=>
  simp -implicitDefEqProofs only[go_sem,hT,g1,g0,hR,eIl,eI,frz,Int.toNat_natCast]
  refine app_gr' Tryz.sli29 Tryz.sz3 Tryz.by3 Tryz.zero3 rfl (n:=out.length) (m:=1) (base:={}) (by rw[za0]) rfl (St.le.refl _) grN_nil hok (by simp) (by omega) fun o' σ' hbox hle hn hno=> ?_
  simp -implicitDefEqProofs only[go_sem,hT,hbox,w1]
  rw[happ]
  refine⟨(i+1,true,out++[x],o'),⟨by omega,fun h=>(by cases h),fun _=> ?_,fun h=>(by cases h),by simp only[List.length_append,List.length_cons,List.length_nil]; omega,fun h=>by simpa using hno h⟩,by omega, ?_,by simpa using hle⟩
  ·rw[ht rfl,List.append_assoc]; rfl
  ·trivial
 |false=>
  have hput:=hf rfl
  rw[putI] at hput
  by_cases h1:n≤x
  ·rw[if_pos h1] at hput
   have p1:(n≤x)=True:=eq_true h1
   by_cases h2:n<x
   ·rw[if_pos h2] at hput
    have p2:(n<x)=True:=eq_true h2
    simp -implicitDefEqProofs only[go_sem,hT,g1,g0,hR,eIl,eI,frz,Int.toNat_natCast,p1,p2]
    refine app_gr' Tryz.sli29 Tryz.sz3 Tryz.by3 Tryz.zero3 rfl (n:=out.length) (m:=1) (base:={}) (by rw[za0]) rfl (St.le.refl _) grN_nil hok (by simp) (by omega) fun o' σ' hbox hle hn hno=> ?_
    simp -implicitDefEqProofs only[go_sem,hT,hbox,frz]
    rw[happ]
    refine app_gr' Tryz.sli29 Tryz.sz3 Tryz.by3 Tryz.zero3 rfl (n:=out.length+1) (m:=1) (base:={}) (by rw[za0]; simp) rfl hle grN_nil (fun h=>by have:=hno h; omega) (by simp) (by omega) fun o2 σ2 hbox2 hle2 hn2 hno2=> ?_
    simp -implicitDefEqProofs only[go_sem,hT,hbox2,w1]
    rw[happ]
    refine⟨(i+1,true,out++[n]++[x],o2),⟨by omega,fun h=>(by cases h),fun _=> ?_,fun h=>(by cases h), ?_,fun h=>by have:=hno2 h; omega⟩,by omega, ?_,by simpa using hle2⟩
    ·rw[hput]; simp
    ·simp only[List.length_append,List.length_cons,List.length_nil]
     have:=hl0 rfl
     omega
    ·trivial
   ·rw[if_neg h2] at hput
    have p2:(n<x)=False:=eq_false h2
    simp -implicitDefEqProofs only[go_sem,hT,g1,g0,hR,eIl,eI,frz,Int.toNat_natCast,p1,p2]
    refine app_gr' Tryz.sli29 Tryz.sz3 Tryz.by3 Tryz.zero3 rfl (n:=out.length) (m:=1) (base:={}) (by rw[za0]) rfl (St.le.refl _) grN_nil hok (by simp) (by omega) fun o' σ' hbox hle hn hno=> ?_
    simp -implicitDefEqProofs only[go_sem,hT,hbox,w1]
    rw[happ]
    refine⟨(i+1,true,out++[x],o'),⟨by omega,fun h=>(by cases h),fun _=> ?_,fun h=>(by cases h),by simp only[List.length_append,List.length_cons,List.length_nil]; omega,fun h=>by simpa using hno h⟩,by omega, ?_,by simpa using hle⟩
    ·rw[hput]; simp
    ·trivial
  ·rw[if_neg h1] at hput
   have p1:(n≤x)=False:=eq_false h1
   simp -implicitDefEqProofs only[go_sem,hT,g1,g0,hR,eIl,eI,frz,Int.toNat_natCast,p1]
   refine app_gr' Tryz.sli29 Tryz.sz3 Tryz.by3 Tryz.zero3 rfl (n:=out.length) (m:=1) (base:={}) (by rw[za0]) rfl (St.le.refl _) grN_nil hok (by simp) (by omega) fun o' σ' hbox hle hn hno=> ?_
   simp -implicitDefEqProofs only[go_sem,hT,hbox,w1]
   rw[happ]
   refine⟨(i+1,false,out++[x],o'),⟨by omega,fun _=> ?_,fun h=>(by cases h),fun _=>by have:=hl0 rfl; simp only[List.length_append,List.length_cons,List.length_nil]; omega,by have:=hl0 rfl; simp only[List.length_append,List.length_cons,List.length_nil]; omega,fun h=>by simpa using hno h⟩,by omega, ?_,by simpa using hle⟩
   ·rw[hput]; simp
   ·trivial
theorem scanN_step {b:List Ty} {k p:Nat} (h:p<b.length):scanN b (k+1) p=if(decF b p).2≠0 then([],p,(decF b p).2) else(p::(scanN b k (p+szA b p)).1,(scanN b k (p+szA b p)).2):=by
 rw[scanN,if_neg (by omega)]
theorem scanN_end {b:List Ty} {k p:Nat} (h:b.length≤p):scanN b k p=([],0,0):=by
 cases k with
 |zero=>rfl
 |succ k=>rw[scanN,if_pos h]
def insL (b:List Ty) (L:List Nat):List Ins:=L.map (insA b)
def bYiaA0:=aI @zb6 (aI @za9 (aI @anD (aI @za2 (aI @eIn_1 @gdD))))
theorem scan23 (b:List Ty) (o:Own) (hb:b.length≤140737488355328):PCall Tryz.prog 23 [.slice o (rws eT b)] (.tup [.slice .no (rws eIn (insL b (scanD b).1)),.int .i64 (scanD b).2.1,.int .i64 (scanD b).2.2]):=by
 refine F23.pcallM rfl fun T hT=> ?_
 by_cases h4:4096<b.length
 ·have g4:((4096:Int)<b.length)=True:=eq_true (by omega)
  rw[show scanD b=([],0,4) by unfold scanD; rw[if_pos h4]]
  simp -implicitDefEqProofs only[go_sem,c23,hT,Nat.add_zero,g4,bYiaA0]
  exact DLe.tup (.cons (DLe.slice _ _) (.cons (DLe.refl _) (.cons (DLe.refl _) .nil)))
 have g4:((4096:Int)<b.length)=False:=eq_false (by omega)
 obtain⟨W,hW⟩:∃W,scanN b b.length 0=W:=⟨_,rfl⟩
 have hsd:scanD b=if W.2.2≠0 then([],W.2) else(W.1,0,0):=by unfold scanD; rw[if_neg h4,hW]
 rw[hsd]
 simp -implicitDefEqProofs only[go_sem,c23,hT,Nat.add_zero,g4,bYiaA0]
 refine loopL F23 (fun x:Nat×Nat×List Nat×Option Nat=>[(0,.slice o (rws eT b)),(5,grD 4 x.2.2.2 (rws eIn (insL b x.2.2.1))),(6,.int .i64 x.2.1)]) (fun x=>grS 4 x.2.2.1.length x.2.2.2 {})
  (fun x=>x.2.1≤b.length∧b.length≤x.2.1+x.1∧W.1=x.2.2.1++(scanN b x.1 x.2.1).1∧W.2=(scanN b x.1 x.2.1).2∧x.2.2.1.length≤x.2.1∧(x.2.2.2=none→x.2.2.1.length=0)) (fun x=>b.length-x.2.1) (b.length,0,[],none)
  ⟨Nat.zero_le _,by simp,by rw[hW]; rfl,by rw[hW],Nat.zero_le _,fun _=>rfl⟩ ?_ (St.le.refl _) ?_
 ·simp -implicitDefEqProofs only[go_sem,hT,Int.ofNat_zero]
  rfl
 clear hT T
 rintro⟨k,p,A,ob⟩ ⟨hp,hk,h1,h2,hlen,hok⟩ T hT
 simp only at hp hk h1 h2 hlen hok hT ⊢
 by_cases h:p<b.length
 case neg=>
  have g1:((p:Int)<b.length)=False:=eq_false (by omega)
  rw[scanN_end (by omega)] at h1 h2
  rw[h2,if_neg (by simp),h1,List.append_nil]
  simp -implicitDefEqProofs only[go_sem,hT,Nat.add_zero,g1,bYiaA0]
  exact DLe.tup (.cons grD_le (.cons (DLe.refl _) (.cons (DLe.refl _) .nil)))
 have g1:((p:Int)<b.length)=True:=eq_true (by omega)
 obtain⟨k,rfl⟩:∃k',k=k'+1:=⟨k-1,by omega⟩
 rw[scanN_step h] at h1 h2
 simp -implicitDefEqProofs only[go_sem,hT,Nat.add_zero,g1,bYiaA0]
 refine za3 (refDecode19 b o p hb (by omega)) ?_
 simp -implicitDefEqProofs only[go_sem,hT,Nat.add_zero,bYiaA0]
 intro b7 hb7
 by_cases hd:(decF b p).2=0
 case neg=>
  have gd:(((decF b p).2:Int)=0)=False:=eq_false (by omega)
  rw[if_pos hd] at h1 h2
  rw[h2,if_pos hd]
  simp -implicitDefEqProofs only[go_sem,hT,Nat.add_zero,gd,bYiaA0]
  exact DLe.tup (.cons (DLe.slice _ _) (.cons (DLe.refl _) (.cons (DLe.refl _) .nil)))
 have gd:(((decF b p).2:Int)=0)=True:=eq_true (by omega)
 rw[if_neg (by omega)] at h1 h2
 obtain⟨d1,d2,d3,d4⟩:=decF_ok hd
 have d3':1≤szA b p:=d3
 have d4':p+szA b p≤b.length:=d4
 have hi:(decF b p).1=insA b p:=rfl
 have hfz:∀i:Ins,(eIn i).map frz=eIn i:=fun i=>rfl
 simp -implicitDefEqProofs only[go_sem,hT,Nat.add_zero,gd,hi,hfz,bYiaA0]
 refine app_gr' Tryz.sli44 Tryz.sz38 Tryz.by38 Tryz.zero38 rfl (n:=A.length) (m:=1) (base:={}) (by rw[za0,insL,List.length_map]) rfl (le_add hb7) grN_nil hok (fun r hr=>by rw[List.mem_singleton.1 hr]; rfl) (by omega) fun o' σ' hbox hle hn hno=> ?_
 simp -implicitDefEqProofs only[go_sem,hT,hbox,Nat.add_zero,hi,bYiaA0]
 refine za3 (refSize74 _) ?_
 have w1:IntKind.wrap .i64 ((p:Int)+zf1 (insA b p).op.val)=((p+szA b p:Nat):Int):=by rw[zc1 (by omega) (by have:zf1 (insA b p).op.val=szA b p:=rfl; omega)]; simp
 simp -implicitDefEqProofs only[go_sem,hT,w1]
 have happ:rws eIn (insL b A)++[eIn (insA b p)]=rws eIn (insL b (A++[p])):=by simp[rws,insL]
 rw[happ]
 refine⟨(k,p+szA b p,A++[p],o'),⟨d4',by simp only; omega, ?_, ?_,by simp only[List.length_append,List.length_cons,List.length_nil]; omega,fun h=>by simpa using hno h⟩,by simp only; omega, ?_,by simpa using hle⟩
 ·rw[h1]; simp
 ·rw[h2]
 ·trivial
open Go.Proofs
def c4:CT (Tryz.f4.body.getD .skip):=⟨_,by conv=>lhs; cbv⟩
theorem F4:Fun1 Tryz.prog 4 87 c4.1 [.tmp 6]:=mkT Tryz.func4 rfl (by decide +kernel) Tryz.ntmps4 rfl c4.2 rfl
end Go.AL
