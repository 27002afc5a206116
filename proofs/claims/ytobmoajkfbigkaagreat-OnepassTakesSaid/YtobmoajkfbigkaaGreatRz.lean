import Derived.Test.YtobmoajkfbigkaaGreatRy
import Derived.Test.YtobmoajkfbigkaaGreatRn
import Derived.Test.YtobmoajkfbigkaaGreatRt
import Derived.Test.YtobmoajkfbigkaaGreatRp
import Derived.Test.YtobmoajkfbigkaaGreatRw
set_option linter.unusedSimpArgs false
set_option linter.unusedVariables false
set_option maxRecDepth 100000
set_option linter.defProp false
set_option maxHeartbeats 4000000
namespace Go.AL
open Go.Proofs
theorem least_neg {l:List Bool} (h:leastD l<0) (x:Nat):(l[x]?).getD false=false:=by
 unfold leastD at h
 split at h
 ·omega
 ·rename_i hn
  rw[List.findIdx?_eq_none_iff] at hn
  cases hx:l[x]? with
  |none=>rfl
  |some v=>exact hn v (List.mem_of_getElem? hx)
theorem goD_ind {e:En} {b:List Ty} {I:IS→Prop} (hI:∀(s:IS) (a:Nat),s.sz (b.length+1)→FH s→I s→a≤b.length→(s.fresh[a]?).getD false=true→leastD s.fresh=a→(roundD e b s a).2.2=0→I (roundD e b s a).1):
  ∀(k:Nat) (s:IS),s.sz (b.length+1)→FH s→muS e.cs s (b.length+1)<k→I s→(goD e b k s (leastD s.fresh)).2.2=0→
   ∃r:IS,goD e b k s (leastD s.fresh)=(r,0,0)∧r.sz (b.length+1)∧FH r∧I r∧∀x:Nat,(r.fresh[x]?).getD false=false
 |0,s,_,_,hk,_,_=>absurd hk (Nat.not_lt_zero _)
 |k+1,s,hs,hf,hk,hi,h=>by
  rw[goD] at h ⊢
  by_cases h0:leastD s.fresh<0
  ·rw[if_pos h0]
   exact⟨s,rfl,hs,hf,hi,least_neg h0⟩
  ·rw[if_neg h0] at h ⊢
   obtain⟨a,ha⟩:∃a:Nat,leastD s.fresh=a:=⟨_,(Int.toNat_of_nonneg (by omega)).symm⟩
   obtain⟨h1,h2⟩:=least_in ha (by omega)
   rw[Int.toNat_natCast] at h1 h2
   rw[hs.c] at h1
   rw[ha,Int.toNat_natCast] at h ⊢
   have hal:a≤b.length:=by omega
   by_cases hr:(roundD e b s a).2.2=0
   ·have hr':¬(roundD e b s a).2.2≠0:=fun h=>h hr
    rw[if_neg hr'] at h ⊢
    obtain⟨_,_,_,_,_,_,r6,_,_⟩:=round_shape (e:=e) hs hal
    exact goD_ind hI k _ r6 (round_FH hf hs hal) (Nat.lt_of_lt_of_le (round_falls (e:=e) hs hal h2) (Nat.le_of_lt_succ hk)) (hI s a hs hf hi hal h2 ha hr) h
   ·rw[if_pos hr] at h; exact absurd h hr
theorem is0_sz {n:Nat} {f:Fr}:(is0 n f).sz (n+1):=⟨by simp[is0],by simp[is0],by simp[is0],by simp[is0]⟩
theorem is0_FH {n:Nat} {f:Fr}:FH (is0 n f):=fun x hx=>hx
theorem is0_has {n:Nat} {f:Fr} {x:Nat}:((is0 n f).has[x]?).getD false=decide (x=0):=by
 simp only[is0]
 rw[set_at (by simp)]
 by_cases hx:x=0
 ·rw[if_pos hx]; simp[hx]
 ·rw[if_neg hx,List.getElem?_replicate]; split <;> simp[hx]
theorem is0_fr {n:Nat} {f:Fr}:((is0 n f).fr[0]?).getD (fr0 0)=f:=by
 simp only[is0]
 rw[set_at (by simp),if_pos rfl]
theorem is0_least {n:Nat} {f:Fr}:leastD (is0 n f).fresh=((0:Nat):Int):=least_at (by simp[is0]) (by simp[is0]) (fun j hj=>by omega)
theorem is0_mu {l:List Cl} {n:Nat} {f:Fr}:muS l (is0 n f) (n+1)<fuelD n:=by
 have:=muS_le (l:=l) (s:=is0 n f) (m:=n+1)
 unfold fuelD
 rw[show n+1+1=n+2 from rfl] at this
 generalize (n+1)*6145*(n+2)=P at *
 omega
theorem gone_ind {e:En} {loc:Int} {b:List Ty} {I:IS→Prop} (hI:∀(s:IS) (a:Nat),s.sz (b.length+1)→FH s→I s→a≤b.length→(s.fresh[a]?).getD false=true→leastD s.fresh=a→(roundD e b s a).2.2=0→I (roundD e b s a).1)
  (h0:I (is0 b.length (startF e.cs.length (psOf e) loc).1)) (h:(goneD e loc b).2.2=0):
  ∃r:IS,goneD e loc b=(r,0,0)∧r.sz (b.length+1)∧FH r∧I r∧∀x:Nat,(r.fresh[x]?).getD false=false:=by
 have hl:(0:Int)=leastD (is0 b.length (startF e.cs.length (psOf e) loc).1).fresh:=is0_least.symm
 unfold goneD at h ⊢
 rw[hl] at h ⊢
 exact goD_ind hI _ _ is0_sz is0_FH is0_mu h0 h
def EndI (n:Nat) (s:IS):Prop:=(s.has[n]?).getD false=true→(s.fresh[n]?).getD false=true
theorem hand_end {l:List Cl} {s:IS} {m a n:Nat} {g:Fr} (h:EndI n s) (hs:s.sz m) (ha:a<m):EndI n (handD l s a g).1:=by
 unfold handD
 split
 ·intro hx
  simp only at hx ⊢
  rw[set_at (by rw[hs.c]; omega)]
  rw[set_at (by rw[hs.a]; omega)] at hx
  by_cases he:n=a
  ·rw[if_pos he]
  ·rw[if_neg he] at hx ⊢; exact h hx
 split
 ·exact h
 split
 ·intro hx
  simp only at hx ⊢
  rw[set_at (by rw[hs.c]; omega)]
  by_cases he:n=a
  ·rw[if_pos he]
  ·rw[if_neg he]; exact h hx
 ·exact h
theorem hands_end {l:List Cl} {m n:Nat} {g:Fr}:∀{to:List Int} {s:IS},EndI n s→s.sz m→(∀x∈to,0≤x∧x<m)→EndI n (handsD l g to s).1
 |[],s,h,_,_=>h
 |a::r,s,h,hs,ht=>by
  have h1:=hand_end (l:=l) (g:=g) h hs (show a.toNat<m by have:=ht a (List.mem_cons_self ..); omega)
  rw[handsD]
  split
  ·exact h1
  ·exact hands_end h1 (hand_sz hs) fun x hx=>ht x (List.mem_cons_of_mem _ hx)
theorem round_ok {e:En} {b:List Ty} {s:IS} {a:Nat} (h:(roundD e b s a).2.2=0):
  a≠b.length∧(decF b a).2=0∧overB s.tk a (zf1 (decF b a).1.op.val)=false∧(applyR e ((s.fr[a]?).getD (fr0 0)) (decF b a).1).2=0∧(onD (decF b a).1 b.length).2=0∧
   roundD e b s a=handsD e.cs (applyR e ((s.fr[a]?).getD (fr0 0)) (decF b a).1).1 (onD (decF b a).1 b.length).1 ⟨s.has,s.fr,s.fresh.set a false,s.tk.set a (zf1 (decF b a).1.op.val)⟩:=by
 by_cases g1:a=b.length
 ·unfold roundD at h; rw[if_pos g1] at h; cases h
 by_cases g2:(decF b a).2=0
 case neg=>unfold roundD at h; rw[if_neg g1,if_pos g2] at h; exact absurd h g2
 have q2:¬(decF b a).2≠0:=fun h=>h g2
 cases g3:overB s.tk a (zf1 (decF b a).1.op.val)
 case true=>unfold roundD at h; rw[if_neg g1,if_neg q2,if_pos g3] at h; cases h
 have q3:¬overB s.tk a (zf1 (decF b a).1.op.val)=true:=by rw[g3]; simp
 by_cases g4:(applyR e ((s.fr[a]?).getD (fr0 0)) (decF b a).1).2=0
 case neg=>unfold roundD at h; rw[if_neg g1,if_neg q2,if_neg q3] at h; simp only at h; rw[if_pos g4] at h; exact absurd h g4
 have q4:¬(applyR e ((s.fr[a]?).getD (fr0 0)) (decF b a).1).2≠0:=fun h=>h g4
 by_cases g5:(onD (decF b a).1 b.length).2=0
 case neg=>unfold roundD at h; rw[if_neg g1,if_neg q2,if_neg q3] at h; simp only at h; rw[if_neg q4,if_pos g5] at h; exact absurd h g5
 have q5:¬(onD (decF b a).1 b.length).2≠0:=fun h=>h g5
 refine⟨g1,g2,rfl,g4,g5, ?_⟩
 unfold roundD; rw[if_neg g1,if_neg q2,if_neg q3]; simp only; rw[if_neg q4,if_neg q5]
theorem round_end {e:En} {b:List Ty} {s:IS} {a:Nat} (hi:EndI b.length s) (hs:s.sz (b.length+1)) (ha:a≤b.length) (h:(roundD e b s a).2.2=0):EndI b.length (roundD e b s a).1:=by
 obtain⟨h1,h2,h3,h4,h5,h6⟩:=round_ok h
 rw[h6]
 refine hands_end (m:=b.length+1) ?_ ⟨hs.a,hs.b,by simpa using hs.c,by simpa using hs.d⟩ fun x hx=>by have:=on_in h2 hx; omega
 intro hx
 simp only
 rw[set_at (by rw[hs.c]; omega),if_neg (Ne.symm h1)]
 exact hi hx
theorem gone_end {e:En} {loc:Int} {b:List Ty} (h:(goneD e loc b).2.2=0):((goneD e loc b).1.has[b.length]?).getD false=false:=by
 obtain⟨r,h1,h2,h3,h4,h5⟩:=gone_ind (I:=EndI b.length) (fun s a hs hf hi ha _ _ hr=>round_end hi hs ha hr) (fun hx=>by
  have h0:=hx; rw[is0_has] at h0; simp only[decide_eq_true_eq] at h0
  simp[is0,h0]) h
 rw[h1]
 cases hx:(r.has[b.length]?).getD false with
 |false=>rfl
 |true=>have:=h4 hx; rw[h5] at this; cases this
open Go.Proofs
theorem SubF.refl {l:List Cl} {f:Fr} (h:checkF l.length f=0):SubF l f f:=⟨h,h,rfl,rfl,fun i hi=>subB_refl ((checkF_iff.1 h).2.2 i hi)⟩
theorem SubF.trans {l:List Cl} {f g k:Fr} (h:SubF l f g) (h':SubF l g k):SubF l f k:=⟨h.ca,h'.cb,h.loc.trans h'.loc,h.h.trans h'.h,fun i hi=>subB_trans (h.sl i hi) (h'.sl i hi)⟩
theorem mergeF_ok {l:List Cl} {f g:Fr} (h:(mergeF l f g).2=0):alikeF l.length f g=0∧mergeF l f g=(mgAt l f g (f.loc+f.h).toNat,0):=by
 unfold mergeF at h ⊢
 by_cases h0:alikeF l.length f g=0
 ·exact⟨h0,by rw[if_neg (by omega)]⟩
 ·rw[if_pos h0] at h; exact absurd h h0
theorem mergeF_up {l:List Cl} {f g:Fr} (h:(mergeF l f g).2=0):SubF l f (mergeF l f g).1∧SubF l g (mergeF l f g).1∧∀u,SubF l f u→SubF l g u→SubF l (mergeF l f g).1 u:=by
 obtain⟨h0,h1⟩:=mergeF_ok h
 rw[h1]
 simp only
 obtain⟨ca,cb,hloc,hh⟩:=alike_zero h0
 obtain⟨a1,a2,a3⟩:=checkF_iff.1 ca
 obtain⟨b1,b2,b3⟩:=checkF_iff.1 cb
 obtain⟨s1,s2,s3,s4⟩:=shaped_of a1
 have h24:(f.loc+f.h).toNat≤24:=by omega
 obtain⟨m1,m2⟩:=mgAt_loc (l:=l) (a:=f) (b:=g) (f.loc+f.h).toNat
 have msl:=fun i hi=>mgAt_sl (l:=l) (a:=f) (b:=g) (f.loc+f.h).toNat h24 i hi
 have out:∀k:Fr,bareF k=k→k.loc=f.loc→k.h=f.h→∀i,i<24→¬i<(f.loc+f.h).toNat→slAt k i=0:=fun k hb hl hk i hi hn=>by
  rw[←hb,slAt_bare k hi,if_neg (by omega)]
 generalize mgAt l f g (f.loc+f.h).toNat=m at m1 m2 msl
 have cm:checkF l.length m=0:=by
  refine checkF_iff.2 ⟨?_,fr_ext ?_ ?_ fun i hi=> ?_,fun i hi=> ?_⟩
  ·simp only[shapedB,m1,m2]; simpa[shapedB] using a1
  ·exact bare_loc _
  ·exact bare_h _
  ·rw[slAt_bare m hi,m1,m2]
   by_cases hc:(i:Int)<f.loc+f.h
   ·rw[if_pos hc]
   ·rw[if_neg hc,msl i hi,if_neg (by omega),out f a2 rfl rfl i hi (by omega)]
  ·rw[msl i hi]
   split
   ·exact merge_valid _ _
   ·exact a3 i hi
 refine⟨⟨ca,cm,m1.symm,m2.symm,fun i hi=> ?_⟩,⟨cb,cm,by omega,by omega,fun i hi=> ?_⟩,fun u h1 h2=>⟨cm,h1.cb,m1.trans h1.loc,m2.trans h1.h,fun i hi=> ?_⟩⟩
 ·rw[msl i hi]
  split
  ·exact(merge_up (a3 i hi) (b3 i hi)).1
  ·exact subB_refl (a3 i hi)
 ·rw[msl i hi]
  split
  ·exact(merge_up (a3 i hi) (b3 i hi)).2.1
  ·rename_i hn
   rw[out f a2 rfl rfl i hi hn,out g b2 hloc.symm hh.symm i hi hn]; exact subB_zero l
 ·rw[msl i hi]
  split
  ·exact(merge_up (a3 i hi) (b3 i hi)).2.2 _ (h1.sl i hi) (h2.sl i hi)
  ·exact h1.sl i hi
def hasP (s:IS) (x:Nat):Prop:=(s.has[x]?).getD false=true
def newP (s:IS) (x:Nat):Prop:=(s.fresh[x]?).getD false=true
def frA (s:IS) (x:Nat):Fr:=(s.fr[x]?).getD (fr0 0)
structure Handed (l:List Cl) (g:Fr) (T:List Nat) (s s':IS):Prop where
 has:∀x,hasP s' x↔hasP s x∨x∈T
 old:∀x,hasP s' x→¬newP s' x→hasP s x∧¬newP s x∧frA s' x=frA s x
 up:∀x,hasP s x→frA s' x=frA s x∨SubF l (frA s x) (frA s' x)
 got:∀x∈T,SubF l g (frA s' x)
 least:∀F:Nat→Fr,(∀x,hasP s x→SubF l (frA s x) (F x))→(∀x∈T,SubF l g (F x))→∀x,hasP s' x→SubF l (frA s' x) (F x)
theorem Handed.nil {l:List Cl} {g:Fr} {s:IS}:Handed l g [] s s:=⟨fun x=>by simp,fun x h1 h2=>⟨h1,h2,rfl⟩,fun x _=> .inl rfl,fun x h=>(by cases h),fun F h _ x hx=>h x hx⟩
theorem Handed.trans {l:List Cl} {g:Fr} {T T':List Nat} {s s1 s2:IS} (h:Handed l g T s s1) (h':Handed l g T' s1 s2):Handed l g (T++T') s s2:=by
 refine⟨fun x=> ?_,fun x h1 h2=> ?_,fun x hx=> ?_,fun x hx=> ?_,fun F h1 h2 x hx=> ?_⟩
 ·rw[h'.has,h.has,List.mem_append,or_assoc]
 ·obtain⟨a1,a2,a3⟩:=h'.old x h1 h2
  obtain⟨b1,b2,b3⟩:=h.old x a1 a2
  exact⟨b1,b2,a3.trans b3⟩
 ·rcases h.up x hx with h3|h3 <;> rcases h'.up x ((h.has x).2 (.inl hx)) with h4|h4
  ·exact .inl (h4.trans h3)
  ·exact .inr (h3▸h4)
  ·exact .inr (h4▸h3)
  ·exact .inr (h3.trans h4)
 ·rcases List.mem_append.1 hx with hx|hx
  ·rcases h'.up x ((h.has x).2 (.inr hx)) with h4|h4
   ·rw[h4]; exact h.got x hx
   ·exact(h.got x hx).trans h4
  ·exact h'.got x hx
 ·exact h'.least F (h.least F h1 fun y hy=>h2 y (List.mem_append_left _ hy)) (fun y hy=>h2 y (List.mem_append_right _ hy)) x hx
theorem hand_handed {l:List Cl} {s:IS} {m a:Nat} {g:Fr} (hs:s.sz m) (ha:a<m) (hg:checkF l.length g=0) (h:(handD l s a g).2=0):Handed l g [a] s (handD l s a g).1:=by
 have hla:a<s.has.length:=by rw[hs.a]; omega
 have hlb:a<s.fr.length:=by rw[hs.b]; omega
 have hlc:a<s.fresh.length:=by rw[hs.c]; omega
 unfold handD at h ⊢
 by_cases g1:(s.has[a]?).getD false=false
 ·rw[if_pos g1]
  have e1:∀x,hasP ⟨s.has.set a true,s.fr.set a g,s.fresh.set a true,s.tk⟩ x↔x=a∨hasP s x:=fun x=>by
   simp only[hasP]; rw[set_at hla]; split <;> simp_all
  have e2:∀x,newP ⟨s.has.set a true,s.fr.set a g,s.fresh.set a true,s.tk⟩ x↔x=a∨newP s x:=fun x=>by
   simp only[newP]; rw[set_at hlc]; split <;> simp_all
  have e3:∀x,frA ⟨s.has.set a true,s.fr.set a g,s.fresh.set a true,s.tk⟩ x=if x=a then g else frA s x:=fun x=>by
   simp only[frA]; rw[set_at hlb]
  have hna:∀x,hasP s x→x≠a:=fun x hx he=>by rw[he] at hx; unfold hasP at hx; rw[g1] at hx; cases hx
  refine⟨fun x=>by rw[e1]; simp[or_comm],fun x h1 h2=> ?_,fun x hx=> ?_,fun x hx=> ?_,fun F h1 h2 x hx=> ?_⟩
  ·rw[e2,not_or] at h2
   rw[e1] at h1
   rw[e3,if_neg h2.1]
   exact⟨h1.resolve_left h2.1,h2.2,rfl⟩
  ·rw[e3,if_neg (hna x hx)]; exact .inl rfl
  ·have:x=a:=by simpa using hx
   rw[e3,if_pos this]; exact SubF.refl hg
  ·rw[e3]
   by_cases he:x=a
   ·rw[if_pos he]; exact h2 x (by simp[he])
   ·rw[if_neg he]; exact h1 x (((e1 x).1 hx).resolve_left he)
 rw[if_neg g1] at h ⊢
 have hsa:hasP s a:=by unfold hasP; simpa using g1
 by_cases g2:(mergeF l ((s.fr[a]?).getD (fr0 0)) g).2=0
 case neg=>rw[if_pos g2] at h; exact absurd h g2
 have g2':¬(mergeF l ((s.fr[a]?).getD (fr0 0)) g).2≠0:=fun h=>h g2
 rw[if_neg g2'] at h ⊢
 obtain⟨u1,u2,u3⟩:=mergeF_up g2
 by_cases g3:(mergeF l ((s.fr[a]?).getD (fr0 0)) g).1=(s.fr[a]?).getD (fr0 0)
 ·have g3':¬(mergeF l ((s.fr[a]?).getD (fr0 0)) g).1≠(s.fr[a]?).getD (fr0 0):=fun h=>h g3
  rw[if_neg g3']
  refine⟨fun x=> ?_,fun x h1 h2=>⟨h1,h2,rfl⟩,fun x _=> .inl rfl,fun x hx=> ?_,fun F h1 _ x hx=>h1 x hx⟩
  ·constructor
   ·exact .inl
   ·rintro(h|h)
    ·exact h
    ·rw[show x=a by simpa using h]; exact hsa
  ·rw[show x=a by simpa using hx]
   show SubF l g ((s.fr[a]?).getD (fr0 0))
   rw[←g3]; exact u2
 ·rw[if_pos g3]
  generalize (mergeF l ((s.fr[a]?).getD (fr0 0)) g).1=M at u1 u2 u3 g3
  have e2:∀x,newP ⟨s.has,s.fr.set a M,s.fresh.set a true,s.tk⟩ x↔x=a∨newP s x:=fun x=>by
   simp only[newP]; rw[set_at hlc]; split <;> simp_all
  have e3:∀x,frA ⟨s.has,s.fr.set a M,s.fresh.set a true,s.tk⟩ x=if x=a then M else frA s x:=fun x=>by
   simp only[frA]; rw[set_at hlb]
  refine⟨fun x=> ?_,fun x h1 h2=> ?_,fun x hx=> ?_,fun x hx=> ?_,fun F h1 h2 x hx=> ?_⟩
  ·constructor
   ·exact .inl
   ·rintro(h|h)
    ·exact h
    ·rw[show x=a by simpa using h]; exact hsa
  ·rw[e2,not_or] at h2
   rw[e3,if_neg h2.1]
   exact⟨h1,h2.2,rfl⟩
  ·rw[e3]
   by_cases he:x=a
   ·subst he; rw[if_pos rfl]; exact .inr u1
   ·rw[if_neg he]; exact .inl rfl
  ·rw[e3,if_pos (show x=a by simpa using hx)]; exact u2
  ·rw[e3]
   by_cases he:x=a
   ·subst he; rw[if_pos rfl]; exact u3 _ (h1 x hx) (h2 x (by simp))
   ·rw[if_neg he]; exact h1 x hx
theorem hands_handed {l:List Cl} {m:Nat} {g:Fr} (hg:checkF l.length g=0):∀{to:List Int} {s:IS},s.sz m→(∀x∈to,0≤x∧x<m)→(handsD l g to s).2.2=0→Handed l g (to.map Int.toNat) s (handsD l g to s).1
 |[],s,_,_,_=> .nil
 |a::r,s,hs,ht,h=>by
  have ha:=ht a (List.mem_cons_self ..)
  rw[handsD] at h ⊢
  by_cases h0:(handD l s a.toNat g).2=0
  case neg=>rw[if_pos h0] at h; exact absurd h h0
  have h0':¬(handD l s a.toNat g).2≠0:=fun h=>h h0
  rw[if_neg h0'] at h ⊢
  exact(hand_handed hs (by omega) hg h0).trans (hands_handed hg (hand_sz hs) (fun x hx=>ht x (List.mem_cons_of_mem _ hx)) h)
def nextN (b:List Ty) (a:Nat):List Nat:=(onD (decF b a).1 b.length).1.map Int.toNat
def insA (b:List Ty) (a:Nat):Ins:=(decF b a).1
abbrev szA (b:List Ty) (x:Nat):Nat:=zf1 (insA b x).op.val
def behA (e:En) (b:List Ty) (s:IS) (a:Nat):Fr:=(applyR e (frA s a) (insA b a)).1
theorem round_handed {e:En} {b:List Ty} {s:IS} {a:Nat} (hw:WideE e) (hs:s.sz (b.length+1)) (ha:a≤b.length) (h:(roundD e b s a).2.2=0):
  Handed e.cs (behA e b s a) (nextN b a) ⟨s.has,s.fr,s.fresh.set a false,s.tk.set a (zf1 (decF b a).1.op.val)⟩ (roundD e b s a).1:=by
 obtain⟨h1,h2,h3,h4,h5,h6⟩:=round_ok h
 rw[h6] at h ⊢
 exact hands_handed (done_check hw (done_iff.1 h4)) ⟨hs.a,hs.b,by simpa using hs.c,by simpa using hs.d⟩ (fun x hx=>by have:=on_in h2 hx; omega) h
def FixI (e:En) (b:List Ty) (s:IS):Prop:=∀x,hasP s x→¬newP s x→x≠b.length∧(decF b x).2=0∧(applyR e (frA s x) (insA b x)).2=0∧(onD (decF b x).1 b.length).2=0∧∀y∈nextN b x,hasP s y∧SubF e.cs (behA e b s x) (frA s y)
theorem round_fix {e:En} {b:List Ty} {s:IS} {a:Nat} (hw:WideE e) (hs:s.sz (b.length+1)) (ha:a≤b.length) (hn:newP s a) (hi:FixI e b s) (hf:FH s) (h:(roundD e b s a).2.2=0):FixI e b (roundD e b s a).1:=by
 have H:=round_handed hw hs ha h
 obtain⟨h1,h2,h3,h4,h5,h6⟩:=round_ok h
 have lc:a<s.fresh.length:=by rw[hs.c]; omega
 generalize (roundD e b s a).1=s' at H
 intro x hx hnx
 obtain⟨o1,o2,o3⟩:=H.old x hx hnx
 have o1:hasP s x:=o1
 have o3:frA s' x=frA s x:=o3
 have hb:behA e b s' x=behA e b s x:=by unfold behA; rw[o3]
 have up:∀y g,hasP s y→SubF e.cs g (frA s y)→hasP s' y∧SubF e.cs g (frA s' y):=fun y g hy hg=>⟨(H.has y).2 (.inl hy),by
  rcases H.up y hy with h|h
  ·rw[h]; exact hg
  ·exact hg.trans h⟩
 rw[hb,o3]
 by_cases he:x=a
 ·subst he
  exact⟨h1,h2,h4,h5,fun y hy=>⟨(H.has y).2 (.inr hy),H.got y hy⟩⟩
 ·have hnn:¬newP s x:=fun hc=>o2 (by
   unfold newP at hc ⊢
   simp only
   rw[set_at lc,if_neg he]; exact hc)
  obtain⟨i1,i2,i3,i4,i5⟩:=hi x o1 hnn
  exact⟨i1,i2,i3,i4,fun y hy=>up y _ (i5 y hy).1 (i5 y hy).2⟩
def StartI (e:En) (f0:Fr) (s:IS):Prop:=hasP s 0∧SubF e.cs f0 (frA s 0)∧∀x,hasP s x→checkF e.cs.length (frA s x)=0
theorem round_start {e:En} {b:List Ty} {s:IS} {a:Nat} {f0:Fr} (hw:WideE e) (hs:s.sz (b.length+1)) (ha:a≤b.length) (hi:StartI e f0 s) (h:(roundD e b s a).2.2=0):StartI e f0 (roundD e b s a).1:=by
 have H:=round_handed hw hs ha h
 generalize (roundD e b s a).1=s' at H
 obtain⟨i1,i2,i3⟩:=hi
 refine⟨(H.has 0).2 (.inl i1), ?_,fun x hx=> ?_⟩
 ·rcases H.up 0 i1 with h|h
  ·rw[h]; exact i2
  ·exact i2.trans h
 ·rcases(H.has x).1 hx with hx|hx
  ·rcases H.up x hx with h|h
   ·rw[h]; exact i3 x hx
   ·exact h.cb
  ·exact(H.got x hx).cb
open Go.Proofs
theorem slAt_slOf {a h:Int} {ts:List Ty} {i:Nat} (hi:i<24):slAt ⟨a,h,slOf ts⟩ i=(ts[i]?).getD 0:=by
 simp[slAt,slOf,hi]
theorem start_eq {e:En} {loc:Int} (h:mayE e loc=0):canB e=true∧(psOf e).length≤loc∧loc≤16∧(∀t∈psOf e,storedN e.cs.length t=true)∧startF e.cs.length (psOf e) loc=(⟨loc,0,slOf (psOf e)⟩,0):=by
 have hno:¬(canB e=false∨loc<(psOf e).length∨16<loc):=fun hc=>(may_can e loc).2 hc h
 have hcan:canB e=true:=by
  cases h:canB e with
  |true=>rfl
  |false=>exact absurd (.inl h) hno
 obtain⟨hs,h0,hps,hp8,hst⟩:=can_sig hcan
 have h1:¬loc<(psOf e).length:=fun h=>hno (.inr (.inl h))
 have h2:¬16<loc:=fun h=>hno (.inr (.inr h))
 have hok:=start_ok hcan (n:=loc) h1 h2
 refine⟨hcan,by omega,by omega,hst, ?_⟩
 unfold startF at hok ⊢
 split
 ·rename_i hc; rw[if_pos hc] at hok; cases hok
 ·rfl
theorem start_check {e:En} {loc:Int} (h:mayE e loc=0):checkF e.cs.length (startF e.cs.length (psOf e) loc).1=0:=by
 obtain⟨_,h1,h2,h3,h4⟩:=start_eq h
 rw[h4]
 simp only
 refine checkF_iff.2 ⟨?_,fr_ext (bare_loc _) (bare_h _) fun i hi=> ?_,fun i hi=> ?_⟩
 ·simp only[shapedB,decide_eq_true_eq]; omega
 ·rw[slAt_bare _ hi]
  split
  ·rfl
  ·rename_i hc
   simp only at hc
   rw[slAt_slOf hi,List.getElem?_eq_none (by omega)]; rfl
 ·rw[slAt_slOf hi]
  cases hx:(psOf e)[i]? with
  |none=>exact valid_0 _
  |some t=>exact stored_valid (h3 t (List.mem_of_getElem? hx))
structure LastP (e:En) (loc:Int) (b:List Ty) (r:IS):Prop where
 sz:r.sz (b.length+1)
 lt:∀x,hasP r x→x<b.length
 start:StartI e (startF e.cs.length (psOf e) loc).1 r
 goes:∀x,hasP r x→(decF b x).2=0∧(applyR e (frA r x) (insA b x)).2=0∧(onD (decF b x).1 b.length).2=0∧∀y∈nextN b x,hasP r y∧SubF e.cs (behA e b r x) (frA r y)
theorem hasP_lt {s:IS} {m x:Nat} (hs:s.sz m) (h:hasP s x):x<m:=by
 unfold hasP at h
 rw[←hs.a]
 exact Classical.byContradiction fun hc=>by rw[List.getElem?_eq_none (by omega)] at h; cases h
theorem is0_hasP {n:Nat} {f:Fr} {x:Nat}:hasP (is0 n f) x↔x=0:=by unfold hasP; rw[is0_has]; simp
theorem gone_last {e:En} {loc:Int} {b:List Ty} (hw:WideE e) (hm:mayE e loc=0) (h:(goneD e loc b).2.2=0):∃r,goneD e loc b=(r,0,0)∧LastP e loc b r:=by
 have hend:=gone_end h
 obtain⟨r,h1,h2,h3,⟨h4,h5⟩,h6⟩:=gone_ind (I:=fun s=>FixI e b s∧StartI e (startF e.cs.length (psOf e) loc).1 s)
  (fun s a hs hf ⟨i1,i2⟩ ha hn _ hr=>⟨round_fix hw hs ha hn i1 hf hr,round_start hw hs ha i2 hr⟩)
  ⟨fun x hx hn=>by
   rw[is0_hasP] at hx
   exact absurd (show newP (is0 b.length _) x by subst hx; simp[newP,is0]) hn,
   by rw[is0_hasP],by
   have:frA (is0 b.length (startF e.cs.length (psOf e) loc).1) 0=(startF e.cs.length (psOf e) loc).1:=is0_fr
   rw[this]; exact SubF.refl (start_check hm),fun x hx=>by
   rw[is0_hasP] at hx
   subst hx
   have:frA (is0 b.length (startF e.cs.length (psOf e) loc).1) 0=(startF e.cs.length (psOf e) loc).1:=is0_fr
   rw[this]; exact start_check hm⟩ h
 have hno:∀x,¬newP r x:=fun x hx=>by unfold newP at hx; rw[h6] at hx; cases hx
 refine⟨r,h1,h2,fun x hx=> ?_,h5,fun x hx=>(h4 x hx (hno x)).2⟩
 have:=hasP_lt h2 hx
 have:=(h4 x hx (hno x)).1
 omega
theorem infer_last {e:En} {loc:Int} {b:List Ty} (hw:WideE e) (h:(inferD e loc b).2.2=0):mayE e loc=0∧b.length≤4096∧∃r,goneD e loc b=(r,0,0)∧LastP e loc b r∧inferD e loc b=(entsD r b.length,0,0):=by
 unfold inferD at h ⊢
 by_cases h1:mayE e loc=0
 case neg=>rw[if_pos h1] at h; exact absurd h h1
 have h1':¬mayE e loc≠0:=fun h=>h h1
 rw[if_neg h1'] at h ⊢
 by_cases h2:4096<b.length
 ·rw[if_pos h2] at h; cases h
 rw[if_neg h2] at h ⊢
 simp only at h ⊢
 have hg:goneD e loc b=goD e b (fuelD b.length) (is0 b.length (startF e.cs.length (psOf e) loc).1) 0:=rfl
 rw[←hg] at h ⊢
 by_cases h3:(goneD e loc b).2.2=0
 case neg=>rw[if_pos h3] at h; exact absurd h h3
 obtain⟨r,h4,h5⟩:=gone_last hw h1 h3
 refine⟨h1,by omega,r,h4,h5, ?_⟩
 rw[h4]; rfl
theorem ents_mem {s:IS} {n:Nat} {x:Ey}:x∈entsD s n↔∃a:Nat,a<n∧hasP s a∧x=⟨(a:Int),false,frA s a⟩:=by
 unfold entsD
 rw[List.mem_filterMap]
 constructor
 ·rintro⟨a,ha,hx⟩
  rw[List.mem_range] at ha
  split at hx
  ·rename_i hh; exact⟨a,ha,hh,by simpa[frA] using hx.symm⟩
  ·cases hx
 ·rintro⟨a,ha,hh,rfl⟩
  exact⟨a,List.mem_range.2 ha,by unfold hasP at hh; rw[if_pos hh]; rfl⟩
open Go.Proofs
theorem findE_mem {l:List Ey} {a:Int} {x:Ey} (h:findE l a=some x):x∈l∧x.pos=a:=by
 unfold findE at h
 exact⟨List.mem_of_find?_eq_some h,by have:=List.find?_some h; simpa using this⟩
theorem findE_of:∀{l:List Ey},Rise l→∀{y:Ey},y∈l→findE l y.pos=some y
 |[],_,y,h=>by cases h
 |x::r,hr,y,h=>by
  obtain⟨h1,h2⟩:=rise_cons hr
  unfold findE
  rcases List.mem_cons.1 h with rfl|h
  ·rw[List.find?_cons_of_pos (by simp)]
  ·rw[List.find?_cons_of_neg (by have:=h1 y h; simp; omega)]
   exact findE_of h2 h
theorem hands_tk2 {e:En} {b:List Ty} {s:IS} {a:Nat} (h:(roundD e b s a).2.2=0):(roundD e b s a).1.tk=s.tk.set a (szA b a):=by
 obtain⟨_,_,_,_,_,h6⟩:=round_ok h
 rw[h6,hands_tk]; rfl
open Go.Proofs
theorem below_keep {M:MMap} {σ:St} {w w':World} (hi:Inv M σ w) (hb:Go.RowKit.Below w.heap.size w w'):Inv M σ w'∧KeepF M σ w M σ w':=by
 have hk:Keep M w M w':=⟨hb.os,hb.tape,hb.output,hb.size,fun b h1 h2=>⟨h2,hb.block b h1⟩,fun b lim c e f h1 h2=>by
  have hl:b<w.heap.size:=hi.dom b (by rw[h1]; simp)
  exact⟨⟨c,by rw[hb.block b hl]; exact h2,rfl,fun _ _=>rfl⟩,.inr ⟨lim,Nat.le_refl _,h1⟩⟩⟩
 have hlt:∀b,σ.has b→w'.heap[b]? =w.heap[b]? :=fun b h=>hb.block b (hi.dom b (hi.lt h))
 refine⟨⟨fun b cs h=>(hi.box b cs h).keep hk rfl (hlt b (.inl (by simp[h]))),fun b s n h=> ?_,fun b o h=>(hi.mp b o h).keep hk rfl (hlt b (.inr (.inr (by simp[h])))),fun b h=>Nat.lt_of_lt_of_le (hi.dom b h) hb.size⟩,⟨hk,fun b h1 _=>⟨rfl,hb.block b (hi.dom b h1)⟩,fun b h=> .inl h⟩⟩
 obtain⟨h1,c,e,cap,h2,h3,h4⟩:=hi.buf b s n h
 exact⟨h1,c,e,cap,by rw[hlt b (.inr (.inl (by simp[h])))]; exact h2,h3,h4⟩
end Go.AL
namespace Go.AL
open Go.Proofs Go.RowKit Go.Maps
theorem under3:Tryz.prog.underlying 3=some (.int .i64):=by kernel_rfl
theorem sortsK (m:Nat):AnyZI.SortsIn Tryz.prog Tryz.sortedA_ren Fence.wide m:=
 ⟨fun blk off cap ss W hH hblk hsz=>callsIn_wide.2 (AnyM.slices_Sort_int Tryz.sortA blk off cap ss W hH hblk hsz),
  fun p cap W=>callsIn_wide.2 (AnyM.slices_Sort_int_none Tryz.sortA p cap W)⟩
end Go.AL
namespace Go.AL
open Go.Proofs Go.RowKit Go.Maps Go.WideElems Go.MapKept
def kyI:Ky→Int
 | .int _ n=>n
 | .str _=>0
def rdU (_:Value):Option (DataW Unit×List MemPlace):=some (.nil,[])
theorem ky_inj:∀{a b:Ky},a.v=b.v→a=b
 | .int k n,.int k' n',h=>by simp only[Ky.v,Value.int.injEq] at h; obtain⟨rfl,rfl⟩:=h; rfl
 | .str s,.str s',h=>by simp only[Ky.v,Value.string.injEq] at h; rw[h]
 | .int _ _,.str _,h=>by simp[Ky.v] at h
 | .str _,.int _ _,h=>by simp[Ky.v] at h
theorem own_map {M:MMap} {w:World} {b:Nat} {ks:List (Ky×Nat)} {vs:List D} {clock:Nat} (h:MpAt M w b (.map (some .i64) ks vs clock)) (hk:∀p∈ks,∃n,p.1=kyN n∧n≤5000) (hl:ks.length≤5000):
  ∃D0:DataW Unit,w.ownsMap Tryz.prog 3 rdU b 5000 D0∧Maps.size D0=ks.length∧(intKeys D0).Perm (ks.map fun p=>kyI p.1):=by
 obtain⟨_,x,hx,es,rfl,h1,h2,h3,h4,h5,h6,h7⟩:=h
 have hlen:es.toList.length=ks.length:=by have:=congrArg List.length h1; simpa using this
 have key:∀y∈es.toList,∃n:Nat,n≤5000∧y.key= .int .i64 (n:Int):=fun y hy=>by
  have:y.key∈ks.map (·.1.v):=by rw[←h1]; exact List.mem_map.2 ⟨y,hy,rfl⟩
  obtain⟨p,hp,he⟩:=List.mem_map.1 this
  obtain⟨n,hn,hle⟩:=hk p hp
  exact⟨n,hle,by rw[←he,hn]; rfl⟩
 have hrd:∀y∈es.toList,∃n:Nat,y.key= .int .i64 (n:Int)∧rd Tryz.prog 3 rdU y=some (.int .i64 (n:Int),.nil):=fun y hy=>by
  obtain⟨n,hn,he⟩:=key y hy
  refine⟨n,he, ?_⟩
  have hko:keyOf Tryz.prog 3 y.key=some (.int .i64 (n:Int)):=by
   rw[he]
   exact keyOf_int_mk under3 (by
    have e1:IntKind.min .i64= -9223372036854775808:=by decide
    have e2:IntKind.max .i64=9223372036854775807:=by decide
    simp only[Lit.wf,e1,e2,Bool.and_eq_true,decide_eq_true_eq]; omega)
  simp[rd,hko,rdU]
 have hmax:maxLen=9223372036854775807∨5000≤maxLen:= .inr (by decide)
 have hsz:es.size=ks.length:=by simpa using hlen
 refine⟨.map ((es.toList.map (WideElems.rg Tryz.prog 3 rdU)).foldr DataW.insert []),⟨es,clock,hx,⟨?_, ?_,fun y hy=> ?_⟩,by omega,rfl⟩, ?_, ?_⟩
 ·rw[hsz]; rcases hmax with h|h <;> omega
 ·rw[stamped_iff]
  refine⟨fun y hy=> ?_,by rw[h2]; exact h5, ?_⟩
  ·have:y.born∈ks.map (·.2):=by rw[←h2]; exact List.mem_map.2 ⟨y,hy,rfl⟩
   obtain⟨p,hp,he⟩:=List.mem_map.1 this
   rw[←he]; exact h6 p hp
  ·have:(es.toList.map (·.key)).Pairwise (· ≠ ·):=by
    rw[h1,List.pairwise_map]
    have hn:(ks.map (·.1)).Pairwise (· ≠ ·):=h4
    rw[List.pairwise_map] at hn
    exact hn.imp fun hne he=>hne (ky_inj he)
   rwa[List.pairwise_map] at this
 ·obtain⟨n,_,h⟩:=hrd y hy; exact⟨_,h⟩
 ·show List.length _=_
  rw[length_sorted,List.length_map,hlen]
 ·show(List.map (fun p:Lit×DataW Unit=>intOf p.1) _).Perm _
  refine((WideShapes.sorted_perm _).map _).trans ?_
  rw[List.map_map]
  have e1:es.toList.map ((fun p:Lit×DataW Unit=>intOf p.1)∘WideElems.rg Tryz.prog 3 rdU)=(es.toList.map (·.key)).map fun v=>match v with| .int _ n=>n|_=>0:=by
   rw[List.map_map]
   refine List.map_congr_left fun y hy=> ?_
   obtain⟨n,hn,hr⟩:=hrd y hy
   simp only[Function.comp,rg_of hr,hn,intOf]
  rw[e1,h1,List.map_map]
  refine List.Perm.of_eq (List.map_congr_left fun p hp=> ?_)
  obtain⟨n,hn,_⟩:=hk p hp
  simp[Function.comp,hn,kyN,Ky.v,kyI]
open Go.Proofs
theorem filterMap_if {α β:Type} {p:α→Bool} {g:α→β}:∀l:List α,(l.filterMap fun a=>if p a=true then some (g a) else none)=(l.filter p).map g
 |[]=>rfl
 |a::l=>by
  rw[List.filterMap_cons,List.filter_cons,filterMap_if l]
  cases p a <;> simp
def adrs (s:IS) (n:Nat):List Nat:=(List.range n).filter fun a=>(s.has[a]?).getD false
theorem ents_adrs (s:IS) (n:Nat):entsD s n=(adrs s n).map fun a:Nat=>(⟨(a:Int),false,(s.fr[a]?).getD (fr0 0)⟩:Ey):=by
 unfold entsD adrs
 rw[←filterMap_if]
theorem sort_sorted {l:List Int} (h:l.Pairwise (· ≤ ·)):sortZ l=l:=by
 unfold sortZ
 exact List.mergeSort_of_pairwise (h.imp fun h=>by simpa using h)
theorem callB_new2 {P:Program} {N:Nat} {T:Env} {σ:St} {K:Env→St→Prop} {Q:XA→Env→St→Prop} {dst:Option Nat} {g:FuncId} {ds:List D} {R:D→St→Prop} (h:RCall P g ds {} R)
  (hk:∀d s',R d s'→∀τ,St.le s' τ→St.le σ τ→putK N dst d K T τ):callB P N [] false dst g ds K Q T σ:=by
 refine⟨{},σ,_,.pure σ,fun b hb=>(by cases hb),h,fun h=>(by cases h),fun x s' ⟨d,hx,hR⟩ hap _=> ?_⟩
 subst hx
 exact hk d s' hR _ ⟨fun x cs h=>by simp[St.join,h],fun x p h=>by simp[St.join,h],fun x o h=>by simp[St.join,h]⟩ (le_join hap)
open Go.Proofs
def c87:CT (Tryz.f87.body.getD .skip):=⟨_,by conv=>lhs; cbv⟩
theorem F87:Fun1 Tryz.prog 87 82 c87.1 [.tmp 2,.tmp 3]:=mkT Tryz.func87 rfl (by decide +kernel) Tryz.ntmps87 rfl c87.2 rfl
def c130:CT (Tryz.f130.body.getD .skip):=⟨_,by conv=>lhs; cbv⟩
theorem F130:Fun1 Tryz.prog 130 60 c130.1 [.tmp 2,.tmp 3]:=mkT Tryz.func130 rfl (by decide +kernel) Tryz.ntmps130 rfl c130.2 rfl
def c166:CT (Tryz.f166.body.getD .skip):=⟨_,by conv=>lhs; cbv⟩
theorem F166:Fun1 Tryz.prog 166 53 c166.1 [.tmp 4]:=mkT Tryz.func166 rfl (by decide +kernel) Tryz.ntmps166 rfl c166.2 rfl
def c131:CT (Tryz.f131.body.getD .skip):=⟨_,by conv=>lhs; cbv⟩
theorem F131:Fun1 Tryz.prog 131 28 c131.1 [.cell 4 86,.tmp 5]:=mkT Tryz.func131 rfl (by decide +kernel) Tryz.ntmps131 rfl c131.2 rfl
open Go.Proofs
def frameE (loc:Int) (f:Fr):Nat:=
 if f.loc≠loc∨f.h<0∨24-loc<f.h then 65
 else if((List.range 24).all fun i=>decide (loc+f.h≤(i:Int)→slAt f i=0))=false then 65
 else if((List.range 24).all fun i=>knownT (slAt f i))=false then 62 else 0
theorem frameE_bad {loc:Int} {f:Fr} (h:f.loc≠loc∨f.h<0∨24-loc<f.h):frameE loc f=65:=by unfold frameE; rw[if_pos h]
theorem frameE_tail {loc:Int} {f:Fr} (h:¬(f.loc≠loc∨f.h<0∨24-loc<f.h)) {i:Nat} (hi:i<24) (h1:loc+f.h≤(i:Int)) (h2:slAt f i≠0):frameE loc f=65:=by
 unfold frameE
 rw[if_neg h,if_pos]
 rw[List.all_eq_false]
 exact⟨i,List.mem_range.2 hi,by simpa using ⟨h1,h2⟩⟩
theorem frameE_code {loc:Int} {f:Fr} (h:¬(f.loc≠loc∨f.h<0∨24-loc<f.h)) (h0:∀i:Nat,i<24→loc+f.h≤(i:Int)→slAt f i=0) {i:Nat} (hi:i<24) (h2:knownT (slAt f i)=false):frameE loc f=62:=by
 unfold frameE
 have h1:((List.range 24).all fun i=>decide (loc+f.h≤(i:Int)→slAt f i=0))=true:=by
  rw[List.all_eq_true]
  intro j hj
  rw[List.mem_range] at hj
  have:=h0 j hj
  simp only[decide_eq_true_eq]; exact this
 rw[if_neg h,if_neg (by rw[h1]; simp),if_pos]
 rw[List.all_eq_false]
 exact⟨i,List.mem_range.2 hi,by rw[h2]; simp⟩
theorem frameE_ok {loc:Int} {f:Fr} (h:¬(f.loc≠loc∨f.h<0∨24-loc<f.h)) (h0:∀i:Nat,i<24→loc+f.h≤(i:Int)→slAt f i=0) (h2:∀i:Nat,i<24→knownT (slAt f i)=true):frameE loc f=0:=by
 unfold frameE
 have h1:((List.range 24).all fun i=>decide (loc+f.h≤(i:Int)→slAt f i=0))=true:=by
  rw[List.all_eq_true]
  intro j hj
  rw[List.mem_range] at hj
  have:=h0 j hj
  simp only[decide_eq_true_eq]; exact this
 have h3:((List.range 24).all fun i=>knownT (slAt f i))=true:=by
  rw[List.all_eq_true]
  intro j hj
  rw[List.mem_range] at hj
  exact h2 j hj
 rw[if_neg h,if_neg (by rw[h1]; simp),if_neg (by rw[h3]; simp)]
theorem known_0:knownT 0=true:=by decide
theorem fr_sl (f:Fr) {i:Nat} (h:i<24):(eFr f)[2+i]? =some (.int .u8 ((slAt f i).val:Int)):=by
 rw[fr_at f i h]; simp[slAt,h]
def bYhpA0:=aI @zb8 (aI @zc0 (aI @zb2 (aI @zb1 (aI @za5 (aI @za4 (aI @gdD (aI @fr_0 @fr_1)))))))
theorem frame166 (loc:Nat) (f:Fr) (hl:loc≤16):PCall Tryz.prog 166 [.agg (eFr f),.int .i64 (loc:Int)] (.int .i64 (frameE loc f)):=by
 have w0:IntKind.wrap .i64 (24-(loc:Int))=24-(loc:Int):=zc2 (by omega) (by omega)
 refine F166.pcallM rfl fun T hT=> ?_
 by_cases hbad:f.loc≠loc∨f.h<0∨24-(loc:Int)<f.h
 ·rw[frameE_bad hbad]
  by_cases c1:f.loc=loc
  ·have e1:(f.loc=(loc:Int))=True:=eq_true c1
   by_cases c2:f.h<0
   ·have e2:(f.h<0)=True:=eq_true c2
    simp -implicitDefEqProofs only[go_sem,mmB,c166,hT,Nat.mul_one,Nat.add_zero,Nat.zero_add,e1,e2,w0,bYhpA0]
    exact DLe.refl _
   ·have e2:(f.h<0)=False:=eq_false c2
    have e3:(24-(loc:Int)<f.h)=True:=eq_true ((hbad.resolve_left fun h=>h c1).resolve_left c2)
    simp -implicitDefEqProofs only[go_sem,mmB,c166,hT,Nat.mul_one,Nat.add_zero,Nat.zero_add,e1,e2,e3,w0,bYhpA0]
    exact DLe.refl _
  ·have e1:(f.loc=(loc:Int))=False:=eq_false c1
   simp -implicitDefEqProofs only[go_sem,mmB,c166,hT,Nat.mul_one,Nat.add_zero,Nat.zero_add,e1,w0,bYhpA0]
   exact DLe.refl _
 simp only[not_or,Classical.not_not] at hbad
 obtain⟨c1,c2,c3⟩:=hbad
 have hnb:¬(f.loc≠loc∨f.h<0∨24-(loc:Int)<f.h):=by omega
 obtain⟨k,hk⟩:∃k:Nat,f.h=k:=⟨f.h.toNat,by omega⟩
 have e1:(f.loc=(loc:Int))=True:=eq_true c1
 have e2:(f.h<0)=False:=eq_false c2
 have e3:(24-(loc:Int)<f.h)=False:=eq_false c3
 have w1:IntKind.wrap .i64 ((loc:Int)+f.h)=((loc+k:Nat):Int):=by rw[zc2 (by omega) (by omega),hk]; simp
 simp -implicitDefEqProofs only[go_sem,mmB,c166,hT,Nat.mul_one,Nat.add_zero,Nat.zero_add,e1,e2,e3,w0,w1,bYhpA0]
 intro b2
 refine⟨by omega, ?_⟩
 obtain⟨O,hO⟩:∃O,(if 24=loc+k then 2 else 2+(loc+k))=O:=⟨_,rfl⟩
 rw[hO]
 refine loopL F166 (fun i:Nat=>[(2,.ptr b2 0),(5,.int .i64 ((loc+k:Nat):Int)),(32,.bsl b2 O (24-(loc+k)) (24-(loc+k))),(33,.int .i64 ((24-(loc+k):Nat):Int)),(34,.int .i64 i)]) (fun _=>({}:St).set b2 (eFr f))
  (fun i=>i≤24-(loc+k)∧∀j,j<i→slAt f (loc+k+j)=0) (fun i=>24-i) 0 ⟨Nat.zero_le _,fun j h=>by omega⟩ ?_ (St.le.refl _) ?_
 ·simp -implicitDefEqProofs only[go_sem,hT,Nat.mul_one,Nat.add_zero,Nat.zero_add,bYhpA0]
  rfl
 clear hT T
 rintro i ⟨hi,hz⟩ T hT
 by_cases h:i<24-(loc+k)
 ·have g5:((i:Int)<((24-(loc+k):Nat):Int))=True:=eq_true (by omega)
  have w3:IntKind.wrap .i64 ((i:Int)+1)=((i+1:Nat):Int):=by rw[zc2 (by omega) (by omega)]; simp
  have hat:=fr_sl f (i:=loc+k+i) (by omega)
  rw[if_neg (by omega)] at hO
  rw[←Nat.add_assoc,hO] at hat
  by_cases hs:slAt f (loc+k+i)=0
  ·have g6:(((slAt f (loc+k+i)).val:Int)=0)=True:=eq_true (by rw[hs]; rfl)
   simp -implicitDefEqProofs only[go_sem,hT,g5,Nat.mul_one,Nat.add_zero,Nat.zero_add,hat,g6,w3,bYhpA0]
   exact⟨by omega,i+1,⟨by omega,fun j hj=>by
    by_cases he:j=i
    ·rw[he]; exact hs
    ·exact hz j (by omega)⟩,by omega,rfl,St.le.refl _⟩
  ·have g6:(((slAt f (loc+k+i)).val:Int)=0)=False:=eq_false (fun h=>hs (Fin.ext (by simpa using h)))
   rw[frameE_tail hnb (i:=loc+k+i) (by omega) (by omega) hs]
   simp -implicitDefEqProofs only[go_sem,hT,g5,Nat.mul_one,Nat.add_zero,Nat.zero_add,hat,g6,bYhpA0]
   exact⟨by omega,DLe.refl _⟩
 have g5:((i:Int)<((24-(loc+k):Nat):Int))=False:=eq_false (by omega)
 have hz0:∀i:Nat,i<24→(loc:Int)+f.h≤(i:Int)→slAt f i=0:=fun j hj h2=>by
  have:=hz (j-(loc+k)) (by omega)
  rwa[show loc+k+(j-(loc+k))=j by omega] at this
 simp -implicitDefEqProofs only[go_sem,hT,g5,Nat.mul_one,Nat.add_zero,Nat.zero_add,bYhpA0]
 refine⟨by omega, ?_⟩
 refine loopL F166 (fun i:Nat=>[(2,.ptr b2 0),(43,.bsl b2 2 (loc+k) 24),(44,.int .i64 ((loc+k:Nat):Int)),(45,.int .i64 i)]) (fun _=>({}:St).set b2 (eFr f))
  (fun i=>i≤loc+k∧∀j,j<i→knownT (slAt f j)=true) (fun i=>24-i) 0 ⟨Nat.zero_le _,fun j h=>by omega⟩ ?_ (St.le.refl _) ?_
 ·simp -implicitDefEqProofs only[go_sem,hT,Nat.mul_one,Nat.add_zero,Nat.zero_add,bYhpA0]
  exact⟨rfl,rfl,rfl⟩
 clear hT T
 rintro i ⟨hi,hk2⟩ T hT
 by_cases h:i<loc+k
 ·have g5:((i:Int)<((loc+k:Nat):Int))=True:=eq_true (by omega)
  have w3:IntKind.wrap .i64 ((i:Int)+1)=((i+1:Nat):Int):=by rw[zc2 (by omega) (by omega)]; simp
  have hat:=fr_sl f (i:=i) (by omega)
  simp -implicitDefEqProofs only[go_sem,hT,g5,Nat.mul_one,Nat.add_zero,Nat.zero_add,hat,bYhpA0]
  refine⟨by omega,za3 (known204 _) ?_⟩
  cases hs:knownT (slAt f i) with
  |false=>
   rw[frameE_code hnb hz0 (i:=i) (by omega) hs]
   simp -implicitDefEqProofs only[go_sem,hT]
   exact DLe.refl _
  |true=>
   simp -implicitDefEqProofs only[go_sem,hT,w3]
   exact⟨i+1,⟨by omega,fun j hj=>by
    by_cases he:j=i
    ·rw[he]; exact hs
    ·exact hk2 j (by omega)⟩,by omega,rfl,St.le.refl _⟩
 have g5:((i:Int)<((loc+k:Nat):Int))=False:=eq_false (by omega)
 rw[frameE_ok hnb hz0 fun j hj=>by
  by_cases hjk:j<loc+k
  ·exact hk2 j (by omega)
  ·rw[hz0 j hj (by omega)]; exact known_0]
 simp -implicitDefEqProofs only[go_sem,hT,g5,Nat.mul_one,Nat.add_zero,Nat.zero_add,bYhpA0]
 exact DLe.refl _
def bodyE (loc:Int) (x:Ey):Nat:=if x.dead=true then(if x.fr=fr0 0 then 0 else 65) else frameE loc x.fr
open Go.Proofs
theorem bodyE_dead {loc:Int} {x:Ey} (h:x.dead=true):bodyE loc x=if x.fr=fr0 0 then 0 else 65:=by unfold bodyE; rw[if_pos h]
theorem bodyE_live {loc:Int} {x:Ey} (h:x.dead=false):bodyE loc x=frameE loc x.fr:=by unfold bodyE; rw[if_neg (by rw[h]; simp)]
theorem ey_fr (x:Ey):((eEy x).drop 2).take 26=eFr x.fr:=by
 show(eFr x.fr).take 26=_
 exact za4 _
theorem ey_26 (x:Ey):(26≤((eEy x).drop 2).length)=True:=eq_true (by simp[eEy,eFr])
theorem eqG84:eqGP Tryz.prog 84=true:=by kernel_rfl
theorem eq_fr0 (y:Fr):eqV Tryz.prog 10 84 (.agg (eFr y)) (.agg zFr)=some (decide (y=fr0 0)):=by rw[←fr_fr0]; exact eq_fr y (fr0 0)
def bYhpB0:=aI @zb8 (aI @zc0 (aI @zb2 (aI @zb1 (aI @za5 (aI @za4 (aI @gdD (aI @fr_0 (aI @fr_1 (aI @zb4 (aI @za8 (aI @ey_fr (aI @ey_0 (aI @ey_1 @ey_26)))))))))))))
def bYhpB1:=aI @zb8 (aI @zc0 (aI @zb2 (aI @zb1 (aI @za5 (aI @za4 (aI @gdD (aI @fr_0 (aI @fr_1 (aI @zb4 (aI @za8 (aI @ey_fr (aI @ey_0 (aI @ey_1 (aI @ey_26 @za2))))))))))))))
theorem body109 (loc:Nat) (x:Ey) (hl:loc≤16):PCall Tryz.prog 109 [.int .i64 (loc:Int),.agg (eEy x)] (.int .i64 (bodyE loc x)):=by
 have w0:IntKind.wrap .i64 (24-(loc:Int))=24-(loc:Int):=zc2 (by omega) (by omega)
 refine F109.pcallM rfl fun T hT=> ?_
 simp -implicitDefEqProofs only[go_sem,c109,hT,Nat.mul_one,Nat.add_zero,Nat.zero_add,bYhpB0]
 intro b3 b5 n1 n2
 cases hd:x.dead with
 |true=>
  rw[bodyE_dead hd]
  by_cases hf:x.fr=fr0 0
  ·have g1:(decide (x.fr=fr0 0))=true:=decide_eq_true hf
   rw[if_pos hf]
   simp -implicitDefEqProofs only[go_sem,hT,zb8,zc0,zb2,zb1,za5,za4,gdD,Nat.mul_one,Nat.add_zero,Nat.zero_add,fr_0,fr_1,zb4,za8,ey_fr,ey_0,ey_1,ey_26,n1,n2,za2,hd,eq_fr0,eqG84,g1]
   exact DLe.refl _
  ·have g1:(decide (x.fr=fr0 0))=false:=decide_eq_false hf
   rw[if_neg hf]
   simp -implicitDefEqProofs only[go_sem,hT,zb8,zc0,zb2,zb1,za5,za4,gdD,Nat.mul_one,Nat.add_zero,Nat.zero_add,fr_0,fr_1,zb4,za8,ey_fr,ey_0,ey_1,ey_26,n1,n2,za2,hd,eq_fr0,eqG84,g1]
   exact DLe.refl _
 |false=>
  rw[bodyE_live hd]
  obtain⟨f,hff⟩:∃f,x.fr=f:=⟨_,rfl⟩
  rw[hff]
  by_cases hbad:f.loc≠loc∨f.h<0∨24-(loc:Int)<f.h
  ·rw[frameE_bad hbad]
   by_cases c1:f.loc=loc
   ·have e1:(f.loc=(loc:Int))=True:=eq_true c1
    by_cases c2:f.h<0
    ·have e2:(f.h<0)=True:=eq_true c2
     simp -implicitDefEqProofs only[go_sem,mmB,hT,Nat.mul_one,Nat.add_zero,Nat.zero_add,n1,n2,hd,hff,e1,e2,w0,bYhpB1]
     exact DLe.refl _
    ·have e2:(f.h<0)=False:=eq_false c2
     have e3:(24-(loc:Int)<f.h)=True:=eq_true ((hbad.resolve_left fun h=>h c1).resolve_left c2)
     simp -implicitDefEqProofs only[go_sem,mmB,hT,Nat.mul_one,Nat.add_zero,Nat.zero_add,n1,n2,hd,hff,e1,e2,e3,w0,bYhpB1]
     exact DLe.refl _
   ·have e1:(f.loc=(loc:Int))=False:=eq_false c1
    simp -implicitDefEqProofs only[go_sem,mmB,hT,Nat.mul_one,Nat.add_zero,Nat.zero_add,n1,n2,hd,hff,e1,w0,bYhpB1]
    exact DLe.refl _
  simp only[not_or,Classical.not_not] at hbad
  obtain⟨c1,c2,c3⟩:=hbad
  have hnb:¬(f.loc≠loc∨f.h<0∨24-(loc:Int)<f.h):=by omega
  obtain⟨k,hk⟩:∃k:Nat,f.h=k:=⟨f.h.toNat,by omega⟩
  have e1:(f.loc=(loc:Int))=True:=eq_true c1
  have e2:(f.h<0)=False:=eq_false c2
  have e3:(24-(loc:Int)<f.h)=False:=eq_false c3
  have w1:IntKind.wrap .i64 ((loc:Int)+f.h)=((loc+k:Nat):Int):=by rw[zc2 (by omega) (by omega),hk]; simp
  simp -implicitDefEqProofs only[go_sem,mmB,hT,Nat.mul_one,Nat.add_zero,Nat.zero_add,n1,n2,hd,hff,e1,e2,e3,w0,w1,bYhpB1]
  refine loopL F109 (fun i:Nat=>[(0,.int .i64 (loc:Int)),(5,.ptr b5 0),(6,.int .i64 i)]) (fun _=>({}:St).set b5 (eFr f))
   (fun i=>loc+k≤i∧i≤24∧∀j,loc+k≤j→j<i→slAt f j=0) (fun i=>24-i) (loc+k) ⟨Nat.le_refl _,by omega,fun j h h2=>by omega⟩ ?_ (le_set (St.le.nil _)) ?_
  ·simp -implicitDefEqProofs only[go_sem,hT,Nat.mul_one,Nat.add_zero,Nat.zero_add,bYhpB0]
  clear hT T
  rintro i ⟨hi0,hi,hz⟩ T hT
  by_cases h:i<24
  ·have g5:((i:Int)<24)=True:=eq_true (by omega)
   have w3:IntKind.wrap .i64 ((i:Int)+1)=((i+1:Nat):Int):=by rw[zc2 (by omega) (by omega)]; simp
   have hat:=fr_sl f (i:=i) (by omega)
   by_cases hs:slAt f i=0
   ·have g6:(((slAt f i).val:Int)=0)=True:=eq_true (by rw[hs]; rfl)
    simp -implicitDefEqProofs only[go_sem,hT,g5,Nat.mul_one,Nat.add_zero,Nat.zero_add,hat,g6,w3,bYhpB0]
    exact⟨by omega,i+1,⟨by omega,by omega,fun j hj0 hj=>by
     by_cases he:j=i
     ·rw[he]; exact hs
     ·exact hz j hj0 (by omega)⟩,by omega,rfl,St.le.refl _⟩
   ·have g6:(((slAt f i).val:Int)=0)=False:=eq_false (fun h=>hs (Fin.ext (by simpa using h)))
    rw[frameE_tail hnb (i:=i) (by omega) (by omega) hs]
    simp -implicitDefEqProofs only[go_sem,hT,g5,Nat.mul_one,Nat.add_zero,Nat.zero_add,hat,g6,bYhpB0]
    exact⟨by omega,DLe.refl _⟩
  have g5:((i:Int)<24)=False:=eq_false (by omega)
  have hz0:∀i:Nat,i<24→(loc:Int)+f.h≤(i:Int)→slAt f i=0:=fun j hj h2=>hz j (by omega) (by omega)
  simp -implicitDefEqProofs only[go_sem,hT,g5,Nat.mul_one,Nat.add_zero,Nat.zero_add,bYhpB0]
  refine loopL F109 (fun i:Nat=>[(5,.ptr b5 0),(7,.int .i64 i)]) (fun _=>({}:St).set b5 (eFr f))
   (fun i=>i≤24∧∀j,j<i→knownT (slAt f j)=true) (fun i=>24-i) 0 ⟨Nat.zero_le _,fun j h=>by omega⟩ ?_ (St.le.refl _) ?_
  ·simp -implicitDefEqProofs only[go_sem,hT,Nat.mul_one,Nat.add_zero,Nat.zero_add,bYhpB0]
   rfl
  clear hT T
  rintro i ⟨hi,hk2⟩ T hT
  by_cases h:i<24
  ·have g5:((i:Int)<24)=True:=eq_true (by omega)
   have w3:IntKind.wrap .i64 ((i:Int)+1)=((i+1:Nat):Int):=by rw[zc2 (by omega) (by omega)]; simp
   have hat:=fr_sl f (i:=i) (by omega)
   simp -implicitDefEqProofs only[go_sem,hT,g5,Nat.mul_one,Nat.add_zero,Nat.zero_add,hat,bYhpB0]
   refine⟨by omega,za3 (isCode149 _) ?_⟩
   cases hs:knownT (slAt f i) with
   |false=>
    rw[frameE_code hnb hz0 (i:=i) (by omega) hs]
    simp -implicitDefEqProofs only[go_sem,hT]
    exact DLe.refl _
   |true=>
    simp -implicitDefEqProofs only[go_sem,hT,w3]
    exact⟨i+1,⟨by omega,fun j hj=>by
     by_cases he:j=i
     ·rw[he]; exact hs
     ·exact hk2 j (by omega)⟩,by omega,rfl,St.le.refl _⟩
  have g5:((i:Int)<24)=False:=eq_false (by omega)
  rw[frameE_ok hnb hz0 fun j hj=>hk2 j (by omega)]
  simp -implicitDefEqProofs only[go_sem,hT,g5,Nat.mul_one,Nat.add_zero,Nat.zero_add,bYhpB0]
  exact DLe.refl _
open Go.Proofs
def eCz (loc:Int) (es:List Ey):List D:=[.int .i64 loc,.slice .no (rws eEy es)]
theorem eCz_len (loc:Int) (es:List Ey):(eCz loc es).length=2:=rfl
theorem zf9 (loc:Int) (es:List Ey):(eCz loc es).take 2=eCz loc es:=rfl
theorem eCz_0 (loc:Int) (es:List Ey):(eCz loc es)[0]? =some (.int .i64 loc):=rfl
theorem eCz_1 (loc:Int) (es:List Ey):(eCz loc es)[1]? =some (.slice .no (rws eEy es)):=rfl
def chkC (loc:Int):Int→Nat→List Ey→Nat×Nat
 |_,_,[]=>(0,0)
 |last,i,x::r=>if afterE x.pos last≠0 then(i,afterE x.pos last) else if bodyE loc x≠0 then(i,bodyE loc x) else chkC loc x.pos (i+1) r
def checkC (loc:Int) (es:List Ey):Nat×Nat:=if loc<0∨16<loc then(0,5) else if 4096<es.length then(4096,4) else chkC loc (-1) 0 es
def lastP (es:List Ey) (i:Nat):Int:=if i=0 then -1 else((es[i-1]?).map (·.pos)).getD (-1)
theorem lastP_succ {es:List Ey} {i:Nat} (h:i<es.length):lastP es (i+1)=es[i].pos:=by simp[lastP,h]
theorem chk_step {loc:Int} {es:List Ey} {i:Nat} (h:i<es.length):chkC loc (lastP es i) i (es.drop i)=
  if afterE es[i].pos (lastP es i)≠0 then(i,afterE es[i].pos (lastP es i)) else if bodyE loc es[i]≠0 then(i,bodyE loc es[i]) else chkC loc (lastP es (i+1)) (i+1) (es.drop (i+1)):=by
 rw[List.drop_eq_getElem_cons h,chkC,lastP_succ h]
def bYhpC0:=aI @gdD (aI @eCz_len (aI @zf9 (aI @eCz_0 @eCz_1)))
theorem refCheck66 (loc:Int) (es:List Ey) (hl:es.length≤140737488355328):PCall Tryz.prog 66 [.agg (eCz loc es)] (.tup [.int .i64 (checkC loc es).1,.int .i64 (checkC loc es).2]):=by
 refine F66.pcallM rfl fun T hT=> ?_
 by_cases h1:loc<0
 ·have g1:(loc<0)=True:=eq_true h1
  rw[show checkC loc es=(0,5) by unfold checkC; rw[if_pos (.inl h1)]]
  simp -implicitDefEqProofs only[go_sem,mmB,c66,hT,Nat.mul_one,Nat.add_zero,Nat.zero_add,g1,bYhpC0]
  exact DLe.refl _
 have g1:(loc<0)=False:=eq_false h1
 by_cases h2:16<loc
 ·have g2:((16:Int)<loc)=True:=eq_true h2
  rw[show checkC loc es=(0,5) by unfold checkC; rw[if_pos (.inr h2)]]
  simp -implicitDefEqProofs only[go_sem,mmB,c66,hT,Nat.mul_one,Nat.add_zero,Nat.zero_add,g1,g2,bYhpC0]
  exact DLe.refl _
 have g2:((16:Int)<loc)=False:=eq_false h2
 by_cases h3:4096<es.length
 ·have g3:((4096:Int)<es.length)=True:=eq_true (by omega)
  rw[show checkC loc es=(4096,4) by unfold checkC; rw[if_neg (by omega),if_pos h3]]
  simp -implicitDefEqProofs only[go_sem,mmB,c66,hT,Nat.mul_one,Nat.add_zero,Nat.zero_add,g1,g2,g3,bYhpC0]
  exact DLe.refl _
 have g3:((4096:Int)<es.length)=False:=eq_false (by omega)
 obtain⟨n,rfl⟩:∃n:Nat,loc=n:=⟨loc.toNat,by omega⟩
 rw[show checkC n es=chkC n (-1) 0 es by unfold checkC; rw[if_neg (by omega),if_neg h3]]
 simp -implicitDefEqProofs only[go_sem,mmB,c66,hT,Nat.mul_one,Nat.add_zero,Nat.zero_add,g1,g2,g3,bYhpC0]
 intro b1
 refine loopL F66 (fun i:Nat=>[(1,.ptr b1 0),(4,.int .i64 (lastP es i)),(5,.int .i64 i)]) (fun _=>({}:St).set b1 (eCz n es))
  (fun i=>i≤es.length∧chkC n (lastP es i) i (es.drop i)=chkC n (-1) 0 es) (fun i=>es.length-i) 0 ⟨Nat.zero_le _,rfl⟩ ?_ (St.le.refl _) ?_
 ·simp -implicitDefEqProofs only[go_sem,hT,Nat.mul_one,Nat.add_zero,Nat.zero_add,bYhpC0]
  exact⟨rfl,rfl⟩
 clear hT T
 rintro i ⟨hi,hc⟩ T hT
 by_cases h:i<es.length
 case neg=>
  have g5:((i:Int)<es.length)=False:=eq_false (by omega)
  rw[←hc,List.drop_eq_nil_of_le (by omega)]
  simp -implicitDefEqProofs only[go_sem,hT,g5,Nat.mul_one,Nat.add_zero,Nat.zero_add,bYhpC0]
  exact DLe.refl _
 have g5:((i:Int)<es.length)=True:=eq_true (by omega)
 have w3:IntKind.wrap .i64 ((i:Int)+1)=((i+1:Nat):Int):=by rw[zc2 (by omega) (by omega)]; simp
 have hget:=rws_at (enc:=eEy) h
 have hst:=chk_step (loc:=n) h
 rw[hc] at hst
 generalize hL:lastP es i=L at *
 have hnext:=lastP_succ h
 generalize hx:es[i]=x at *
 simp -implicitDefEqProofs only[go_sem,hT,g5,gdD,Nat.mul_one,Nat.add_zero,Nat.zero_add,eCz_len,zf9,eCz_0,eCz_1,hget,ey_0,zb4]
 refine⟨by omega,za3 (after108 L x.pos) ?_⟩
 by_cases g6:afterE x.pos L=0
 case neg=>
  have g6':((afterE x.pos L:Int)=0)=False:=eq_false (by omega)
  rw[if_pos g6] at hst
  rw[hst]
  simp -implicitDefEqProofs only[go_sem,hT,g6',Nat.mul_one,Nat.add_zero,Nat.zero_add,bYhpC0]
  done
 have g6':((afterE x.pos L:Int)=0)=True:=eq_true (by omega)
 rw[if_neg (by omega)] at hst
 simp -implicitDefEqProofs only[go_sem,hT,g6',gdD,Nat.mul_one,Nat.add_zero,Nat.zero_add,eCz_len,zf9,eCz_0,eCz_1,hget,zb4,za8,ey_fr]
 refine⟨⟨by omega,by omega⟩,za3 (body109 n x (by omega)) ?_⟩
 by_cases g7:bodyE n x=0
 case neg=>
  have g7':((bodyE n x:Int)=0)=False:=eq_false (by omega)
  rw[if_pos g7] at hst
  rw[hst]
  simp -implicitDefEqProofs only[go_sem,hT,g7',Nat.mul_one,Nat.add_zero,Nat.zero_add,bYhpC0]
  done
 have g7':((bodyE n x:Int)=0)=True:=eq_true (by omega)
 rw[if_neg (by omega)] at hst
 simp -implicitDefEqProofs only[go_sem,hT,g7',gdD,Nat.mul_one,Nat.add_zero,Nat.zero_add,eCz_len,zf9,eCz_0,eCz_1,hget,ey_0,zb4,w3]
 exact⟨⟨by omega,by omega⟩,i+1,⟨by omega,hst.symm⟩,by omega,⟨by rw[hnext],rfl⟩,St.le.refl _⟩
end Go.AL
