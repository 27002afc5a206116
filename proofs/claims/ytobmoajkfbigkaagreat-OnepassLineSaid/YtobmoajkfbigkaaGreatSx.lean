import Derived.Test.YtobmoajkfbigkaaGreatSw
import Derived.Test.YtobmoajkfbigkaaGreatSt
import Derived.Test.YtobmoajkfbigkaaGreatSp
set_option linter.unusedSimpArgs false
set_option linter.unusedVariables false
set_option maxRecDepth 100000
set_option linter.defProp false
set_option maxHeartbeats 4000000
namespace Go.AL
open Go.Proofs
theorem slAt_slOf {a h:Int} {ts:List Ty} {i:Nat} (hi:i<24):slAt ⟨a,h,slOf ts⟩ i=(ts[i]?).getD 0:=by
 simp[slAt,slOf,hi]
theorem start_eq {e:En} {loc:Int} (h:mayE e loc=0):canB e=true∧(psOf e).length≤loc∧loc≤16∧(∀t∈psOf e,storedN e.cs.length t=true)∧startF e.cs.length (psOf e) loc=(⟨loc,0,slOf (psOf e)⟩,0):=by
 have hno:¬(canB e=false∨loc<(psOf e).length∨16<loc):=fun hc=>(may_can e loc).2 hc h
 have hcan:canB e=true:=by
  cases h:canB e with
  |true=>rfl
  |false=>exact absurd (.inl h) hno
 obtain⟨hs,h0,hps,hp8,hst⟩:=can_sig hcan
 have h1:¬loc<(psOf e).length:=fun h=>hno (.inr (.inl h))
 have h2:¬16<loc:=fun h=>hno (.inr (.inr h))
 have hok:=start_ok hcan (n:=loc) h1 h2
 refine⟨hcan,by omega,by omega,hst, ?_⟩
 unfold startF at hok ⊢
 split
 ·rename_i hc; rw[if_pos hc] at hok; cases hok
 ·rfl
theorem start_check {e:En} {loc:Int} (h:mayE e loc=0):checkF e.cs.length (startF e.cs.length (psOf e) loc).1=0:=by
 obtain⟨_,h1,h2,h3,h4⟩:=start_eq h
 rw[h4]
 simp only
 refine checkF_iff.2 ⟨?_,fr_ext (bare_loc _) (bare_h _) fun i hi=> ?_,fun i hi=> ?_⟩
 ·simp only[shapedB,decide_eq_true_eq]; omega
 ·rw[slAt_bare _ hi]
  split
  ·rfl
  ·rename_i hc
   simp only at hc
   rw[slAt_slOf hi,List.getElem?_eq_none (by omega)]; rfl
 ·rw[slAt_slOf hi]
  cases hx:(psOf e)[i]? with
  |none=>exact valid_0 _
  |some t=>exact stored_valid (h3 t (List.mem_of_getElem? hx))
structure LastP (e:En) (loc:Int) (b:List Ty) (r:IS):Prop where
 sz:r.sz (b.length+1)
 lt:∀x,hasP r x→x<b.length
 start:StartI e (startF e.cs.length (psOf e) loc).1 r
 goes:∀x,hasP r x→(decF b x).2=0∧(applyR e (frA r x) (insA b x)).2=0∧(onD (decF b x).1 b.length).2=0∧∀y∈nextN b x,hasP r y∧SubF e.cs (behA e b r x) (frA r y)
theorem hasP_lt {s:IS} {m x:Nat} (hs:s.sz m) (h:hasP s x):x<m:=by
 unfold hasP at h
 rw[←hs.a]
 exact Classical.byContradiction fun hc=>by rw[List.getElem?_eq_none (by omega)] at h; cases h
theorem is0_hasP {n:Nat} {f:Fr} {x:Nat}:hasP (is0 n f) x↔x=0:=by unfold hasP; rw[is0_has]; simp
theorem gone_last {e:En} {loc:Int} {b:List Ty} (hw:WideE e) (hm:mayE e loc=0) (h:(goneD e loc b).2.2=0):∃r,goneD e loc b=(r,0,0)∧LastP e loc b r:=by
 have hend:=gone_end h
 obtain⟨r,h1,h2,h3,⟨h4,h5⟩,h6⟩:=gone_ind (I:=fun s=>FixI e b s∧StartI e (startF e.cs.length (psOf e) loc).1 s)
  (fun s a hs hf ⟨i1,i2⟩ ha hn _ hr=>⟨round_fix hw hs ha hn i1 hf hr,round_start hw hs ha i2 hr⟩)
  ⟨fun x hx hn=>by
   rw[is0_hasP] at hx
   exact absurd (show newP (is0 b.length _) x by subst hx; simp[newP,is0]) hn,
   by rw[is0_hasP],by
   have:frA (is0 b.length (startF e.cs.length (psOf e) loc).1) 0=(startF e.cs.length (psOf e) loc).1:=is0_fr
   rw[this]; exact SubF.refl (start_check hm),fun x hx=>by
   rw[is0_hasP] at hx
   subst hx
   have:frA (is0 b.length (startF e.cs.length (psOf e) loc).1) 0=(startF e.cs.length (psOf e) loc).1:=is0_fr
   rw[this]; exact start_check hm⟩ h
 have hno:∀x,¬newP r x:=fun x hx=>by unfold newP at hx; rw[h6] at hx; cases hx
 refine⟨r,h1,h2,fun x hx=> ?_,h5,fun x hx=>(h4 x hx (hno x)).2⟩
 have:=hasP_lt h2 hx
 have:=(h4 x hx (hno x)).1
 omega
theorem infer_last {e:En} {loc:Int} {b:List Ty} (hw:WideE e) (h:(inferD e loc b).2.2=0):mayE e loc=0∧b.length≤4096∧∃r,goneD e loc b=(r,0,0)∧LastP e loc b r∧inferD e loc b=(entsD r b.length,0,0):=by
 unfold inferD at h ⊢
 by_cases h1:mayE e loc=0
 case neg=>rw[if_pos h1] at h; exact absurd h h1
 have h1':¬mayE e loc≠0:=fun h=>h h1
 rw[if_neg h1'] at h ⊢
 by_cases h2:4096<b.length
 ·rw[if_pos h2] at h; cases h
 rw[if_neg h2] at h ⊢
 simp only at h ⊢
 have hg:goneD e loc b=goD e b (fuelD b.length) (is0 b.length (startF e.cs.length (psOf e) loc).1) 0:=rfl
 rw[←hg] at h ⊢
 by_cases h3:(goneD e loc b).2.2=0
 case neg=>rw[if_pos h3] at h; exact absurd h h3
 obtain⟨r,h4,h5⟩:=gone_last hw h1 h3
 refine⟨h1,by omega,r,h4,h5, ?_⟩
 rw[h4]; rfl
theorem gone_least {e:En} {loc:Int} {b:List Ty} {F:Nat→Option Fr} (hw:WideE e) (hF:FamP e b (startF e.cs.length (psOf e) loc).1 F) {r:IS} (h:goneD e loc b=(r,0,0)):LeastI e F r:=by
 obtain⟨r',h1,h2,h3,⟨h4,_⟩,h6⟩:=gone_ind (I:=fun s=>LeastI e F s∧True)
  (fun s a hs hf ⟨i1,_⟩ ha hn _ hr=>⟨round_least hw hs ha (hf a hn) hF i1 hr,trivial⟩)
  ⟨fun x hx=>by
   rw[is0_hasP] at hx
   subst hx
   have:frA (is0 b.length (startF e.cs.length (psOf e) loc).1) 0=(startF e.cs.length (psOf e) loc).1:=is0_fr
   rw[this]; exact hF.start,trivial⟩ (show(goneD e loc b).2.2=0 by rw[h])
 rw[h] at h1
 cases h1
 exact h4
open Go.Proofs
structure FamX (e:En) (b:List Ty) (f0:Fr) (F:Nat→Option Fr):Prop extends FamP e b f0 F where
 dec:∀x g,F x=some g→(decF b x).2=0∧(onD (decF b x).1 b.length).2=0
 disj:∀x g y k,F x=some g→F y=some k→x<y→x+szA b x≤y
theorem next_mem {b:List Ty} {x y:Nat} (hd:(decF b x).2=0) (h:y∈nextN b x):(jumpsB (insA b x).op.val=true∧y=(insA b x).a.toNat∧0≤(insA b x).a)∨(endsB (insA b x).op.val=false∧y=x+szA b x):=by
 have hp:(insA b x).pos=x:=by
  have:=(decF_ok hd).2.1
  unfold insA; rw[this]; rfl
 unfold nextN onD at h
 simp only[List.mem_map] at h
 obtain⟨z,hz,rfl⟩:=h
 have hj0:=fun hj=>jumps_a hd hj
 unfold insA szA insA at *
 split at hz
 ·cases hz
 split at hz
 ·cases hz
 simp only[List.mem_append] at hz
 rcases hz with(hz|hz)|hz
 ·split at hz
  ·rename_i h; left; simp only[List.mem_singleton] at hz; subst hz; exact⟨h.1,rfl,hj0 h.1⟩
  ·cases hz
 ·split at hz
  ·rename_i h; right; simp only[List.mem_singleton] at hz; subst hz; exact⟨h,by omega⟩
  ·cases hz
 ·split at hz
  ·rename_i h; left; simp only[List.mem_singleton] at hz; subst hz; exact⟨h.1,rfl,hj0 h.1⟩
  ·cases hz
theorem on_zero {b:List Ty} {x:Nat} (hd:(decF b x).2=0) (h1:jumpsB (insA b x).op.val=true→(insA b x).a<b.length) (h2:endsB (insA b x).op.val=false→x+szA b x≠b.length):(onD (decF b x).1 b.length).2=0:=by
 have hp:(insA b x).pos=x:=by
  have:=(decF_ok hd).2.1
  unfold insA; rw[this]; rfl
 unfold szA insA at *
 unfold onD
 simp only
 rw[if_neg (fun h=>by have:=h1 h.1; omega),if_neg (fun h=>by have:=h2 h.1; omega)]
theorem come_on2 {cs:List Cl} {l:List Ey} {n:Nat} {s s':PS} (h:comeD cs l n s= .ok (s',true)):
  (findE l s.p=none∧s.live=true∧s'.fr=s.fr)∨∃x,findE l s.p=some x∧x.dead=false∧s'.fr=x.fr∧(s.live=true→subFr cs s.fr x.fr=true):=by
 unfold comeD at h
 split at h
 ·rename_i hx
  split at h
  ·rename_i hl
   simp only[Rz.ok.injEq,Prod.mk.injEq,and_true] at h
   subst h
   exact .inl ⟨hx,hl,rfl⟩
  ·cases h
 ·rename_i x hx
  split at h; · cases h
  split at h; · cases h
  rename_i h2
  split at h
  ·simp at h
  ·rename_i hd
   simp only[Rz.ok.injEq,Prod.mk.injEq,and_true] at h
   subst h
   exact .inr ⟨x,hx,by simpa using hd,rfl,fun hl=>by
    cases hs:subFr cs s.fr x.fr with
    |true=>rfl
    |false=>exact absurd ⟨hl,hs⟩ h2⟩
theorem jumpD_ok {cs:List Cl} {l:List Ey} {n p:Nat} {a:Int} {f:Fr} (h:jumpD cs l n p a f=none):a<n∧∃x,findE l a=some x∧x.dead=false∧SubF cs f x.fr:=by
 unfold jumpD at h
 split at h; · cases h
 split at h; · cases h
 rename_i h1 x hx
 split at h; · cases h
 split at h; · cases h
 rename_i h2 h3
 refine⟨by omega,x,hx,by simpa using h2,subFr_iff.1 ?_⟩
 simpa using h3
theorem findE_mem {l:List Ey} {a:Int} {x:Ey} (h:findE l a=some x):x∈l∧x.pos=a:=by
 unfold findE at h
 exact⟨List.mem_of_find?_eq_some h,by have:=List.find?_some h; simpa using this⟩
theorem findE_of:∀{l:List Ey},Rise l→∀{y:Ey},y∈l→findE l y.pos=some y
 |[],_,y,h=>by cases h
 |x::r,hr,y,h=>by
  obtain⟨h1,h2⟩:=rise_cons hr
  unfold findE
  rcases List.mem_cons.1 h with rfl|h
  ·rw[List.find?_cons_of_pos (by simp)]
  ·rw[List.find?_cons_of_neg (by have:=h1 y h; simp; omega)]
   exact findE_of h2 h
theorem nextP_le {l:List Ey} (hr:Rise l) {n p:Nat} {y:Ey} (hy:y∈l) (hp:(p:Int)+1≤y.pos) (hn:y.pos<nextP l n p):False:=by
 unfold nextP at hn
 split at hn
 ·rename_i z hz
  have hle:z.pos≤y.pos:=by
   clear hn
   induction l with
   |nil=>cases hy
   |cons x r ih=>
    obtain⟨h1,h2⟩:=rise_cons hr
    by_cases hx:(p:Int)+1≤x.pos
    ·rw[List.find?_cons_of_pos (by simpa using hx)] at hz
     cases hz
     rcases List.mem_cons.1 hy with rfl|hy
     ·exact Int.le_refl _
     ·exact Int.le_of_lt (h1 y hy)
    ·rw[List.find?_cons_of_neg (by simpa using hx)] at hz
     rcases List.mem_cons.1 hy with rfl|hy
     ·exact absurd hp hx
     ·exact ih h2 hy hz
  split at hn <;> omega
 ·rename_i hz
  rw[List.find?_eq_none] at hz
  exact hz y hy (by simpa using hp)
structure PassG (e:En) (b:List Ty) (l:List Ey) (f0:Fr) (p:Nat) (F:Nat→Option Fr) (at0:Prop) (Nx:Nat→Fr→Prop):Prop where
 dom:∀x g,F x=some g→x+szA b x≤p
 good:∀x g,F x=some g→(decF b x).2=0∧(applyR e g (insA b x)).2=0∧(jumpsB (insA b x).op.val=true→jumpD e.cs l b.length x (insA b x).a (applyR e g (insA b x)).1=none)∧
  (endsB (insA b x).op.val=false→x+szA b x<b.length∧((∃k,F (x+szA b x)=some k∧SubF e.cs (applyR e g (insA b x)).1 k)∨Nx (x+szA b x) (applyR e g (insA b x)).1))
 ent:∀y∈l,y.pos<p→(y.dead=true∧F y.pos.toNat=none)∨(y.dead=false∧F y.pos.toNat=some y.fr)
 first:at0∨∃g,F 0=some g∧SubF e.cs f0 g
 disj:∀x g y k,F x=some g→F y=some k→x<y→x+szA b x≤y
def PassI (e:En) (b:List Ty) (l:List Ey) (f0:Fr) (s:PS):Prop:=∃F,PassG e b l f0 s.p F (s.p=0∧s.live=true∧s.fr=f0) fun q f=>s.p=q∧s.live=true∧s.fr=f
def PassJ (e:En) (b:List Ty) (l:List Ey) (f0:Fr) (s:PS):Prop:=∃F,PassG e b l f0 s.p F (s.p=0∧SubF e.cs f0 s.fr) (fun q f=>s.p=q∧SubF e.cs f s.fr)∧∀y∈l,y.pos=s.p→y.dead=false∧s.fr=y.fr
theorem pass_run {e:En} {b:List Ty} {l:List Ey} {f0:Fr} (hw:WideE e) (hr:Rise l) (hpos:∀y∈l,0≤y.pos) (hf0:checkF e.cs.length f0=0) (k:Nat) (s s':PS) (h0:PassI e b l f0 s) (h:runD e b l k s= .ok s'):PassI e b l f0 s':=by
 refine runD_inv (J:=PassI e b l f0) (J':=PassJ e b l f0) ?_ ?_ ?_ k s s' h0 h
 ·rintro s s' hp ⟨F,G⟩ hc
  obtain⟨hl,rfl,x,hx,hxd⟩:=come_off hc
  have hno:∀{q:Nat} {f:Fr},¬(s.p=q∧s.live=true∧s.fr=f):=fun h=>by rw[hl] at h; exact absurd h.2.1 (by simp)
  have hgt:=nextP_gt (l:=l) hp
  refine⟨F,fun x g hg=>by have:=G.dom x g hg; simp only; omega,fun x g hg=> ?_,fun y hy hlt=> ?_,.inr (G.first.resolve_left fun h=>by rw[hl] at h; exact absurd h.2.1 (by simp)),G.disj⟩
  ·obtain⟨g1,g2,g3,g4⟩:=G.good x g hg
   exact⟨g1,g2,g3,fun he=>⟨(g4 he).1,.inl ((g4 he).2.resolve_right hno)⟩⟩
  ·simp only at hlt
   by_cases h1:y.pos<s.p
   ·exact G.ent y hy h1
   by_cases h2:y.pos=s.p
   ·have:=findE_of hr hy
    rw[h2,hx] at this
    cases this
    refine .inl ⟨hxd, ?_⟩
    cases hF:F x.pos.toNat with
    |none=>rfl
    |some g=>
     have h3:=G.dom _ _ hF
     have h4:=(decF_ok (G.good _ _ hF).1).2.2.1
     unfold szA insA at h3
     omega
   ·exact(nextP_le hr hy (by omega) hlt).elim
 ·rintro s s' hp ⟨F,G⟩ hc
  have hp1:=(come_on hc).1
  have hsub:s.live=true→checkF e.cs.length s.fr=0→SubF e.cs s.fr s'.fr:=fun hl hck=>by
   rcases come_on2 hc with⟨_,_,h3⟩|⟨x,_,_,h3,h4⟩
   ·rw[h3]; exact SubF.refl hck
   ·rw[h3]; exact subFr_iff.1 (h4 hl)
  refine⟨F,⟨fun x g hg=>by have:=G.dom x g hg; omega,fun x g hg=> ?_,fun y hy hlt=>G.ent y hy (by omega), ?_,G.disj⟩,fun y hy he=> ?_⟩
  ·obtain⟨g1,g2,g3,g4⟩:=G.good x g hg
   refine⟨g1,g2,g3,fun he=>⟨(g4 he).1, ?_⟩⟩
   rcases(g4 he).2 with h|⟨h1,h2,h3⟩
   ·exact .inl h
   ·refine .inr ⟨by omega, ?_⟩
    have hck:checkF e.cs.length (applyR e g (insA b x)).1=0:=done_check hw (done_iff.1 g2)
    rw[←h3] at hck ⊢
    exact hsub h2 hck
  ·rcases G.first with⟨h1,h2,h3⟩|h
   ·exact .inl ⟨by omega,by rw[←h3] at hf0 ⊢; exact hsub h2 hf0⟩
   ·exact .inr h
  ·rcases come_on2 hc with⟨h1,_,_⟩|⟨x,h1,h2,h3,_⟩
   ·have:=findE_of hr hy
    rw[he,hp1,h1] at this; cases this
   ·have:=findE_of hr hy
    rw[he,hp1,h1] at this
    cases this
    exact⟨h2,h3⟩
 ·rintro s s' ⟨F,G,hE⟩ hf
  obtain⟨f1,f2,f3,f4,f5,rfl⟩:=fet_ok hf
  have hsz:=(decF_ok f1).2.2.1
  have hne:∀x g,F x=some g→x≠s.p:=fun x g hg he=>by
   subst he
   have h1:=G.dom _ _ hg
   have h2:=(decF_ok (G.good _ _ hg).1).2.2.1
   unfold szA insA at h1
   omega
  refine⟨fun x=>if x=s.p then some s.fr else F x,fun x g hg=> ?_,fun x g hg=> ?_,fun y hy hlt=> ?_, ?_,fun x g y k hx hy hlt=> ?_⟩
  ·simp only at hg ⊢
   by_cases he:x=s.p
   ·subst he; exact Nat.le_refl _
   ·rw[if_neg he] at hg
    have:=G.dom x g hg; omega
  ·simp only at hg ⊢
   by_cases he:x=s.p
   ·subst he
    rw[if_pos rfl] at hg
    cases hg
    exact⟨f1,f3,f4,fun hen=>⟨f5 hen,.inr ⟨rfl,by rw[show endsB (decF b s.p).1.op.val=false from hen]; rfl,rfl⟩⟩⟩
   ·rw[if_neg he] at hg
    obtain⟨g1,g2,g3,g4⟩:=G.good x g hg
    refine⟨g1,g2,g3,fun hen=>⟨(g4 hen).1,.inl ?_⟩⟩
    rcases(g4 hen).2 with⟨k,h1,h2⟩|⟨h1,h2⟩
    ·exact⟨k,by rw[if_neg (hne _ _ h1)]; exact h1,h2⟩
    ·exact⟨s.fr,by rw[if_pos h1.symm],h2⟩
  ·simp only at hlt ⊢
   by_cases h1:y.pos<s.p
   ·rw[if_neg (by have:=hpos y hy; omega)]
    exact G.ent y hy h1
   by_cases h2:y.pos=s.p
   ·obtain⟨h3,h4⟩:=hE y hy h2
    exact .inr ⟨h3,by rw[if_pos (by omega),h4]⟩
   ·exact(stray_none f2 y hy ⟨by omega,hlt⟩).elim
  ·rcases G.first with⟨h1,h2⟩|⟨g,h1,h2⟩
   ·exact .inr ⟨s.fr,by simp[h1],h2⟩
   ·exact .inr ⟨g,by rw[if_neg (hne _ _ h1)]; exact h1,h2⟩
  ·skip
   by_cases h1:x=s.p
   ·by_cases h2:y=s.p
    ·omega
    ·rw[if_neg h2] at hy
     have:=G.dom y k hy
     have:=(decF_ok (G.good _ _ hy).1).2.2.1
     omega
   ·rw[if_neg h1] at hx
    by_cases h2:y=s.p
    ·rw[h2]; exact G.dom x g hx
    ·rw[if_neg h2] at hy
     exact G.disj x g y k hx hy hlt
theorem pass_fam {e:En} {b:List Ty} {l:List Ey} {f0:Fr} {s:PS} {cmp:Nat} (hw:WideE e) (hr:Rise l) (hpos:∀y∈l,0≤y.pos) (hf0:checkF e.cs.length f0=0) (hn:b.length≠0) (h:runD e b l (b.length+1) ⟨0,f0,true,cmp,[]⟩= .ok s):
  ∃F,FamX e b f0 F∧∀y∈l,y.pos<b.length→(y.dead=true∧F y.pos.toNat=none)∨(y.dead=false∧F y.pos.toNat=some y.fr):=by
 obtain⟨F,G⟩:=pass_run hw hr hpos hf0 _ _ _ ⟨fun _=>none,fun x g h=>(by cases h),fun x g h=>(by cases h),fun y hy hlt=>by have:=hpos y hy; simp only at hlt; omega,.inl ⟨rfl,rfl,rfl⟩,fun x g y k h=>(by cases h)⟩ h
 have hend:=runD_end _ _ _ (by simp only; omega) h
 have hent:∀y∈l,y.pos<b.length→(y.dead=true∧F y.pos.toNat=none)∨(y.dead=false∧F y.pos.toNat=some y.fr):=fun y hy hlt=>G.ent y hy (by omega)
 refine⟨F,⟨⟨G.first.resolve_left fun h=>by omega,fun x g hg=> ?_⟩,fun x g hg=> ?_,G.disj⟩,hent⟩
 ·obtain⟨g1,g2,g3,g4⟩:=G.good x g hg
  refine⟨g2,fun y hy=> ?_⟩
  rcases next_mem g1 hy with⟨h1,rfl,h0⟩|⟨h1,rfl⟩
  ·obtain⟨h2,z,h3,h4,h5⟩:=jumpD_ok (g3 h1)
   obtain⟨h6,h7⟩:=findE_mem h3
   rcases hent z h6 (by omega) with⟨h8,_⟩|⟨_,h8⟩
   ·rw[h4] at h8; cases h8
   ·exact⟨z.fr,by rw[←h7]; exact h8,h5⟩
  ·rcases(g4 h1).2 with h2|⟨h2,_⟩
   ·exact h2
   ·have:=(g4 h1).1; omega
 ·obtain⟨g1,g2,g3,g4⟩:=G.good x g hg
  exact⟨g1,on_zero g1 (fun hj=>(jumpD_ok (g3 hj)).1) fun he=>by have:=(g4 he).1; omega⟩
theorem hands_can {l:List Cl} {m:Nat} {g:Fr} {G:Nat→Fr} (hg:checkF l.length g=0):∀{to:List Int} {s:IS},s.sz m→(∀x∈to,0≤x∧x<m)→(∀x,hasP s x→SubF l (frA s x) (G x))→(∀x∈to,SubF l g (G x.toNat))→(handsD l g to s).2.2=0
 |[],s,_,_,_,_=>rfl
 |a::r,s,hs,ht,h1,h2=>by
  have ha:=ht a (List.mem_cons_self ..)
  have hok:(handD l s a.toNat g).2=0:=by
   unfold handD
   by_cases g1:(s.has[a.toNat]?).getD false=false
   ·rw[if_pos g1]
   rw[if_neg g1]
   have hm:=mergeF_can (h1 a.toNat (by unfold hasP; simpa using g1)) (h2 a (List.mem_cons_self ..))
   unfold frA at hm
   rw[if_neg (by omega)]
   split <;> rfl
  have H:=hand_handed hs (show a.toNat<m by omega) hg hok
  rw[handsD,if_neg (by omega)]
  exact hands_can hg (hand_sz hs) (fun x hx=>ht x (List.mem_cons_of_mem _ hx)) (H.least G h1 fun x hx=>by
   rw[List.mem_singleton] at hx
   rw[hx]; exact h2 a (List.mem_cons_self ..)) fun x hx=>h2 x (List.mem_cons_of_mem _ hx)
def TakI (b:List Ty) (F:Nat→Option Fr) (s:IS):Prop:=∀x,(s.tk[x]?).getD 0≠0→∃g,F x=some g∧(s.tk[x]?).getD 0=szA b x
theorem hands_tk2 {e:En} {b:List Ty} {s:IS} {a:Nat} (h:(roundD e b s a).2.2=0):(roundD e b s a).1.tk=s.tk.set a (szA b a):=by
 obtain⟨_,_,_,_,_,h6⟩:=round_ok h
 rw[h6,hands_tk]; rfl
theorem round_can {e:En} {b:List Ty} {s:IS} {a:Nat} {f0 g:Fr} {F:Nat→Option Fr} (hw:WideE e) (hs:s.sz (b.length+1)) (ha:a≤b.length) (hF:FamX e b f0 F) (hg:F a=some g) (hh:hasP s a) (hi:LeastI e F s) (ht:TakI b F s):(roundD e b s a).2.2=0:=by
 obtain⟨d1,d2⟩:=hF.dec a g hg
 obtain⟨w1,w2⟩:=hF.goes a g hg
 obtain⟨k,hk,hsub⟩:=hi a hh
 rw[hg] at hk
 cases hk
 obtain⟨m1,m2⟩:=mono hw (done_iff.1 w1) hsub
 have q1:=decF_ok d1
 have hov:overB s.tk a (zf1 (decF b a).1.op.val)=false:=by
  cases ho:overB s.tk a (zf1 (decF b a).1.op.val) with
  |false=>rfl
  |true=>
   unfold overB at ho
   rw[List.any_eq_true] at ho
   obtain⟨x,hx,hd⟩:=ho
   rw[decide_eq_true_eq] at hd
   obtain⟨h1,h2,h3,h4⟩:=hd
   obtain⟨g',hg',he⟩:=ht x (by omega)
   rw[he] at h1 h3
   rcases Nat.lt_or_gt_of_ne h2 with hlt|hlt
   ·have:=hF.disj x g' a _ hg' hg hlt
    omega
   ·have:a+szA b a≤x:=hF.disj a _ x g' hg hg' hlt
    unfold szA insA at this
    omega
 have hap:(applyR e ((s.fr[a]?).getD (fr0 0)) (decF b a).1).2=0:=done_iff.2 m1
 unfold roundD
 rw[if_neg (by omega),if_neg (by omega),if_neg (by rw[hov]; simp)]
 simp only
 rw[if_neg (by omega),if_neg (by omega)]
 refine hands_can (m:=b.length+1) (G:=fun x=>(F x).getD (fr0 0)) (done_check hw m1) ⟨hs.a,hs.b,by simpa using hs.c,by simpa using hs.d⟩ (fun x hx=>by have:=on_in d1 hx; omega) (fun x hx=> ?_) fun x hx=> ?_
 ·obtain⟨k,hk,hk2⟩:=hi x hx
  show SubF e.cs (frA s x) ((F x).getD (fr0 0))
  rw[hk]; exact hk2
 ·obtain⟨k,hk,hk2⟩:=w2 x.toNat (List.mem_map.2 ⟨x,hx,rfl⟩)
  rw[hk]; exact m2.trans hk2
theorem goD_can {e:En} {b:List Ty} {f0:Fr} {F:Nat→Option Fr} (hw:WideE e) (hF:FamX e b f0 F):∀(k:Nat) (s:IS),s.sz (b.length+1)→FH s→LeastI e F s→TakI b F s→muS e.cs s (b.length+1)<k→(goD e b k s (leastD s.fresh)).2.2=0
 |0,s,_,_,_,_,hk=>absurd hk (Nat.not_lt_zero _)
 |k+1,s,hs,hf,hi,ht,hk=>by
  rw[goD]
  by_cases h0:leastD s.fresh<0
  ·rw[if_pos h0]
  ·rw[if_neg h0]
   obtain⟨a,ha⟩:∃a:Nat,leastD s.fresh=a:=⟨_,(Int.toNat_of_nonneg (by omega)).symm⟩
   obtain⟨h1,h2⟩:=least_in ha (by omega)
   rw[Int.toNat_natCast] at h1 h2
   rw[hs.c] at h1
   rw[ha,Int.toNat_natCast]
   have hal:a≤b.length:=by omega
   have hh:hasP s a:=hf a h2
   obtain⟨g,hg,_⟩:=hi a hh
   have hr:=round_can hw hs hal hF hg hh hi ht
   obtain⟨_,_,_,_,_,_,r6,_,_⟩:=round_shape (e:=e) hs hal
   rw[if_neg (by omega)]
   refine goD_can hw hF k _ r6 (round_FH hf hs hal) (round_least hw hs hal hh hF.toFamP hi hr) (fun x hx=> ?_) (Nat.lt_of_lt_of_le (round_falls (e:=e) hs hal h2) (Nat.le_of_lt_succ hk))
   rw[hands_tk2 hr] at hx ⊢
   rw[set_at (by rw[hs.d]; omega)] at hx ⊢
   by_cases he:x=a
   ·rw[if_pos he]; exact⟨g,by rw[he]; exact hg,by rw[he]⟩
   ·rw[if_neg he] at hx ⊢; exact ht x hx
theorem gone_can {e:En} {loc:Int} {b:List Ty} {F:Nat→Option Fr} (hw:WideE e) (hm:mayE e loc=0) (hF:FamX e b (startF e.cs.length (psOf e) loc).1 F):(goneD e loc b).2.2=0:=by
 have hl:(0:Int)=leastD (is0 b.length (startF e.cs.length (psOf e) loc).1).fresh:=is0_least.symm
 unfold goneD
 rw[hl]
 refine goD_can hw hF _ _ is0_sz is0_FH (fun x hx=> ?_) (fun x hx=> ?_) is0_mu
 ·rw[is0_hasP] at hx
  subst hx
  have:frA (is0 b.length (startF e.cs.length (psOf e) loc).1) 0=(startF e.cs.length (psOf e) loc).1:=is0_fr
  rw[this]; exact hF.start
 ·exfalso; apply hx
  simp only[is0,List.getElem?_replicate]
  split <;> rfl
theorem higher {e:En} {n:Int} {b c:List Ty} (hw:WideE e) (h:(checkD e n b c).2.2=0):
  ∃r,inferD e n b=(entsD r b.length,0,0)∧hasP r 0∧b.length≠0∧∀x,hasP r x→∀y∈(decC c).1.es,y.pos=x→x<b.length→y.dead=false∧SubF e.cs (frA r x) y.fr:=by
 unfold checkD at h
 split at h
 ·rename_i a w hb
  simp only at h
  exfalso
  unfold beginD at hb
  split at hb
  ·cases hb; cases h
  split at hb
  ·cases hb; cases h
  split at hb
  ·cases hb; cases h
  split at hb
  ·rename_i h4; cases hb; exact h4 h
  split at hb
  ·cases hb; cases h
  ·split at hb
   ·cases hb; cases h
   ·cases hb
 rename_i hb
 have hbeg:¬(canB e=false∨n<(psOf e).length∨16<n)∧b.length≤4096∧b.length≠0:=by
  unfold beginD at hb
  split at hb
  ·cases hb
  rename_i h1
  split at hb
  ·cases hb
  split at hb
  ·cases hb
  exact⟨h1,by omega,by assumption⟩
 obtain⟨h1,h2,h3⟩:=hbeg
 have hm:mayE e n=0:=Classical.byContradiction fun hc=>h1 ((may_can e n).1 hc)
 obtain⟨hr,hpos,_,_⟩:=decC_rise c
 split at h
 ·rename_i a w hrun
  exact absurd h (runD_no _ _ hrun)
 rename_i s hrun
 obtain⟨F,hF,hent⟩:=pass_fam hw hr (fun y hy=>(hpos y hy).1) (start_check hm) h3 hrun
 have hok:=gone_can hw hm hF
 obtain⟨r,g1,g2⟩:=gone_last hw hm hok
 have hleast:=gone_least hw hF.toFamP g1
 refine⟨r, ?_,g2.start.1,h3,fun x hx y hy hxy hlt=> ?_⟩
 ·unfold inferD
  rw[if_neg (by omega),if_neg (by omega)]
  have hg:goneD e n b=goD e b (fuelD b.length) (is0 b.length (startF e.cs.length (psOf e) n).1) 0:=rfl
  simp only
  rw[←hg,g1]; rfl
 ·obtain⟨k,hk,hsub⟩:=hleast x hx
  rcases hent y hy (by omega) with⟨_,hd⟩|⟨hd0,hd⟩ <;> rw[show y.pos.toNat=x by omega,hk] at hd
  ·cases hd
  ·cases hd
   exact⟨hd0,hsub⟩
open Go.Proofs
def adrs (s:IS) (n:Nat):List Nat:=(List.range n).filter fun a=>(s.has[a]?).getD false
open Go.Proofs
open Go.Proofs
def frameE (loc:Int) (f:Fr):Nat:=
 if f.loc≠loc∨f.h<0∨24-loc<f.h then 65
 else if((List.range 24).all fun i=>decide (loc+f.h≤(i:Int)→slAt f i=0))=false then 65
 else if((List.range 24).all fun i=>knownT (slAt f i))=false then 62 else 0
theorem frameE_bad {loc:Int} {f:Fr} (h:f.loc≠loc∨f.h<0∨24-loc<f.h):frameE loc f=65:=by unfold frameE; rw[if_pos h]
theorem frameE_tail {loc:Int} {f:Fr} (h:¬(f.loc≠loc∨f.h<0∨24-loc<f.h)) {i:Nat} (hi:i<24) (h1:loc+f.h≤(i:Int)) (h2:slAt f i≠0):frameE loc f=65:=by
 unfold frameE
 rw[if_neg h,if_pos]
 rw[List.all_eq_false]
 exact⟨i,List.mem_range.2 hi,by simpa using ⟨h1,h2⟩⟩
theorem frameE_code {loc:Int} {f:Fr} (h:¬(f.loc≠loc∨f.h<0∨24-loc<f.h)) (h0:∀i:Nat,i<24→loc+f.h≤(i:Int)→slAt f i=0) {i:Nat} (hi:i<24) (h2:knownT (slAt f i)=false):frameE loc f=62:=by
 unfold frameE
 have h1:((List.range 24).all fun i=>decide (loc+f.h≤(i:Int)→slAt f i=0))=true:=by
  rw[List.all_eq_true]
  intro j hj
  rw[List.mem_range] at hj
  have:=h0 j hj
  simp only[decide_eq_true_eq]; exact this
 rw[if_neg h,if_neg (by rw[h1]; simp),if_pos]
 rw[List.all_eq_false]
 exact⟨i,List.mem_range.2 hi,by rw[h2]; simp⟩
theorem frameE_ok {loc:Int} {f:Fr} (h:¬(f.loc≠loc∨f.h<0∨24-loc<f.h)) (h0:∀i:Nat,i<24→loc+f.h≤(i:Int)→slAt f i=0) (h2:∀i:Nat,i<24→knownT (slAt f i)=true):frameE loc f=0:=by
 unfold frameE
 have h1:((List.range 24).all fun i=>decide (loc+f.h≤(i:Int)→slAt f i=0))=true:=by
  rw[List.all_eq_true]
  intro j hj
  rw[List.mem_range] at hj
  have:=h0 j hj
  simp only[decide_eq_true_eq]; exact this
 have h3:((List.range 24).all fun i=>knownT (slAt f i))=true:=by
  rw[List.all_eq_true]
  intro j hj
  rw[List.mem_range] at hj
  exact h2 j hj
 rw[if_neg h,if_neg (by rw[h1]; simp),if_neg (by rw[h3]; simp)]
theorem fr_sl (f:Fr) {i:Nat} (h:i<24):(eFr f)[2+i]? =some (.int .u8 ((slAt f i).val:Int)):=by
 rw[fr_at f i h]; simp[slAt,h]
def bodyE (loc:Int) (x:Ey):Nat:=if x.dead=true then(if x.fr=fr0 0 then 0 else 65) else frameE loc x.fr
open Go.Proofs
theorem bodyE_dead {loc:Int} {x:Ey} (h:x.dead=true):bodyE loc x=if x.fr=fr0 0 then 0 else 65:=by unfold bodyE; rw[if_pos h]
theorem bodyE_live {loc:Int} {x:Ey} (h:x.dead=false):bodyE loc x=frameE loc x.fr:=by unfold bodyE; rw[if_neg (by rw[h]; simp)]
theorem ey_fr (x:Ey):((eEy x).drop 2).take 26=eFr x.fr:=by
 show(eFr x.fr).take 26=_
 exact za4 _
theorem ey_26 (x:Ey):(26≤((eEy x).drop 2).length)=True:=eq_true (by simp[eEy,eFr])
theorem eqG84:eqGP Tryz.prog 84=true:=by kernel_rfl
theorem eq_fr0 (y:Fr):eqV Tryz.prog 10 84 (.agg (eFr y)) (.agg zFr)=some (decide (y=fr0 0)):=by rw[←fr_fr0]; exact eq_fr y (fr0 0)
def bYhpB0:=aI @zb8 (aI @zc0 (aI @zb3 (aI @zb2 (aI @za5 (aI @za4 (aI @gdD (aI @fr_0 (aI @fr_1 (aI @zb4 (aI @za8 (aI @ey_fr (aI @ey_0 (aI @ey_1 @ey_26)))))))))))))
def bYhpB1:=aI @zb8 (aI @zc0 (aI @zb3 (aI @zb2 (aI @za5 (aI @za4 (aI @gdD (aI @fr_0 (aI @fr_1 (aI @zb4 (aI @za8 (aI @ey_fr (aI @ey_0 (aI @ey_1 (aI @ey_26 @za2))))))))))))))
theorem body109 (loc:Nat) (x:Ey) (hl:loc≤16):PCall Tryz.prog 109 [.int .i64 (loc:Int),.agg (eEy x)] (.int .i64 (bodyE loc x)):=by
 have w0:IntKind.wrap .i64 (24-(loc:Int))=24-(loc:Int):=zc1 (by omega) (by omega)
 refine F109.pcallM rfl fun T hT=> ?_
 simp -implicitDefEqProofs only[go_sem,c109,hT,Nat.mul_one,Nat.add_zero,Nat.zero_add,bYhpB0]
 intro b3 b5 n1 n2
 cases hd:x.dead with
 |true=>
  rw[bodyE_dead hd]
  by_cases hf:x.fr=fr0 0
  ·have g1:(decide (x.fr=fr0 0))=true:=decide_eq_true hf
   rw[if_pos hf]
   simp -implicitDefEqProofs only[go_sem,hT,zb8,zc0,zb3,zb2,za5,za4,gdD,Nat.mul_one,Nat.add_zero,Nat.zero_add,fr_0,fr_1,zb4,za8,ey_fr,ey_0,ey_1,ey_26,n1,n2,za2,hd,eq_fr0,eqG84,g1]
   exact DLe.refl _
  ·have g1:(decide (x.fr=fr0 0))=false:=decide_eq_false hf
   rw[if_neg hf]
   simp -implicitDefEqProofs only[go_sem,hT,zb8,zc0,zb3,zb2,za5,za4,gdD,Nat.mul_one,Nat.add_zero,Nat.zero_add,fr_0,fr_1,zb4,za8,ey_fr,ey_0,ey_1,ey_26,n1,n2,za2,hd,eq_fr0,eqG84,g1]
   exact DLe.refl _
 |false=>
  rw[bodyE_live hd]
  obtain⟨f,hff⟩:∃f,x.fr=f:=⟨_,rfl⟩
  rw[hff]
  by_cases hbad:f.loc≠loc∨f.h<0∨24-(loc:Int)<f.h
  ·rw[frameE_bad hbad]
   by_cases c1:f.loc=loc
   ·have e1:(f.loc=(loc:Int))=True:=eq_true c1
    by_cases c2:f.h<0
    ·have e2:(f.h<0)=True:=eq_true c2
     simp -implicitDefEqProofs only[go_sem,mmB,hT,Nat.mul_one,Nat.add_zero,Nat.zero_add,n1,n2,hd,hff,e1,e2,w0,bYhpB1]
     exact DLe.refl _
    ·have e2:(f.h<0)=False:=eq_false c2
     have e3:(24-(loc:Int)<f.h)=True:=eq_true ((hbad.resolve_left fun h=>h c1).resolve_left c2)
     simp -implicitDefEqProofs only[go_sem,mmB,hT,Nat.mul_one,Nat.add_zero,Nat.zero_add,n1,n2,hd,hff,e1,e2,e3,w0,bYhpB1]
     exact DLe.refl _
   ·have e1:(f.loc=(loc:Int))=False:=eq_false c1
    simp -implicitDefEqProofs only[go_sem,mmB,hT,Nat.mul_one,Nat.add_zero,Nat.zero_add,n1,n2,hd,hff,e1,w0,bYhpB1]
    exact DLe.refl _
  simp only[not_or,Classical.not_not] at hbad
  obtain⟨c1,c2,c3⟩:=hbad
  have hnb:¬(f.loc≠loc∨f.h<0∨24-(loc:Int)<f.h):=by omega
  obtain⟨k,hk⟩:∃k:Nat,f.h=k:=⟨f.h.toNat,by omega⟩
  have e1:(f.loc=(loc:Int))=True:=eq_true c1
  have e2:(f.h<0)=False:=eq_false c2
  have e3:(24-(loc:Int)<f.h)=False:=eq_false c3
  have w1:IntKind.wrap .i64 ((loc:Int)+f.h)=((loc+k:Nat):Int):=by rw[zc1 (by omega) (by omega),hk]; simp
  simp -implicitDefEqProofs only[go_sem,mmB,hT,Nat.mul_one,Nat.add_zero,Nat.zero_add,n1,n2,hd,hff,e1,e2,e3,w0,w1,bYhpB1]
  refine loopL F109 (fun i:Nat=>[(0,.int .i64 (loc:Int)),(5,.ptr b5 0),(6,.int .i64 i)]) (fun _=>({}:St).set b5 (eFr f))
   (fun i=>loc+k≤i∧i≤24∧∀j,loc+k≤j→j<i→slAt f j=0) (fun i=>24-i) (loc+k) ⟨Nat.le_refl _,by omega,fun j h h2=>by omega⟩ ?_ (le_set (St.le.nil _)) ?_
  ·simp -implicitDefEqProofs only[go_sem,hT,Nat.mul_one,Nat.add_zero,Nat.zero_add,bYhpB0]
  clear hT T
  rintro i ⟨hi0,hi,hz⟩ T hT
  by_cases h:i<24
  ·have g5:((i:Int)<24)=True:=eq_true (by omega)
   have w3:IntKind.wrap .i64 ((i:Int)+1)=((i+1:Nat):Int):=by rw[zc1 (by omega) (by omega)]; simp
   have hat:=fr_sl f (i:=i) (by omega)
   by_cases hs:slAt f i=0
   ·have g6:(((slAt f i).val:Int)=0)=True:=eq_true (by rw[hs]; rfl)
    simp -implicitDefEqProofs only[go_sem,hT,g5,Nat.mul_one,Nat.add_zero,Nat.zero_add,hat,g6,w3,bYhpB0]
    exact⟨by omega,i+1,⟨by omega,by omega,fun j hj0 hj=>by
     by_cases he:j=i
     ·rw[he]; exact hs
     ·exact hz j hj0 (by omega)⟩,by omega,rfl,St.le.refl _⟩
   ·have g6:(((slAt f i).val:Int)=0)=False:=eq_false (fun h=>hs (Fin.ext (by simpa using h)))
    rw[frameE_tail hnb (i:=i) (by omega) (by omega) hs]
    simp -implicitDefEqProofs only[go_sem,hT,g5,Nat.mul_one,Nat.add_zero,Nat.zero_add,hat,g6,bYhpB0]
    exact⟨by omega,DLe.refl _⟩
  have g5:((i:Int)<24)=False:=eq_false (by omega)
  have hz0:∀i:Nat,i<24→(loc:Int)+f.h≤(i:Int)→slAt f i=0:=fun j hj h2=>hz j (by omega) (by omega)
  simp -implicitDefEqProofs only[go_sem,hT,g5,Nat.mul_one,Nat.add_zero,Nat.zero_add,bYhpB0]
  refine loopL F109 (fun i:Nat=>[(5,.ptr b5 0),(7,.int .i64 i)]) (fun _=>({}:St).set b5 (eFr f))
   (fun i=>i≤24∧∀j,j<i→knownT (slAt f j)=true) (fun i=>24-i) 0 ⟨Nat.zero_le _,fun j h=>by omega⟩ ?_ (St.le.refl _) ?_
  ·simp -implicitDefEqProofs only[go_sem,hT,Nat.mul_one,Nat.add_zero,Nat.zero_add,bYhpB0]
   rfl
  clear hT T
  rintro i ⟨hi,hk2⟩ T hT
  by_cases h:i<24
  ·have g5:((i:Int)<24)=True:=eq_true (by omega)
   have w3:IntKind.wrap .i64 ((i:Int)+1)=((i+1:Nat):Int):=by rw[zc1 (by omega) (by omega)]; simp
   have hat:=fr_sl f (i:=i) (by omega)
   simp -implicitDefEqProofs only[go_sem,hT,g5,Nat.mul_one,Nat.add_zero,Nat.zero_add,hat,bYhpB0]
   refine⟨by omega,za3 (isCode149 _) ?_⟩
   cases hs:knownT (slAt f i) with
   |false=>
    rw[frameE_code hnb hz0 (i:=i) (by omega) hs]
    simp -implicitDefEqProofs only[go_sem,hT]
    exact DLe.refl _
   |true=>
    simp -implicitDefEqProofs only[go_sem,hT,w3]
    exact⟨i+1,⟨by omega,fun j hj=>by
     by_cases he:j=i
     ·rw[he]; exact hs
     ·exact hk2 j (by omega)⟩,by omega,rfl,St.le.refl _⟩
  have g5:((i:Int)<24)=False:=eq_false (by omega)
  rw[frameE_ok hnb hz0 fun j hj=>hk2 j (by omega)]
  simp -implicitDefEqProofs only[go_sem,hT,g5,Nat.mul_one,Nat.add_zero,Nat.zero_add,bYhpB0]
  exact DLe.refl _
open Go.Proofs
def eCz (loc:Int) (es:List Ey):List D:=[.int .i64 loc,.slice .no (rws eEy es)]
theorem eCz_len (loc:Int) (es:List Ey):(eCz loc es).length=2:=rfl
theorem eCz_take (loc:Int) (es:List Ey):(eCz loc es).take 2=eCz loc es:=rfl
theorem eCz_0 (loc:Int) (es:List Ey):(eCz loc es)[0]? =some (.int .i64 loc):=rfl
theorem eCz_1 (loc:Int) (es:List Ey):(eCz loc es)[1]? =some (.slice .no (rws eEy es)):=rfl
def chkC (loc:Int):Int→Nat→List Ey→Nat×Nat
 |_,_,[]=>(0,0)
 |last,i,x::r=>if afterE x.pos last≠0 then(i,afterE x.pos last) else if bodyE loc x≠0 then(i,bodyE loc x) else chkC loc x.pos (i+1) r
def checkC (loc:Int) (es:List Ey):Nat×Nat:=if loc<0∨16<loc then(0,5) else if 4096<es.length then(4096,4) else chkC loc (-1) 0 es
def lastP (es:List Ey) (i:Nat):Int:=if i=0 then -1 else((es[i-1]?).map (·.pos)).getD (-1)
theorem lastP_succ {es:List Ey} {i:Nat} (h:i<es.length):lastP es (i+1)=es[i].pos:=by simp[lastP,h]
theorem chk_step {loc:Int} {es:List Ey} {i:Nat} (h:i<es.length):chkC loc (lastP es i) i (es.drop i)=
  if afterE es[i].pos (lastP es i)≠0 then(i,afterE es[i].pos (lastP es i)) else if bodyE loc es[i]≠0 then(i,bodyE loc es[i]) else chkC loc (lastP es (i+1)) (i+1) (es.drop (i+1)):=by
 rw[List.drop_eq_getElem_cons h,chkC,lastP_succ h]
def bYhpC0:=aI @gdD (aI @eCz_len (aI @eCz_take (aI @eCz_0 @eCz_1)))
theorem refCheck66 (loc:Int) (es:List Ey) (hl:es.length≤140737488355328):PCall Tryz.prog 66 [.agg (eCz loc es)] (.tup [.int .i64 (checkC loc es).1,.int .i64 (checkC loc es).2]):=by
 refine F66.pcallM rfl fun T hT=> ?_
 by_cases h1:loc<0
 ·have g1:(loc<0)=True:=eq_true h1
  rw[show checkC loc es=(0,5) by unfold checkC; rw[if_pos (.inl h1)]]
  simp -implicitDefEqProofs only[go_sem,mmB,c66,hT,Nat.mul_one,Nat.add_zero,Nat.zero_add,g1,bYhpC0]
  exact DLe.refl _
 have g1:(loc<0)=False:=eq_false h1
 by_cases h2:16<loc
 ·have g2:((16:Int)<loc)=True:=eq_true h2
  rw[show checkC loc es=(0,5) by unfold checkC; rw[if_pos (.inr h2)]]
  simp -implicitDefEqProofs only[go_sem,mmB,c66,hT,Nat.mul_one,Nat.add_zero,Nat.zero_add,g1,g2,bYhpC0]
  exact DLe.refl _
 have g2:((16:Int)<loc)=False:=eq_false h2
 by_cases h3:4096<es.length
 ·have g3:((4096:Int)<es.length)=True:=eq_true (by omega)
  rw[show checkC loc es=(4096,4) by unfold checkC; rw[if_neg (by omega),if_pos h3]]
  simp -implicitDefEqProofs only[go_sem,mmB,c66,hT,Nat.mul_one,Nat.add_zero,Nat.zero_add,g1,g2,g3,bYhpC0]
  exact DLe.refl _
 have g3:((4096:Int)<es.length)=False:=eq_false (by omega)
 obtain⟨n,rfl⟩:∃n:Nat,loc=n:=⟨loc.toNat,by omega⟩
 rw[show checkC n es=chkC n (-1) 0 es by unfold checkC; rw[if_neg (by omega),if_neg h3]]
 simp -implicitDefEqProofs only[go_sem,mmB,c66,hT,Nat.mul_one,Nat.add_zero,Nat.zero_add,g1,g2,g3,bYhpC0]
 intro b1
 refine loopL F66 (fun i:Nat=>[(1,.ptr b1 0),(4,.int .i64 (lastP es i)),(5,.int .i64 i)]) (fun _=>({}:St).set b1 (eCz n es))
  (fun i=>i≤es.length∧chkC n (lastP es i) i (es.drop i)=chkC n (-1) 0 es) (fun i=>es.length-i) 0 ⟨Nat.zero_le _,rfl⟩ ?_ (St.le.refl _) ?_
 ·simp -implicitDefEqProofs only[go_sem,hT,Nat.mul_one,Nat.add_zero,Nat.zero_add,bYhpC0]
  exact⟨rfl,rfl⟩
 clear hT T
 rintro i ⟨hi,hc⟩ T hT
 by_cases h:i<es.length
 case neg=>
  have g5:((i:Int)<es.length)=False:=eq_false (by omega)
  rw[←hc,List.drop_eq_nil_of_le (by omega)]
  simp -implicitDefEqProofs only[go_sem,hT,g5,Nat.mul_one,Nat.add_zero,Nat.zero_add,bYhpC0]
  exact DLe.refl _
 have g5:((i:Int)<es.length)=True:=eq_true (by omega)
 have w3:IntKind.wrap .i64 ((i:Int)+1)=((i+1:Nat):Int):=by rw[zc1 (by omega) (by omega)]; simp
 have hget:=rws_at (enc:=eEy) h
 have hst:=chk_step (loc:=n) h
 rw[hc] at hst
 generalize hL:lastP es i=L at *
 have hnext:=lastP_succ h
 generalize hx:es[i]=x at *
 simp -implicitDefEqProofs only[go_sem,hT,g5,gdD,Nat.mul_one,Nat.add_zero,Nat.zero_add,eCz_len,eCz_take,eCz_0,eCz_1,hget,ey_0,zb4]
 refine⟨by omega,za3 (after108 L x.pos) ?_⟩
 by_cases g6:afterE x.pos L=0
 case neg=>
  have g6':((afterE x.pos L:Int)=0)=False:=eq_false (by omega)
  rw[if_pos g6] at hst
  rw[hst]
  simp -implicitDefEqProofs only[go_sem,hT,g6',Nat.mul_one,Nat.add_zero,Nat.zero_add,bYhpC0]
  done
 have g6':((afterE x.pos L:Int)=0)=True:=eq_true (by omega)
 rw[if_neg (by omega)] at hst
 simp -implicitDefEqProofs only[go_sem,hT,g6',gdD,Nat.mul_one,Nat.add_zero,Nat.zero_add,eCz_len,eCz_take,eCz_0,eCz_1,hget,zb4,za8,ey_fr]
 refine⟨⟨by omega,by omega⟩,za3 (body109 n x (by omega)) ?_⟩
 by_cases g7:bodyE n x=0
 case neg=>
  have g7':((bodyE n x:Int)=0)=False:=eq_false (by omega)
  rw[if_pos g7] at hst
  rw[hst]
  simp -implicitDefEqProofs only[go_sem,hT,g7',Nat.mul_one,Nat.add_zero,Nat.zero_add,bYhpC0]
  done
 have g7':((bodyE n x:Int)=0)=True:=eq_true (by omega)
 rw[if_neg (by omega)] at hst
 simp -implicitDefEqProofs only[go_sem,hT,g7',gdD,Nat.mul_one,Nat.add_zero,Nat.zero_add,eCz_len,eCz_take,eCz_0,eCz_1,hget,ey_0,zb4,w3]
 exact⟨⟨by omega,by omega⟩,i+1,⟨by omega,hst.symm⟩,by omega,⟨by rw[hnext],rfl⟩,St.le.refl _⟩
open Go.Proofs
open Go.Proofs
def byT (n:Nat):Ty:=⟨n%256,by omega⟩
def bytesE (loc:Nat) (x:Ey):List Ty:=byT (x.pos.toNat/256)::byT x.pos.toNat::(if x.dead=true then [0] else 1::byT x.fr.h.toNat::x.fr.sl.toList.take (loc+x.fr.h.toNat))
def headB (loc n:Nat):List Ty:=[112,118,1,byT loc,byT (n/256),byT n]
def encB (loc:Nat) (es:List Ey):List Ty:=headB loc es.length++es.flatMap (bytesE loc)
def encC (loc:Int) (es:List Ey):List Ty×Nat:=if(checkC loc es).2≠0 then([],(checkC loc es).2) else(encB loc.toNat es,0)
theorem wrap_u8m (z:Int):IntKind.wrap .u8 z=z%256:=by simp[IntKind.wrap,IntKind.bits,IntKind.signed]
theorem byT_val (n:Nat):((byT n).val:Int)=IntKind.wrap .u8 (n:Int):=by rw[wrap_u8m]; simp[byT]
def brD (o:Option Nat) (bs:List Ty):D:=match o with
 |none=> .slice .exact (rws eT bs)
 |some b=> .slice (.buf b 1) (rws eT bs)
section
variable {N : Nat} {d : Option Nat} {K : Env → St → Prop} {T : Env} {σ : St}
theorem br_app {o:Option Nat} {bs ys:List Ty} {ow:Own} {base:St} (hb:grN o base) (hle:St.le (grS 1 bs.length o base) σ) (hy:ys≠[]) (hl:(bs++ys).length≤1000000)
  (hk:∀b' σ',σ'.box=σ.box→St.le (grS 1 (bs++ys).length (some b') base) σ'→grN (some b') base→putK N d (brD (some b') (bs++ys)) K T σ'):
  appendA Tryz.prog N d 26 26 (brD o bs) (.slice ow (rws eT ys)) K T σ:=by
 have hyr:∀r∈rws eT ys,r.length=1:=fun r hr=>by
  rw[rws,List.mem_map] at hr
  obtain⟨t,_,rfl⟩:=hr; rfl
 have hbr:∀r∈rws eT bs,r.length=1:=fun r hr=>by
  rw[rws,List.mem_map] at hr
  obtain⟨t,_,rfl⟩:=hr; rfl
 have hap:rws eT bs++rws eT ys=rws eT (bs++ys):=rws_app ..
 rw[List.length_append] at hl
 cases o with
 |none=>
  have hyn:rws eT ys≠[]:=fun h=>hy (by simpa[rws] using h)
  simp only[brD,app_exact,Tryz.sli26,Tryz.sz5,Tryz.by5,Tryz.zero5,Option.map_some,true_and,za0,hap]
  refine⟨rfl,by omega,by omega,hyr,by omega,hbr,fun h=>absurd h hyn,fun _ b' hb'=> ?_⟩
  have:=hk b' (σ.setBuf b' 1 (bs.length+ys.length)) rfl (by
   rw[List.length_append]
   exact le_setBuf hle) (fun c hc=>by cases hc; exact fun h=>hb' (hle.has h))
  exact this
 |some b=>
  refine app_gr' Tryz.sli26 Tryz.sz5 Tryz.by5 Tryz.zero5 rfl (n:=bs.length) (m:=ys.length) (base:=base) (o:=some b) (by rw[za0]) (by rw[za0]) hle hb (fun h=>by cases h) hyr (by omega) fun o' σ' h1 h2 h3 h4=> ?_
  cases o' with
  |none=>exfalso; have:=h4 rfl; exact hy (List.eq_nil_of_length_eq_zero (by omega))
  |some b'=>
   have:=hk b' σ' h1 (by rw[List.length_append]; exact h2) h3
   rw[hap]; exact this
end
theorem frame_zero {loc:Int} {f:Fr} (h:frameE loc f=0):f.loc=loc∧0≤f.h∧f.h≤24-loc:=by
 unfold frameE at h
 split at h
 ·cases h
 ·rename_i hc; omega
theorem after_zero {a l:Int} (h:afterE a l=0):0≤a∧a≤4095∧l<a:=by
 unfold afterE at h
 split at h
 ·cases h
 split at h
 ·cases h
 split at h
 ·cases h
 ·omega
theorem chk_ok {loc:Int}:∀{es:List Ey} {last:Int} {i:Nat},(chkC loc last i es).2=0→∀x∈es,(0≤x.pos∧x.pos≤4095)∧bodyE loc x=0
 |[],_,_,_,x,hx=>by cases hx
 |y::r,last,i,h,x,hx=>by
  rw[chkC] at h
  by_cases h1:afterE y.pos last=0
  case neg=>rw[if_pos h1] at h; exact absurd h h1
  rw[if_neg (by omega)] at h
  by_cases h2:bodyE loc y=0
  case neg=>rw[if_pos h2] at h; exact absurd h h2
  rw[if_neg (by omega)] at h
  rcases List.mem_cons.1 hx with rfl|hx
  ·have:=after_zero h1
   exact⟨⟨this.1,this.2.1⟩,h2⟩
  ·exact chk_ok h x hx
theorem check_ok {loc:Int} {es:List Ey} (h:(checkC loc es).2=0):∃n:Nat,loc=n∧n≤16∧es.length≤4096∧∀x∈es,∃p:Nat,x.pos=p∧p≤4095∧(x.dead=true∧x.fr=fr0 0∨x.dead=false∧∃k:Nat,x.fr.h=k∧x.fr.loc=n∧n+k≤24):=by
 unfold checkC at h
 split at h
 ·cases h
 split at h
 ·cases h
 obtain⟨n,rfl⟩:∃n:Nat,loc=n:=⟨loc.toNat,by omega⟩
 refine⟨n,rfl,by omega,by omega,fun x hx=> ?_⟩
 obtain⟨⟨h1,h2⟩,h3⟩:=chk_ok h x hx
 refine⟨x.pos.toNat,by omega,by omega, ?_⟩
 cases hd:x.dead with
 |true=>
  rw[bodyE_dead hd] at h3
  by_cases hf:x.fr=fr0 0
  ·exact .inl ⟨rfl,hf⟩
  ·rw[if_neg hf] at h3; cases h3
 |false=>
  rw[bodyE_live hd] at h3
  obtain⟨f1,f2,f3⟩:=frame_zero h3
  exact .inr ⟨rfl,x.fr.h.toNat,by omega,f1,by omega⟩
theorem bytes_len (n:Nat) (x:Ey):(bytesE n x).length≤28:=by
 unfold bytesE
 split
 ·simp
 ·simp only[List.length_cons,List.length_take,Vector.length_toList]; omega
theorem flat_len (n:Nat):∀es:List Ey,(es.flatMap (bytesE n)).length≤28*es.length
 |[]=>by simp
 |x::r=>by
  have h1:=bytes_len n x
  have h2:=flat_len n r
  simp only[List.flatMap_cons,List.length_append,List.length_cons]; omega
theorem flat_take {n:Nat} {es:List Ey} {i:Nat} (h:i<es.length):(es.take (i+1)).flatMap (bytesE n)=(es.take i).flatMap (bytesE n)++bytesE n es[i]:=by
 rw[List.take_add_one,List.getElem?_eq_getElem h,List.flatMap_append]; simp[List.flatMap_cons]
theorem quo256 {p:Nat} (h:p≤100000):IntKind.wrap .u8 (IntKind.wrap .i64 ((p:Int).tdiv 256))=((byT (p/256)).val:Int):=by
 rw[byT_val,Int.tdiv_eq_ediv_of_nonneg (by omega),zc1 (by omega) (by omega)]; rfl
theorem rem256 {p:Nat}:IntKind.wrap .u8 ((p:Int).tmod 256)=((byT p).val:Int):=by
 rw[byT_val,Int.tmod_eq_emod_of_nonneg (by omega),wrap_u8m,wrap_u8m]; omega
def bYhpE0:=aI @gdD (aI @eCz_len (aI @eCz_take (aI @eCz_0 @eCz_1)))
theorem refEncode25 (loc:Int) (es:List Ey) (hl:es.length≤140737488355328):PCall Tryz.prog 25 [.agg (eCz loc es)] (.tup [.slice .no (rws eT (encC loc es).1),.int .i64 (encC loc es).2]):=by
 refine F25.pcallM rfl fun T hT=> ?_
 simp -implicitDefEqProofs only[go_sem,c25,hT,Nat.mul_one,Nat.add_zero,Nat.zero_add,bYhpE0]
 refine fun b1=>za3 (refCheck66 loc es hl) ?_
 by_cases h0:(checkC loc es).2=0
 case neg=>
  have g0:(((checkC loc es).2:Int)=0)=False:=eq_false (by omega)
  rw[show encC loc es=([],(checkC loc es).2) by unfold encC; rw[if_pos h0]]
  simp -implicitDefEqProofs only[go_sem,hT,g0]
  exact DLe.tup (.cons (DLe.slice _ _) (.cons (DLe.refl _) .nil))
 have g0:(((checkC loc es).2:Int)=0)=True:=eq_true (by omega)
 rw[show encC loc es=(encB loc.toNat es,0) by unfold encC; rw[if_neg (by omega)]]
 obtain⟨n,rfl,hn,hes,hall⟩:=check_ok h0
 rw[Int.toNat_natCast]
 have q1:IntKind.wrap .u8 (n:Int)=((byT n).val:Int):=(byT_val n).symm
 have q2:=quo256 (p:=es.length) (by omega)
 have q3:=rem256 (p:=es.length)
 simp -implicitDefEqProofs only[go_sem,hT,g0,Nat.mul_one,Nat.add_zero,Nat.zero_add,frz,q1,q2,q3,bYhpE0]
 have hst:∀i,i≤es.length→(headB n es.length++(es.take i).flatMap (bytesE n)).length≤200000:=fun i hi=>by
  have:=flat_len n (es.take i)
  rw[List.length_take] at this
  simp only[List.length_append,headB,List.length_cons,List.length_nil]; omega
 refine loopL F25 (fun x:Nat×Option Nat=>[(1,.ptr b1 0),(6,.int .i64 es.length),(7,brD x.2 (headB n es.length++(es.take x.1).flatMap (bytesE n))),(8,.int .i64 x.1)])
  (fun x=>grS 1 (headB n es.length++(es.take x.1).flatMap (bytesE n)).length x.2 (({}:St).set b1 (eCz n es))) (fun x=>x.1≤es.length∧grN x.2 (({}:St).set b1 (eCz n es))) (fun x=>es.length-x.1) (0,none) ⟨Nat.zero_le _,grN_none⟩ ?_ (St.le.refl _) ?_
 ·simp -implicitDefEqProofs only[go_sem,hT,Nat.mul_one,Nat.add_zero,Nat.zero_add,bYhpE0]
  exact⟨rfl,rfl⟩
 clear hT T
 rintro⟨i,o⟩ ⟨hi,ho⟩ T hT
 simp only at hi ho hT ⊢
 obtain⟨bs,hbs⟩:∃bs,headB n es.length++(es.take i).flatMap (bytesE n)=bs:=⟨_,rfl⟩
 have hbl:=hst i hi
 rw[hbs] at hT hbl ⊢
 have kb:∀{m:Nat} {o:Option Nat},(grS 1 m o (({}:St).set b1 (eCz n es))).box b1=some (eCz n es):=fun {m o}=>by rw[grS_boxa]; simp[St.set_box]
 by_cases h:i<es.length
 case neg=>
  have g5:((i:Int)<es.length)=False:=eq_false (by omega)
  have hfin:encB n es=bs:=by rw[←hbs,List.take_of_length_le (by omega)]; rfl
  rw[hfin]
  simp -implicitDefEqProofs only[go_sem,hT,g5,Nat.mul_one,Nat.add_zero,Nat.zero_add,bYhpE0]
  cases o with
  |none=>exact DLe.tup (.cons (DLe.slice _ _) (.cons (DLe.refl _) .nil))
  |some b=>exact DLe.tup (.cons (DLe.slice _ _) (.cons (DLe.refl _) .nil))
 have g5:((i:Int)<es.length)=True:=eq_true (by omega)
 have w3:IntKind.wrap .i64 ((i:Int)+1)=((i+1:Nat):Int):=by rw[zc1 (by omega) (by omega)]; simp
 have hget:=rws_at (enc:=eEy) h
 have hnext:=flat_take (n:=n) h
 obtain⟨p,hp,hp4,hx⟩:=hall es[i] (List.getElem_mem h)
 generalize es[i]=x at *
 have q4:=quo256 (p:=p) (by omega)
 have q5:=rem256 (p:=p)
 simp -implicitDefEqProofs only[go_sem,hT,g5,gdD,Nat.mul_one,Nat.add_zero,Nat.zero_add,eCz_len,eCz_take,eCz_0,eCz_1,kb,hget,zb4,za8]
 refine⟨by omega,fun b9 hb9=> ?_⟩
 have hb91:¬b9=b1:=fun he=>hb9 (by rw[grS_has]; exact .inr (by rw[set_has]; exact .inl he))
 have hno:¬(({}:St).set b1 (eCz n es)).has b9:=fun hh=>hb9 (by rw[grS_has]; exact .inr hh)
 have hgn:grN o ((({}:St).set b1 (eCz n es)).set b9 (eEy x)):=fun c hc hh=>by
  rcases set_has.1 hh with rfl|hh
  ·exact hb9 (by rw[grS_has]; exact .inl hc)
  ·exact ho c hc hh
 have hS:∀{m:Nat} {o:Option Nat},(grS 1 m o ((({}:St).set b1 (eCz n es)).set b9 (eEy x))).box b9=some (eEy x):=fun {m o}=>by rw[grS_boxa]; simp[St.set_box]
 simp -implicitDefEqProofs only[go_sem,hT,gdD,Nat.mul_one,Nat.add_zero,Nat.zero_add,eCz_len,eCz_take,eCz_0,eCz_1,hb91,Ne.symm hb91,ey_0,ey_1,ey_fr,ey_26,grS_set,za2,hS,hp,q4,q5,frz]
 refine br_app (ys:=[byT (p/256),byT p]) hgn (St.le.refl _) (by simp) (by simp; omega) fun c2 σ2 hbox2 hle2 hg2=> ?_
 have k2:σ2.box b9=some (eEy x):=by rw[hbox2]; exact hS
 have hbase:∀{m c:Nat},St.le (grS 1 m (some c) (({}:St).set b1 (eCz n es))) (grS 1 m (some c) ((({}:St).set b1 (eCz n es)).set b9 (eEy x))):=fun {m c}=>le_setBuf (le_add hno)
 have hgb:∀{c:Nat},grN (some c) ((({}:St).set b1 (eCz n es)).set b9 (eEy x))→grN (some c) (({}:St).set b1 (eCz n es)):=fun {c} h c' hc hh=>h c' hc (set_has.2 (.inr hh))
 have hpn:x.pos.toNat=p:=by omega
 rcases hx with⟨hd,hf⟩|⟨hd,k,hk,hfl,hnk⟩
 ·have hby:bytesE n x=[byT (p/256),byT p,0]:=by unfold bytesE; rw[if_pos hd,hpn]
  simp -implicitDefEqProofs only[go_sem,hT,gdD,Nat.mul_one,Nat.add_zero,Nat.zero_add,eCz_len,eCz_take,eCz_0,eCz_1,hb91,Ne.symm hb91,ey_0,ey_1,ey_fr,ey_26,grS_set,za2,k2,hd,frz]
  refine br_app (ys:=[0]) hg2 hle2 (by simp) (by simp; omega) fun c3 σ3 hbox3 hle3 hg3=> ?_
  have hfin:headB n es.length++(es.take (i+1)).flatMap (bytesE n)=bs++[byT (p/256),byT p]++[0]:=by
   rw[hnext,←List.append_assoc,hbs,hby]; simp
  simp -implicitDefEqProofs only[go_sem,hT,Nat.mul_one,Nat.add_zero,Nat.zero_add,w3,bYhpE0]
  exact⟨(i+1,some c3),⟨by simp only; omega,hgb hg3⟩,by simp only; omega,⟨by simp only[hfin],rfl⟩,by simp only[hfin]; exact hbase.trans hle3⟩
 have q6:IntKind.wrap .u8 (k:Int)=((byT k).val:Int):=(byT_val k).symm
 have hkn:x.fr.h.toNat=k:=by omega
 have hby:bytesE n x=[byT (p/256),byT p]++[1,byT k]++x.fr.sl.toList.take (n+k):=by unfold bytesE; rw[if_neg (by rw[hd]; simp),hpn,hkn]; rfl
 simp -implicitDefEqProofs only[go_sem,hT,gdD,Nat.mul_one,Nat.add_zero,Nat.zero_add,eCz_len,eCz_take,eCz_0,eCz_1,hb91,Ne.symm hb91,ey_0,ey_1,ey_fr,ey_26,grS_set,za2,k2,hd,frz,ey_3,hk,q6]
 refine br_app (ys:=[1,byT k]) hg2 hle2 (by simp) (by simp; omega) fun c3 σ3 hbox3 hle3 hg3=> ?_
 have k3:σ3.box b9=some (eEy x):=by rw[hbox3]; exact k2
 obtain⟨b3,hb3⟩:∃b3,bs++[byT (p/256),byT p]++[1,byT k]=b3:=⟨_,rfl⟩
 have hb3l:b3.length≤200004:=by rw[←hb3]; simp; omega
 have w4:IntKind.wrap .i64 ((n:Int)+k)=((n+k:Nat):Int):=by rw[zc1 (by omega) (by omega)]; simp
 rw[hb3] at hle3 ⊢
 simp -implicitDefEqProofs only[go_sem,hT,Nat.mul_one,Nat.add_zero,Nat.zero_add,bYhpE0]
 refine loopL F25 (fun y:Nat×Nat=>[(1,.ptr b1 0),(6,.int .i64 es.length),(7,brD (some y.2) (b3++x.fr.sl.toList.take y.1)),(8,.int .i64 i),(9,.ptr b9 0),(10,.int .i64 y.1)])
  (fun y=>grS 1 (b3++x.fr.sl.toList.take y.1).length (some y.2) ((({}:St).set b1 (eCz n es)).set b9 (eEy x))) (fun y=>y.1≤n+k∧grN (some y.2) ((({}:St).set b1 (eCz n es)).set b9 (eEy x))) (fun y=>n+k-y.1) (0,c3) ⟨Nat.zero_le _,hg3⟩ ?_ (by simpa using hle3) ?_
 ·simp -implicitDefEqProofs only[go_sem,hT,Nat.mul_one,Nat.add_zero,Nat.zero_add,List.take_zero,bYhpE0]
  exact rfl
 clear hT T
 rintro⟨j,c⟩ ⟨hj,hgc⟩ T hT
 simp only at hj hgc hT ⊢
 have k4:∀{m:Nat} {o:Option Nat},(grS 1 m o ((({}:St).set b1 (eCz n es)).set b9 (eEy x))).box b9=some (eEy x):=hS
 by_cases h':j<n+k
 ·have g6:((j:Int)<((n+k:Nat):Int))=True:=eq_true (by omega)
  have w5:IntKind.wrap .i64 ((j:Int)+1)=((j+1:Nat):Int):=by rw[zc1 (by omega) (by omega)]; simp
  have hat:(eEy x)[4+j]? =some (.int .u8 ((slAt x.fr j).val:Int)):=by
   have:=fr_sl x.fr (i:=j) (by omega)
   rw[show 4+j=2+j+1+1 by omega]; exact this
  have hnx:x.fr.sl.toList.take (j+1)=x.fr.sl.toList.take j++[slAt x.fr j]:=by
   have hjl:j<x.fr.sl.toList.length:=by simp; omega
   rw[List.take_add_one,slAt,List.getElem?_eq_getElem hjl]; rfl
  simp -implicitDefEqProofs only[go_sem,hT,gdD,Nat.mul_one,Nat.add_zero,Nat.zero_add,eCz_len,eCz_take,eCz_0,eCz_1,k4,ey_2,ey_3,hfl,hk,w4,g6,hat,frz]
  refine⟨by omega,br_app (ys:=[slAt x.fr j]) hgc (St.le.refl _) (by simp) (by simp; omega) fun c4 σ4 hbox4 hle4 hg4=> ?_⟩
  simp -implicitDefEqProofs only[go_sem,hT,Nat.mul_one,Nat.add_zero,Nat.zero_add,w5,bYhpE0]
  rw[List.append_assoc,←hnx] at hle4 ⊢
  exact⟨(j+1,c4),⟨by simp only; omega,hg4⟩,by simp only; omega,⟨rfl,rfl⟩,hle4⟩
 have g6:((j:Int)<((n+k:Nat):Int))=False:=eq_false (by omega)
 have hfin:headB n es.length++(es.take (i+1)).flatMap (bytesE n)=b3++x.fr.sl.toList.take j:=by
  rw[hnext,←List.append_assoc,hbs,hby,←hb3,show j=n+k by omega]; simp
 simp -implicitDefEqProofs only[go_sem,hT,gdD,Nat.mul_one,Nat.add_zero,Nat.zero_add,eCz_len,eCz_take,eCz_0,eCz_1,k4,ey_2,ey_3,hfl,hk,w4,g6,w3]
 exact⟨(i+1,some c),⟨by simp only; omega,hgb hgc⟩,by simp only; omega,⟨by simp only[hfin],rfl⟩,by simp only[hfin]; exact hbase⟩
end Go.AL
