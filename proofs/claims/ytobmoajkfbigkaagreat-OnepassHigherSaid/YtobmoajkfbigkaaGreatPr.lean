import Derived.Test.YtobmoajkfbigkaaGreatPq
import Derived.Test.YtobmoajkfbigkaaGreatPp
import Derived.Test.YtobmoajkfbigkaaGreatPo
import Derived.Test.YtobmoajkfbigkaaGreatPe
import Derived.Test.YtobmoajkfbigkaaGreatPn
import Derived.Test.YtobmoajkfbigkaaGreatPm
set_option linter.unusedSimpArgs false
set_option linter.unusedVariables false
set_option linter.defProp false
set_option maxRecDepth 100000
set_option maxHeartbeats 4000000
namespace Go.AL
theorem runD_inv {e:En} {b:List Ty} {l:List Ey} {J J':PS→Prop} (h1:∀s s',s.p<b.length→J s→comeD e.cs l b.length s= .ok (s',false)→J s')
  (h2:∀s s',s.p<b.length→J s→comeD e.cs l b.length s= .ok (s',true)→J' s') (h3:∀s s',J' s→fetD e b l s= .ok s'→J s'):∀(k:Nat) (s s':PS),J s→runD e b l k s= .ok s'→J s'
 |0,s,s',hJ,h=>by simp only[runD,Rz.ok.injEq] at h; subst h; exact hJ
 |k+1,s,s',hJ,h=>by
  rw[runD] at h
  split at h
  ·simp only[Rz.ok.injEq] at h; subst h; exact hJ
  rename_i hp
  split at h
  ·cases h
  ·rename_i s1 hc; exact runD_inv h1 h2 h3 k s1 s' (h1 s s1 (by omega) hJ hc) h
  ·rename_i s1 hc
   split at h
   ·cases h
   ·rename_i s2 hf; exact runD_inv h1 h2 h3 k s2 s' (h3 s1 s2 (h2 s s1 (by omega) hJ hc) hf) h
theorem come_off {cs:List Cl} {l:List Ey} {n:Nat} {s s':PS} (h:comeD cs l n s= .ok (s',false)):s.live=false∧s'={s with p:=nextP l n s.p}∧∃x,findE l s.p=some x∧x.dead=true:=by
 unfold comeD at h
 split at h
 ·split at h <;> simp at h
 ·rename_i x hx
  split at h; · cases h
  split at h; · cases h
  rename_i h1 h2
  split at h
  ·rename_i hd
   simp only[Rz.ok.injEq,Prod.mk.injEq,and_true] at h
   exact⟨by simpa[hd] using h1,h.symm,x,hx,hd⟩
  ·simp at h
theorem come_on {cs:List Cl} {l:List Ey} {n:Nat} {s s':PS} (h:comeD cs l n s= .ok (s',true)):s'.p=s.p∧s'.live=true∧s'.fet=s.fet∧s'.cmp≤s.cmp+(if s.live=true then 1 else 0)∧((findE l s.p=none∧s'=s)∨∃x,findE l s.p=some x∧x.dead=false∧s'.fr=x.fr):=by
 unfold comeD at h
 split at h
 ·rename_i hx
  split at h
  ·rename_i hl
   simp only[Rz.ok.injEq,Prod.mk.injEq,and_true] at h
   subst h
   exact⟨rfl,hl,rfl,by omega,.inl ⟨hx,rfl⟩⟩
  ·cases h
 ·rename_i x hx
  split at h; · cases h
  split at h; · cases h
  split at h
  ·simp at h
  ·rename_i hd
   simp only[Rz.ok.injEq,Prod.mk.injEq,and_true] at h
   subst h
   exact⟨rfl,rfl,rfl,Nat.le_refl _,.inr ⟨x,hx,by simpa using hd,rfl⟩⟩
theorem end_ok {n p q op:Nat} {fr:Fr} {cmp:Nat} {fet:List Nat} {s:PS} (h:endD n p q op fr cmp fet= .ok s):s=⟨q,fr, !endsB op,cmp,fet⟩∧(endsB op=false→q<n):=by
 unfold endD at h
 split at h
 ·rename_i he; simp only[Rz.ok.injEq] at h; subst h; simp[he]
 ·rename_i he
  split at h
  ·cases h
  ·rename_i hq; simp only[Rz.ok.injEq] at h; subst h; simp only[Bool.not_eq_true] at he; simp[he]; omega
theorem fet_ok {e:En} {b:List Ty} {l:List Ey} {s s':PS} (h:fetD e b l s= .ok s'):
  (decF b s.p).2=0∧strayE l s.p (s.p+zf3 (decF b s.p).1.op.val)=none∧(applyR e s.fr (decF b s.p).1).2=0∧
  (jumpsB (decF b s.p).1.op.val=true→jumpD e.cs l b.length s.p (decF b s.p).1.a (applyR e s.fr (decF b s.p).1).1=none)∧
  (endsB (decF b s.p).1.op.val=false→s.p+zf3 (decF b s.p).1.op.val<b.length)∧
  s'=⟨s.p+zf3 (decF b s.p).1.op.val,(applyR e s.fr (decF b s.p).1).1, !endsB (decF b s.p).1.op.val,s.cmp+(if jumpsB (decF b s.p).1.op.val=true then 1 else 0),s.fet++[s.p]⟩:=by
 unfold fetD at h
 split at h; · cases h
 rename_i h1
 split at h; · cases h
 rename_i h2
 split at h; · cases h
 rename_i h3
 split at h
 ·rename_i hj
  split at h; · cases h
  rename_i h4
  obtain⟨h5,h6⟩:=end_ok h
  exact⟨Classical.not_not.1 h1,h2,Classical.not_not.1 h3,fun _=>h4,h6,by rw[h5,if_pos hj]⟩
 ·rename_i hj
  obtain⟨h5,h6⟩:=end_ok h
  exact⟨Classical.not_not.1 h1,h2,Classical.not_not.1 h3,fun hh=>absurd hh hj,h6,by rw[h5,if_neg hj]; rfl⟩
theorem decF_ok {b:List Ty} {p:Nat} (h:(decF b p).2=0):p<b.length∧(decF b p).1=decIn b p ((b[p]?).getD 0)∧1≤zf3 (decF b p).1.op.val∧p+zf3 (decF b p).1.op.val≤b.length:=by
 unfold decF at h ⊢
 split; · rename_i h1; rw[if_pos h1] at h; simp at h
 rename_i h1; rw[if_neg h1] at h
 split; · rename_i h2; rw[if_pos h2] at h; simp at h
 rename_i h2; rw[if_neg h2] at h
 split; · rename_i h3; rw[if_pos h3] at h; simp at h
 rename_i h3; rw[if_neg h3] at h
 split; · rename_i h4; rw[if_pos h4] at h; simp at h
 rename_i h4; rw[if_neg h4] at h
 split; · rename_i h5; rw[if_pos h5] at h; simp at h
 refine⟨by omega,rfl, ?_, ?_⟩
 ·show 1≤zf3 ((b[p]?).getD 0).val; omega
 ·show p+zf3 ((b[p]?).getD 0).val≤b.length; omega
theorem nextP_gt {l:List Ey} {n p:Nat} (h:p<n):p<nextP l n p∧nextP l n p≤n:=by
 unfold nextP
 split
 ·rename_i y hy
  have:=List.find?_some hy
  simp only[decide_eq_true_eq] at this
  split <;> omega
 ·omega
theorem runD_end {e:En} {b:List Ty} {l:List Ey}:∀(k:Nat) (s s':PS),b.length<s.p+k→runD e b l k s= .ok s'→b.length≤s'.p
 |0,s,s',hk,h=>by simp only[runD,Rz.ok.injEq] at h; subst h; omega
 |k+1,s,s',hk,h=>by
  rw[runD] at h
  split at h
  ·simp only[Rz.ok.injEq] at h; subst h; assumption
  rename_i hp
  split at h
  ·cases h
  ·rename_i s1 hc
   have:=(nextP_gt (l:=l) (n:=b.length) (p:=s.p) (by omega)).1
   have hp1:s1.p=nextP l b.length s.p:=by rw[(come_off hc).2.1]
   exact runD_end k s1 s' (by omega) h
  ·rename_i s1 hc
   split at h
   ·cases h
   ·rename_i s2 hf
    obtain⟨f1,_,_,_,_,f6⟩:=fet_ok hf
    have:=(decF_ok f1).2.2.1
    have hp1:=(come_on hc).1
    have hp2:s2.p=s1.p+zf3 (decF b s1.p).1.op.val:=by rw[f6]
    exact runD_end k s2 s' (by omega) h
theorem stray_none {l:List Ey} {p q:Nat} (h:strayE l p q=none):∀x∈l,¬((p:Int)<x.pos∧x.pos<q):=fun x hx=>by
 have:=List.find?_eq_none.1 h x hx
 simpa using this
theorem jump_no {cs:List Cl} {l:List Ey} {n p:Nat} {a:Int} {f:Fr} {w:Nat} (h:jumpD cs l n p a f=some w):w≠0:=by
 unfold jumpD at h
 split at h; · cases h; decide
 split at h; · cases h; decide
 split at h; · cases h; decide
 split at h; · cases h; decide
 cases h
theorem fet_no {e:En} {b:List Ty} {l:List Ey} {s:PS} {a:Int} {w:Nat} (h:fetD e b l s= .no a w):w≠0:=by
 unfold fetD endD at h
 split at h; · rename_i h1; cases h; exact h1
 split at h; · cases h; decide
 split at h; · rename_i h1; cases h; exact h1
 split at h
 ·split at h; · rename_i hj; cases h; exact jump_no hj
  split at h; · cases h
  split at h; · cases h; decide
  cases h
 ·split at h; · cases h
  split at h; · cases h; decide
  cases h
theorem come_no {cs:List Cl} {l:List Ey} {n:Nat} {s:PS} {a:Int} {w:Nat} (h:comeD cs l n s= .no a w):w≠0:=by
 unfold comeD at h
 split at h
 ·split at h; · cases h
  cases h; decide
 ·split at h; · cases h; decide
  split at h; · cases h; decide
  split at h <;> cases h
theorem runD_no {e:En} {b:List Ty} {l:List Ey} {a:Int} {w:Nat}:∀(k:Nat) (s:PS),runD e b l k s= .no a w→w≠0
 |0,s,h=>by cases h
 |k+1,s,h=>by
  rw[runD] at h
  split at h; · cases h
  split at h
  ·rename_i hc; cases h; exact come_no hc
  ·exact runD_no k _ h
  ·split at h
   ·rename_i hf; cases h; exact fet_no hf
   ·exact runD_no k _ h
open Go.Proofs
structure IS where
 has:List Bool
 fr:List Fr
 fresh:List Bool
 tk:List Nat
def onD (i:Ins) (n:Nat):List Int×Nat:=
 let behind:Int:=i.pos+zf3 i.op.val
 if jumpsB i.op.val=true∧(n:Int)≤i.a then([],50)
 else if endsB i.op.val=false∧behind=n then([],51)
 else((if jumpsB i.op.val=true∧(endsB i.op.val=true∨i.a<behind) then [i.a] else [])++(if endsB i.op.val=false then [behind] else [])++
  (if jumpsB i.op.val=true∧endsB i.op.val=false∧behind<i.a then [i.a] else []),0)
def overB (tk:List Nat) (a size:Nat):Bool:=(List.range tk.length).any fun x=>decide (0<(tk[x]?).getD 0∧x≠a∧a<x+(tk[x]?).getD 0∧x<a+size)
def handD (l:List Cl) (s:IS) (a:Nat) (f:Fr):IS×Nat:=
 if(s.has[a]?).getD false=false then(⟨s.has.set a true,s.fr.set a f,s.fresh.set a true,s.tk⟩,0)
 else if(mergeF l ((s.fr[a]?).getD (fr0 0)) f).2≠0 then(s,(mergeF l ((s.fr[a]?).getD (fr0 0)) f).2)
 else if(mergeF l ((s.fr[a]?).getD (fr0 0)) f).1≠(s.fr[a]?).getD (fr0 0) then(⟨s.has,s.fr.set a (mergeF l ((s.fr[a]?).getD (fr0 0)) f).1,s.fresh.set a true,s.tk⟩,0)
 else(s,0)
def handsD (l:List Cl) (f:Fr):List Int→IS→IS×Int×Nat
 |[],s=>(s,0,0)
 |a::r,s=>if(handD l s a.toNat f).2≠0 then((handD l s a.toNat f).1,a,(handD l s a.toNat f).2) else handsD l f r (handD l s a.toNat f).1
def roundD (e:En) (b:List Ty) (s:IS) (a:Nat):IS×Int×Nat:=
 let s1:IS:={s with fresh:=s.fresh.set a false}
 if a=b.length then(s1,a,51)
 else if(decF b a).2≠0 then(s1,a,(decF b a).2)
 else if overB s.tk a (zf3 (decF b a).1.op.val)=true then(s1,a,80)
 else
  let s2:IS:={s1 with tk:=s.tk.set a (zf3 (decF b a).1.op.val)}
  if(applyR e ((s.fr[a]?).getD (fr0 0)) (decF b a).1).2≠0 then(s2,a,(applyR e ((s.fr[a]?).getD (fr0 0)) (decF b a).1).2)
  else if(onD (decF b a).1 b.length).2≠0 then(s2,a,(onD (decF b a).1 b.length).2)
  else handsD e.cs (applyR e ((s.fr[a]?).getD (fr0 0)) (decF b a).1).1 (onD (decF b a).1 b.length).1 s2
def leastD (l:List Bool):Int:=match l.findIdx? id with|some i=>i|none=> -1
open Go.Proofs
open Go.Proofs
def idxE (l:List Ey) (a:Int):Int:=match l.findIdx? fun x=>decide (x.pos=a) with|some i=>i|none=> -1
theorem eEy_at {l:List Ey} {i:Nat} (h:i<l.length):(rws eEy l)[i]?.getD []=eEy l[i]:=rws_at h
def bYgcA0:=aI @zb4 (aI @za9 (aI @zb0 (aI @anD (aI @za2 @ey_0))))
theorem at106 (l:List Ey) (o:Own) (a:Int) (hl:l.length≤140737488355328):PCall Tryz.prog 106 [.slice o (rws eEy l),.int .i64 a] (.int .i64 (idxE l a)):=by
 refine F106.pcall' rfl fun T hT=> ?_
 simp -implicitDefEqProofs only[go_sem,c106,hT,bYgcA0]
 refine loopL F106 (fun i:Nat=>[(1,.int .i64 a),(7,.slice o (rws eEy l)),(8,.int .i64 l.length),(9,.int .i64 i)]) (fun _=>{}) (fun i=>i≤l.length∧(l.take i).findIdx? (fun x=>decide (x.pos=a))=none) (fun i=>l.length-i) 0 ⟨by omega,by simp⟩ ?_ (St.le.nil _) ?_
 ·simp -implicitDefEqProofs only[go_sem,hT,Int.ofNat_zero]
 clear hT T
 rintro i ⟨hi,hn⟩ T hT
 by_cases h:i<l.length
 ·have p1:((i:Int)<l.length)=True:=by simp; omega
  have p0:(0≤(i:Int))=True:=by simp
  have hat:=eEy_at h
  have hsplit:l=l.take i++l[i]::l.drop (i+1):=by rw[List.getElem_cons_drop,List.take_append_drop]
  have w1:IntKind.wrap .i64 ((i:Int)+1)=((i+1:Nat):Int):=wrapN (by omega) (by omega)
  simp -implicitDefEqProofs only[go_sem,hT,p1,p0,hat,w1,bYgcA0]
  intro b6
  by_cases h2:l[i].pos=a
  ·simp -implicitDefEqProofs only[go_sem,hT,p1,h2,bYgcA0]
   have hx:idxE l a=i:=by
    unfold idxE
    rw[show l.findIdx? (fun x=>decide (x.pos=a))=some i by
     rw[hsplit,List.findIdx?_append,hn,List.findIdx?_cons]
     simp only[h2,decide_true,if_true,Option.map_some,Option.none_or,List.length_take]
     congr 1; omega]
   rw[hx]
   exact DLe.refl _
  ·simp -implicitDefEqProofs only[go_sem,hT,p1,h2,bYgcA0]
   refine⟨i+1,⟨by omega, ?_⟩,by omega,rfl,St.le.nil _⟩
   rw[List.take_succ_eq_append_getElem h,List.findIdx?_append,hn]
   simp[List.findIdx?_cons,h2]
 ·have p1:((i:Int)<l.length)=False:=by simp; omega
  have hx:idxE l a= -1:=by
   unfold idxE
   rw[show l.take i=l from List.take_of_length_le (by omega)] at hn
   rw[hn]
  simp -implicitDefEqProofs only[go_sem,hT,p1,hx,bYgcA0]
theorem idx_find:∀{l:List Ey} {a:Int},(findE l a=none∧idxE l a= -1)∨∃i,∃h:i<l.length,findE l a=some l[i]∧idxE l a=i∧l[i].pos=a:=by
 intro l a
 unfold findE idxE
 cases hx:l.findIdx? (fun x=>decide (x.pos=a)) with
 |none=>
  left
  refine⟨?_,rfl⟩
  rw[List.findIdx?_eq_none_iff] at hx
  exact find_none fun y hy=>hx y hy
 |some i=>
  right
  obtain⟨h,h1,h2⟩:=List.findIdx?_eq_some_iff_getElem.1 hx
  refine⟨i,h, ?_,rfl,by simpa using h1⟩
  rw[List.find?_eq_some_iff_getElem]
  exact⟨h1,i,h,rfl,fun j hj=>by simpa using h2 j hj⟩
def eN (n:Nat):List D:=[.int .i64 n]
def eQ (e:En) (b:List Ty) (l:List Ey) (s:PS) (o:Option Nat):List D:=
 eEn e++([.slice .no (rws eT b),.slice .no (rws eEy l),.int .i64 s.p]++(eFr s.fr++[.bool s.live,grD 1 o (rws eN s.fet),.int .i64 s.cmp]))
section
variable {e : En} {b : List Ty} {l : List Ey} {s : PS} {o : Option Nat}
theorem q_len:(eQ e b l s o).length=35:=by simp[eQ,eEn,za6]
theorem q_0:(eQ e b l s o)[0]? =some (.slice .no (rws eC e.cs)):=rfl
theorem q_3:(eQ e b l s o)[3]? =some (.slice .no (rws eT b)):=rfl
theorem q_4:(eQ e b l s o)[4]? =some (.slice .no (rws eEy l)):=rfl
theorem q_5:(eQ e b l s o)[5]? =some (.int .i64 s.p):=rfl
theorem q_32:(eQ e b l s o)[32]? =some (.bool s.live):=by simp[eQ,eEn,List.getElem?_append,za6]
theorem q_33:(eQ e b l s o)[33]? =some (grD 1 o (rws eN s.fet)):=by simp[eQ,eEn,List.getElem?_append,za6]
theorem q_34:(eQ e b l s o)[34]? =some (.int .i64 s.cmp):=by simp[eQ,eEn,List.getElem?_append,za6]
theorem q_en:(eQ e b l s o).take 3=eEn e:=rfl
theorem q_d6:(eQ e b l s o).drop 6=eFr s.fr++[.bool s.live,grD 1 o (rws eN s.fet),.int .i64 s.cmp]:=rfl
theorem q_fr:((eQ e b l s o).drop 6).take 26=eFr s.fr:=by rw[q_d6,List.take_left' (za6 _)]
theorem q_s5 {q:Nat}:(eQ e b l s o).take 5++[D.int .i64 q]++(eQ e b l s o).drop 6=eQ e b l {s with p:=q} o:=rfl
theorem q_d32:(eQ e b l s o).drop 32=[.bool s.live,grD 1 o (rws eN s.fet),.int .i64 s.cmp]:=by
 rw[show 32=6+26 from rfl,←List.drop_drop,q_d6,List.drop_left' (za6 _)]
theorem q_d33:(eQ e b l s o).drop 33=[grD 1 o (rws eN s.fet),.int .i64 s.cmp]:=by rw[show 33=32+1 from rfl,←List.drop_drop,q_d32]; rfl
theorem q_d34:(eQ e b l s o).drop 34=[.int .i64 s.cmp]:=by rw[show 34=32+2 from rfl,←List.drop_drop,q_d32]; rfl
theorem q_d35:(eQ e b l s o).drop 35=[]:=by rw[show 35=32+3 from rfl,←List.drop_drop,q_d32]; rfl
theorem q_t6:(eQ e b l s o).take 6=eEn e++[.slice .no (rws eT b),.slice .no (rws eEy l),.int .i64 s.p]:=rfl
theorem q_t32:(eQ e b l s o).take 32=(eEn e++[.slice .no (rws eT b),.slice .no (rws eEy l),.int .i64 s.p])++eFr s.fr:=by
 rw[show 32=6+26 from rfl,List.take_add,q_t6,q_fr]
theorem q_t33:(eQ e b l s o).take 33=(eEn e++[.slice .no (rws eT b),.slice .no (rws eEy l),.int .i64 s.p])++eFr s.fr++[.bool s.live]:=by
 rw[show 33=32+1 from rfl,List.take_add,q_t32,q_d32]; rfl
theorem q_t34:(eQ e b l s o).take 34=(eEn e++[.slice .no (rws eT b),.slice .no (rws eEy l),.int .i64 s.p])++eFr s.fr++[.bool s.live,grD 1 o (rws eN s.fet)]:=by
 rw[show 34=32+2 from rfl,List.take_add,q_t32,q_d32]; rfl
theorem q_sfr {f:Fr}:(eQ e b l s o).take 6++eFr f++(eQ e b l s o).drop 32=eQ e b l {s with fr:=f} o:=by
 rw[q_t6,q_d32]; simp[eQ]
theorem q_slive {x:Bool}:(eQ e b l s o).take 32++[D.bool x]++(eQ e b l s o).drop 33=eQ e b l {s with live:=x} o:=by
 rw[q_t32,q_d33]; simp[eQ]
theorem q_sfet {o':Option Nat} {r:List Nat}:(eQ e b l s o).take 33++[grD 1 o' (rws eN r)]++(eQ e b l s o).drop 34=eQ e b l {s with fet:=r} o':=by
 rw[q_t33,q_d34]; simp[eQ]
theorem q_scmp {x:Nat}:(eQ e b l s o).take 34++[D.int .i64 x]++(eQ e b l s o).drop 35=eQ e b l {s with cmp:=x} o:=by
 rw[q_t34,q_d35]; simp[eQ]
end
def stQ (e:En) (b:List Ty) (l:List Ey) (s:PS) (o:Option Nat) (q:Nat):St:=grS 1 s.fet.length o (({}:St).set q (eQ e b l s o))
open Go.Proofs
def fl {α:Type} (enc:α→List D) (xs:List α):List D:=(rws enc xs).flatten
section
variable {α : Type} {enc : α → List D} {s : Nat}
theorem fl_nil:fl enc []=[]:=rfl
theorem fl_cons (x:α) (xs:List α):fl enc (x::xs)=enc x++fl enc xs:=rfl
theorem fl_app (xs ys:List α):fl enc (xs++ys)=fl enc xs++fl enc ys:=by simp[fl,rws]
theorem fl_len (h:∀x,(enc x).length=s):∀xs:List α,(fl enc xs).length=xs.length*s
 |[]=>by simp[fl_nil]
 |x::xs=>by rw[fl_cons,List.length_append,h,fl_len h xs,List.length_cons,Nat.add_mul,Nat.one_mul,Nat.add_comm]
theorem fl_parts (h:∀x,(enc x).length=s) {xs:List α} {i:Nat} (hi:i<xs.length):fl enc xs=fl enc (xs.take i)++(enc xs[i]++fl enc (xs.drop (i+1)))∧(fl enc (xs.take i)).length=i*s:=by
 refine⟨?_,by rw[fl_len h,List.length_take,Nat.min_eq_left (by omega)]⟩
 rw[←fl_cons,←fl_app]
 congr 1
 rw[List.getElem_cons_drop,List.take_append_drop]
theorem fl_at (h:∀x,(enc x).length=s) {xs:List α} {i:Nat} (hi:i<xs.length):((fl enc xs).drop (i*s)).take s=enc xs[i]:=by
 obtain⟨h1,h2⟩:=fl_parts h hi
 rw[h1,List.drop_left' h2,List.take_left' (h _)]
end
structure IS.sz (s:IS) (m:Nat):Prop where
 a:s.has.length=m
 b:s.fr.length=m
 c:s.fresh.length=m
 d:s.tk.length=m
theorem least_at {l:List Bool} {k:Nat} (h:k<l.length) (hk:(l[k]?).getD false=true) (hb:∀j<k,(l[j]?).getD false=false):leastD l=k:=by
 unfold leastD
 have:l.findIdx? id=some k:=by
  rw[List.findIdx?_eq_some_iff_getElem]
  refine⟨h,by simpa[h] using hk,fun j hj=> ?_⟩
  have:=hb j hj
  rw[List.getElem?_eq_getElem (by omega)] at this
  simpa using this
 rw[this]
theorem least_no {l:List Bool} (hb:∀j<l.length,(l[j]?).getD false=false):leastD l= -1:=by
 unfold leastD
 have:l.findIdx? id=none:=by
  rw[List.findIdx?_eq_none_iff]
  intro x hx
  obtain⟨j,hj,rfl⟩:=List.mem_iff_getElem.1 hx
  have:=hb j hj
  rw[List.getElem?_eq_getElem hj] at this
  simpa using this
 rw[this]
open Go.Proofs
open Go.Proofs
open Go.Proofs
structure Ents (l:List Ey):Prop where
 rise:Rise l
 rng:∀x∈l,0≤x.pos∧x.pos<4096
 len:l.length≤4096
theorem next_idx {l:List Ey} (hl:Ents l) {p i n:Nat} (hi:i<l.length) (hp:l[i].pos=p):nextP l n p=if h:i+1<l.length then(if l[i+1].pos<n then l[i+1].pos.toNat else n) else n:=by
 have hc:cnt l ((p:Int)+1)=i+1:=by
  have h1:=(cnt_iff hl.rise (a:=(p:Int)+1) hi).1 (by omega)
  by_cases h2:i+1<l.length
  ·have h3:=cnt_iff hl.rise (a:=(p:Int)+1) h2
   have h4:=List.pairwise_iff_getElem.1 hl.rise i (i+1) hi h2 (by omega)
   omega
  ·have:=cnt_le l ((p:Int)+1); omega
 rw[nextP_cnt hl.rise,hc]
 by_cases h2:i+1<l.length
 ·rw[dif_pos h2,List.getElem?_eq_getElem h2]
 ·rw[dif_neg h2,List.getElem?_eq_none (by omega)]
theorem getEy {l:List Ey} {i:Nat} (h:i<l.length):(rws eEy l)[i]?.getD []=eEy l[i]:=rws_at h
theorem ey_d2 (e:Ey):(eEy e).drop 2=eFr e.fr:=rfl
theorem stQ_le {e:En} {b:List Ty} {l:List Ey} {s s2:PS} {o:Option Nat} {q:Nat} {S:St} (h:s2.fet=s.fet) (hS:St.le (stQ e b l s o q) S):St.le (stQ e b l s2 o q) (S.set q (eQ e b l s2 o)):=by
 have h1:stQ e b l s2 o q=(stQ e b l s o q).set q (eQ e b l s2 o):=by rw[stQ,stQ,grS_set,za2,h]
 rw[h1]; exact le_set hS
def entR (e:En) (b:List Ty) (l:List Ey) (s:PS) (o:Option Nat) (q:Nat) (d:D) (s':St):Prop:=
 match comeD e.cs l b.length s with
 | .no a w=>d= .tup [.bool false,.int .i64 w]∧∃s2:PS,s2.p=s.p∧s2.fet=s.fet∧s'=stQ e b l s2 o q
 | .ok (s2,on)=>d= .tup [.bool on,.int .i64 0]∧s'=stQ e b l s2 o q
def bYgcB0:=aI @q_len (aI @q_0 (aI @q_3 (aI @q_4 (aI @q_5 (aI @q_32 (aI @q_34 (aI @q_en (aI @q_fr (aI @q_s5 (aI @q_sfr (aI @q_slive (aI @q_scmp (aI @zc2 (aI @gdD (aI @ldD (aI @zb4 (aI @za9 (aI @zb0 (aI @za6 (aI @za4 (aI @za7 (aI @anD (aI @za2 (aI @ey_0 (aI @ey_1 @ey_d2)))))))))))))))))))))))))
theorem entry61 (e:En) (b:List Ty) (l:List Ey) (s:PS) (o:Option Nat) (q:Nat) (hf:Falls e.cs e.cs.length) (hw:e.cs.length*48≤140737488355328) (hl:Ents l) (hb:b.length≤4096) (hp:s.p<b.length) (hc:s.cmp≤100000) (hoq:o≠some q):
  RCall Tryz.prog 61 [.ptr q 0] (stQ e b l s o q) (entR e b l s o q):=by
 obtain⟨S0,hS0⟩:∃S0,stQ e b l s o q=S0:=⟨_,rfl⟩
 have hq:S0.box q=some (eQ e b l s o):=by rw[←hS0,stQ,grS_boxa,St.set_box,if_pos rfl]
 refine F61.rcall rfl fun T hT=> ?_
 rw[hS0]
 simp -implicitDefEqProofs only[go_sem,c61,hT,hq,bYgcB0]
 refine za3 (at106 l .no s.p (by have:=hl.len; omega)) ?_
 rcases idx_find (l:=l) (a:=s.p) with⟨h1,h2⟩|⟨i,hi,h1,h2,hpos⟩
 ·rw[h2]
  have g1:((-1:Int)<0)=True:=by simp
  cases hlv:s.live with
  |false=>
   rw[show entR e b l s o q=fun d s'=>d= .tup [.bool false,.int .i64 90]∧∃s2:PS,s2.p=s.p∧s2.fet=s.fet∧s'=stQ e b l s2 o q by
    funext d s'; unfold entR comeD; rw[h1]; simp[hlv]]
   simp -implicitDefEqProofs only[go_sem,hT,hq,hlv,g1,bYgcB0]
   exact⟨_,_,DLe.refl _,St.le.refl _,rfl,s,rfl,rfl,hS0.symm⟩
  |true=>
   rw[show entR e b l s o q=fun d s'=>d= .tup [.bool true,.int .i64 0]∧s'=stQ e b l s o q by
    funext d s'; unfold entR comeD; rw[h1]; simp[hlv]]
   simp -implicitDefEqProofs only[go_sem,hT,hq,hlv,g1,bYgcB0]
   exact⟨_,_,DLe.refl _,St.le.refl _,rfl,hS0.symm⟩
 rw[h2]
 have g1:((i:Int)<0)=False:=by simp
 have g2:((i:Int)<l.length)=True:=by simp; omega
 have g3:(0≤(i:Int))=True:=by simp
 have hat:=getEy hi
 obtain⟨x,hx⟩:∃x,l[i]=x:=⟨_,rfl⟩
 rw[hx] at hat h1 hpos
 have hk:comeD e.cs l b.length s=if s.live=true∧x.dead=true then .no s.p 91
  else if s.live=true∧subFr e.cs s.fr x.fr=false then .no s.p 92
  else if x.dead=true then .ok ({s with p:=nextP l b.length s.p},false)
  else .ok ({s with fr:=x.fr,live:=true,cmp:=s.cmp+(if s.live=true then 1 else 0)},true):=by unfold comeD; rw[h1]
 have wi:IntKind.wrap .i64 ((i:Int)+1)=((i+1:Nat):Int):=wrapN (by omega) (by have:=hl.len; omega)
 have wc:IntKind.wrap .i64 ((s.cmp:Int)+1)=((s.cmp+1:Nat):Int):=wrapN (by omega) (by omega)
 simp -implicitDefEqProofs only[go_sem,hT,hq,g1,g2,g3,hat,bYgcB0]
 intro b5 hb5
 have n5:b5≠q:=fun h=>hb5 (by rw[h]; exact .inl (by simp[hq]))
 cases hlv:s.live with
 |true=>
  cases hd:x.dead with
  |true=>
   rw[show entR e b l s o q=fun d s'=>d= .tup [.bool false,.int .i64 91]∧∃s2:PS,s2.p=s.p∧s2.fet=s.fet∧s'=stQ e b l s2 o q by
    funext d s'; unfold entR; rw[hk]; simp[hlv,hd]]
   simp -implicitDefEqProofs only[go_sem,hT,hq,hb5,n5,Ne.symm n5,hlv,hd,g1,g2,g3,hat,bYgcB0]
   exact⟨_,_,DLe.refl _,le_add hb5,rfl,s,rfl,rfl,hS0.symm⟩
  |false=>
   simp -implicitDefEqProofs only[go_sem,hT,hq,hb5,n5,Ne.symm n5,hlv,hd,g1,g2,g3,hat,wc,bYgcB0]
   refine za3 (refSub38 e.cs .no s.fr x.fr hf hw) ?_
   cases hsub:subFr e.cs s.fr x.fr with
   |false=>
    rw[show entR e b l s o q=fun d s'=>d= .tup [.bool false,.int .i64 92]∧∃s2:PS,s2.p=s.p∧s2.fet=s.fet∧s'=stQ e b l s2 o q by
     funext d s'; unfold entR; rw[hk]; simp[hlv,hd,hsub]]
    simp -implicitDefEqProofs only[go_sem,hT,hq,hb5,n5,Ne.symm n5,hlv,hd,g1,g2,g3,hat,wc,bYgcB0]
    exact⟨_,stQ e b l {s with live:=true,cmp:=s.cmp+1} o q,DLe.refl _,stQ_le (s:=s) (s2:={s with live:=true,cmp:=s.cmp+1}) (S:=S0.set b5 (eEy x)) rfl (by rw[hS0]; exact le_add hb5),rfl,{s with live:=true,cmp:=s.cmp+1},rfl,rfl,rfl⟩
   |true=>
    rw[show entR e b l s o q=fun d s'=>d= .tup [.bool true,.int .i64 0]∧s'=stQ e b l {s with fr:=x.fr,live:=true,cmp:=s.cmp+1} o q by
     funext d s'; unfold entR; rw[hk]; simp[hlv,hd,hsub]]
    simp -implicitDefEqProofs only[go_sem,hT,hq,hb5,n5,Ne.symm n5,hlv,hd,g1,g2,g3,hat,wc,bYgcB0]
    exact⟨_,_,DLe.refl _,stQ_le (s:=s) rfl (by rw[hS0]; exact le_add hb5),rfl,rfl⟩
 |false=>
  cases hd:x.dead with
  |true=>
   rw[show entR e b l s o q=fun d s'=>d= .tup [.bool false,.int .i64 0]∧s'=stQ e b l {s with p:=nextP l b.length s.p} o q by
    funext d s'; unfold entR; rw[hk]; simp[hlv,hd]]
   simp -implicitDefEqProofs only[go_sem,hT,hq,hb5,n5,Ne.symm n5,hlv,hd,g1,g2,g3,hat,bYgcB0]
   by_cases h4:i+1<l.length
   ·have g4:(((i+1:Nat):Int)<l.length)=True:=by simp; omega
    have g5:(0≤((i+1:Nat):Int))=True:=by simp; omega
    obtain⟨m,hm⟩:∃m:Nat,l[i+1].pos=m:=⟨_,(Int.toNat_of_nonneg (hl.rng _ (List.getElem_mem h4)).1).symm⟩
    have hnx:nextP l b.length s.p=if(m:Int)<b.length then m else b.length:=by
     rw[next_idx hl hi (by rw[hx]; exact hpos),dif_pos h4,hm]; simp
    have hat2:=getEy h4
    by_cases h5:(m:Int)<b.length
    ·simp -implicitDefEqProofs only[go_sem,hT,hq,hb5,n5,Ne.symm n5,hlv,hd,g1,g2,g3,g4,g5,hat,hat2,hm,wi,h5,bYgcB0]
     rw[hnx,if_pos h5]
     exact⟨_,_,DLe.refl _,stQ_le (s:=s) rfl (by rw[hS0]; exact le_add hb5),rfl,rfl⟩
    ·simp -implicitDefEqProofs only[go_sem,hT,hq,hb5,n5,Ne.symm n5,hlv,hd,g1,g2,g3,g4,g5,hat,hat2,hm,wi,h5,bYgcB0]
     rw[hnx,if_neg h5]
     exact⟨_,_,DLe.refl _,stQ_le (s:=s) rfl (by rw[hS0]; exact le_add hb5),rfl,rfl⟩
   ·have g4:(((i+1:Nat):Int)<l.length)=False:=by simp; omega
    simp -implicitDefEqProofs only[go_sem,hT,hq,hb5,n5,Ne.symm n5,hlv,hd,g1,g2,g3,g4,hat,wi,bYgcB0]
    rw[next_idx hl hi (by rw[hx]; exact hpos),dif_neg h4]
    exact⟨_,_,DLe.refl _,stQ_le (s:=s) rfl (by rw[hS0]; exact le_add hb5),rfl,rfl⟩
  |false=>
   rw[show entR e b l s o q=fun d s'=>d= .tup [.bool true,.int .i64 0]∧s'=stQ e b l {s with fr:=x.fr,live:=true,cmp:=s.cmp} o q by
    funext d s'; unfold entR; rw[hk]; simp[hlv,hd]]
   simp -implicitDefEqProofs only[go_sem,hT,hq,hb5,n5,Ne.symm n5,hlv,hd,g1,g2,g3,hat,bYgcB0]
   exact⟨_,_,DLe.refl _,stQ_le (s:=s) rfl (by rw[hS0]; exact le_add hb5),rfl,rfl⟩
open Go.Proofs
def fetR (e:En) (b:List Ty) (l:List Ey) (s:PS) (q:Nat) (d:D) (s':St):Prop:=
 match fetD e b l s with
 | .no a w=>d= .tup [.int .i64 a,.int .i64 w]
 | .ok s2=>d= .tup [.int .i64 0,.int .i64 0]∧∃o,o≠some q∧(o=none→s2.fet=[])∧s'=stQ e b l s2 o q
theorem in_1 (i:Ins):(eIn i)[1]? =some (.int .u8 i.op.val):=rfl
theorem in_2 (i:Ins):(eIn i)[2]? =some (.int .i64 i.a):=rfl
theorem fetR_no {e:En} {b:List Ty} {l:List Ey} {s:PS} {q:Nat} {a:Int} {w:Nat} (h:fetD e b l s= .no a w):fetR e b l s q=fun d s'=>d= .tup [.int .i64 a,.int .i64 w]:=by funext d s'; unfold fetR; rw[h]
theorem fetR_ok {e:En} {b:List Ty} {l:List Ey} {s s2:PS} {q:Nat} (h:fetD e b l s= .ok s2):fetR e b l s q=fun d s'=>d= .tup [.int .i64 0,.int .i64 0]∧∃o,o≠some q∧(o=none→s2.fet=[])∧s'=stQ e b l s2 o q:=by funext d s'; unfold fetR; rw[h]
theorem stray_some {l:List Ey} {p q i:Nat} (h:i<l.length) (hn:∀x∈l.take i,¬((p:Int)<x.pos∧x.pos<(q:Int))) (h1:(p:Int)<l[i].pos) (h2:l[i].pos<q):strayE l p q=some l[i]:=by
 unfold strayE
 obtain⟨f,hf⟩:∃f:Ey→Bool,(fun x:Ey=>decide ((p:Int)<x.pos∧x.pos<(q:Int)))=f:=⟨_,rfl⟩
 have hz:(l.take i).find? f=none:=find_none fun y hy=>by rw[←hf]; simpa using hn y hy
 rw[hf]
 have hsplit:l=l.take i++l[i]::l.drop (i+1):=by rw[List.getElem_cons_drop,List.take_append_drop]
 have hx:(l.take i++l[i]::l.drop (i+1)).find? f=some l[i]:=by
  rw[List.find?_append,hz,List.find?_cons_of_pos (by rw[←hf]; simp[h1,h2])]; rfl
 exact(congrArg (fun z=>List.find? f z) hsplit).trans hx
theorem take_more {l:List Ey} {i:Nat} (h:i<l.length) {f:Ey→Prop} (hn:∀x∈l.take i,f x) (hi:f l[i]):∀x∈l.take (i+1),f x:=fun x hx=>by
 rw[List.take_succ_eq_append_getElem h] at hx
 rcases List.mem_append.1 hx with hx|hx
 ·exact hn x hx
 ·obtain rfl:=List.mem_singleton.1 hx; exact hi
def bYgcC0:=aI @q_len (aI @q_0 (aI @q_3 (aI @q_4 (aI @q_5 (aI @q_32 (aI @q_33 (aI @q_34 (aI @q_en (aI @q_fr (aI @q_s5 (aI @q_sfr (aI @q_slive (aI @q_scmp (aI @q_sfet (aI @zc2 (aI @gdD (aI @ldD (aI @zb4 (aI @za9 (aI @zb0 (aI @za6 (aI @za4 (aI @za7 (aI @zb6 (aI @za8 (aI @zb8 (aI @zb1 (aI @zf2 (aI @anD (aI @za2 (aI @ey_0 (aI @ey_1 (aI @ey_d2 (aI @in_1 (aI @in_2 @zf9)))))))))))))))))))))))))))))))))))
def bYgcC1:=aI @q_len (aI @q_0 (aI @q_3 (aI @q_4 (aI @q_5 (aI @q_32 (aI @q_33 (aI @q_34 (aI @q_en (aI @q_fr (aI @q_s5 (aI @q_sfr (aI @q_slive (aI @q_scmp (aI @q_sfet (aI @zc2 (aI @gdD (aI @ldD (aI @zb4 (aI @za9 (aI @zb0 (aI @za6 (aI @za4 (aI @za7 (aI @zb6 (aI @za8 (aI @zb8 (aI @zb1 (aI @zf2 (aI @anD (aI @za2 (aI @ey_0 (aI @ey_1 (aI @ey_d2 (aI @in_1 (aI @in_2 (aI @zf9 @Int.ofNat_zero))))))))))))))))))))))))))))))))))))
theorem fetch62 (e:En) (b:List Ty) (l:List Ey) (s:PS) (o:Option Nat) (q:Nat) (hf:Falls e.cs e.cs.length) (hw:WideE e) (hw2:e.cs.length*48≤140737488355328) (hl:Ents l) (hb:b.length≤4096) (hp:s.p<b.length) (hc:s.cmp≤100000) (hoq:o≠some q) (ho:o=none→s.fet=[]) (hfe:s.fet.length≤4096) (hlv:s.live=true):
  RCall Tryz.prog 62 [.ptr q 0] (stQ e b l s o q) (fetR e b l s q):=by
 obtain⟨S0,hS0⟩:∃S0,stQ e b l s o q=S0:=⟨_,rfl⟩
 have hq:S0.box q=some (eQ e b l s o):=by rw[←hS0,stQ,grS_boxa,St.set_box,if_pos rfl]
 refine F62.rcall rfl fun T hT=> ?_
 rw[hS0]
 simp -implicitDefEqProofs only[go_sem,c62,hT,hq,forall_eq,bYgcC0]
 refine za3 (refDecode19 b .no s.p (by omega) (by omega)) ?_
 simp -implicitDefEqProofs only[go_sem,hT,hq,forall_eq,bYgcC0]
 intro b4 hb4
 have n4:b4≠q:=fun h=>hb4 (by rw[h]; exact .inl (by simp[hq]))
 by_cases h0:(decF b s.p).2=0
 case neg=>
  have q0:(((decF b s.p).2:Int)=0)=False:=by simp; omega
  rw[show fetR e b l s q=fun d s'=>d= .tup [.int .i64 s.p,.int .i64 (decF b s.p).2] by funext d s'; unfold fetR fetD; rw[if_pos h0]]
  simp -implicitDefEqProofs only[go_sem,hT,hq,forall_eq,n4,Ne.symm n4,q0,bYgcC0]
  exact⟨_,S0,DLe.refl _,le_add hb4,rfl⟩
 have hfd:fetD e b l s=match strayE l s.p (s.p+zf3 (decF b s.p).1.op.val) with
 |some x=> .no x.pos 93
 |none=>
  if(applyR e s.fr (decF b s.p).1).2≠0 then .no s.p (applyR e s.fr (decF b s.p).1).2
  else if jumpsB (decF b s.p).1.op.val=true then
   match jumpD e.cs l b.length s.p (decF b s.p).1.a (applyR e s.fr (decF b s.p).1).1 with
   |some w=> .no s.p w
   |none=>endD b.length s.p (s.p+zf3 (decF b s.p).1.op.val) (decF b s.p).1.op.val (applyR e s.fr (decF b s.p).1).1 (s.cmp+1) (s.fet++[s.p])
  else endD b.length s.p (s.p+zf3 (decF b s.p).1.op.val) (decF b s.p).1.op.val (applyR e s.fr (decF b s.p).1).1 s.cmp (s.fet++[s.p]):=by unfold fetD; rw[if_neg (by simp[h0])] <;> rfl
 rw[h0]
 obtain⟨_,_,hsz,hend⟩:=decF_ok h0
 clear h0
 generalize (decF b s.p).1=I at *
 simp -implicitDefEqProofs only[go_sem,hT,hq,forall_eq,n4,Ne.symm n4,bYgcC1]
 have hbase:grN o (({}:St).set q (eQ e b l s o)):=fun x hx hin=>by
  rw[set_has] at hin
  rcases hin with rfl|hin
  ·exact hoq hx
  ·exact St.not_has_nil _ hin
 have hle0:St.le (grS 1 s.fet.length o (({}:St).set q (eQ e b l s o))) (S0.set b4 (eIn I)):=by
  rw[show grS 1 s.fet.length o (({}:St).set q (eQ e b l s o))=S0 from hS0]; exact le_add hb4
 refine app_gr' Tryz.sli29 Tryz.sz3 Tryz.by3 Tryz.zero3 rfl (n:=s.fet.length) (m:=1) (by simp[rws]) rfl hle0 hbase (fun h=>by rw[ho h]; rfl) (by simp) (by omega) fun o' σ' hbox hle' hg hno=> ?_
 have hq':σ'.box q=some (eQ e b l s o):=by rw[hbox,St.set_box,if_neg (Ne.symm n4),hq]
 have h4':σ'.box b4=some (eIn I):=by rw[hbox,St.set_box,if_pos rfl]
 have hrow:rws eN s.fet++[[frz (D.int .i64 s.p)]]=rws eN (s.fet++[s.p]):=by simp[rws,eN,frz]
 simp -implicitDefEqProofs only[go_sem,hT,hq',h4',forall_eq,n4,Ne.symm n4,hrow,bYgcC0]
 refine za3 (refSize74 I.op) ?_
 have wb:IntKind.wrap .i64 ((s.p:Int)+(zf3 I.op.val:Int))=((s.p+zf3 I.op.val:Nat):Int):=wrapN (by omega) (by omega)
 obtain⟨q1,hq1⟩:∃q1,s.p+zf3 I.op.val=q1:=⟨_,rfl⟩
 rw[hq1] at wb hfd hend
 simp -implicitDefEqProofs only[go_sem,hT,hq',h4',forall_eq,n4,Ne.symm n4,wb,bYgcC0]
 obtain⟨S1,hS1⟩:∃S1,σ'.set q (eQ e b l {s with fet:=s.fet++[s.p]} o')=S1:=⟨_,rfl⟩
 have hq1':S1.box q=some (eQ e b l {s with fet:=s.fet++[s.p]} o'):=by rw[←hS1,St.set_box,if_pos rfl]
 have h41:S1.box b4=some (eIn I):=by rw[←hS1,St.set_box,if_neg n4,h4']
 rw[hS1]
 refine loopL F62 (fun i:Nat=>[(0,.ptr q 0),(4,.ptr b4 0),(6,.int .i64 q1),(56,.slice .no (rws eEy l)),(57,.int .i64 l.length),(58,.int .i64 i)]) (fun _=>S1) (fun i=>i≤l.length∧∀x∈l.take i,¬((s.p:Int)<x.pos∧x.pos<q1)) (fun i=>l.length-i) 0 ⟨by omega,by simp⟩ ?_ (St.le.refl _) ?_
 ·simp -implicitDefEqProofs only[go_sem,hT,Int.ofNat_zero]
 clear hT T
 rintro i ⟨hi,hn⟩ T hT
 by_cases h:i<l.length
 ·have p1:((i:Int)<l.length)=True:=by simp; omega
  have p0:(0≤(i:Int))=True:=by simp
  have hat:=getEy h
  have w1:IntKind.wrap .i64 ((i:Int)+1)=((i+1:Nat):Int):=wrapN (by omega) (by have:=hl.len; omega)
  simp -implicitDefEqProofs only[go_sem,hT,hq1',h41,forall_eq,p1,p0,hat,w1,bYgcC0]
  intro b8 hb8
  have n8:b8≠q:=fun h=>hb8 (by rw[h]; exact .inl (by simp[hq1']))
  have n9:b8≠b4:=fun h=>hb8 (by rw[h]; exact .inl (by simp[h41]))
  by_cases h1:(s.p:Int)<l[i].pos
  ·by_cases h2:l[i].pos<q1
   ·rw[stray_some h hn h1 h2] at hfd
    rw[fetR_no hfd]
    simp -implicitDefEqProofs only[go_sem,hT,hq1',h41,forall_eq,n4,Ne.symm n4,n8,Ne.symm n8,n9,Ne.symm n9,p1,p0,hat,w1,h1,h2,bYgcC0]
    exact⟨_,S1,DLe.refl _,le_add hb8,rfl⟩
   ·simp -implicitDefEqProofs only[go_sem,hT,hq1',h41,forall_eq,n4,Ne.symm n4,n8,Ne.symm n8,n9,Ne.symm n9,p1,p0,hat,w1,h1,h2,bYgcC0]
    exact⟨i+1,⟨by omega,take_more h hn (by omega)⟩,by omega,rfl,le_add hb8⟩
  ·simp -implicitDefEqProofs only[go_sem,hT,hq1',h41,forall_eq,n4,Ne.symm n4,n8,Ne.symm n8,n9,Ne.symm n9,p1,p0,hat,w1,h1,bYgcC0]
   exact⟨i+1,⟨by omega,take_more h hn (by omega)⟩,by omega,rfl,le_add hb8⟩
 have p1:((i:Int)<l.length)=False:=by simp; omega
 rw[show l.take i=l from List.take_of_length_le (by omega)] at hn
 have hst:strayE l s.p q1=none:=find_none fun y hy=>by simpa using hn y hy
 rw[hst] at hfd
 simp -implicitDefEqProofs only[go_sem,hT,hq1',h41,forall_eq,n4,Ne.symm n4,p1,bYgcC0]
 refine za3 (refApply37 e s.fr I hw) ?_
 simp -implicitDefEqProofs only[go_sem,hT,hq1',h41,forall_eq,n4,Ne.symm n4,bYgcC0]
 generalize applyR e s.fr I=R at hfd ⊢
 obtain⟨f',err⟩:=R
 intro b9 hb9
 have n8:b9≠q:=fun h=>hb9 (by rw[h]; exact .inl (by simp[hq1']))
 have n9:b9≠b4:=fun h=>hb9 (by rw[h]; exact .inl (by simp[h41]))
 by_cases h3:err=0
 case neg=>
  have q3:((err:Int)=0)=False:=by simp; omega
  simp only[h3,ne_eq,not_false_eq_true,if_true] at hfd
  rw[fetR_no hfd]
  simp -implicitDefEqProofs only[go_sem,hT,hq1',h41,forall_eq,n4,Ne.symm n4,n8,Ne.symm n8,n9,Ne.symm n9,q3,bYgcC0]
  exact⟨_,S1,DLe.refl _,le_add hb9,rfl⟩
 subst h3
 simp only[ne_eq,not_true_eq_false,if_false] at hfd
 simp -implicitDefEqProofs only[go_sem,hT,hq1',h41,forall_eq,n4,Ne.symm n4,n8,Ne.symm n8,n9,Ne.symm n9,bYgcC1]
 obtain⟨S2,hS2⟩:∃S2,(S1.set b9 (eFr f')).set q (eQ e b l {s with fr:=f',fet:=s.fet++[s.p]} o')=S2:=⟨_,rfl⟩
 have hq2:S2.box q=some (eQ e b l {s with fr:=f',fet:=s.fet++[s.p]} o'):=by rw[←hS2,St.set_box,if_pos rfl]
 have h42:S2.box b4=some (eIn I):=by rw[←hS2,St.set_box,if_neg n4,St.set_box,if_neg (Ne.symm n9),h41]
 have h92:S2.box b9=some (eFr f'):=by rw[←hS2,St.set_box,if_neg n8,St.set_box,if_pos rfl]
 rw[hS2]
 have hoq':o'≠some q:=fun h=>hg q h (by rw[set_has]; exact .inl rfl)
 have hon:∀z:Nat,o'=none→s.fet++[z]=[]:=fun z h=>by have:=hno h; omega
 have hfin:∀s2:PS,s2.fet=s.fet++[s.p]→St.le (stQ e b l s2 o' q) (S2.set q (eQ e b l s2 o')):=fun s2 h2=>by
  have h9:¬σ'.has b9:=fun h=>hb9 (by rw[←hS1,set_has]; exact .inr h)
  have e1:S2.set q (eQ e b l s2 o')=(σ'.set b9 (eFr f')).set q (eQ e b l s2 o'):=by
   rw[←hS2,za2,←hS1,set_comm (Ne.symm n8),za2]
  have e2:stQ e b l s2 o' q=(grS 1 (s.fet.length+1) o' (({}:St).set q (eQ e b l s o))).set q (eQ e b l s2 o'):=by
   rw[stQ,grS_set,za2,h2,List.length_append]; rfl
  rw[e1,e2]
  exact le_set (hle'.trans (le_add h9))
 refine za3 (refJumps22 I.op) ?_
 cases hj:jumpsB I.op.val with
 |false=>
  simp only[hj,Bool.false_eq_true,if_false] at hfd
  simp -implicitDefEqProofs only[go_sem,hT,hq2,h42,h92,forall_eq,n4,Ne.symm n4,n8,Ne.symm n8,n9,Ne.symm n9,hj,bYgcC0]
  refine za3 (refEnds41 I.op) ?_
  cases he:endsB I.op.val with
  |true=>
   simp only[endD,he,if_true] at hfd
   rw[fetR_ok hfd]
   simp -implicitDefEqProofs only[go_sem,hT,hq2,h42,h92,forall_eq,n4,Ne.symm n4,n8,Ne.symm n8,n9,Ne.symm n9,he,bYgcC0]
   exact⟨_,_,DLe.refl _,hfin _ rfl,rfl,o',hoq',hon _,rfl⟩
  |false=>
   by_cases h6:b.length≤q1
   ·have g6:((b.length:Int)≤q1)=True:=by simp; omega
    simp only[endD,he,Bool.false_eq_true,if_false,h6,if_true] at hfd
    rw[fetR_no hfd]
    simp -implicitDefEqProofs only[go_sem,hT,hq2,h42,h92,forall_eq,n4,Ne.symm n4,n8,Ne.symm n8,n9,Ne.symm n9,he,g6,bYgcC0]
    exact⟨_,S2,DLe.refl _,St.le.refl _,rfl⟩
   ·have g6:((b.length:Int)≤q1)=False:=by simp; omega
    simp only[endD,he,Bool.false_eq_true,if_false,h6] at hfd
    rw[fetR_ok hfd]
    simp -implicitDefEqProofs only[go_sem,hT,hq2,h42,h92,forall_eq,n4,Ne.symm n4,n8,Ne.symm n8,n9,Ne.symm n9,he,g6,bYgcC0]
    exact⟨_,_,DLe.refl _,hfin _ rfl,rfl,o',hoq',hon _,by rw[hlv]⟩
 |true=>
  simp only[hj,if_true,jumpD] at hfd
  simp -implicitDefEqProofs only[go_sem,hT,hq2,h42,h92,forall_eq,n4,Ne.symm n4,n8,Ne.symm n8,n9,Ne.symm n9,hj,bYgcC0]
  by_cases h5:(b.length:Int)≤I.a
  ·simp only[h5,if_true] at hfd
   rw[fetR_no hfd]
   simp -implicitDefEqProofs only[go_sem,hT,hq2,h42,h92,forall_eq,n4,Ne.symm n4,n8,Ne.symm n8,n9,Ne.symm n9,h5,bYgcC0]
   exact⟨_,S2,DLe.refl _,St.le.refl _,rfl⟩
  simp only[h5,if_false] at hfd
  simp -implicitDefEqProofs only[go_sem,hT,hq2,h42,h92,forall_eq,n4,Ne.symm n4,n8,Ne.symm n8,n9,Ne.symm n9,h5,bYgcC0]
  refine za3 (at106 l .no I.a (by have:=hl.len; omega)) ?_
  rcases idx_find (l:=l) (a:=I.a) with⟨k1,k2⟩|⟨i,hi,k1,k2,hpos⟩
  ·rw[k1] at hfd
   rw[k2,fetR_no hfd]
   simp -implicitDefEqProofs only[go_sem,hT,hq2,h42,h92,forall_eq,n4,Ne.symm n4,n8,Ne.symm n8,n9,Ne.symm n9,h5,show((-1:Int)<0)=True by simp,bYgcC0]
   exact⟨_,S2,DLe.refl _,St.le.refl _,rfl⟩
  rw[k2]
  have g1:((i:Int)<0)=False:=by simp
  have g2:((i:Int)<l.length)=True:=by simp; omega
  have g3:(0≤(i:Int))=True:=by simp
  have hat:=getEy hi
  obtain⟨x,hx⟩:∃x,l[i]=x:=⟨_,rfl⟩
  rw[hx] at hat k1 hpos
  rw[k1] at hfd
  cases hd:x.dead with
  |true=>
   simp only[hd,if_true] at hfd
   rw[fetR_no hfd]
   simp -implicitDefEqProofs only[go_sem,hT,hq2,h42,h92,forall_eq,n4,Ne.symm n4,n8,Ne.symm n8,n9,Ne.symm n9,g1,g2,g3,hat,hd,bYgcC0]
   exact⟨_,S2,DLe.refl _,St.le.refl _,rfl⟩
  |false=>
   have wc:IntKind.wrap .i64 ((s.cmp:Int)+1)=((s.cmp+1:Nat):Int):=wrapN (by omega) (by omega)
   simp -implicitDefEqProofs only[go_sem,hT,hq2,h42,h92,forall_eq,n4,Ne.symm n4,n8,Ne.symm n8,n9,Ne.symm n9,g1,g2,g3,hat,hd,wc,bYgcC0]
   refine za3 (refSub38 e.cs .no f' x.fr hf hw2) ?_
   cases hsub:subFr e.cs f' x.fr with
   |false=>
    simp only[hd,hsub,Bool.false_eq_true,if_false,if_true] at hfd
    rw[fetR_no hfd]
    simp -implicitDefEqProofs only[go_sem,hT,hq2,h42,h92,forall_eq,n4,Ne.symm n4,n8,Ne.symm n8,n9,Ne.symm n9,g1,g2,g3,hat,hd,wc,bYgcC0]
    exact⟨_,_,DLe.refl _,St.le.refl _,rfl⟩
   |true=>
    simp only[hd,hsub,Bool.false_eq_true,if_false] at hfd
    simp -implicitDefEqProofs only[go_sem,hT,hq2,h42,h92,forall_eq,n4,Ne.symm n4,n8,Ne.symm n8,n9,Ne.symm n9,g1,g2,g3,hat,hd,wc,bYgcC0]
    refine za3 (refEnds41 I.op) ?_
    cases he:endsB I.op.val with
    |true=>
     simp only[endD,he,if_true] at hfd
     rw[fetR_ok hfd]
     simp -implicitDefEqProofs only[go_sem,hT,hq2,h42,h92,forall_eq,n4,Ne.symm n4,n8,Ne.symm n8,n9,Ne.symm n9,he,bYgcC0]
     exact⟨_,_,DLe.refl _,hfin _ rfl,rfl,o',hoq',hon _,rfl⟩
    |false=>
     by_cases h6:b.length≤q1
     ·have g6:((b.length:Int)≤q1)=True:=by simp; omega
      simp only[endD,he,Bool.false_eq_true,if_false,h6,if_true] at hfd
      rw[fetR_no hfd]
      simp -implicitDefEqProofs only[go_sem,hT,hq2,h42,h92,forall_eq,n4,Ne.symm n4,n8,Ne.symm n8,n9,Ne.symm n9,he,g6,bYgcC0]
      exact⟨_,_,DLe.refl _,St.le.refl _,rfl⟩
     ·have g6:((b.length:Int)≤q1)=False:=by simp; omega
      simp only[endD,he,Bool.false_eq_true,if_false,h6] at hfd
      rw[fetR_ok hfd]
      simp -implicitDefEqProofs only[go_sem,hT,hq2,h42,h92,forall_eq,n4,Ne.symm n4,n8,Ne.symm n8,n9,Ne.symm n9,he,g6,bYgcC0]
      exact⟨_,_,DLe.refl _,hfin _ rfl,rfl,o',hoq',hon _,by rw[hlv]⟩
end Go.AL
