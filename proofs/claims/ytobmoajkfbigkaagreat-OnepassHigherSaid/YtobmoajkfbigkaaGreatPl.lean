import Derived.Test.YtobmoajkfbigkaaGreatPi
import Derived.Test.YtobmoajkfbigkaaGreatPk
set_option linter.unusedSimpArgs false
set_option linter.unusedVariables false
set_option maxRecDepth 100000
set_option maxHeartbeats 400000
set_option linter.defProp false
namespace Go.AL
open Go.Proofs
theorem refSub79 (l:List Cl) (o:Own) (a b:Ty) (hf:Falls l l.length) (hl:l.length*48≤140737488355328):PCall Tryz.prog 91 [.slice o (rws eC l),.int .u8 a.val,.int .u8 b.val] (.bool (subB l a b)):=by
 refine F91.pcall' rfl fun T hT=> ?_
 simp -implicitDefEqProofs only[go_sem,c91,hT]
 refine za3 (refValid87 l o a) ?_
 cases hva:validN l.length a
 ·simp -implicitDefEqProofs only[go_sem,hT]
  exact zf1 (by simp[subB,hva])
 simp -implicitDefEqProofs only[go_sem,hT]
 refine za3 (refValid87 l o b) ?_
 cases hvb:validN l.length b
 ·simp -implicitDefEqProofs only[go_sem,hT]
  exact zf1 (by simp[subB,hvb])
 by_cases e1:(a.val:Int)=b.val
 ·rw[show subB l a b=true by rw[subB,if_neg (by simp[hva,hvb]),if_pos (by rw[Fin.ext_iff]; omega)]]
  simp -implicitDefEqProofs only[go_sem,hT,e1]
 by_cases e2:(b.val:Int)=0
 ·rw[show subB l a b=true by rw[subB,if_neg (by simp[hva,hvb]),if_pos (by rw[Fin.ext_iff]; omega)]]
  have e1':¬(a.val:Int)=0:=by omega
  simp -implicitDefEqProofs only[go_sem,hT,e1,e1',e2]
 have s1:subB l a b=if a.val=3∨b.val=5 then isRefB a&&isRefB b else decide (16≤a.val∧16≤b.val)&&(upI l ((a.val:Int)-16)).any fun k=>decide ((k:Int)=(b.val:Int)-16):=by
  rw[subB,if_neg (by simp[hva,hvb]),if_neg (by rw[Fin.ext_iff]; omega)]
 by_cases e3:(a.val:Int)=3
 ·have ha3:isRefB a=true:=by simp[isRefB]; omega
  rw[s1,if_pos (by omega),ha3]
  have e1':¬(3:Int)=b.val:=by omega
  simp -implicitDefEqProofs only[go_sem,hT,e1',e1,e2,e3]
  refine za3 (refIsRef120 b) ?_
  cases hr:isRefB b
  ·have hr':¬(b.val:Int)=5:=fun h=>by simp[isRefB] at hr; omega
   have h316:((3:Int)<16)=True:=by simp
   simp -implicitDefEqProofs only[go_sem,hT,e1',e2,e3,h316]
   refine za3 (show PCall Tryz.prog 132 [.int .u8 3] (.bool true) by have:=refIsRef120 a; rw[ha3,e3] at this; exact this) ?_
   simp -implicitDefEqProofs only[go_sem,hT,e1',e2,e3,hr',h316]
   exact zf1 rfl
  ·simp -implicitDefEqProofs only[go_sem,hT,e1',e2,e3]
   exact zf1 rfl
 have sx:((a.val:Int)<16∨(b.val:Int)<16)→isRefB a=false∨¬(b.val:Int)=5→subB l a b=false:=by
  intro h h'
  rw[s1]
  by_cases h5:b.val=5
  ·rw[if_pos (.inr h5)]
   rcases h' with h'|h'
   ·rw[h']; rfl
   ·omega
  ·rw[if_neg (by omega),decide_eq_false (by omega)]; rfl
 simp -implicitDefEqProofs only[go_sem,hT,e1,e2,e3]
 refine za3 (refIsRef120 a) ?_
 have tail:isRefB a=false∨¬(b.val:Int)=5→16≤a.val→16≤b.val→subB l a b=(lineR l ((a.val:Int)-16)).any fun k=>decide ((k:Int)=(b.val:Int)-16):=by
  intro h h1 h2
  have hv:a.val-16<l.length:=by simp only[validN,decide_eq_true_eq] at hva; omega
  rw[s1,if_neg (by omega),decide_eq_true ⟨h1,h2⟩,Bool.true_and,lineR_up hf (by omega) (by omega)]
 by_cases e5:isRefB a=true∧(b.val:Int)=5
 ·obtain⟨hr,h5⟩:=e5
  have e1':¬(a.val:Int)=5:=by omega
  simp -implicitDefEqProofs only[go_sem,hT,e1,e1',e2,e3,hr,h5]
  exact zf1 (by rw[s1,if_pos (by omega),hr,Bool.true_and]; simp[isRefB]; omega)
 have e5':isRefB a=false∨¬(b.val:Int)=5:=by
  cases hr:isRefB a
  ·exact .inl rfl
  ·exact .inr fun h=>e5 ⟨hr,h⟩
 have h2:isRefB a=false∨isRefB a=true∧¬(b.val:Int)=5:=by
  cases hr:isRefB a
  ·exact .inl rfl
  ·exact .inr ⟨rfl,fun h=>e5 ⟨hr,h⟩⟩
 by_cases h16:16≤a.val∧16≤b.val
 ·have g1:((a.val:Int)<16)=False:=by simp; omega
  have g2:((b.val:Int)<16)=False:=by simp; omega
  have w1:IntKind.wrap .u8 ((a.val:Int)-16)=(a.val:Int)-16:=wrap_u8 (by omega) (by omega)
  have w2:IntKind.wrap .i64 ((a.val:Int)-16)=(a.val:Int)-16:=zc1 (by omega) (by omega)
  have w3:IntKind.wrap .u8 ((b.val:Int)-16)=(b.val:Int)-16:=wrap_u8 (by omega) (by omega)
  have w4:IntKind.wrap .i64 ((b.val:Int)-16)=(b.val:Int)-16:=zc1 (by omega) (by omega)
  obtain⟨L,hL⟩:∃L,lineR l ((a.val:Int)-16)=L:=⟨_,rfl⟩
  have hlen:(toI L).length=L.length:=by simp[toI]
  have hLl:L.length≤l.length+1:=by rw[←hL]; exact lineF_len
  rcases h2 with hr|⟨hr,h5⟩
  ·simp -implicitDefEqProofs only[go_sem,hT,e1,e2,e3,hr,g1,g2,w1,w2]
   refine za3 (line121 l o _ hl) ?_
   rw[tail e5' h16.1 h16.2,hL]
   simp -implicitDefEqProofs only[go_sem,hT,Int.ofNat_zero]
   refine loopL F91 (fun i:Nat=>[(2,.int .u8 b.val),(7,.slice .no (rws eI (toI L))),(8,.int .i64 i)]) (fun _=>{}) (fun i=>i≤L.length∧((L.take i).any fun k=>decide ((k:Int)=(b.val:Int)-16))=false) (fun i=>L.length-i) 0 ⟨by omega,rfl⟩ ?_ (St.le.nil _) ?_
   ·simp -implicitDefEqProofs only[go_sem,hT,Int.ofNat_zero]
   clear hT T
   rintro i ⟨hi,hok⟩ T hT
   by_cases h:i<L.length
   ·have h1:((i:Int)<L.length)=True:=by simp; omega
    have htake:L.take (i+1)=L.take i++[L[i]]:=by rw[List.take_succ_eq_append_getElem h]
    have hin:L[i]∈L:=by simp
    simp -implicitDefEqProofs only[go_sem,hT,h1,hlen,toI_at h,w3,w4]
    generalize L[i]=k at *
    refine⟨by omega, ?_⟩
    by_cases hk:(k:Int)=(b.val:Int)-16
    ·rw[show(L.any fun k=>decide ((k:Int)=(b.val:Int)-16))=true from List.any_eq_true.2 ⟨k,hin,by simp[hk]⟩]
     simp -implicitDefEqProofs only[go_sem,hT,hk]
    ·simp -implicitDefEqProofs only[go_sem,hT,hk]
     refine⟨i+1,⟨by omega,by rw[htake,List.any_append,hok]; simp[hk]⟩,by omega, ?_,St.le.refl _⟩
     rw[zc1 (by omega) (by omega)]; simp
   ·have h1:((i:Int)<L.length)=False:=by simp; omega
    rw[List.take_of_length_le (by omega)] at hok
    rw[hok]
    simp -implicitDefEqProofs only[go_sem,hT,h1,hlen]
  ·simp -implicitDefEqProofs only[go_sem,hT,e1,e2,e3,hr,h5,g1,g2,w1,w2]
   refine za3 (line121 l o _ hl) ?_
   rw[tail e5' h16.1 h16.2,hL]
   simp -implicitDefEqProofs only[go_sem,hT,Int.ofNat_zero]
   refine loopL F91 (fun i:Nat=>[(2,.int .u8 b.val),(7,.slice .no (rws eI (toI L))),(8,.int .i64 i)]) (fun _=>{}) (fun i=>i≤L.length∧((L.take i).any fun k=>decide ((k:Int)=(b.val:Int)-16))=false) (fun i=>L.length-i) 0 ⟨by omega,rfl⟩ ?_ (St.le.nil _) ?_
   ·simp -implicitDefEqProofs only[go_sem,hT,Int.ofNat_zero]
   clear hT T
   rintro i ⟨hi,hok⟩ T hT
   by_cases h:i<L.length
   ·have h1:((i:Int)<L.length)=True:=by simp; omega
    have htake:L.take (i+1)=L.take i++[L[i]]:=by rw[List.take_succ_eq_append_getElem h]
    have hin:L[i]∈L:=by simp
    simp -implicitDefEqProofs only[go_sem,hT,h1,hlen,toI_at h,w3,w4]
    generalize L[i]=k at *
    refine⟨by omega, ?_⟩
    by_cases hk:(k:Int)=(b.val:Int)-16
    ·rw[show(L.any fun k=>decide ((k:Int)=(b.val:Int)-16))=true from List.any_eq_true.2 ⟨k,hin,by simp[hk]⟩]
     simp -implicitDefEqProofs only[go_sem,hT,hk]
    ·simp -implicitDefEqProofs only[go_sem,hT,hk]
     refine⟨i+1,⟨by omega,by rw[htake,List.any_append,hok]; simp[hk]⟩,by omega, ?_,St.le.refl _⟩
     rw[zc1 (by omega) (by omega)]; simp
   ·have h1:((i:Int)<L.length)=False:=by simp; omega
    rw[List.take_of_length_le (by omega)] at hok
    rw[hok]
    simp -implicitDefEqProofs only[go_sem,hT,h1,hlen]
 ·rw[sx (by omega) e5']
  by_cases ha:(a.val:Int)<16
  ·rcases h2 with hr|⟨hr,h5⟩
   ·simp -implicitDefEqProofs only[go_sem,hT,e1,e2,e3,hr,ha]
   ·simp -implicitDefEqProofs only[go_sem,hT,e1,e2,e3,hr,h5,ha]
  ·have hb:(b.val:Int)<16:=by omega
   rcases h2 with hr|⟨hr,h5⟩
   ·simp -implicitDefEqProofs only[go_sem,hT,e1,e2,e3,hr,ha,hb]
   ·simp -implicitDefEqProofs only[go_sem,hT,e1,e2,e3,hr,h5,ha,hb]
def wantedB (l:List Cl) (t w:Ty):Bool:=
 if w.val=255 then true else if w.val=254 then decide (t.val≠0) else if w.val=253 then isRefB t else subB l t w
theorem wanted117 (l:List Cl) (o:Own) (t w:Ty) (hf:Falls l l.length) (hl:l.length*48≤140737488355328):PCall Tryz.prog 182 [.slice o (rws eC l),.int .u8 t.val,.int .u8 w.val] (.bool (wantedB l t w)):=by
 refine F182.pcall' rfl fun T hT=> ?_
 by_cases h1:(w.val:Int)=255
 ·simp -implicitDefEqProofs only[go_sem,c182,hT,h1]
  exact zf1 (by rw[wantedB,if_pos (by omega)])
 by_cases h2:(w.val:Int)=254
 ·simp -implicitDefEqProofs only[go_sem,c182,hT,h1,h2]
  exact zf1 (by rw[wantedB,if_neg (by omega),if_pos (by omega),Bool.eq_iff_iff]; simp)
 by_cases h3:(w.val:Int)=253
 ·simp -implicitDefEqProofs only[go_sem,c182,hT,h1,h2,h3]
  refine za3 (refIsRef120 t) ?_
  simp -implicitDefEqProofs only[go_sem,hT]
  exact zf1 (by rw[wantedB,if_neg (by omega),if_neg (by omega),if_pos (by omega)])
 simp -implicitDefEqProofs only[go_sem,c182,hT,h1,h2,h3]
 refine za3 (refSub79 l o t w hf hl) ?_
 simp -implicitDefEqProofs only[go_sem,hT]
 exact zf1 (by rw[wantedB,if_neg (by omega),if_neg (by omega),if_neg (by omega)])
def fitsB (l:List Cl) (w:Wn) (t first:Ty):Bool:=
 if w.kind=1 then decide (t.val≠0) else if w.kind=2 then isRefB t else if w.kind=3 then decide (t=first∧(t.val=1∨t.val=2)) else if w.kind=4 then subB l t w.t else true
theorem fits128 (l:List Cl) (o:Own) (w:Wn) (t first:Ty) (hl:l.length≤140737488355328):PCall Tryz.prog 211 [.slice o (rws eC l),.agg (eW w),.int .u8 t.val,.int .u8 first.val] (.bool (fitsB l w t first)):=by
 refine F211.pcall' rfl fun T hT=> ?_
 simp -implicitDefEqProofs only[go_sem,c211,hT,eW_len]
 intro b5
 have g0:(eW w)[0]? =some (.int .i64 w.kind):=rfl
 have g1:(eW w)[1]? =some (.int .u8 w.t.val):=rfl
 by_cases h1:(w.kind:Int)=1
 ·simp -implicitDefEqProofs only[go_sem,hT,h1,g0,g1,eW_len,gdD]
  exact zf1 (by rw[fitsB,if_pos (by omega),Bool.eq_iff_iff]; simp)
 by_cases h2:(w.kind:Int)=2
 ·simp -implicitDefEqProofs only[go_sem,hT,h1,h2,g0,g1,eW_len,gdD]
  refine za3 (isRef163 t) ?_
  simp -implicitDefEqProofs only[go_sem,hT]
  exact zf1 (by rw[fitsB,if_neg (by omega),if_pos (by omega)])
 by_cases h3:(w.kind:Int)=3
 ·simp -implicitDefEqProofs only[go_sem,mmB,hT,h1,h2,h3,g0,g1,eW_len,gdD]
  exact zf1 (by rw[fitsB,if_neg (by omega),if_neg (by omega),if_pos (by omega),Bool.eq_iff_iff]; simp[Fin.ext_iff]; omega)
 by_cases h4:(w.kind:Int)=4
 ·simp -implicitDefEqProofs only[go_sem,hT,h1,h2,h3,h4,g0,g1,eW_len,gdD]
  refine za3 (sub164 l o t w.t hl) ?_
  simp -implicitDefEqProofs only[go_sem,hT]
  exact zf1 (by rw[fitsB,if_neg (by omega),if_neg (by omega),if_neg (by omega),if_pos (by omega)])
 simp -implicitDefEqProofs only[go_sem,hT,h1,h2,h3,h4,g0,g1,eW_len,gdD]
 exact zf1 (by rw[fitsB,if_neg (by omega),if_neg (by omega),if_neg (by omega),if_neg (by omega)])
theorem bare_iff {f:Fr}:bareF f=f↔∀j:Nat,j<24→f.loc+f.h≤(j:Int)→slAt f j=0:=by
 constructor
 ·intro h j hj hle
  have:(bareF f).sl[j]=f.sl[j]:=by rw[h]
  rw[slAt_lt f hj,←this]
  simp only[bareF,Vector.getElem_ofFn]
  rw[if_neg (by omega)]
 ·intro h
  obtain⟨a,b,c⟩:=f
  simp only[bareF,Fr.mk.injEq,true_and]
  apply Vector.ext
  intro j hj
  simp only[Vector.getElem_ofFn]
  split
  ·rfl
  ·rename_i hn
   have:=h j hj (by simp only at hn ⊢; omega)
   rw[slAt_lt _ hj] at this
   exact this.symm
theorem refCheck40 (l:List Cl) (o:Own) (f:Fr):PCall Tryz.prog 59 [.slice o (rws eC l),.agg (eFr f)] (.int .i64 (checkF l.length f)):=by
 refine F59.pcall' rfl fun T hT=> ?_
 simp -implicitDefEqProofs only[go_sem,c59,hT,za6]
 intro b3
 simp -implicitDefEqProofs only[go_sem,hT,za6,za4]
 refine za3 (refShape86 f) ?_
 cases hs:shapedB f
 ·rw[show checkF l.length f=32 by rw[checkF,if_pos (.inl hs)]]
  simp -implicitDefEqProofs only[go_sem,hT]
  exact DLe.refl _
 obtain⟨s1,s2,s3,s4⟩:=shaped_of hs
 obtain⟨n,hn⟩:∃n:Nat,f.loc+f.h=n:=⟨_,(Int.toNat_of_nonneg (by omega)).symm⟩
 have w1:IntKind.wrap .i64 (f.loc+f.h)=n:=by rw[zc1 (by omega) (by omega),hn]
 simp -implicitDefEqProofs only[go_sem,hT,za6,za4,fr_0,fr_1,gdD,w1]
 refine loopL F59 (fun i:Nat=>[(0,.slice o (rws eC l)),(3,.ptr b3 0),(5,.int .i64 i)]) (fun _=>({}:St).set b3 (eFr f)) (fun i=>n≤i∧i≤24∧∀j:Nat,n≤j→j<i→slAt f j=0) (fun i=>24-i) n ⟨by omega,by omega,fun j _ _=>by omega⟩ ?_ (St.le.refl _) ?_
 ·simp -implicitDefEqProofs only[go_sem,hT]
 clear hT T
 rintro i ⟨hni,hi,hok⟩ T hT
 by_cases h:i<24
 ·have h1:((i:Int)<24)=True:=by simp; omega
  have hx:=fr_slAt f h
  simp -implicitDefEqProofs only[go_sem,hT,h1,za6,gdD,hx,Nat.mul_one]
  refine⟨by omega, ?_⟩
  by_cases hz:((slAt f i).val:Int)=0
  ·simp -implicitDefEqProofs only[go_sem,hT,hz]
   refine⟨i+1,⟨by omega,by omega,fun j h1 h2=> ?_⟩,by omega, ?_,St.le.refl _⟩
   ·by_cases hj:j=i
    ·subst hj; exact Fin.ext (by simpa using hz)
    ·exact hok j h1 (by omega)
   ·rw[zc1 (by omega) (by omega)]; simp
  ·rw[show checkF l.length f=32 by
    rw[checkF,if_pos (.inr fun hb=>hz (by rw[bare_iff.1 hb i h (by omega)]; rfl))]]
   simp -implicitDefEqProofs only[go_sem,hT,hz]
   exact DLe.refl _
 ·have h1:((i:Int)<24)=False:=by simp; omega
  have hb:bareF f=f:=bare_iff.2 fun j hj hle=>hok j (by omega) (by omega)
  have hc:checkF l.length f=if(f.sl.toList.any fun t=> !validN l.length t)=true then 22 else 0:=by rw[checkF,if_neg (by simp[hs,hb])]
  rw[hc]
  simp -implicitDefEqProofs only[go_sem,hT,h1,Int.ofNat_zero]
  refine loopL F59 (fun i:Nat=>[(0,.slice o (rws eC l)),(3,.ptr b3 0),(6,.int .i64 i)]) (fun _=>({}:St).set b3 (eFr f)) (fun i=>i≤n∧∀j:Nat,j<i→validN l.length (slAt f j)=true) (fun i=>24-i) 0 ⟨by omega,fun j hj=>by omega⟩ ?_ (St.le.refl _) ?_
  ·simp -implicitDefEqProofs only[go_sem,hT,Int.ofNat_zero]
  clear hT T h1
  rintro k ⟨hk,hv⟩ T hT
  by_cases hkn:k<n
  ·have h1:((k:Int)<n)=True:=by simp; omega
   have hx:=fr_slAt f (show k<24 by omega)
   simp -implicitDefEqProofs only[go_sem,hT,h1,za6,fr_0,fr_1,gdD,w1,hx,Nat.mul_one]
   refine⟨by omega,za3 (refValid87 l o _) ?_⟩
   cases hvk:validN l.length (slAt f k)
   ·rw[if_pos (List.any_eq_true.2 ⟨slAt f k,by rw[slAt_lt f (by omega)]; simp,by simp[hvk]⟩)]
    simp -implicitDefEqProofs only[go_sem,hT]
    exact DLe.refl _
   ·simp -implicitDefEqProofs only[go_sem,hT]
    refine⟨k+1,⟨by omega,fun j hj=> ?_⟩,by omega, ?_,St.le.refl _⟩
    ·by_cases hj':j=k
     ·subst hj'; exact hvk
     ·exact hv j (by omega)
    ·rw[zc1 (by omega) (by omega)]; simp
  ·have h1:((k:Int)<n)=False:=by simp; omega
   rw[if_neg (by
    simp only[List.any_eq_true,Bool.not_eq_true',not_exists,not_and,Bool.not_eq_false]
    intro t ht
    obtain⟨j,hj,rfl⟩:=List.mem_iff_getElem.1 ht
    have hj24:j<24:=by simpa using hj
    have he:f.sl.toList[j]=slAt f j:=by rw[slAt_lt f hj24]; simp
    rw[he]
    by_cases hjn:j<k
    ·exact hv j hjn
    ·rw[hok j (by omega) (by omega)]; rfl)]
   simp -implicitDefEqProofs only[go_sem,hT,h1,za6,fr_0,fr_1,gdD,w1]
   exact DLe.refl _
open Go.Proofs
def hadL (f:Fr) (n:Nat):List Ty:=(List.range n).map fun k=>slAt f ((f.loc+f.h-n).toNat+k)
theorem hadL_len {f:Fr} {n:Nat}:(hadL f n).length=n:=by simp[hadL]
theorem hadL_at {f:Fr} {n i:Nat} (h:i<n):(hadL f n)[i]? =some (slAt f ((f.loc+f.h-n).toNat+i)):=by simp[hadL,h]
theorem hadL_take {f:Fr} {n i:Nat} (h:i<n):(hadL f n).take (i+1)=(hadL f n).take i++[slAt f ((f.loc+f.h-n).toNat+i)]:=by
 rw[List.take_add_one,hadL_at h]; rfl
def fitsAll (l:List Cl) (ws:List Wn) (had:List Ty):Bool:=(ws.zip had).all fun p=>fitsB l p.1 p.2 (had.headD 0)
def wantedAll (l:List Cl) (tk had:List Ty):Bool:=(tk.zip had).all fun p=>wantedB l p.2 p.1
def takenF (l:List Cl) (f:Fr) (ws:List Wn):List Ty×Nat:=
 if f.h<ws.length then([],30) else if fitsAll l ws (hadL f ws.length)=false then([],70) else(hadL f ws.length,0)
theorem taken83 (l:List Cl) (o o2:Own) (f:Fr) (ws:List Wn) (hs:shapedB f=true) (hl:l.length≤140737488355328):
  PCall Tryz.prog 174 [.slice o (rws eC l),.agg (eFr f),.slice o2 (rws eW ws)] (.tup [.slice .no (rws eT (takenF l f ws).1),.int .i64 (takenF l f ws).2]):=by
 obtain⟨s1,s2,s3,s4⟩:=shaped_of hs
 refine F174.pcall' rfl fun T hT=> ?_
 simp -implicitDefEqProofs only[go_sem,c174,hT,za6]
 intro b4
 by_cases hh:f.h<ws.length
 ·have h1:(f.h<(ws.length:Int))=True:=by simp; omega
  rw[show takenF l f ws=([],30) by rw[takenF,if_pos hh]]
  simp -implicitDefEqProofs only[go_sem,hT,za6,za4,fr_0,fr_1,gdD,h1]
  exact DLe.tup (.cons (DLe.slice _ _) (.cons (.refl _) .nil))
 have h1:(f.h<(ws.length:Int))=False:=by simp; omega
 have ht:takenF l f ws=if fitsAll l ws (hadL f ws.length)=false then([],70) else(hadL f ws.length,0):=by rw[takenF,if_neg hh]
 rw[ht]
 obtain⟨n,hn⟩:∃n,ws.length=n:=⟨_,rfl⟩
 rw[hn] at hh h1 ht ⊢
 obtain⟨H,hH⟩:∃H,hadL f n=H:=⟨_,rfl⟩
 rw[hH]
 have hHl:H.length=n:=by rw[←hH,hadL_len]
 simp -implicitDefEqProofs only[go_sem,hT,za6,za4,fr_0,fr_1,gdD,h1,hn,grD_none (s:=1)]
 refine loopL F174 (fun x:Nat×Option Nat=>[(0,.slice o (rws eC l)),(2,.slice o2 (rws eW ws)),(4,.ptr b4 0),(8,grD 1 x.2 (rws eT (H.take x.1))),(20,.int .i64 n),(21,.int .i64 x.1)])
  (fun x=>grS 1 x.1 x.2 (({}:St).set b4 (eFr f))) (fun x=>x.1≤n∧(x.2=none→x.1=0)∧grN x.2 (({}:St).set b4 (eFr f))) (fun x=>n-x.1) (0,none) ⟨Nat.zero_le _,fun _=>rfl,grN_none⟩ ?_ (St.le.refl _) ?_
 ·simp -implicitDefEqProofs only[go_sem,hT,Int.ofNat_zero,List.take_zero,rws_mt]
 clear hT T h1
 rintro⟨i,ob⟩ ⟨hi,hok,hgr⟩ T hT
 simp only at hi hok hgr hT ⊢
 by_cases h:i<n
 ·have h1:((i:Int)<n)=True:=by simp; omega
  have w1:IntKind.wrap .i64 ((n:Int)-1)=(n:Int)-1:=zc1 (by omega) (by omega)
  have w2:IntKind.wrap .i64 ((n:Int)-1-i)=((n-1-i:Nat):Int):=by rw[zc1 (by omega) (by omega)]; omega
  have htop:=top127 f hs (n-1-i) (by omega)
  rw[show(f.loc+f.h-1-((n-1-i:Nat):Int)).toNat=(f.loc+f.h-n).toNat+i by omega] at htop
  simp -implicitDefEqProofs only[go_sem,hT,h1,za6,za4,hn,w1,w2]
  refine za3 htop ?_
  have htake:H.take (i+1)=H.take i++[slAt f ((f.loc+f.h-n).toNat+i)]:=by rw[←hH]; exact hadL_take h
  simp -implicitDefEqProofs only[go_sem,hT,za6,za4,frz]
  refine app_gr' Tryz.sli93 Tryz.sz81 Tryz.by81 Tryz.zero81 rfl (n:=i) (m:=1) (base:=({}:St).set b4 (eFr f)) (by rw[za0,List.length_take]; omega) rfl (St.le.refl _) hgr hok (by simp) (by omega) fun o' σ' hbox hle hgn hno=> ?_
  simp -implicitDefEqProofs only[go_sem,hT,hbox]
  refine⟨(i+1,o'),⟨by omega,by simpa using hno,hgn⟩,by simp only; omega,⟨?_, ?_⟩,hle⟩
  ·rw[htake]; simp[rws,eT]
  ·rw[zc1 (by omega) (by omega)]; simp
 ·obtain rfl:i=n:=by omega
  have h1:((i:Int)<i)=False:=by simp
  rw[List.take_of_length_le (by omega)] at hT
  have hgl:(grD 1 ob (rws eT H)).cellQ=true:=grD_cellQ
  simp -implicitDefEqProofs only[go_sem,hT,h1,za6,za4,hn,hHl]
  refine loopL F174 (fun k:Nat=>[(0,.slice o (rws eC l)),(2,.slice o2 (rws eW ws)),(8,grD 1 ob (rws eT H)),(39,grD 1 ob (rws eT H)),(40,.int .i64 i),(41,.int .i64 k)])
   (fun x=>grS 1 i ob (({}:St).set b4 (eFr f))) (fun k=>k≤i∧(((ws.zip H).take k).all fun p=>fitsB l p.1 p.2 (H.headD 0))=true) (fun k=>i-k) 0 ⟨Nat.zero_le _,rfl⟩ ?_ (St.le.refl _) ?_
  ·simp -implicitDefEqProofs only[go_sem,hT,Int.ofNat_zero]
  clear hT T h1
  rintro k ⟨hk,hall⟩ T hT
  have hz:(ws.zip H).length=i:=by simp[hn,hHl]
  by_cases h:k<i
  ·have h1:((k:Int)<i)=True:=by simp; omega
   have hkH:k<H.length:=by omega
   have hkw:k<ws.length:=by omega
   have h0H:0<H.length:=by omega
   have r1:(rws eT H)[k]?.getD []=eT H[k]:=rws_at hkH
   have r2:(rws eW ws)[k]?.getD []=eW ws[k]:=rws_at hkw
   have r0:(rws eT H)[0]?.getD []=eT H[0]:=rws_at h0H
   have hd:H.headD 0=H[0]:=by cases H with
    |nil=>simp at h0H
    |cons a b=>rfl
   have hzk:(ws.zip H)[k]? =some (ws[k],H[k]):=by
    rw[List.getElem?_eq_getElem (by omega)]; simp
   have htk:(ws.zip H).take (k+1)=(ws.zip H).take k++[(ws[k],H[k])]:=by rw[List.take_add_one,hzk]; rfl
   have hin:(ws[k],H[k])∈ws.zip H:=List.mem_of_getElem? hzk
   have hcast:(k:Int).toNat=k:=by simp
   have ewt:(eW ws[k]).take 2=eW ws[k]:=rfl
   simp -implicitDefEqProofs only[go_sem,hT,h1,za6,za4,hn,hHl,r1,r2,r0,eT,eT_len,eW_len,ewt]
   refine⟨by omega,by omega,by omega,za3 (fits128 l o ws[k] H[k] H[0] hl) ?_⟩
   cases hf:fitsB l ws[k] H[k] H[0]
   ·have hno:fitsAll l ws H=false:=by
     rw[fitsAll,List.all_eq_false]
     exact⟨_,hin,by simp only[hd,hf]; simp⟩
    rw[if_pos hno]
    simp -implicitDefEqProofs only[go_sem,hT]
    exact DLe.tup (.cons (DLe.slice _ _) (.cons (.refl _) .nil))
   ·simp -implicitDefEqProofs only[go_sem,hT]
    refine⟨k+1,⟨by omega,by rw[htk,List.all_append,hall]; simp only[List.all_cons,List.all_nil,hd,hf,Bool.and_self]⟩,by omega, ?_,St.le.refl _⟩
    rw[zc1 (by omega) (by omega)]; simp
  ·obtain rfl:k=i:=by omega
   have h1:((k:Int)<k)=False:=by simp
   rw[List.take_of_length_le (by omega)] at hall
   rw[if_neg (by rw[fitsAll,hall]; simp)]
   simp -implicitDefEqProofs only[go_sem,hT,h1]
   exact DLe.tup (.cons grD_le (.cons (.refl _) .nil))
open Go.Proofs
def popN:Nat→Fr→Fr
 |0,f=>f
 |k+1,f=>popF (popN k f)
theorem pop_loc {f:Fr}:(popF f).loc=f.loc:=by unfold popF; exact bare_loc _
theorem pop_h {f:Fr}:(popF f).h=f.h-1:=by unfold popF; exact bare_h _
theorem popN_loc:∀{k:Nat} {f:Fr},(popN k f).loc=f.loc
 |0,f=>rfl
 |k+1,f=>by rw[popN,pop_loc,popN_loc]
theorem popN_h:∀{k:Nat} {f:Fr},(popN k f).h=f.h-k
 |0,f=>by simp[popN]
 |k+1,f=>by rw[popN,pop_h,popN_h]; omega
theorem popN_shape {f:Fr} (hs:shapedB f=true) {k:Nat} (hk:(k:Int)≤f.h):shapedB (popN k f)=true:=by
 have:=shaped_of hs
 simp only[shapedB,decide_eq_true_eq,popN_loc,popN_h]; omega
theorem popN_bare {f:Fr} (hb:bareF f=f):∀k,bareF (popN k f)=popN k f
 |0=>hb
 |k+1=>by rw[popN,popF,bare_bare]
def pushAll:List Ty→Fr→Fr×Nat
 |[],f=>(f,0)
 |t::ts,f=>if(pushF f t).2≠0 then(fr0 0,(pushF f t).2) else pushAll ts (pushF f t).1
theorem push_shape {f:Fr} (hs:shapedB f=true) {t:Ty} (h:(pushF f t).2=0):shapedB (pushF f t).1=true:=by
 have:=shaped_of hs
 unfold pushF at h ⊢
 split
 ·rename_i h1; rw[if_pos h1] at h; cases h
 ·simp only[shapedB,decide_eq_true_eq]; omega
theorem setF_shape {f:Fr} {a:Int} {t:Ty}:shapedB (setF f a t)=shapedB f:=by simp only[shapedB,setF_loc,setF_h]
def behindF (i:Ins) (f:Fr) (had gs:List Ty):Fr×Nat:=
 if i.op.val=22∧0<(popN had.length f).h then(fr0 0,73)
 else pushAll gs (if i.op.val=5 then setF (bareF (popN had.length f)) i.a (had.headD 0) else popN had.length f)
theorem set3 {σ:St} {a b c:Nat} {x y z w:List D} (h1:b≠a) (h2:c≠a):(((σ.set a x).set b y).set c z).set a w=((σ.set a w).set b y).set c z:=by
 rw[Go.AL.set_comm (σ:=(σ.set a x).set b y) h2,Go.AL.set_comm (σ:=σ.set a x) h1,za2]
theorem behind85 (i:Ins) (f:Fr) (had gs:List Ty) (o o2:Own) (hs:shapedB f=true) (hh:(had.length:Int)≤f.h) (hgl:gs.length≤1000) (h5:i.op.val=5→0<had.length∧0≤i.a∧i.a<f.loc):
  PCall Tryz.prog 176 [.agg (eFr f),.agg (eIn i),.slice o (rws eT had),.slice o2 (rws eT gs)] (.tup [.agg (eFr (behindF i f had gs).1),.int .i64 (behindF i f had gs).2]):=by
 obtain⟨s1,s2,s3,s4⟩:=shaped_of hs
 refine F176.pcall' rfl fun T hT=> ?_
 simp -implicitDefEqProofs only[go_sem,zb9,c176,hT,za6,zb8]
 intro b4 b5 n1 n2 b8 n3 n4 n5 n6
 have ne1:b5≠b4:=fun e=>by simp_all
 have ne2:b8≠b4:=fun e=>by simp_all
 refine loopL F176 (fun k:Nat=>[(2,.slice o (rws eT had)),(3,.slice o2 (rws eT gs)),(4,.ptr b4 0),(5,.ptr b5 0),(8,.ptr b8 0),(9,.int .i64 0),(15,.int .i64 had.length),(16,.int .i64 k)])
  (fun k=>((({}:St).set b4 (eFr (popN k f))).set b5 (eIn i)).set b8 zFr) (fun k=>k≤had.length) (fun k=>had.length-k) 0 (Nat.zero_le _) ?_ (St.le.refl _) ?_
 ·simp -implicitDefEqProofs only[go_sem,hT,Int.ofNat_zero]
 clear hT T
 rintro k hk T hT
 by_cases h:k<had.length
 ·have h1:((k:Int)<had.length)=True:=by simp; omega
  have hp:=pop129 (popN k f) (popN_shape hs (by omega)) (by rw[popN_h]; omega)
  simp -implicitDefEqProofs only[go_sem,hT,h1,za6,za4,n1,n2,n3,n4,n5,n6]
  refine za3 hp ?_
  simp -implicitDefEqProofs only[go_sem,hT,za6,za4,n1,n2,n3,n4,n5,n6,za7,anD]
  refine⟨k+1,by omega,by omega, ?_, ?_⟩
  ·rw[zc1 (by omega) (by omega)]; simp
  ·rw[set3 ne1 ne2]; exact St.le.refl _
 ·obtain rfl:k=had.length:=by omega
  have h1:((had.length:Int)<had.length)=False:=by simp
  have i1:(eIn i)[1]? =some (.int .u8 i.op.val):=rfl
  have i2:(eIn i)[2]? =some (.int .i64 i.a):=rfl
  have gsh:=popN_shape hs (k:=had.length) hh
  have gl:(popN had.length f).loc=f.loc:=popN_loc
  obtain⟨X,hX⟩:∃X,behindF i f had gs=X:=⟨_,rfl⟩
  rw[hX]
  rw[behindF] at hX
  generalize popN had.length f=g at gsh gl hX ⊢
  have rest:∀(g:Fr) (T:Env),shapedB g=true→pushAll gs g=X→envOk [(4,.ptr b4 0),(5,.ptr b5 0),(8,.ptr b8 0),(9,.int .i64 0),(47,.slice o2 (rws eT gs)),(48,.int .i64 gs.length),(49,.int .i64 0)] T→vcA Tryz.prog 66 (.loop ?c) ?Q T (((({}:St).set b4 (eFr g)).set b5 (eIn i)).set b8 zFr):= ?rest
  ·by_cases o22:(i.op.val:Int)=22
   ·by_cases hg:0<g.h
    ·have hg':(0<g.h)=True:=by simp[hg]
     rw[if_pos ⟨by omega,hg⟩] at hX
     rw[←hX,fr_fr0]
     simp -implicitDefEqProofs only[go_sem,zb9,zb5,zc0,zb3,hT,h1,za6,za4,zb8,fr_1,gdD,i1,o22,hg',n1,n2,n3,n4,n5,n6,za5,za2]
     exact DLe.refl _
    have hg':(0<g.h)=False:=by simp; omega
    rw[if_neg (by omega),if_neg (by omega)] at hX
    simp -implicitDefEqProofs only[go_sem,zb9,hT,h1,za6,za4,zb8,fr_1,gdD,i1,o22,hg',n1,n2,n3,n4,n5,n6]
    refine rest g _ gsh hX ?_
    simp -implicitDefEqProofs only[go_sem,hT]
   rw[if_neg (by omega)] at hX
   by_cases o5:(i.op.val:Int)=5
   ·obtain⟨k1,k2,k3⟩:=h5 (by omega)
    rw[if_pos (by omega)] at hX
    have hh0:had.headD 0=had[0]:=by cases had with
     |nil=>simp at k1
     |cons a b=>rfl
    have r0:(rws eT had)[0]?.getD []=eT had[0]:=rws_at k1
    have hst:=store130 g gsh i.a had[0] k2 (by omega)
    simp -implicitDefEqProofs only[go_sem,zb9,hT,h1,za6,za4,zb8,fr_1,gdD,i1,i2,o22,o5,r0,eT,eT_len,n1,n2,n3,n4,n5,n6]
    refine⟨by omega,za3 hst ?_⟩
    simp -implicitDefEqProofs only[go_sem,zb9,hT,za6,za4,za7,anD,n1,n2,n3,n4,n5,n6,set3 ne1 ne2]
    rw[←hh0]
    refine rest _ _ (by rw[setF_shape,bare_shape]; exact gsh) hX ?_
    simp -implicitDefEqProofs only[go_sem,hT]
   ·rw[if_neg (by omega)] at hX
    simp -implicitDefEqProofs only[go_sem,zb9,hT,h1,za6,za4,zb8,fr_1,gdD,i1,i2,o22,o5,n1,n2,n3,n4,n5,n6]
    refine rest g _ gsh hX ?_
    simp -implicitDefEqProofs only[go_sem,hT]
  clear hT T hX gsh gl g
  intro g T gsh hX hE
  refine loopL F176 (fun x:Nat×Fr=>[(4,.ptr b4 0),(5,.ptr b5 0),(8,.ptr b8 0),(9,.int .i64 0),(47,.slice o2 (rws eT gs)),(48,.int .i64 gs.length),(49,.int .i64 x.1)])
   (fun x=>((({}:St).set b4 (eFr x.2)).set b5 (eIn i)).set b8 zFr) (fun x=>x.1≤gs.length∧shapedB x.2=true∧pushAll (gs.drop x.1) x.2=X) (fun x=>gs.length-x.1) (0,g) ⟨Nat.zero_le _,gsh,hX⟩ hE (St.le.refl _) ?_
  clear hE T hX gsh g
  rintro⟨k,g⟩ ⟨hk,gsh,hX⟩ T hT
  simp only at hk gsh hX hT ⊢
  by_cases h:k<gs.length
  ·have h1:((k:Int)<gs.length)=True:=by simp; omega
   have r0:(rws eT gs)[k]?.getD []=eT gs[k]:=rws_at h
   rw[List.drop_eq_getElem_cons h,pushAll] at hX
   simp -implicitDefEqProofs only[go_sem,hT,h1,za6,za4,r0,eT,eT_len,n1,n2,n3,n4,n5,n6]
   generalize gs[k]=t at hX ⊢
   refine⟨by omega,za3 (push131 g gsh t) ?_⟩
   have psh:=push_shape gsh (t:=t)
   obtain⟨⟨g',z⟩,hP⟩:∃P,pushF g t=P:=⟨_,rfl⟩
   rw[hP] at hX psh ⊢
   simp only at hX psh ⊢
   simp -implicitDefEqProofs only[go_sem,hT,zb9,zc0,zb3,n1,n2,n3,n4,n5,n6]
   intro b12 m1 m2 m3 m4 m5 m6
   by_cases hz:(z:Int)=0
   ·have hz0:z=0:=by omega
    rw[if_neg (by simp[hz0])] at hX
    simp -implicitDefEqProofs only[go_sem,hT,hz,za6,za4,za7,zc0,zb3,anD,n1,n2,n3,n4,n5,n6,m1,m2,m3,m4,m5,m6,za2]
    refine⟨(k+1,g'),⟨by simp only; omega,psh hz0,hX⟩,by simp only; omega, ?_, ?_⟩
    ·rw[zc1 (by omega) (by omega)]; simp
    ·rw[Go.AL.set_comm (b:=b4) (a:=b12) (σ:=((({}:St).set b4 (eFr g)).set b5 (eIn i)).set b8 zFr) m5,set3 ne1 ne2]
     exact le_add (by simp[has_set,m1,m2,m3,m4,m5,m6,St.not_has_nil])
   ·rw[if_pos (by omega)] at hX
    rw[←hX,fr_fr0]
    simp -implicitDefEqProofs only[go_sem,hT,hz,zb9,za6,za4,za7,zc0,zb5,zb3,anD,n1,n2,n3,n4,n5,n6,m1,m2,m3,m4,m5,m6,za2,za5]
  ·have h1:((k:Int)<gs.length)=False:=by simp; omega
   rw[List.drop_eq_nil_of_le (by omega),pushAll] at hX
   rw[←hX]
   simp -implicitDefEqProofs only[go_sem,hT,h1,za6,za4,za7,zb3,anD,zc0,n1,n2,n3,n4,n5,n6,za5,za2]
   exact DLe.refl _
open Go.Proofs
def givesV (g:Gv) (had:List Ty):List Ty:=
 match g with
 | .no=>[]
 | .const l=>l
 | .dup=>[had.headD 0,had.headD 0]
 | .swap=>[(had[1]?).getD 0,had.headD 0]
theorem callK_gv {N:Nat} {d:Option Nat} {st:Bool} {K:Env→St→Prop} {Q:XA→Env→St→Prop} {T:Env} {σ:St} {B:List Nat} {f:Ef} (hf:okEf f) (l:List Ty) (hl:l.length=f.takes.length) (o:Own)
  (hk:putK N d (.slice .no (rws eT (givesV f.gives l))) K T σ):callK Tryz.prog N B st d (eG f.gives) [.slice o (rws eT l)] K Q T σ:=by
 obtain⟨ws,g⟩:=f
 cases g with
 |no=>exact hf.elim
 |const c=>exact za3 (gives184 _ _) hk
 |dup=>
  have h0:0<l.length:=by rw[hl]; exact hf
  refine za3 (dup156 l o h0) ?_
  simp only[givesV] at hk
  rw[show l.headD 0=l[0] by cases l with|nil=>simp at h0|cons a b=>rfl] at hk
  exact hk
 |swap=>
  have h0:1<l.length:=by rw[hl]; exact hf
  refine za3 (swap157 l o h0) ?_
  simp only[givesV] at hk
  rw[show l.headD 0=l[0] by cases l with|nil=>simp at h0|cons a b=>rfl,List.getElem?_eq_getElem h0] at hk
  exact hk
def locOp (i:Ins):Prop:=i.op.val=4∨i.op.val=5
instance (i:Ins):Decidable (locOp i):=by unfold locOp; infer_instance
def applyF (e:En) (f:Fr) (i:Ins):Fr×Nat:=
 if canB e=false then(fr0 0,1)
 else if checkF e.cs.length f≠0 then(fr0 0,checkF e.cs.length f)
 else if(toldF e i).2≠0 then(fr0 0,(toldF e i).2)
 else if locOp i∧¬(0≤i.a∧i.a<f.loc) then(fr0 0,33)
 else if(takenF e.cs f (toldF e i).1.takes).2≠0 then(fr0 0,(takenF e.cs f (toldF e i).1.takes).2)
 else if i.op.val=4 then(if slAt f i.a.toNat=0 then(fr0 0,70) else behindF i f (takenF e.cs f (toldF e i).1.takes).1 [slAt f i.a.toNat])
 else behindF i f (takenF e.cs f (toldF e i).1.takes).1 (givesV (toldF e i).1.gives (takenF e.cs f (toldF e i).1.takes).1)
theorem checkF_shape {n:Nat} {f:Fr} (h:checkF n f=0):shapedB f=true:=by
 unfold checkF at h
 split at h
 ·cases h
 ·rename_i h1; cases hs:shapedB f
  ·exact absurd (.inl hs) h1
  ·rfl
theorem takenF_ok {l:List Cl} {f:Fr} {ws:List Wn} (h:(takenF l f ws).2=0):(takenF l f ws).1=hadL f ws.length∧(ws.length:Int)≤f.h:=by
 unfold takenF at h ⊢
 split at h
 ·cases h
 ·rename_i h1
  rw[if_neg h1]
  split at h
  ·cases h
  ·rename_i h2; rw[if_neg h2]; exact⟨rfl,by omega⟩
theorem told_lt {e:En} {i:Ins} (h:(toldF e i).2=0):i.op.val<34:=by
 by_cases h1:34≤i.op.val
 ·rw[toldF,if_pos h1] at h; cases h
 ·omega
theorem told_store {e:En} {i:Ins} (h:i.op.val=5):(toldF e i).1.takes.length=1:=by
 rw[toldF,if_neg (by omega),h]; rfl
theorem givesV_len {g:Gv} {had:List Ty}:(givesV g had).length=givesN g:=by cases g <;> rfl
theorem tellF_gives (e:En) (i:Ins) (op:Nat) (h:op<34):givesN (tellF e i (tlOf op)).1.gives≤2:=by
 have gv:∀g:Gv,(∀l,g= .const l→l.length≤2)→givesN g≤2:=fun g hg=>by cases g <;> simp[givesN] <;> exact hg _ rfl
 have fixedOk:∀ws g,tlOf op= .fixed ws g→givesN g≤2→givesN (tellF e i (tlOf op)).1.gives≤2:=fun ws g he hk=>by rw[he]; exact hk
 have hcall:tlOf op= .call→givesN (tellF e i (tlOf op)).1.gives≤2:=fun he=>by
  rw[he]; simp only[tellF]; split
  ·simp only[givesN]; split <;> simp
  ·simp[ef0,givesN]
 have hret:tlOf op= .ret→givesN (tellF e i (tlOf op)).1.gives≤2:=fun he=>by
  rw[he]; simp only[tellF]; split <;> simp[ef0,givesN]
 have hcls:∀ws c,tlOf op= .classed ws c→givesN (tellF e i (tlOf op)).1.gives≤2:=fun ws c he=>by
  rw[he]; simp only[tellF]; split <;> simp[ef0,givesN]
 have hfld:∀p,tlOf op= .field p→givesN (tellF e i (tlOf op)).1.gives≤2:=fun p he=>by
  rw[he]; simp only[tellF]; split
  ·split <;> simp[givesN]
  ·simp[ef0,givesN]
 have:op=0∨op=1∨op=2∨op=3∨op=4∨op=5∨op=6∨op=7∨op=8∨op=9∨op=10∨op=11∨op=12∨op=13∨op=14∨op=15∨op=16∨op=17∨op=18∨op=19∨op=20∨op=21∨op=22∨op=23∨op=24∨op=25∨op=26∨op=27∨op=28∨op=29∨op=30∨op=31∨op=32∨op=33:=by omega
 rcases this with h|h|h|h|h|h|h|h|h|h|h|h|h|h|h|h|h|h|h|h|h|h|h|h|h|h|h|h|h|h|h|h|h|h <;> subst h <;> first
  |exact fixedOk _ _ rfl (by simp[givesN])
  |exact hcall rfl
  |exact hret rfl
  |exact hcls _ _ rfl
  |exact hfld _ rfl
theorem ef_0 (f:Ef):(eEf f)[0]? =some (.slice .no (rws eW f.takes)):=rfl
theorem ef_1 (f:Ef):(eEf f)[1]? =some (eG f.gives):=rfl
def bYdaZ0:=aI @zb9 (aI @zc0 (aI @zb5 (aI @zb3 (aI @zb6 (aI @zb8 (aI @za6 (aI @za8 (aI @zb1 (aI @za4 (aI @za7 @anD))))))))))
def bYdaZ1:=aI @zb9 (aI @zc0 (aI @zb5 (aI @zb3 (aI @zb6 (aI @zb8 (aI @za6 (aI @za8 (aI @zb1 (aI @za4 (aI @za7 (aI @anD (aI @za2 @za5))))))))))))
def bYdaZ2:=aI @zb9 (aI @zc0 (aI @zb5 (aI @zb3 (aI @zb6 (aI @zb8 (aI @za6 (aI @za8 (aI @zb1 (aI @za4 (aI @za7 (aI @anD (aI @ef_0 (aI @ef_1 (aI @fr_0 (aI @gdD (aI @za2 (aI @za5 @eEf_len)))))))))))))))))
theorem apply39 (e:En) (f:Fr) (i:Ins) (hw:WideE e):PCall Tryz.prog 144 [.agg (eEn e),.agg (eFr f),.agg (eIn i)] (.tup [.agg (eFr (applyF e f i).1),.int .i64 (applyF e f i).2]):=by
 have i1:(eIn i)[1]? =some (.int .u8 i.op.val):=rfl
 have i2:(eIn i)[2]? =some (.int .i64 i.a):=rfl
 have e0:(eEn e)[0]? =some (.slice .no (rws eC e.cs)):=rfl
 refine F144.pcall' rfl fun T hT=> ?_
 simp -implicitDefEqProofs only[go_sem,c144,hT,bYdaZ0]
 intro b3 b4 n1 n2 b5 n3 n4 n5 n6 b6 n7 n8 n9 n10 n11 n12
 simp -implicitDefEqProofs only[go_sem,hT,n1,n2,n3,n4,n5,n6,n7,n8,n9,n10,n11,n12,bYdaZ0]
 refine za3 (environment80 e hw) ?_
 cases hcan:canB e
 ·simp -implicitDefEqProofs only[go_sem,hT,n1,n2,n3,n4,n5,n6,n7,n8,n9,n10,n11,n12,bYdaZ1]
  rw[applyF,if_pos hcan,fr_fr0]
  exact DLe.refl _
 have hc:=canB_can hw hcan
 simp -implicitDefEqProofs only[go_sem,hT,zb9,zc0,zb5,zb3,zb6,zb8,za6,za8,zb1,za4,za7,anD,n1,n2,n3,n4,n5,n6,n7,n8,n9,n10,n11,n12,e0,gdD]
 refine za3 (check81 e.cs .no f) ?_
 by_cases hck:checkF e.cs.length f=0
 case neg=>
  have hck':((checkF e.cs.length f:Int)=0)=False:=by simp; omega
  simp -implicitDefEqProofs only[go_sem,hT,n1,n2,n3,n4,n5,n6,n7,n8,n9,n10,n11,n12,hck',bYdaZ1]
  rw[applyF,if_neg (by simp[hcan]),if_pos hck,fr_fr0]
  exact DLe.refl _
 have hck':((checkF e.cs.length f:Int)=0)=True:=by simp; omega
 have hs:=checkF_shape hck
 have ha:applyF e f i=if(toldF e i).2≠0 then(fr0 0,(toldF e i).2)
   else if locOp i∧¬(0≤i.a∧i.a<f.loc) then(fr0 0,33)
   else if(takenF e.cs f (toldF e i).1.takes).2≠0 then(fr0 0,(takenF e.cs f (toldF e i).1.takes).2)
   else if i.op.val=4 then(if slAt f i.a.toNat=0 then(fr0 0,70) else behindF i f (takenF e.cs f (toldF e i).1.takes).1 [slAt f i.a.toNat])
   else behindF i f (takenF e.cs f (toldF e i).1.takes).1 (givesV (toldF e i).1.gives (takenF e.cs f (toldF e i).1.takes).1):=by
  rw[applyF,if_neg (by simp[hcan]),if_neg (by simp[hck])]
 rw[ha]
 simp -implicitDefEqProofs only[go_sem,hT,n1,n2,n3,n4,n5,n6,n7,n8,n9,n10,n11,n12,hck',bYdaZ0]
 refine za3 (told82 e i hc) ?_
 have hst:(toldF e i).2=0→i.op.val=5→(toldF e i).1.takes.length=1:=fun _ h=>told_store h
 have hok:(toldF e i).2=0→okEf (toldF e i).1∧(toldF e i).1.takes.length≤8:=fun h0=>by
  have h34:=told_lt h0
  rw[toldF,if_neg (by omega)] at h0 ⊢
  exact tellF_ok e i hc i.op.val h34 h0
 have hlt:=told_lt (e:=e) (i:=i)
 have hgl:(toldF e i).2=0→∀had,(givesV (toldF e i).1.gives had).length≤1000:=fun h0 had=>by
  have h34:=told_lt h0
  have:=tellF_gives e i i.op.val h34
  rw[givesV_len,toldF,if_neg (by omega)]; omega
 generalize toldF e i=F at *
 clear ha hlt
 simp -implicitDefEqProofs only[go_sem,hT,zb9,zc0,zb5,zb3,zb6,zb8,za6,za8,zb1,za4,za7,anD,n1,n2,n3,n4,n5,n6,n7,n8,n9,n10,n11,n12,eEf_len]
 intro b9 m1 m2 m3 m4 m5 m6 m7 m8
 by_cases h0:F.2=0
 case neg=>
  have h0':((F.2:Int)=0)=False:=by simp; omega
  rw[if_pos h0,fr_fr0]
  simp -implicitDefEqProofs only[go_sem,mmB,hT,n1,n2,n3,n4,n5,n6,n7,n8,n9,n10,n11,n12,m1,m2,m3,m4,m5,m6,m7,m8,i1,i2,e0,h0',bYdaZ2]
 have h0':((F.2:Int)=0)=True:=by simp; omega
 replace hok:=hok h0
 replace hgl:=hgl h0
 replace hst:=hst h0
 rw[if_neg (show ¬F.2≠0 by simp[h0])]
 by_cases hl:locOp i∧¬(0≤i.a∧i.a<f.loc)
 ·have hq:((decide ((i.op.val:Int)=4)||decide ((i.op.val:Int)=5))&&(decide (i.a<0)||decide (f.loc≤i.a)))=true:=by
   simp only[Bool.and_eq_true,Bool.or_eq_true,decide_eq_true_eq]; unfold locOp at hl; omega
  rw[if_pos hl,fr_fr0]
  simp -implicitDefEqProofs only[go_sem,mmB,hT,n1,n2,n3,n4,n5,n6,n7,n8,n9,n10,n11,n12,m1,m2,m3,m4,m5,m6,m7,m8,i1,i2,e0,h0',hq,bYdaZ2]
  exact DLe.refl _
 have hq:((decide ((i.op.val:Int)=4)||decide ((i.op.val:Int)=5))&&(decide (i.a<0)||decide (f.loc≤i.a)))=false:=by
  rw[←Bool.not_eq_true]
  simp only[Bool.and_eq_true,Bool.or_eq_true,decide_eq_true_eq]; unfold locOp at hl; omega
 rw[if_neg hl]
 simp -implicitDefEqProofs only[go_sem,mmB,hT,n1,n2,n3,n4,n5,n6,n7,n8,n9,n10,n11,n12,m1,m2,m3,m4,m5,m6,m7,m8,i1,i2,e0,h0',hq,bYdaZ2]
 refine za3 (taken83 e.cs .no .no f F.1.takes hs (by have:=hc.wide.1.1; omega)) ?_
 have htk:=takenF_ok (l:=e.cs) (f:=f) (ws:=F.1.takes)
 generalize takenF e.cs f F.1.takes=H at *
 by_cases h1:H.2=0
 case neg=>
  have h1':((H.2:Int)=0)=False:=by simp; omega
  rw[if_pos h1,fr_fr0]
  simp -implicitDefEqProofs only[go_sem,hT,n1,n2,n3,n4,n5,n6,n7,n8,n9,n10,n11,n12,m1,m2,m3,m4,m5,m6,m7,m8,i1,i2,e0,h1',bYdaZ2]
 have h1':((H.2:Int)=0)=True:=by simp; omega
 obtain⟨hH,hle⟩:=htk h1
 have hHl:H.1.length=F.1.takes.length:=by rw[hH,hadL_len]
 rw[if_neg (show ¬H.2≠0 by simp[h1])]
 simp -implicitDefEqProofs only[go_sem,hT,n1,n2,n3,n4,n5,n6,n7,n8,n9,n10,n11,n12,m1,m2,m3,m4,m5,m6,m7,m8,i1,i2,e0,h1',bYdaZ2]
 refine callK_gv hok.1 H.1 hHl _ ?_
 by_cases o4:i.op.val=4
 ·have o4':(i.op.val:Int)=4:=by omega
  have hla:0≤i.a∧i.a<f.loc:=by unfold locOp at hl; omega
  rw[if_pos o4]
  simp -implicitDefEqProofs only[go_sem,hT,n1,n2,n3,n4,n5,n6,n7,n8,n9,n10,n11,n12,m1,m2,m3,m4,m5,m6,m7,m8,i1,i2,e0,o4',bYdaZ2]
  refine za3 (load84 f hs i.a hla.1 hla.2) ?_
  by_cases hz:slAt f i.a.toNat=0
  ·have hz':(((slAt f i.a.toNat).val:Int)=0)=True:=by simp[hz]
   rw[if_pos hz,fr_fr0]
   simp -implicitDefEqProofs only[go_sem,hT,n1,n2,n3,n4,n5,n6,n7,n8,n9,n10,n11,n12,m1,m2,m3,m4,m5,m6,m7,m8,i1,i2,e0,o4',hz',bYdaZ2]
   exact DLe.refl _
  have hz':(((slAt f i.a.toNat).val:Int)=0)=False:=by simp; rw[Fin.ext_iff] at hz; simpa using hz
  rw[if_neg hz]
  simp -implicitDefEqProofs only[go_sem,hT,n1,n2,n3,n4,n5,n6,n7,n8,n9,n10,n11,n12,m1,m2,m3,m4,m5,m6,m7,m8,i1,i2,e0,o4',hz',frz,bYdaZ2]
  refine za3 (behind85 i f H.1 [slAt f i.a.toNat] _ _ hs (by rw[hHl]; exact hle) (by simp) (by omega)) ?_
  simp -implicitDefEqProofs only[go_sem,hT,n1,n2,n3,n4,n5,n6,n7,n8,n9,n10,n11,n12,m1,m2,m3,m4,m5,m6,m7,m8,i1,i2,e0,bYdaZ2]
 have o4':((i.op.val:Int)=4)=False:=by simp; omega
 rw[if_neg o4]
 simp -implicitDefEqProofs only[go_sem,hT,n1,n2,n3,n4,n5,n6,n7,n8,n9,n10,n11,n12,m1,m2,m3,m4,m5,m6,m7,m8,i1,i2,e0,o4',bYdaZ2]
 refine za3 (behind85 i f H.1 (givesV F.1.gives H.1) _ _ hs (by rw[hHl]; exact hle) (hgl _) (fun h5=> ?_)) ?_
 ·have:=hst h5
  unfold locOp at hl; omega
 simp -implicitDefEqProofs only[go_sem,hT,n1,n2,n3,n4,n5,n6,n7,n8,n9,n10,n11,n12,m1,m2,m3,m4,m5,m6,m7,m8,i1,i2,e0,bYdaZ2]
end Go.AL
