import Derived.Test.YtobmoajkfbigkaaGreatSp
import Derived.Test.YtobmoajkfbigkaaGreatSm
import Derived.Test.YtobmoajkfbigkaaGreatSl
import Derived.Test.YtobmoajkfbigkaaGreatSn
import Derived.Test.YtobmoajkfbigkaaGreatSo
import Derived.Test.YtobmoajkfbigkaaGreatSi
import Derived.Test.YtobmoajkfbigkaaGreatSj
import Derived.Test.YtobmoajkfbigkaaGreatSk
import Derived.Test.YtobmoajkfbigkaaGreatSe
set_option linter.unusedSimpArgs false
set_option linter.unusedVariables false
set_option maxRecDepth 100000
set_option maxHeartbeats 4000000
set_option linter.defProp false
namespace Go.AL
open Go.Proofs
def overAt (tk:List Nat) (a size x:Nat):Bool:=decide (0<(tk[x]?).getD 0∧x≠a∧a<x+(tk[x]?).getD 0∧x<a+size)
theorem over_yes {tk:List Nat} {a size x:Nat} (hx:x<tk.length) (h:overAt tk a size x=true):overB tk a size=true:=by
 unfold overB
 exact List.any_eq_true.2 ⟨x,List.mem_range.2 hx,h⟩
theorem over_no {tk:List Nat} {a size:Nat} (h:∀x<tk.length,overAt tk a size x=false):overB tk a size=false:=by
 unfold overB
 rw[List.any_eq_false]
 intro x hx
 rw[Bool.not_eq_true]
 exact h x (List.mem_range.1 hx)
theorem overlaps111 (q:QB) (h:q.ne) (s:IS) (m:Nat) (hs:s.sz m) (hm:m≤5000) (a size:Nat) (ha:a≤5000) (hz:size≤5000) (ht:∀x<m,(s.tk[x]?).getD 0≤5000):
  RCall Tryz.prog 111 [.agg (stD q m),.int .i64 a,.int .i64 size] (stI q s) fun d s'=>d= .bool (overB s.tk a size)∧s'=stI q s:=by
 have kc:=stI_d (q:=q) (s:=s)
 refine F111.rcall rfl fun T hT=> ?_
 simp -implicitDefEqProofs only[go_sem,c111,hT,stD]
 intro b1 hb1
 obtain⟨n1,n2,n3,n4⟩:=stI_ne hb1
 have k1:((stI q s).set b1 [.bsl q.a 0 m m,.bsl q.b 0 m m,.bsl q.c 0 m m,.bsl q.d 0 m m]).box q.d=some (fl eN s.tk):=by rw[St.set_box,if_neg (Ne.symm n4)]; exact kc
 refine loopL F111 (fun i:Nat=>[(1,.int .i64 a),(2,.int .i64 size),(3,.ptr b1 0),(7,.int .i64 i)]) (fun _=>(stI q s).set b1 [.bsl q.a 0 m m,.bsl q.b 0 m m,.bsl q.c 0 m m,.bsl q.d 0 m m]) (fun i=>i≤m∧∀j<i,overAt s.tk a size j=false) (fun i=>m-i) 0 ⟨by omega,by omega⟩ ?_ (St.le.refl _) ?_
 ·simp -implicitDefEqProofs only[go_sem,hT,Int.ofNat_zero]
 clear hT T
 intro i ⟨hi,hl⟩ T hT
 by_cases h1:i<m
 ·have h2:((i:Int)<m)=True:=eq_true (by omega)
  have hx:=fl_eNAt (xs:=s.tk) (i:=i) (by rw[hs.d]; exact h1)
  have hti:=ht i h1
  generalize htx:(s.tk[i]?).getD 0=z at *
  have w1:IntKind.wrap .i64 ((i:Int)+z)=(i:Int)+z:=zc1 (by omega) (by omega)
  have w2:IntKind.wrap .i64 ((a:Int)+size)=(a:Int)+size:=zc1 (by omega) (by omega)
  have hnext:IntKind.wrap .i64 ((i:Int)+1)=((i+1:Nat):Int):=by rw[zc1 (by omega) (by omega)]; simp
  simp -implicitDefEqProofs only[go_sem,mmB,hT,h2,k1,hx,w1,w2,hnext,n1,n2,n3,n4,Ne.symm n1,Ne.symm n2,Ne.symm n3,Ne.symm n4,gdD,Nat.mul_one,Nat.add_zero,Nat.zero_add]
  refine⟨by omega, ?_, ?_⟩
  ·intro _; omega
  rw[show(decide ((0:Int)<z)&& !decide ((i:Int)=a)&&decide ((a:Int)<i+z)&&decide ((i:Int)<a+size))=overAt s.tk a size i by
   unfold overAt; rw[htx,Bool.eq_iff_iff]; simp; omega]
  cases hc:overAt s.tk a size i
  ·simp -implicitDefEqProofs only[go_sem,hT,hnext]
   refine⟨i+1,⟨by omega,fun j hj=> ?_⟩,by omega,rfl,St.le.refl _⟩
   rcases Nat.lt_succ_iff_lt_or_eq.1 hj with h|rfl
   ·exact hl j h
   ·exact hc
  ·simp -implicitDefEqProofs only[go_sem,hT]
   exact⟨_,_,DLe.refl _,le_add hb1,by rw[over_yes (by rw[hs.d]; exact h1) hc],rfl⟩
 ·have h2:((i:Int)<m)=False:=eq_false (by omega)
  simp -implicitDefEqProofs only[go_sem,mmB,hT,h2,k1,n1,n2,n3,n4,Ne.symm n1,Ne.symm n2,Ne.symm n3,Ne.symm n4]
  exact⟨_,_,DLe.refl _,le_add hb1,by rw[over_no (fun j hj=>hl j (by rw[hs.d] at hj; omega))],rfl⟩
theorem on112 (i:Ins) (n:Nat) (hp:0≤i.pos∧i.pos≤5000):PCall Tryz.prog 112 [.agg (eIn i),.int .i64 n] (.tup [.slice .no (rws eI (onD i n).1),.int .i64 (onD i n).2]):=by
 have hsz:=sizeOp_le i.op.val
 have w1:IntKind.wrap .i64 (i.pos+(zf1 i.op.val:Int))=i.pos+zf1 i.op.val:=zc1 (by omega) (by omega)
 refine F112.pcall' rfl fun T hT=> ?_
 simp -implicitDefEqProofs only[go_sem,mmB,c112,hT,eIn]
 intro b2
 refine⟨fun _ h=>h,za3 (refSize74 i.op) ?_⟩
 simp -implicitDefEqProofs only[go_sem,mmB,hT,w1]
 refine za3 (refJumps22 i.op) ?_
 simp -implicitDefEqProofs only[go_sem,mmB,hT]
 refine za3 (refEnds41 i.op) ?_
 by_cases ht:jumpsB i.op.val=true∧(n:Int)≤i.a
 ·obtain⟨hj,hn⟩:=ht
  have h1:((n:Int)≤i.a)=True:=eq_true hn
  rw[show onD i n=([],50) by rw[onD,if_pos ⟨hj,hn⟩]]
  simp -implicitDefEqProofs only[go_sem,mmB,hT,hj,h1]
  exact DLe.tup (.cons (DLe.slice _ _) (.cons (DLe.refl _) .nil))
 have h0:(jumpsB i.op.val&&decide ((n:Int)≤i.a))=false:=by rw[Bool.eq_false_iff]; simpa using ht
 by_cases hf:endsB i.op.val=false∧i.pos+(zf1 i.op.val:Int)=n
 ·obtain⟨hj,hn⟩:=hf
  rw[show onD i n=([],51) by rw[onD,if_neg ht,if_pos ⟨hj,hn⟩]]
  have h1:(i.pos+(zf1 i.op.val:Int)=n)=True:=eq_true hn
  simp -implicitDefEqProofs only[go_sem,mmB,hT,h0,hj,h1]
  exact DLe.tup (.cons (DLe.slice _ _) (.cons (DLe.refl _) .nil))
 cases hj:jumpsB i.op.val <;> cases he:endsB i.op.val
 ·have h1:(i.pos+(zf1 i.op.val:Int)=n)=False:=eq_false fun h=>hf ⟨he,h⟩
  rw[show onD i n=([i.pos+(zf1 i.op.val:Int)],0) by rw[onD,if_neg ht,if_neg hf,hj,he]; simp]
  simp -implicitDefEqProofs only[go_sem,mmB,hT,hj,he,h1,frz]
  exact⟨fun r h=>by rw[h]; rfl,fun _ _ _=>DLe.tup (.cons (DLe.slice _ _) (.cons (DLe.refl _) .nil))⟩
 ·rw[show onD i n=([],0) by rw[onD,if_neg ht,if_neg hf,hj,he]; simp]
  simp -implicitDefEqProofs only[go_sem,mmB,hT,hj,he]
  exact DLe.tup (.cons (DLe.slice _ _) (.cons (DLe.refl _) .nil))
 ·have h1:((n:Int)≤i.a)=False:=eq_false fun h=>ht ⟨hj,h⟩
  have h2:(i.pos+(zf1 i.op.val:Int)=n)=False:=eq_false fun h=>hf ⟨he,h⟩
  have hD:onD i n=((if i.a<i.pos+(zf1 i.op.val:Int) then [i.a] else [])++[i.pos+(zf1 i.op.val:Int)]++(if i.pos+(zf1 i.op.val:Int)<i.a then [i.a] else []),0):=by
   rw[onD,if_neg ht,if_neg hf,hj,he]; simp
  rw[hD]
  by_cases c1:i.a<i.pos+(zf1 i.op.val:Int)
  ·rw[if_pos c1,if_neg (by omega)]
   have d1:(i.a<i.pos+(zf1 i.op.val:Int))=True:=eq_true c1
   have d2:(i.pos+(zf1 i.op.val:Int)<i.a)=False:=eq_false (by omega)
   simp -implicitDefEqProofs only[go_sem,mmB,hT,hj,he,h1,h2,d1,frz,d2]
   exact⟨fun r h=>by rw[h]; rfl,fun _ _ _=>⟨fun r h=>by rw[h]; rfl,fun _ _ _=>DLe.tup (.cons (DLe.slice _ _) (.cons (DLe.refl _) .nil))⟩⟩
  by_cases c2:i.pos+(zf1 i.op.val:Int)<i.a
  ·rw[if_neg c1,if_pos c2]
   have d1:(i.a<i.pos+(zf1 i.op.val:Int))=False:=eq_false c1
   have d2:(i.pos+(zf1 i.op.val:Int)<i.a)=True:=eq_true c2
   simp -implicitDefEqProofs only[go_sem,mmB,hT,hj,he,h1,h2,d1,frz,d2]
   exact⟨fun r h=>by rw[h]; rfl,fun _ _ _=>⟨fun r h=>by rw[h]; rfl,fun _ _ _=>DLe.tup (.cons (DLe.slice _ _) (.cons (DLe.refl _) .nil))⟩⟩
  ·rw[if_neg c1,if_neg c2]
   have d1:(i.a<i.pos+(zf1 i.op.val:Int))=False:=eq_false c1
   have d2:(i.pos+(zf1 i.op.val:Int)<i.a)=False:=eq_false c2
   simp -implicitDefEqProofs only[go_sem,mmB,hT,hj,he,h1,h2,d1,frz,d2]
   exact⟨fun r h=>by rw[h]; rfl,fun _ _ _=>DLe.tup (.cons (DLe.slice _ _) (.cons (DLe.refl _) .nil))⟩
 ·have h1:((n:Int)≤i.a)=False:=eq_false fun h=>ht ⟨hj,h⟩
  rw[show onD i n=([i.a],0) by rw[onD,if_neg ht,if_neg hf,hj,he]; simp]
  simp -implicitDefEqProofs only[go_sem,mmB,hT,hj,he,h1,frz]
  exact⟨fun r h=>by rw[h]; rfl,fun _ _ _=>DLe.tup (.cons (DLe.slice _ _) (.cons (DLe.refl _) .nil))⟩
open Go.Proofs
section
variable {q : QB} {s : IS}
theorem stI_setA (h:q.ne) (v:List Bool):(stI q s).set q.a (fl eBo v)=stI q ⟨v,s.fr,s.fresh,s.tk⟩:=by
 unfold stI
 rw[set_comm (Ne.symm h.ad),set_comm (Ne.symm h.ac),set_comm (Ne.symm h.ab),za2]
theorem stI_setB (h:q.ne) (v:List Fr):(stI q s).set q.b (fl eFr v)=stI q ⟨s.has,v,s.fresh,s.tk⟩:=by
 unfold stI
 rw[set_comm (Ne.symm h.bd),set_comm (Ne.symm h.bc),za2]
theorem stI_setC (h:q.ne) (v:List Bool):(stI q s).set q.c (fl eBo v)=stI q ⟨s.has,s.fr,v,s.tk⟩:=by
 unfold stI
 rw[set_comm (Ne.symm h.cd),za2]
theorem stI_setD (v:List Nat):(stI q s).set q.d (fl eN v)=stI q ⟨s.has,s.fr,s.fresh,v⟩:=by
 unfold stI
 rw[za2]
end
def bYhbD0:=aI @zb8 (aI @zc0 (aI @zb3 (aI @zb2 (aI @za5 (aI @za4 (aI @fr_0 (aI @fr_1 @gdD)))))))
theorem hand113 (q:QB) (h:q.ne) (s:IS) (m:Nat) (hs:s.sz m) (hm:m≤5000) (l:List Cl) (o:Own) (hf:Falls l l.length) (hl:l.length*48≤140737488355328) (a:Nat) (ha:a<m) (f:Fr):
  RCall Tryz.prog 113 [.agg (stD q m),.slice o (rws eC l),.int .i64 a,.agg (eFr f)] (stI q s) fun d s'=>d= .int .i64 (handD l s a f).2∧s'=stI q (handD l s a f).1:=by
 have ka:=stI_a (s:=s) h
 have kb:=stI_b (s:=s) h
 have kc:=stI_c (s:=s) h
 refine F113.rcall rfl fun T hT=> ?_
 simp -implicitDefEqProofs only[go_sem,mmB,c113,hT,stD,bYhbD0]
 intro b4 hb4 b7 n7 n8 hb7
 obtain⟨n1,n2,n3,n4⟩:=stI_ne hb4
 obtain⟨p1,p2,p3,p4⟩:=stI_ne hb7
 have hx:=fl_boAt (xs:=s.has) (i:=a) (by rw[hs.a]; exact ha)
 have hfl:(fl eFr s.fr).length=m*26:=by rw[fl_len za5,hs.b]
 have hget:((fl eFr s.fr).drop (a*26)).take 26=eFr ((s.fr[a]?).getD (fr0 0)):=by
  rw[fl_at za5 (by rw[hs.b]; exact ha),List.getElem?_eq_getElem (by rw[hs.b]; exact ha)]; rfl
 have hput:∀g,(fl eFr s.fr).take (a*26)++eFr g++(fl eFr s.fr).drop (a*26+26)=fl eFr (s.fr.set a g):=fun g=>fl_set za5 (by rw[hs.b]; exact ha) g
 have hpa:∀g,(fl eBo s.has).take a++[D.bool g]++(fl eBo s.has).drop (a+1)=fl eBo (s.has.set a g):=fun g=>by
  have:=fl_set (enc:=eBo) (s:=1) (fun x=>rfl) (xs:=s.has) (i:=a) (by rw[hs.a]; exact ha) g
  rwa[Nat.mul_one] at this
 have hpc:∀g,(fl eBo s.fresh).take a++[D.bool g]++(fl eBo s.fresh).drop (a+1)=fl eBo (s.fresh.set a g):=fun g=>by
  have:=fl_set (enc:=eBo) (s:=1) (fun x=>rfl) (xs:=s.fresh) (i:=a) (by rw[hs.c]; exact ha) g
  rwa[Nat.mul_one] at this
 have hla:(fl eBo s.has).length=m:=by rw[fl_len (s:=1) (fun x=>rfl),hs.a,Nat.mul_one]
 have hlc:(fl eBo s.fresh).length=m:=by rw[fl_len (s:=1) (fun x=>rfl),hs.c,Nat.mul_one]
 have base:St.le (stI q s) (((stI q s).set b4 [.bsl q.a 0 m m,.bsl q.b 0 m m,.bsl q.c 0 m m,.bsl q.d 0 m m]).set b7 (eFr f)):=(le_add hb4).trans (le_add (by rw[set_has]; exact fun h=>h.elim n7 hb7))
 have hfa:(26≤((fl eFr s.fr).drop (a*26)).length)=True:=eq_true (by rw[List.length_drop,hfl]; omega)
 cases hh:(s.has[a]?).getD false
 ·have hD:handD l s a f=(⟨s.has.set a true,s.fr.set a f,s.fresh.set a true,s.tk⟩,0):=by rw[handD,if_pos hh]
  simp -implicitDefEqProofs only[go_sem,mmB,hT,n1,n2,n3,n4,Ne.symm n1,Ne.symm n2,Ne.symm n3,Ne.symm n4,p1,p2,p3,p4,Ne.symm p1,Ne.symm p2,Ne.symm p3,Ne.symm p4,n7,n8,h.ab,h.ac,h.bc,Ne.symm h.ab,Ne.symm h.ac,Ne.symm h.bc,Nat.mul_one,Nat.add_zero,Nat.zero_add,ka,kb,kc,hx,hh,bYhbD0]
  refine⟨⟨by omega,by omega⟩, ?_⟩
  simp -implicitDefEqProofs only[go_sem,mmB,hT,n1,n2,n3,n4,Ne.symm n1,Ne.symm n2,Ne.symm n3,Ne.symm n4,p1,p2,p3,p4,Ne.symm p1,Ne.symm p2,Ne.symm p3,Ne.symm p4,n7,n8,h.ab,h.ac,h.bc,Ne.symm h.ab,Ne.symm h.ac,Ne.symm h.bc,Nat.mul_one,Nat.add_zero,Nat.zero_add,ka,kb,kc,hx,hh,hput,hpa,hpc,hla,hlc,hfl,bYhbD0]
  refine⟨fun b hb hc=> ?_,⟨by omega,by omega⟩,by omega,⟨by omega,by omega⟩,by omega,⟨by omega,by omega⟩,by omega,_,_,DLe.refl _, ?_,by rw[hD]; rfl,rfl⟩
  ·rcases hb with rfl|rfl
   ·exact hc.2.1 rfl
   ·exact hc.1 rfl
  rw[hD]
  have:=le_set (b:=q.c) (cs:=fl eBo (s.fresh.set a true)) (le_set (b:=q.b) (cs:=fl eFr (s.fr.set a f)) (le_set (b:=q.a) (cs:=fl eBo (s.has.set a true)) base))
  rw[stI_setA h,stI_setB h,stI_setC h] at this
  exact this
 ·simp -implicitDefEqProofs only[go_sem,mmB,hT,n1,n2,n3,n4,Ne.symm n1,Ne.symm n2,Ne.symm n3,Ne.symm n4,p1,p2,p3,p4,Ne.symm p1,Ne.symm p2,Ne.symm p3,Ne.symm p4,n7,n8,h.ab,h.ac,h.bc,Ne.symm h.ab,Ne.symm h.ac,Ne.symm h.bc,Nat.mul_one,Nat.add_zero,Nat.zero_add,ka,kb,kc,hx,hh,bYhbD0]
  refine⟨⟨by omega,by omega⟩, ?_⟩
  simp -implicitDefEqProofs only[go_sem,mmB,hT,n1,n2,n3,n4,Ne.symm n1,Ne.symm n2,Ne.symm n3,Ne.symm n4,p1,p2,p3,p4,Ne.symm p1,Ne.symm p2,Ne.symm p3,Ne.symm p4,n7,n8,h.ab,h.ac,h.bc,Ne.symm h.ab,Ne.symm h.ac,Ne.symm h.bc,Nat.mul_one,Nat.add_zero,Nat.zero_add,ka,kb,kc,hx,hh,hget,hfl,hfa,bYhbD0]
  refine⟨⟨by omega,by omega⟩, ?_⟩
  refine za3 (refMergeF151 l o _ _ hf hl) ?_
  simp -implicitDefEqProofs only[go_sem,mmB,hT,n1,n2,n3,n4,Ne.symm n1,Ne.symm n2,Ne.symm n3,Ne.symm n4,p1,p2,p3,p4,Ne.symm p1,Ne.symm p2,Ne.symm p3,Ne.symm p4,n7,n8,h.ab,h.ac,h.bc,Ne.symm h.ab,Ne.symm h.ac,Ne.symm h.bc,Nat.mul_one,Nat.add_zero,Nat.zero_add,ka,kb,kc,hx,hh,hget,hfl,hfa,bYhbD0]
  intro b9 r5 r6 r7 r8 hb9
  obtain⟨r1,r2,r3,r4⟩:=stI_ne hb9
  have hb9':∀x y,¬(((stI q s).set b4 x).set b7 y).has b9:=fun x y=>by
   rw[set_has,set_has]
   rintro(h|h|h)
   ·exact r5 h
   ·exact r7 h
   ·exact hb9 h
  by_cases he:(mergeF l ((s.fr[a]?).getD (fr0 0)) f).2=0
  case neg=>
   have he':((((mergeF l ((s.fr[a]?).getD (fr0 0)) f).2:Nat):Int)=0)=False:=eq_false (by omega)
   simp -implicitDefEqProofs only[go_sem,mmB,hT,he',za2]
   refine⟨_,_,DLe.refl _,base.trans (le_add (hb9' _ _)), ?_, ?_⟩
   ·rw[handD,if_neg (by rw[hh]; simp),if_pos he]
   ·rw[handD,if_neg (by rw[hh]; simp),if_pos he]
  have he':((((mergeF l ((s.fr[a]?).getD (fr0 0)) f).2:Nat):Int)=0)=True:=eq_true (by omega)
  simp -implicitDefEqProofs only[go_sem,mmB,hT,zb8,zc0,zb3,zb2,za5,za4,fr_0,fr_1,gdD,n1,n2,n3,n4,Ne.symm n1,Ne.symm n2,Ne.symm n3,Ne.symm n4,p1,p2,p3,p4,Ne.symm p1,Ne.symm p2,Ne.symm p3,Ne.symm p4,n7,n8,h.ab,h.ac,h.bc,Ne.symm h.ab,Ne.symm h.ac,Ne.symm h.bc,r1,r2,r3,r4,r5,r6,r7,r8,Ne.symm r1,Ne.symm r2,Ne.symm r3,Ne.symm r4,Nat.mul_one,Nat.add_zero,Nat.zero_add,ka,kb,kc,hget,hfl,hfa,he',eq_fr,za2]
  refine⟨⟨by omega,by omega⟩,fun _ b hb hc=>hc.2.2.1 hb,fun _=>⟨by omega,by omega⟩,fun _=>by omega,fun _=>⟨by omega,by omega⟩,fun _=>by rw[hlc]; omega, ?_⟩
  by_cases hm2:(mergeF l ((s.fr[a]?).getD (fr0 0)) f).1=(s.fr[a]?).getD (fr0 0)
  ·have hD:handD l s a f=(s,0):=by rw[handD,if_neg (by rw[hh]; simp),if_neg (by omega),if_neg (by simpa using hm2)]
   rw[hD,show(!decide ((mergeF l ((s.fr[a]?).getD (fr0 0)) f).1=(s.fr[a]?).getD (fr0 0)))=false by simp[hm2]]
   exact⟨_,_,DLe.refl _,base.trans (le_add (hb9' _ _)),rfl,rfl⟩
  ·have hD:handD l s a f=(⟨s.has,s.fr.set a (mergeF l ((s.fr[a]?).getD (fr0 0)) f).1,s.fresh.set a true,s.tk⟩,0):=by rw[handD,if_neg (by rw[hh]; simp),if_neg (by omega),if_pos hm2]
   rw[hD,show(!decide ((mergeF l ((s.fr[a]?).getD (fr0 0)) f).1=(s.fr[a]?).getD (fr0 0)))=true by simp[hm2],hput,hpc]
   refine⟨_,_,DLe.refl _, ?_,rfl,rfl⟩
   have:=le_set (b:=q.c) (cs:=fl eBo (s.fresh.set a true)) (le_set (b:=q.b) (cs:=fl eFr (s.fr.set a (mergeF l ((s.fr[a]?).getD (fr0 0)) f).1)) (base.trans (le_add (cs:=eFr (mergeF l ((s.fr[a]?).getD (fr0 0)) f).1) (hb9' _ _))))
   rw[stI_setB h,stI_setC h] at this
   exact this
open Go.Proofs
structure Ents (l:List Ey):Prop where
 rise:Rise l
 rng:∀x∈l,0≤x.pos∧x.pos<4096
 len:l.length≤4096
theorem getEy {l:List Ey} {i:Nat} (h:i<l.length):(rws eEy l)[i]?.getD []=eEy l[i]:=rws_at h
theorem ey_d2 (e:Ey):(eEy e).drop 2=eFr e.fr:=rfl
open Go.Proofs
theorem in_1 (i:Ins):(eIn i)[1]? =some (.int .u8 i.op.val):=rfl
theorem in_2 (i:Ins):(eIn i)[2]? =some (.int .i64 i.a):=rfl
theorem take_more {l:List Ey} {i:Nat} (h:i<l.length) {f:Ey→Prop} (hn:∀x∈l.take i,f x) (hi:f l[i]):∀x∈l.take (i+1),f x:=fun x hx=>by
 rw[List.take_succ_eq_append_getElem h] at hx
 rcases List.mem_append.1 hx with hx|hx
 ·exact hn x hx
 ·obtain rfl:=List.mem_singleton.1 hx; exact hi
open Go.Proofs
theorem can_sig {e:En} (h:canB e=true):∃hs:e.fn.toNat<e.sgs.length,0≤e.fn∧psOf e=e.sgs[e.fn.toNat].ps∧(psOf e).length≤8∧∀t∈psOf e,storedN e.cs.length t=true:=by
 unfold canB at h
 simp only[Bool.and_eq_true,decide_eq_true_eq,List.all_eq_true] at h
 obtain⟨⟨h1,h2,h3,h4⟩,h5⟩:=h
 have hs:e.fn.toNat<e.sgs.length:=by omega
 have hp:psOf e=e.sgs[e.fn.toNat].ps:=by unfold psOf; rw[List.getElem?_eq_getElem hs]; rfl
 have:=h5 _ (List.getElem_mem hs)
 unfold sigMayB at this
 simp only[Bool.and_eq_true,decide_eq_true_eq,Bool.not_eq_true',List.any_eq_false] at this
 refine⟨hs,h3,hp,by rw[hp]; exact this.1.1,fun t ht=> ?_⟩
 rw[hp] at ht
 have:=this.1.2 t ht
 simpa using this
theorem start_ok {e:En} {n:Int} (h:canB e=true) (h1:¬n<(psOf e).length) (h2:¬16<n):(startF e.cs.length (psOf e) n).2=0:=by
 obtain⟨_,_,_,h3,h4⟩:=can_sig h
 unfold startF
 rw[if_neg]
 rintro(h|h|h|h|h)
 ·omega
 ·exact h2 h
 ·omega
 ·exact h1 h
 ·simp only[List.any_eq_true,Bool.not_eq_true'] at h
  obtain⟨t,ht,h⟩:=h
  rw[h4 t ht] at h; cases h
theorem can_falls {e:En} (hw:WideE e) (h:canB e=true):Falls e.cs e.cs.length:=by
 unfold canB at h
 simp only[Bool.and_eq_true,decide_eq_true_eq] at h
 exact(check_right h.1.1).falls
theorem ct_len (c:Ct):(eCt c).length=2:=rfl
theorem ct_0 (c:Ct):(eCt c)[0]? =some (.int .i64 c.loc):=rfl
theorem ct_1 (c:Ct):(eCt c)[1]? =some (.slice .no (rws eEy c.es)):=rfl
theorem fr_ta (f:Fr) (r:List D):List.take 26 (eFr f++r)=eFr f:=List.take_left' (za5 f)
theorem fr_da (f:Fr) (r:List D):List.drop 26 (eFr f++r)=r:=List.drop_left' (za5 f)
theorem fr_db (f:Fr) (r:List D):List.drop 27 (eFr f++r)=r.drop 1:=by rw[show 27=26+1 from rfl,←List.drop_drop,fr_da]
theorem fr_la (f:Fr) (r:List D):(eFr f++r).length=26+r.length:=by rw[List.length_append,za5]
def eGh (g:Nat×List Nat):List D:=[.slice .no (rws eN g.2),.int .i64 g.1]
theorem bad_some {e:En} {l:List Ey} {i:Nat} (h:i<l.length) (hn:∀x∈l.take i,(!x.dead&&decide (checkF e.cs.length x.fr≠0))=false) (hb:(!l[i].dead&&decide (checkF e.cs.length l[i].fr≠0))=true):badE e l=some l[i]:=by
 unfold badE
 obtain⟨f,hf⟩:∃f:Ey→Bool,(fun x:Ey=> !x.dead&&decide (checkF e.cs.length x.fr≠0))=f:=⟨_,rfl⟩
 have hz:(l.take i).find? f=none:=find_none fun y hy=>by rw[←hf]; exact hn y hy
 rw[hf]
 have hsplit:l=l.take i++l[i]::l.drop (i+1):=by rw[List.getElem_cons_drop,List.take_append_drop]
 have hx:(l.take i++l[i]::l.drop (i+1)).find? f=some l[i]:=by
  rw[List.find?_append,hz,List.find?_cons_of_pos (by rw[←hf]; exact hb)]; rfl
 exact(congrArg (fun z=>List.find? f z) hsplit).trans hx
theorem ghz {x y:D}:DLe (.tup [.agg [.slice .nil [],.int .i64 0],x,y]) (.tup [.agg (eGh (0,[])),x,y]):=DLe.tup (.cons (DLe.agg (.cons (DLe.slice _ _) (.refl _))) (.refl _))
theorem checkD_some {e:En} {n:Int} {b c:List Ty} {a:Int} {w:Nat} (h:beginD e n b.length c=some (a,w)):checkD e n b c=((0,[]),a,w):=by unfold checkD; rw[h]
open Go.Proofs
def sL:Code→Code| .seq a _=>a|c=>c
def sR:Code→Code| .seq _ b=>b|c=>c
def inC:Code→Code| .block _ c=>c| .loop c=>c|c=>c
def asC:Code→Code| .rangeFunc _ _ a _=>a|c=>c
def bdC:Code→Code| .rangeFunc _ _ _ b=>b|c=>c
def opsC:Code→Array Oper| .region _ l _=>l|_=> #[]
noncomputable def k94:Code:=Tryz.f94.body.getD .skip
noncomputable def r94:Code:=inC (sR (sL (sR (sR (sR (sR k94))))))
noncomputable def as94:Code:=asC r94
noncomputable def bd94:Code:=bdC r94
noncomputable def asO:Array Oper:=opsC as94
noncomputable def bdO:Array Oper:=opsC (inC bd94)
theorem asO_is:asO.toList.map (plainO asO.toList)=[oO 9 (.alloc 86),oN (.store 86 (tT 9) (tT 26))]:=by kernel_rfl
theorem bdO_is:bdO.toList.map (plainO bdO.toList)=[oO 27 (.fieldAddr 52 (tT 8) 1),oO 28 (.load 50 (tT 27)),oO 29 (.load 86 (tT 9)),oO 30 (.buildSlice 50 1 #[(0,tT 29)]),oO 31 (cB .append #[tT 28,tT 30] #[50,50]),oO 32 (.fieldAddr 52 (tT 8) 1),oN (.store 50 (tT 32) (tT 31))]:=by kernel_rfl
noncomputable def k168:Code:=Tryz.f168.body.getD .skip
noncomputable def l168:Code:=inC (inC (inC k168))
noncomputable def a168:Code:=sL l168
noncomputable def b168:Code:=sL (sR l168)
noncomputable def bO168:Array Oper:=opsC b168
theorem a168_is:strip a168=rg [oO 7 (.load 192 (tT 1)),oO 8 (cF (.func 169) #[tT 7] #[192]),oO 6 (.move (tT 8)),oO 9 (.extract (tT 6) 0),oO 10 (.extract (tT 6) 1),oO 11 (.extract (tT 6) 2),oO 3 (.alloc 86),oN (.store 86 (tT 3) (tT 9)),oO 4 (.assign (tT 10)),oO 5 (.assign (tT 11))]:=by kernel_rfl
theorem b168_is:b168= .region 1 bO168 false:=by kernel_rfl
open Go.Proofs
def nx (b:List Ty) (p:Nat) (last:Int) (left n:Nat):Ey×Bool×Nat×List D:=
 if left=0 then(if p<b.length then(ey0,false,3,eRd b p last 0 n p 3) else(ey0,false,0,eRd b p last 0 n 0 0))
 else if(entD b (bt b 3) p last).2.2≠0 then(ey0,false,(entD b (bt b 3) p last).2.2,eRd b p last left n (entD b (bt b 3) p last).2.1 (entD b (bt b 3) p last).2.2)
 else((entD b (bt b 3) p last).1,true,0,eRd b (entD b (bt b 3) p last).2.1 (entD b (bt b 3) p last).1.pos (left-1) n 0 0)
theorem nx_eq {b:List Ty} {r p:Nat} {last:Int} {left n:Nat} {d:D} {s:St} (h:nextR b r p last left n d s):
  d= .tup [.agg (eEy (nx b p last left n).1),.bool (nx b p last left n).2.1,.int .i64 (nx b p last left n).2.2.1]∧s=({}:St).set r (nx b p last left n).2.2.2:=by
 unfold nextR at h
 unfold nx
 split at h
 ·rename_i h1; rw[if_pos h1]
  split at h
  ·rename_i h2; rw[if_pos h2]; exact h
  ·rename_i h2; rw[if_neg h2]; exact h
 ·rename_i h1; rw[if_neg h1]
  split at h
  ·rename_i h2; rw[if_pos h2]; exact h
  ·rename_i h2; rw[if_neg h2]; exact h
def sB (b2 bc r b8:Nat) (rd ct:List D):St:=(((({}:St).set b2 [.int .i64 0,.slice .nil []]).set bc [.ptr r 0]).set r rd).set b8 ct
def ctL (loc:Nat) (o:Option Nat) (es:List Ey):List D:=[.int .i64 loc,grD 28 o (rws eEy es)]
def sN (b2 bc r b8:Nat) (loc:Nat) (o:Option Nat) (es:List Ey) (rd:List D):St:=grS 28 es.length o (sB b2 bc r b8 rd (ctL loc o es))
structure Ap (b2 bc r b8:Nat):Prop where
 h1:bc≠b2
 h2:r≠b2
 h3:r≠bc
 h4:b8≠b2
 h5:b8≠bc
 h6:b8≠r
def offB (b2 bc r b8:Nat) (o:Option Nat):Prop:=∀b,o=some b→b≠b2∧b≠bc∧b≠r∧b≠b8
theorem sB_has {b2 bc r b8 x:Nat} {rd ct:List D}:(sB b2 bc r b8 rd ct).has x↔x=b2∨x=bc∨x=r∨x=b8:=by
 unfold sB
 rw[set_has,set_has,set_has,set_has]
 have:=St.not_has_nil x
 constructor
 ·rintro(h|h|h|h|h)
  ·exact .inr (.inr (.inr h))
  ·exact .inr (.inr (.inl h))
  ·exact .inr (.inl h)
  ·exact .inl h
  ·exact absurd h this
 ·rintro(h|h|h|h)
  ·exact .inr (.inr (.inr (.inl h)))
  ·exact .inr (.inr (.inl h))
  ·exact .inr (.inl h)
  ·exact .inl h
theorem round94 {b2 bc r b8 loc:Nat} {o:Option Nat} {es:List Ey} {rd:List D} {e:Ey} {T:Env} (ha:Ap b2 bc r b8) (ho:offB b2 bc r b8 o) (hn:o=none→es=[]) (hl:es.length≤4096) (h8:T 8= .ptr b8 0) {J:St→Prop}
  (hJ:∀o' s',offB b2 bc r b8 o'→o'≠none→St.le (sN b2 bc r b8 loc o' (es++[e]) rd) s'→J s'):
  aopsD Tryz.prog 48 [] (asO.toList.map (plainO asO.toList)) (fun x T' s=>x= .normal∧aopsD Tryz.prog 48 [] (bdO.toList.map (plainO bdO.toList)) (fun y T'' s'=>y= .normal∧J s') T' s) (upd T 26 (.agg (eEy e))) (sN b2 bc r b8 loc o es rd):=by
 rw[asO_is,bdO_is]
 obtain⟨S0,hS0⟩:∃S0,sN b2 bc r b8 loc o es rd=S0:=⟨_,rfl⟩
 have hb8:S0.box b8=some (ctL loc o es):=by rw[←hS0,sN,grS_boxa,sB,St.set_box,if_pos rfl]
 rw[hS0]
 simp -implicitDefEqProofs only[go_sem,h8,zb4,za8,zb7,anD,za2,ey_zero]
 intro b9 hb9
 have n9:b9≠b8:=fun hh=>hb9 (by rw[hh]; exact .inl (by simp[hb8]))
 have hc0:(ctL loc o es).length=2:=rfl
 have hc1:(ctL loc o es)[1]? =some (grD 28 o (rws eEy es)):=rfl
 simp -implicitDefEqProofs only[go_sem,h8,zb4,za8,zb7,anD,za2,ey_zero,hb8,n9,Ne.symm n9,hc0,hc1,gdD]
 have hbase:grN o (sB b2 bc r b8 rd (ctL loc o es)):=fun b hb hin=>by have:=ho b hb; have:=sB_has.1 hin; omega
 have hle0:St.le (grS 28 es.length o (sB b2 bc r b8 rd (ctL loc o es))) (S0.set b9 (eEy e)):=by
  rw[show grS 28 es.length o (sB b2 bc r b8 rd (ctL loc o es))=S0 from hS0]; exact le_add hb9
 refine app_gr' Tryz.sli50 Tryz.sz86 Tryz.by86 Tryz.zero86 rfl (n:=es.length) (m:=1) (base:=sB b2 bc r b8 rd (ctL loc o es)) (by simp[rws]) rfl hle0 hbase (fun h=>by rw[hn h]; rfl) (by simp[zb4]) (by omega) fun o' σ' hbox hle' hg hno=> ?_
 have hb8':σ'.box b8=some (ctL loc o es):=by rw[hbox,St.set_box,if_neg (Ne.symm n9),hb8]
 simp -implicitDefEqProofs only[go_sem,h8,zb4,za8,zb7,anD,za2,ey_zero,hb8',n9,Ne.symm n9,hc0,hc1]
 have hrow:rws eEy es++[eEy e]=rws eEy (es++[e]):=by simp[rws]
 refine hJ o' _ (fun b hb=> ?_) (fun h=>by have:=hno h; omega) ?_
 ·have h:=hg b hb
  rw[sB_has] at h
  omega
 ·have he:sN b2 bc r b8 loc o' (es++[e]) rd=(grS 28 (es.length+1) o' (sB b2 bc r b8 rd (ctL loc o es))).set b8 (ctL loc o' (es++[e])):=by
   rw[grS_set,sN,sB,sB,za2,List.length_append]; rfl
  rw[he]
  have:=le_set (b:=b8) (cs:=ctL loc o' (es++[e])) hle'
  have hx:List.take 1 (ctL loc o es)++[grD 28 o' (rws eEy es++[List.take 28 (List.map frz (eEy e))])]++List.drop 2 (ctL loc o es)=ctL loc o' (es++[e]):=by
   rw[eEy_frz,za8,hrow]; rfl
  rw[hx]; exact this
theorem yield_op {P:Program} {o:Oper} {a:Act} {w:World} {f x:Operand} {ts:Array TypeId} {l:Nat} {r:Loop} (hop:o.op= .call {callee:= .value f,args:= #[x],argTypes:=ts}) (hf:a.eval f= .func (.yield l) #[] #[]) (hl:w.heap[l]? =some (.loop r)) {p:Nat} (hs:r.params= #[p]):
  (execOp a.eval o).run P w= .ok (.round l r.fn (r.tmps.setIfInBounds p (a.eval x)) r.assign r.body) w:=by
 have h:=run_yield (P:=P) (args:= #[a.eval x]) hl (by simp[hs])
 rw[hs] at h
 simp only[execOp,hop,resolve,hf,Deferred.ofValue,invoke]
 simpa using h
def fin (b:List Ty) (left p:Nat) (last:Int):Nat×Nat:=
 if(decP b (bt b 3) left p last).2.2≠0 then(decP b (bt b 3) left p last).2 else if(decP b (bt b 3) left p last).2.1<b.length then((decP b (bt b 3) left p last).2.1,3) else(0,0)
theorem nx_off {b:List Ty} {p:Nat} {last:Int} {left n:Nat} (hp:p≤b.length) (h:(nx b p last left n).2.1=false):esOf (decP b (bt b 3) left p last).1=[]∧∃p' last' left',(nx b p last left n).2.2.2=eRd b p' last' left' n (fin b left p last).1 (fin b left p last).2:=by
 unfold nx at h ⊢
 unfold fin
 cases left with
 |zero=>
  simp only[if_true,decP]
  by_cases hl:p<b.length
  ·refine⟨rfl,p,last,0, ?_⟩
   simp[hl]
  ·refine⟨rfl,p,last,0, ?_⟩
   simp[hl]
 |succ k=>
  rw[if_neg (Nat.succ_ne_zero k)] at h ⊢
  rw[decP]
  split
  ·rename_i he
   refine⟨rfl,p,last,k+1, ?_⟩
   simp only[if_pos he]
  ·rename_i he
   rw[if_neg he] at h
   cases h
theorem nx_on {b:List Ty} {p:Nat} {last:Int} {left n:Nat} (h:(nx b p last left n).2.1=true):∃e p' k,left=k+1∧p'≤b.length∧nx b p last left n=(e,true,0,eRd b p' e.pos k n 0 0)∧
  esOf (decP b (bt b 3) left p last).1=e::esOf (decP b (bt b 3) k p' e.pos).1∧fin b left p last=fin b k p' e.pos:=by
 unfold nx at h ⊢
 cases left with
 |zero=>
  simp only[if_true] at h
  split at h <;> cases h
 |succ k=>
  rw[if_neg (Nat.succ_ne_zero k)] at h ⊢
  split at h
  ·cases h
  ·rename_i he
   have h0:=Classical.not_not.1 he
   rw[if_neg he]
   refine⟨_,_,k,rfl,(entD_place h0).2,rfl, ?_, ?_⟩
   ·rw[decP,if_neg he]; rfl
   ·simp only[fin]
    rw[decP,if_neg he]
open Go.Proofs
noncomputable def o17:Oper:=(bO168.toList[5]?).getD default
noncomputable def o18:Oper:=(bO168.toList[6]?).getD default
noncomputable def o19:Oper:=(bO168.toList[7]?).getD default
theorem bO168_parts:bO168.toList=bO168.toList.take 5++(o17::[o18,o19]):=by kernel_rfl
theorem o17_op:o17.op= .call {callee:= .value (.tmp 15),args:= #[.tmp 16],argTypes:= #[86]}:=by kernel_rfl
theorem o17_dst:o17.dst=some 17:=by kernel_rfl
theorem o17_guard (T:Env):guardA bO168.toList T o17=gq (T 14) false:=by kernel_rfl
theorem nodefA:∀o∈asO.toList,∀c,o.op≠ .defer c:=by
 have h:(asO.toList.all fun o=>match o.op with| .defer _=>false|_=>true)=true:=by kernel_rfl
 intro o ho c hc
 have:=List.all_eq_true.1 h o ho
 rw[hc] at this; cases this
theorem nodefB:∀o∈bdO.toList,∀c,o.op≠ .defer c:=by
 have h:(bdO.toList.all fun o=>match o.op with| .defer _=>false|_=>true)=true:=by kernel_rfl
 intro o ho c hc
 have:=List.all_eq_true.1 h o ho
 rw[hc] at this; cases this
theorem body168:Tryz.f168.body=some (.block 0 (.loop (.block 1 (.seq a168 (.seq b168 (.cond (.tmp 19) .ret .skip)))))):=by kernel_rfl
theorem res168 (tmps:Array Value) (w:World):(results Tryz.f168 tmps).run Tryz.prog w= .ok (.tuple #[]) w:=by
 have h:Tryz.f168.results= #[]:=by kernel_rfl
 simp[results,h]
theorem sN_rd {b2 bc r b8 loc:Nat} {o:Option Nat} {es:List Ey} {rd rd':List D} (ha:Ap b2 bc r b8):(sN b2 bc r b8 loc o es rd).set r rd'=sN b2 bc r b8 loc o es rd':=by
 rw[sN,grS_set,sB,set_comm (Ne.symm ha.h6 |> Ne.symm),za2]; rfl
theorem b168_strip:strip b168=rg [oO 12 (.move (tT 4)),oO 13 (.unOp .not 4 (tT 12)),oO 14 (.move (tT 13)),oG 15 (.move (tT 0)) 14 false,oG 16 (.load 86 (tT 3)) 14 false,oG 17 (cF (tT 15) #[tT 16] #[86]) 14 false,oG 18 (.unOp .not 4 (tT 17)) 14 false,oO 19 (.pick (tT 14) (.const (.bool true)) (tT 18))]:=by kernel_rfl
theorem pre168_is:(bO168.toList.take 5).map (plainO bO168.toList)=[oO 12 (.move (tT 4)),oO 13 (.unOp .not 4 (tT 12)),oO 14 (.move (tT 13)),oG 15 (.move (tT 0)) 14 false,oG 16 (.load 86 (tT 3)) 14 false]:=by kernel_rfl
theorem suf168_is:[o18,o19].map (plainO bO168.toList)=[oG 18 (.unOp .not 4 (tT 17)) 14 false,oO 19 (.pick (tT 14) (.const (.bool true)) (tT 18))]:=by kernel_rfl
def E168 (l bc:Nat):Env:=envL [(0,.func (.yield l) [] []),(1,.ptr bc 0)]
section
variable {b : List Ty} {b2 bc r b8 loc n : Nat} {l : Nat}
theorem next_part {o:Option Nat} {es:List Ey} {p left:Nat} {last:Int} (ha:Ap b2 bc r b8) (ho:offB b2 bc r b8 o) (hl:b.length≤140737488355328) (h6:6≤b.length) (hp:p≤b.length) (hleft:left≤4096):
  vcA Tryz.prog 20 (strip a168) (fun x T' s=>x= .normal∧∃b3,¬(sN b2 bc r b8 loc o es (nx b p last left n).2.2.2).has b3∧s=(sN b2 bc r b8 loc o es (nx b p last left n).2.2.2).set b3 (eEy (nx b p last left n).1)∧
   T' 0= .func (.yield l) [] []∧T' 1= .ptr bc 0∧T' 3= .ptr b3 0∧T' 4= .bool (nx b p last left n).2.1) (E168 l bc) (sN b2 bc r b8 loc o es (eRd b p last left n 0 0)):=by
 rw[a168_is]
 have hbc:(sN b2 bc r b8 loc o es (eRd b p last left n 0 0)).box bc=some [.ptr r 0]:=by
  rw[sN,grS_boxa,sB,St.set_box,if_neg (Ne.symm ha.h5),St.set_box,if_neg (Ne.symm ha.h3),St.set_box,if_pos rfl]
 have hbr:(sN b2 bc r b8 loc o es (eRd b p last left n 0 0)).box r=some (eRd b p last left n 0 0):=by
  rw[sN,grS_boxa,sB,St.set_box,if_neg (Ne.symm ha.h6),St.set_box,if_pos rfl]
 have hbf:(sN b2 bc r b8 loc o es (eRd b p last left n 0 0)).buf r=none:=by
  cases o with
  |none=>rfl
  |some x=>
   have:=ho x rfl
   simp only[sN,grS,St.setBuf,sB,St.set]
   rw[if_neg (by omega)]
 have e0:E168 l bc 0= .func (.yield l) [] []:=rfl
 have e1:E168 l bc 1= .ptr bc 0:=rfl
 simp -implicitDefEqProofs only[go_sem,e0,e1,hbc,zb4,za8,zb7,anD,za2,ey_zero]
 refine callB_box (b:=r) (hm:=by cases o <;> rfl) hbr hbf ((next169 b r p last left n hl (by omega) hp hleft).mono fun d s h=>nx_eq h) ?_
 rw[sN_rd ha]
 generalize (nx b p last left n)=v at *
 obtain⟨e,ok,err,rd⟩:=v
 simp -implicitDefEqProofs only[go_sem,e0,e1,zb4,za8,zb7,anD,za2,ey_zero]
 intro b3 hb3
 exact⟨b3,hb3,rfl,rfl⟩
theorem left_of {M:MMap} {w:World} {o:Option Nat} {es:List Ey} {p left bad err:Nat} {last:Int} (ha:Ap b2 bc r b8) (hi:Inv M (sN b2 bc r b8 loc o es (eRd b p last left n bad err)) w):
  (match w.cell? ⟨r,3,none⟩ with|some (.int _ z)=>z.toNat|_=>0)=left:=by
 have hbr:(sN b2 bc r b8 loc o es (eRd b p last left n bad err)).box r=some (eRd b p last left n bad err):=by
  rw[sN,grS_boxa,sB,St.set_box,if_neg (Ne.symm ha.h6),St.set_box,if_pos rfl]
 obtain⟨c,e,h1,h2,h3⟩:=box_at hi hbr
 obtain⟨v,hv,hr⟩:=h2.get (i:=3) (d:= .int .i64 left) rfl
 obtain rfl:=hr
 rw[cell_of h1 (by simpa using hv)]
 simp
abbrev LD (M₀:MMap) (σ₀:St) (w₀:World) (T:Env) (l dk:Nat) (fn:FuncId) (tm:Array Value) (M:MMap) (σ:St) (w:World):Prop:=
 LInv 48 M₀ σ₀ w₀ T l dk fn tm #[26] (.region 6 asO false) (.block 1 (.region 7 bdO false)) M σ w
def I168 (b:List Ty) (b2 bc r b8 n l:Nat) (M₀:MMap) (σ₀:St) (w₀:World) (T:Env) (dk:Nat) (fn:FuncId) (tm:Array Value) (ES:List Ey) (FN:Nat×Nat) (a:Act) (w:World):Prop:=
 ∃M o es p left last,LD M₀ σ₀ w₀ T l dk fn tm M (sN b2 bc r b8 (bt b 3) o es (eRd b p last left n 0 0)) w∧AInv 20 M (E168 l bc) (sN b2 bc r b8 (bt b 3) o es (eRd b p last left n 0 0)) a w∧
  offB b2 bc r b8 o∧(o=none→es=[])∧p≤b.length∧es.length+left≤4096∧ES=es++esOf (decP b (bt b 3) left p last).1∧FN=fin b left p last
def R168 (b:List Ty) (b2 bc r b8 n l:Nat) (M₀:MMap) (σ₀:St) (w₀:World) (T:Env) (dk:Nat) (fn:FuncId) (tm:Array Value) (ES:List Ey) (FN:Nat×Nat) (e:Ending) (w:World):Prop:=
 e= .returned (.tuple #[])∧∃M o p left last,LD M₀ σ₀ w₀ T l dk fn tm M (sN b2 bc r b8 (bt b 3) o ES (eRd b p last left n FN.1 FN.2)) w
theorem round168 {M₀:MMap} {σ₀:St} {w₀:World} {T:Env} {dk:Nat} {fn:FuncId} {tm:Array Value} {ES:List Ey} {FN:Nat×Nat} (ha:Ap b2 bc r b8) (hl:b.length≤140737488355328) (h6:6≤b.length) (h8:T 8= .ptr b8 0) (a:Act) (w:World)
  (hI:I168 b b2 bc r b8 n l M₀ σ₀ w₀ T dk fn tm ES FN a w):
  (Code.block 1 (.seq a168 (.seq b168 (.cond (.tmp 19) .ret .skip)))).wpIn Fence.wide 0 Tryz.prog
   (Exit.then (fun a' w'=>I168 b b2 bc r b8 n l M₀ σ₀ w₀ T dk fn tm ES FN a' w'∧(match w'.cell? ⟨r,3,none⟩ with|some (.int _ z)=>z.toNat|_=>0)<(match w.cell? ⟨r,3,none⟩ with|some (.int _ z)=>z.toNat|_=>0))
    (Exit.inBlock 0 (bodyPost Tryz.prog Tryz.f168 (R168 b b2 bc r b8 n l M₀ σ₀ w₀ T dk fn tm ES FN)))) a w:=by
 obtain⟨M,o,es,p,left,last,hL,hi,ho,hn,hp,hle,hES,hFN⟩:=hI
 have hN:decide (20≤1000000)=true:=rfl
 rw[left_of ha hL.inv]
 refine wpIn_block (wpIn_seq (wpIn_wide.2 (Code.wp_mono ?_ (vcA_sound Tryz.follows_mixed (by decide) a168 (next_part (l:=l) ha ho hl h6 hp (by omega)) M a w hi))))
 rintro e a1 w1 ⟨M1,T1,s1,x,hx,hi1,hk1,rfl,b3,hb3,rfl,t0,t1,t3,t4⟩
 obtain rfl:=hx
 have hL1:=hL.keep hk1 hi1.inv
 show(Code.seq b168 (.cond (.tmp 19) .ret .skip)).wpIn Fence.wide 0 Tryz.prog _ a1 w1
 by_cases hok:(nx b p last left n).2.1=true
 case neg=>
  have hf:(nx b p last left n).2.1=false:=by simpa using hok
  obtain⟨hz,p',last',left',hrd⟩:=nx_off hp hf
  rw[hf] at t4
  rw[hrd] at hb3 hi1 hL1
  refine wpIn_wide.2 (Code.wp_mono ?_ (vcA_sound (N:=20) Tryz.follows_mixed (by decide) (.seq b168 (.cond (.tmp 19) .ret .skip)) (Q:=fun x T' s=>x= .ret∧s=(sN b2 bc r b8 (bt b 3) o es (eRd b p' last' left' n (fin b left p last).1 (fin b left p last).2)).set b3 (eEy (nx b p last left n).1)) ?_ M1 a1 w1 hi1))
  ·rintro e a2 w2 ⟨M2,T2,s2,x,hx,hi2,hk2,rfl,rfl⟩
   obtain rfl:=hx
   refine⟨hi2.defers,_,res168 _ _,rfl,M2,o,p',left',last', ?_⟩
   have:=(hL1.keep hk2 hi2.inv).less (le_add hb3)
   rw[hES,hFN,hz,List.append_nil]
   exact this
  ·show vcA Tryz.prog 20 (.seq (strip b168) (.cond (.tmp 19) .ret .skip)) _ T1 _
   rw[b168_strip]
   simp -implicitDefEqProofs only[go_sem,t0,t1,t3,t4]
 obtain⟨e,p',k,hk,hpb,hnx,hES',hFN'⟩:=nx_on hok
 rw[hnx] at hb3 hi1 hL1 t4
 simp only at hb3 hi1 hL1 t4
 have hsub:St.le (sN b2 bc r b8 (bt b 3) o es (eRd b p' e.pos k n 0 0)) ((sN b2 bc r b8 (bt b 3) o es (eRd b p' e.pos k n 0 0)).set b3 (eEy e)):=le_add hb3
 refine wpIn_seq ?_
 rw[b168_is]
 refine wpIn_region_list ?_
 rw[bO168_parts]
 refine list_wide_cut (Q:=Post 20 M1 ((sN b2 bc r b8 (bt b 3) o es (eRd b p' e.pos k n 0 0)).set b3 (eEy e)) w1 fun x T' s=>x= .normal∧s=(sN b2 bc r b8 (bt b 3) o es (eRd b p' e.pos k n 0 0)).set b3 (eEy e)∧T' 0= .func (.yield l) [] []∧T' 1= .ptr bc 0∧T' 14= .bool false∧T' 15= .func (.yield l) [] []∧T' 16= .agg (eEy e)) noOut ?_ ?_ _ a1 w1 ?_
 ·rintro e' a' w' hne ⟨M',T',s',x,hx,_,_,rfl,_⟩
  exact absurd hx hne
 ·rintro a2 w2 ⟨M2,T2,s2,x,hx,hi2,hk2,-,rfl,u0,u1,u14,u15,u16⟩
  have hL2:=hL1.keep hk2 hi2.inv
  have hw:Region.wanted o17 (yielded bO168 a2.tmps)=true:=guardA_sound (by rw[o17_guard,u14]; rfl) hi2
  have hf15:a2.eval (.tmp 15)= .func (.yield l) #[] #[]:=by
   have:=hi2.env 15
   rw[u15] at this
   obtain⟨vf,vc,h1,h2,h3⟩:=this
   have e2:vf= #[]:=by simpa[zf8] using h2
   have e3:vc= #[]:=by simpa[zf8] using h3
   subst e2; subst e3; exact h1
  have hv:Rep M2 w2 (.agg (eEy e)) (a2.eval (.tmp 16)):=by have:=hi2.env 16; rw[u16] at this; exact this
  rw[wpListIn,if_pos hw]
  refine⟨fun f _=>trivial, ?_⟩
  rw[show Fence.wide.round=none from rfl,show Oper.semAt none a2.eval o17=execOp a2.eval o17 from rfl,yield_op o17_op hf15 hL2.lrec rfl,Oper.uponIn_round]
  refine⟨fun hd=>absurd hd (by simp[Fence.wide]), ?_⟩
  refine(round_sound (n:=0-1) (P:=Tryz.prog) (hN:=by decide) (hL2.less hsub) (p:=26) (by decide) hv nodefA nodefB
   (round94 (J:=fun s'=>∃o',offB b2 bc r b8 o'∧o'≠none∧St.le (sN b2 bc r b8 (bt b 3) o' (es++[e]) (eRd b p' e.pos k n 0 0)) s') ha ho hn (by omega) h8 fun o' s' h1 h2 h3=>⟨o',h1,h2,h3⟩)).mono ?_
  rintro e' w3 ⟨rfl,M3,s3,hL3,hK3,o',ho',hno',hle3⟩
  have hL3':=hL3.less hle3
  have hi3:AInv 20 M3 (upd T2 17 (.bool true)) (sN b2 bc r b8 (bt b 3) o' (es++[e]) (eRd b p' e.pos k n 0 0)) (a2.put o17.dst (.bool true)) w3:=by
   rw[o17_dst]
   exact(hi2.keep hK3 hL3'.inv).put (dst:=some 17) (d:= .bool true) (v:= .bool true) (fun t ht=>by cases ht; decide) rfl
  show wpListIn Fence.wide 0 Tryz.prog bO168 _ ([o18,o19]++[]) _ _
  refine list_wide_cut (Q:=Post 20 M3 (sN b2 bc r b8 (bt b 3) o' (es++[e]) (eRd b p' e.pos k n 0 0)) w3 fun x T' s=>x= .normal∧s=sN b2 bc r b8 (bt b 3) o' (es++[e]) (eRd b p' e.pos k n 0 0)∧T' 0= .func (.yield l) [] []∧T' 1= .ptr bc 0∧T' 19= .bool false) noOut ?_ ?_ _ _ w3 ?_
  ·rintro e' a' w' hne ⟨M',T',s',x,hx,_,_,rfl,_⟩
   exact absurd hx hne
  ·rintro a4 w4 ⟨M4,T4,s4,x,hx,hi4,hk4,-,rfl,v0,v1,v19⟩
   have hc:a4.eval (.tmp 19)= .bool false:=by have:=hi4.env 19; rw[v19] at this; exact this
   refine wpIn_cond_false hc (wpIn_skip ?_)
   have hL4:=hL3'.keep hk4 hi4.inv
   refine⟨⟨M4,o',es++[e],p',k,e.pos,hL4,hi4.forget ?_ (St.le.refl _),ho',fun h=>absurd h hno',hpb,by simp; omega,by rw[hES,hES',List.append_assoc]; rfl,hFN.trans hFN'⟩, ?_⟩
   ·refine envL_le fun q hq=> ?_
    simp only[List.mem_cons,List.not_mem_nil,or_false] at hq
    rcases hq with rfl|rfl
    ·exact v0
    ·exact v1
   ·rw[left_of ha hL4.inv]; omega
  ·refine aopsD_plain (M:=M3) (by decide) [o18,o19] ?_ hi3 hi3.inv.dom (KeepF.refl _ _ _)
   rw[suf168_is]
   simp -implicitDefEqProofs only[go_sem,u0,u1,u14]
 ·refine aopsD_plain (M:=M1) (by decide) (bO168.toList.take 5) ?_ hi1 hi1.inv.dom (KeepF.refl _ _ _)
  rw[pre168_is]
  simp -implicitDefEqProofs only[go_sem,t0,t1,t3,t4,zb4,za8,zb7]
theorem all168 {M₀:MMap} {σ₀:St} {w₀:World} {T:Env} {dk:Nat} {fn:FuncId} {tm:Array Value} {M:MMap} {w:World} (ha:Ap b2 bc r b8) (hl:b.length≤140737488355328) (h6:6≤b.length) (h8:T 8= .ptr b8 0) {left:Nat} (hle:left≤4096)
  (hL:LD M₀ σ₀ w₀ T l dk fn tm M (sN b2 bc r b8 (bt b 3) none [] (eRd b 6 (-1) left n 0 0)) w):
  Calls Tryz.prog 168 #[.func (.yield l) #[] #[],.pointer (some ⟨bc,0,none⟩)] w (R168 b b2 bc r b8 n l M₀ σ₀ w₀ T dk fn tm (esOf (decP b (bt b 3) left 6 (-1)).1) (fin b left 6 (-1))):=by
 refine calls_of_wp Tryz.func168 body168 ?_
 obtain⟨tms,htms⟩:∃tms,(#[.func (.yield l) #[] #[],.pointer (some ⟨bc,0,none⟩)]++Array.replicate (Tryz.f168.ntmps-2) undef:Array Value)=tms:=⟨_,rfl⟩
 have hsz:tms.size=20:=by rw[←htms,Tryz.ntmps168]; simp
 have hra:zf8 M w [.func (.yield l) [] [],.ptr bc 0] [.func (.yield l) #[] #[],.pointer (some ⟨bc,0,none⟩)]:=⟨_,_,rfl,⟨_,_,rfl,rfl,rfl⟩,_,_,rfl,rfl,rfl⟩
 have hi0:AInv 20 M (envOf [.func (.yield l) [] [],.ptr bc 0]) (sN b2 bc r b8 (bt b 3) none [] (eRd b 6 (-1) left n 0 0)) {tmps:=tms,defers:=[]} w:=
  ⟨hL.inv,hsz,rfl,fun t=>by rw[←htms]; exact envOf_rep hra _ t⟩
 have hie:Env.le (E168 l bc) (envOf [.func (.yield l) [] [],.ptr bc 0]):=envL_le fun q hq=>by
  simp only[List.mem_cons,List.not_mem_nil,or_false] at hq
  rcases hq with rfl|rfl <;> rfl
 refine Code.wp_mono (Q:=Exit.inBlock 0 (bodyPost Tryz.prog Tryz.f168 (R168 b b2 bc r b8 n l M₀ σ₀ w₀ T dk fn tm (esOf (decP b (bt b 3) left 6 (-1)).1) (fin b left 6 (-1))))) ?_ ?_ |> wp_block
 ·exact fun e a w h=>h
 show(Code.loop _).wp Tryz.prog _ {tmps:=(#[.func (.yield l) #[] #[],.pointer (some ⟨bc,0,none⟩)]++Array.replicate (Tryz.f168.ntmps-2) undef:Array Value),defers:=[]} w
 rw[htms]
 refine(wpIn_wide (n:=0)).1 (wpIn_loop (I168 b b2 bc r b8 n l M₀ σ₀ w₀ T dk fn tm (esOf (decP b (bt b 3) left 6 (-1)).1) (fin b left 6 (-1))) (fun _ w=>match w.cell? ⟨r,3,none⟩ with|some (.int _ z)=>z.toNat|_=>0) ?_ fun a w hI=>round168 ha hl h6 h8 a w hI)
 exact⟨M,none,[],6,left,-1,hL,hi0.forget hie (St.le.refl _),fun b hb=>(by cases hb),fun _=>rfl,h6,by simpa using hle,rfl,rfl⟩
end
end Go.AL
