import Derived.Test.YtjffaachihpjbaaGreatFo
import Derived.Test.YtjffaachihpjbaaGreatFm
import Derived.Test.YtjffaachihpjbaaGreatFl
import Derived.Test.YtjffaachihpjbaaGreatFn
import Derived.Test.YtjffaachihpjbaaGreatFi
import Derived.Test.YtjffaachihpjbaaGreatFj
import Derived.Test.YtjffaachihpjbaaGreatFk
import Derived.Test.YtjffaachihpjbaaGreatFe
import Derived.Shelf.SlIterI.Nil
import Derived.Ground.GgzProg
import Derived.Test.YtjffaachihpjbaaGreatProg
set_option linter.unusedSimpArgs false
set_option linter.unusedVariables false
set_option maxRecDepth 100000
set_option maxHeartbeats 4000000
set_option linter.defProp false
namespace Go.AL
open Go.Proofs
def overAt (tk:List Nat) (a size x:Nat):Bool:=decide (0<(tk[x]?).getD 0∧x≠a∧a<x+(tk[x]?).getD 0∧x<a+size)
theorem over_yes {tk:List Nat} {a size x:Nat} (hx:x<tk.length) (h:overAt tk a size x=true):overB tk a size=true:=by
 unfold overB
 exact List.any_eq_true.2 ⟨x,List.mem_range.2 hx,h⟩
theorem over_no {tk:List Nat} {a size:Nat} (h:∀x<tk.length,overAt tk a size x=false):overB tk a size=false:=by
 unfold overB
 rw[List.any_eq_false]
 intro x hx
 rw[Bool.not_eq_true]
 exact h x (List.mem_range.1 hx)
theorem overlaps111 (q:QB) (h:q.ne) (s:IS) (m:Nat) (hs:s.sz m) (hm:m≤5000) (a size:Nat) (ha:a≤5000) (hz:size≤5000) (ht:∀x<m,(s.tk[x]?).getD 0≤5000):
  RCall Tryz.prog 78 [.agg (stD q m),.int .i64 a,.int .i64 size] (stI q s) fun d s'=>d= .bool (overB s.tk a size)∧s'=stI q s:=by
 have kc:=stI_d (q:=q) (s:=s)
 refine F78.rcall rfl fun T hT=> ?_
 simp -implicitDefEqProofs only[go_sem,c78,hT,stD]
 intro b1 hb1
 obtain⟨n1,n2,n3,n4⟩:=stI_ne hb1
 have k1:((stI q s).set b1 [.bsl q.a 0 m m,.bsl q.b 0 m m,.bsl q.c 0 m m,.bsl q.d 0 m m]).box q.d=some (fl eN s.tk):=by rw[St.set_box,if_neg (Ne.symm n4)]; exact kc
 refine loopL F78 (fun i:Nat=>[(1,.int .i64 a),(2,.int .i64 size),(3,.ptr b1 0),(7,.int .i64 i)]) (fun _=>(stI q s).set b1 [.bsl q.a 0 m m,.bsl q.b 0 m m,.bsl q.c 0 m m,.bsl q.d 0 m m]) (fun i=>i≤m∧∀j<i,overAt s.tk a size j=false) (fun i=>m-i) 0 ⟨by omega,by omega⟩ ?_ (St.le.refl _) ?_
 ·simp -implicitDefEqProofs only[go_sem,hT,Int.ofNat_zero]
 clear hT T
 intro i ⟨hi,hl⟩ T hT
 by_cases h1:i<m
 ·have h2:((i:Int)<m)=True:=eq_true (by omega)
  have hx:=fl_eNAt (xs:=s.tk) (i:=i) (by rw[hs.d]; exact h1)
  have hti:=ht i h1
  generalize htx:(s.tk[i]?).getD 0=z at *
  have w1:IntKind.wrap .i64 ((i:Int)+z)=(i:Int)+z:=zb7 (by omega) (by omega)
  have w2:IntKind.wrap .i64 ((a:Int)+size)=(a:Int)+size:=zb7 (by omega) (by omega)
  have hnext:IntKind.wrap .i64 ((i:Int)+1)=((i+1:Nat):Int):=by rw[zb7 (by omega) (by omega)]; simp
  simp -implicitDefEqProofs only[go_sem,mmB,hT,h2,k1,hx,w1,w2,hnext,n1,n2,n3,n4,Ne.symm n1,Ne.symm n2,Ne.symm n3,Ne.symm n4,gdD,Nat.mul_one,Nat.add_zero,Nat.zero_add]
  refine⟨by omega, ?_, ?_⟩
  ·intro _; omega
  rw[show(decide ((0:Int)<z)&& !decide ((i:Int)=a)&&decide ((a:Int)<i+z)&&decide ((i:Int)<a+size))=overAt s.tk a size i by
   unfold overAt; rw[htx,Bool.eq_iff_iff]; simp; omega]
  cases hc:overAt s.tk a size i
  ·simp -implicitDefEqProofs only[go_sem,hT,hnext]
   refine⟨i+1,⟨by omega,fun j hj=> ?_⟩,by omega,rfl,St.le.refl _⟩
   rcases Nat.lt_succ_iff_lt_or_eq.1 hj with h|rfl
   ·exact hl j h
   ·exact hc
  ·simp -implicitDefEqProofs only[go_sem,hT]
   exact⟨_,_,DLe.refl _,le_add hb1,by rw[over_yes (by rw[hs.d]; exact h1) hc],rfl⟩
 ·have h2:((i:Int)<m)=False:=eq_false (by omega)
  simp -implicitDefEqProofs only[go_sem,mmB,hT,h2,k1,n1,n2,n3,n4,Ne.symm n1,Ne.symm n2,Ne.symm n3,Ne.symm n4]
  exact⟨_,_,DLe.refl _,le_add hb1,by rw[over_no (fun j hj=>hl j (by rw[hs.d] at hj; omega))],rfl⟩
theorem on112 (i:Ins) (n:Nat) (hp:0≤i.pos∧i.pos≤5000):PCall Tryz.prog 79 [.agg (eIn i),.int .i64 n] (.tup [.slice .no (rws eI (onD i n).1),.int .i64 (onD i n).2]):=by
 have hsz:=sizeOp_le i.op.val
 have w1:IntKind.wrap .i64 (i.pos+(ze8 i.op.val:Int))=i.pos+ze8 i.op.val:=zb7 (by omega) (by omega)
 refine F79.pcall' rfl fun T hT=> ?_
 simp -implicitDefEqProofs only[go_sem,mmB,c79,hT,eIn]
 intro b2
 refine⟨fun _ h=>h,za3 (refSize74 i.op) ?_⟩
 simp -implicitDefEqProofs only[go_sem,mmB,hT,w1]
 refine za3 (refJumps22 i.op) ?_
 simp -implicitDefEqProofs only[go_sem,mmB,hT]
 refine za3 (refEnds41 i.op) ?_
 by_cases ht:jumpsB i.op.val=true∧(n:Int)≤i.a
 ·obtain⟨hj,hn⟩:=ht
  have h1:((n:Int)≤i.a)=True:=eq_true hn
  rw[show onD i n=([],50) by rw[onD,if_pos ⟨hj,hn⟩]]
  simp -implicitDefEqProofs only[go_sem,mmB,hT,hj,h1]
  exact DLe.tup (.cons (DLe.slice _ _) (.cons (DLe.refl _) .nil))
 have h0:(jumpsB i.op.val&&decide ((n:Int)≤i.a))=false:=by rw[Bool.eq_false_iff]; simpa using ht
 by_cases hf:endsB i.op.val=false∧i.pos+(ze8 i.op.val:Int)=n
 ·obtain⟨hj,hn⟩:=hf
  rw[show onD i n=([],51) by rw[onD,if_neg ht,if_pos ⟨hj,hn⟩]]
  have h1:(i.pos+(ze8 i.op.val:Int)=n)=True:=eq_true hn
  simp -implicitDefEqProofs only[go_sem,mmB,hT,h0,hj,h1]
  exact DLe.tup (.cons (DLe.slice _ _) (.cons (DLe.refl _) .nil))
 cases hj:jumpsB i.op.val <;> cases he:endsB i.op.val
 ·have h1:(i.pos+(ze8 i.op.val:Int)=n)=False:=eq_false fun h=>hf ⟨he,h⟩
  rw[show onD i n=([i.pos+(ze8 i.op.val:Int)],0) by rw[onD,if_neg ht,if_neg hf,hj,he]; simp]
  simp -implicitDefEqProofs only[go_sem,mmB,hT,hj,he,h1,frz]
  exact⟨fun r h=>by rw[h]; rfl,fun _ _ _=>DLe.tup (.cons (DLe.slice _ _) (.cons (DLe.refl _) .nil))⟩
 ·rw[show onD i n=([],0) by rw[onD,if_neg ht,if_neg hf,hj,he]; simp]
  simp -implicitDefEqProofs only[go_sem,mmB,hT,hj,he]
  exact DLe.tup (.cons (DLe.slice _ _) (.cons (DLe.refl _) .nil))
 ·have h1:((n:Int)≤i.a)=False:=eq_false fun h=>ht ⟨hj,h⟩
  have h2:(i.pos+(ze8 i.op.val:Int)=n)=False:=eq_false fun h=>hf ⟨he,h⟩
  have hD:onD i n=((if i.a<i.pos+(ze8 i.op.val:Int) then [i.a] else [])++[i.pos+(ze8 i.op.val:Int)]++(if i.pos+(ze8 i.op.val:Int)<i.a then [i.a] else []),0):=by
   rw[onD,if_neg ht,if_neg hf,hj,he]; simp
  rw[hD]
  by_cases c1:i.a<i.pos+(ze8 i.op.val:Int)
  ·rw[if_pos c1,if_neg (by omega)]
   have d1:(i.a<i.pos+(ze8 i.op.val:Int))=True:=eq_true c1
   have d2:(i.pos+(ze8 i.op.val:Int)<i.a)=False:=eq_false (by omega)
   simp -implicitDefEqProofs only[go_sem,mmB,hT,hj,he,h1,h2,d1,frz,d2]
   exact⟨fun r h=>by rw[h]; rfl,fun _ _ _=>⟨fun r h=>by rw[h]; rfl,fun _ _ _=>DLe.tup (.cons (DLe.slice _ _) (.cons (DLe.refl _) .nil))⟩⟩
  by_cases c2:i.pos+(ze8 i.op.val:Int)<i.a
  ·rw[if_neg c1,if_pos c2]
   have d1:(i.a<i.pos+(ze8 i.op.val:Int))=False:=eq_false c1
   have d2:(i.pos+(ze8 i.op.val:Int)<i.a)=True:=eq_true c2
   simp -implicitDefEqProofs only[go_sem,mmB,hT,hj,he,h1,h2,d1,frz,d2]
   exact⟨fun r h=>by rw[h]; rfl,fun _ _ _=>⟨fun r h=>by rw[h]; rfl,fun _ _ _=>DLe.tup (.cons (DLe.slice _ _) (.cons (DLe.refl _) .nil))⟩⟩
  ·rw[if_neg c1,if_neg c2]
   have d1:(i.a<i.pos+(ze8 i.op.val:Int))=False:=eq_false c1
   have d2:(i.pos+(ze8 i.op.val:Int)<i.a)=False:=eq_false c2
   simp -implicitDefEqProofs only[go_sem,mmB,hT,hj,he,h1,h2,d1,frz,d2]
   exact⟨fun r h=>by rw[h]; rfl,fun _ _ _=>DLe.tup (.cons (DLe.slice _ _) (.cons (DLe.refl _) .nil))⟩
 ·have h1:((n:Int)≤i.a)=False:=eq_false fun h=>ht ⟨hj,h⟩
  rw[show onD i n=([i.a],0) by rw[onD,if_neg ht,if_neg hf,hj,he]; simp]
  simp -implicitDefEqProofs only[go_sem,mmB,hT,hj,he,h1,frz]
  exact⟨fun r h=>by rw[h]; rfl,fun _ _ _=>DLe.tup (.cons (DLe.slice _ _) (.cons (DLe.refl _) .nil))⟩
open Go.Proofs
section
variable {q : QB} {s : IS}
theorem stI_setA (h:q.ne) (v:List Bool):(stI q s).set q.a (fl eBo v)=stI q ⟨v,s.fr,s.fresh,s.tk⟩:=by
 unfold stI
 rw[set_comm (Ne.symm h.ad),set_comm (Ne.symm h.ac),set_comm (Ne.symm h.ab),za4]
theorem stI_setB (h:q.ne) (v:List Fr):(stI q s).set q.b (fl eFr v)=stI q ⟨s.has,v,s.fresh,s.tk⟩:=by
 unfold stI
 rw[set_comm (Ne.symm h.bd),set_comm (Ne.symm h.bc),za4]
theorem stI_setC (h:q.ne) (v:List Bool):(stI q s).set q.c (fl eBo v)=stI q ⟨s.has,s.fr,v,s.tk⟩:=by
 unfold stI
 rw[set_comm (Ne.symm h.cd),za4]
theorem stI_setD (v:List Nat):(stI q s).set q.d (fl eN v)=stI q ⟨s.has,s.fr,s.fresh,v⟩:=by
 unfold stI
 rw[za4]
end
def bXhbD0:=aI @zb4 (aI @zb5 (aI @za9 (aI @za8 (aI @za6 (aI @za5 (aI @fr_0 (aI @fr_1 @gdD)))))))
theorem hand113 (q:QB) (h:q.ne) (s:IS) (m:Nat) (hs:s.sz m) (hm:m≤5000) (l:List Cl) (o:Own) (hf:Falls l l.length) (hl:l.length*48≤140737488355328) (a:Nat) (ha:a<m) (f:Fr):
  RCall Tryz.prog 80 [.agg (stD q m),.slice o (rws eC l),.int .i64 a,.agg (eFr f)] (stI q s) fun d s'=>d= .int .i64 (handD l s a f).2∧s'=stI q (handD l s a f).1:=by
 have ka:=stI_a (s:=s) h
 have kb:=stI_b (s:=s) h
 have kc:=stI_c (s:=s) h
 refine F80.rcall rfl fun T hT=> ?_
 simp -implicitDefEqProofs only[go_sem,mmB,c80,hT,stD,bXhbD0]
 intro b4 hb4 b7 n7 n8 hb7
 obtain⟨n1,n2,n3,n4⟩:=stI_ne hb4
 obtain⟨p1,p2,p3,p4⟩:=stI_ne hb7
 have hx:=fl_boAt (xs:=s.has) (i:=a) (by rw[hs.a]; exact ha)
 have hfl:(fl eFr s.fr).length=m*26:=by rw[fl_len za6,hs.b]
 have hget:((fl eFr s.fr).drop (a*26)).take 26=eFr ((s.fr[a]?).getD (fr0 0)):=by
  rw[fl_at za6 (by rw[hs.b]; exact ha),List.getElem?_eq_getElem (by rw[hs.b]; exact ha)]; rfl
 have hput:∀g,(fl eFr s.fr).take (a*26)++eFr g++(fl eFr s.fr).drop (a*26+26)=fl eFr (s.fr.set a g):=fun g=>fl_set za6 (by rw[hs.b]; exact ha) g
 have hpa:∀g,(fl eBo s.has).take a++[D.bool g]++(fl eBo s.has).drop (a+1)=fl eBo (s.has.set a g):=fun g=>by
  have:=fl_set (enc:=eBo) (s:=1) (fun x=>rfl) (xs:=s.has) (i:=a) (by rw[hs.a]; exact ha) g
  rwa[Nat.mul_one] at this
 have hpc:∀g,(fl eBo s.fresh).take a++[D.bool g]++(fl eBo s.fresh).drop (a+1)=fl eBo (s.fresh.set a g):=fun g=>by
  have:=fl_set (enc:=eBo) (s:=1) (fun x=>rfl) (xs:=s.fresh) (i:=a) (by rw[hs.c]; exact ha) g
  rwa[Nat.mul_one] at this
 have hla:(fl eBo s.has).length=m:=by rw[fl_len (s:=1) (fun x=>rfl),hs.a,Nat.mul_one]
 have hlc:(fl eBo s.fresh).length=m:=by rw[fl_len (s:=1) (fun x=>rfl),hs.c,Nat.mul_one]
 have base:St.le (stI q s) (((stI q s).set b4 [.bsl q.a 0 m m,.bsl q.b 0 m m,.bsl q.c 0 m m,.bsl q.d 0 m m]).set b7 (eFr f)):=(le_add hb4).trans (le_add (by rw[set_has]; exact fun h=>h.elim n7 hb7))
 have hfa:(26≤((fl eFr s.fr).drop (a*26)).length)=True:=eq_true (by rw[List.length_drop,hfl]; omega)
 cases hh:(s.has[a]?).getD false
 ·have hD:handD l s a f=(⟨s.has.set a true,s.fr.set a f,s.fresh.set a true,s.tk⟩,0):=by rw[handD,if_pos hh]
  simp -implicitDefEqProofs only[go_sem,mmB,hT,n1,n2,n3,n4,Ne.symm n1,Ne.symm n2,Ne.symm n3,Ne.symm n4,p1,p2,p3,p4,Ne.symm p1,Ne.symm p2,Ne.symm p3,Ne.symm p4,n7,n8,h.ab,h.ac,h.bc,Ne.symm h.ab,Ne.symm h.ac,Ne.symm h.bc,Nat.mul_one,Nat.add_zero,Nat.zero_add,ka,kb,kc,hx,hh,bXhbD0]
  refine⟨⟨by omega,by omega⟩, ?_⟩
  simp -implicitDefEqProofs only[go_sem,mmB,hT,n1,n2,n3,n4,Ne.symm n1,Ne.symm n2,Ne.symm n3,Ne.symm n4,p1,p2,p3,p4,Ne.symm p1,Ne.symm p2,Ne.symm p3,Ne.symm p4,n7,n8,h.ab,h.ac,h.bc,Ne.symm h.ab,Ne.symm h.ac,Ne.symm h.bc,Nat.mul_one,Nat.add_zero,Nat.zero_add,ka,kb,kc,hx,hh,hput,hpa,hpc,hla,hlc,hfl,bXhbD0]
  refine⟨fun b hb hc=> ?_,⟨by omega,by omega⟩,by omega,⟨by omega,by omega⟩,by omega,⟨by omega,by omega⟩,by omega,_,_,DLe.refl _, ?_,by rw[hD]; rfl,rfl⟩
  ·rcases hb with rfl|rfl
   ·exact hc.2.1 rfl
   ·exact hc.1 rfl
  rw[hD]
  have:=le_set (b:=q.c) (cs:=fl eBo (s.fresh.set a true)) (le_set (b:=q.b) (cs:=fl eFr (s.fr.set a f)) (le_set (b:=q.a) (cs:=fl eBo (s.has.set a true)) base))
  rw[stI_setA h,stI_setB h,stI_setC h] at this
  exact this
 ·simp -implicitDefEqProofs only[go_sem,mmB,hT,n1,n2,n3,n4,Ne.symm n1,Ne.symm n2,Ne.symm n3,Ne.symm n4,p1,p2,p3,p4,Ne.symm p1,Ne.symm p2,Ne.symm p3,Ne.symm p4,n7,n8,h.ab,h.ac,h.bc,Ne.symm h.ab,Ne.symm h.ac,Ne.symm h.bc,Nat.mul_one,Nat.add_zero,Nat.zero_add,ka,kb,kc,hx,hh,bXhbD0]
  refine⟨⟨by omega,by omega⟩, ?_⟩
  simp -implicitDefEqProofs only[go_sem,mmB,hT,n1,n2,n3,n4,Ne.symm n1,Ne.symm n2,Ne.symm n3,Ne.symm n4,p1,p2,p3,p4,Ne.symm p1,Ne.symm p2,Ne.symm p3,Ne.symm p4,n7,n8,h.ab,h.ac,h.bc,Ne.symm h.ab,Ne.symm h.ac,Ne.symm h.bc,Nat.mul_one,Nat.add_zero,Nat.zero_add,ka,kb,kc,hx,hh,hget,hfl,hfa,bXhbD0]
  refine⟨⟨by omega,by omega⟩, ?_⟩
  refine za3 (refMergeF151 l o _ _ hf hl) ?_
  simp -implicitDefEqProofs only[go_sem,mmB,hT,n1,n2,n3,n4,Ne.symm n1,Ne.symm n2,Ne.symm n3,Ne.symm n4,p1,p2,p3,p4,Ne.symm p1,Ne.symm p2,Ne.symm p3,Ne.symm p4,n7,n8,h.ab,h.ac,h.bc,Ne.symm h.ab,Ne.symm h.ac,Ne.symm h.bc,Nat.mul_one,Nat.add_zero,Nat.zero_add,ka,kb,kc,hx,hh,hget,hfl,hfa,bXhbD0]
  intro b9 r5 r6 r7 r8 hb9
  obtain⟨r1,r2,r3,r4⟩:=stI_ne hb9
  have hb9':∀x y,¬(((stI q s).set b4 x).set b7 y).has b9:=fun x y=>by
   rw[set_has,set_has]
   rintro(h|h|h)
   ·exact r5 h
   ·exact r7 h
   ·exact hb9 h
  by_cases he:(mergeF l ((s.fr[a]?).getD (fr0 0)) f).2=0
  case neg=>
   have he':((((mergeF l ((s.fr[a]?).getD (fr0 0)) f).2:Nat):Int)=0)=False:=eq_false (by omega)
   simp -implicitDefEqProofs only[go_sem,mmB,hT,he',za4]
   refine⟨_,_,DLe.refl _,base.trans (le_add (hb9' _ _)), ?_, ?_⟩
   ·rw[handD,if_neg (by rw[hh]; simp),if_pos he]
   ·rw[handD,if_neg (by rw[hh]; simp),if_pos he]
  have he':((((mergeF l ((s.fr[a]?).getD (fr0 0)) f).2:Nat):Int)=0)=True:=eq_true (by omega)
  simp -implicitDefEqProofs only[go_sem,mmB,hT,zb4,zb5,za9,za8,za6,za5,fr_0,fr_1,gdD,n1,n2,n3,n4,Ne.symm n1,Ne.symm n2,Ne.symm n3,Ne.symm n4,p1,p2,p3,p4,Ne.symm p1,Ne.symm p2,Ne.symm p3,Ne.symm p4,n7,n8,h.ab,h.ac,h.bc,Ne.symm h.ab,Ne.symm h.ac,Ne.symm h.bc,r1,r2,r3,r4,r5,r6,r7,r8,Ne.symm r1,Ne.symm r2,Ne.symm r3,Ne.symm r4,Nat.mul_one,Nat.add_zero,Nat.zero_add,ka,kb,kc,hget,hfl,hfa,he',eq_fr,za4]
  refine⟨⟨by omega,by omega⟩,fun _ b hb hc=>hc.2.2.1 hb,fun _=>⟨by omega,by omega⟩,fun _=>by omega,fun _=>⟨by omega,by omega⟩,fun _=>by rw[hlc]; omega, ?_⟩
  by_cases hm2:(mergeF l ((s.fr[a]?).getD (fr0 0)) f).1=(s.fr[a]?).getD (fr0 0)
  ·have hD:handD l s a f=(s,0):=by rw[handD,if_neg (by rw[hh]; simp),if_neg (by omega),if_neg (by simpa using hm2)]
   rw[hD,show(!decide ((mergeF l ((s.fr[a]?).getD (fr0 0)) f).1=(s.fr[a]?).getD (fr0 0)))=false by simp[hm2]]
   exact⟨_,_,DLe.refl _,base.trans (le_add (hb9' _ _)),rfl,rfl⟩
  ·have hD:handD l s a f=(⟨s.has,s.fr.set a (mergeF l ((s.fr[a]?).getD (fr0 0)) f).1,s.fresh.set a true,s.tk⟩,0):=by rw[handD,if_neg (by rw[hh]; simp),if_neg (by omega),if_pos hm2]
   rw[hD,show(!decide ((mergeF l ((s.fr[a]?).getD (fr0 0)) f).1=(s.fr[a]?).getD (fr0 0)))=true by simp[hm2],hput,hpc]
   refine⟨_,_,DLe.refl _, ?_,rfl,rfl⟩
   have:=le_set (b:=q.c) (cs:=fl eBo (s.fresh.set a true)) (le_set (b:=q.b) (cs:=fl eFr (s.fr.set a (mergeF l ((s.fr[a]?).getD (fr0 0)) f).1)) (base.trans (le_add (cs:=eFr (mergeF l ((s.fr[a]?).getD (fr0 0)) f).1) (hb9' _ _))))
   rw[stI_setB h,stI_setC h] at this
   exact this
open Go.Proofs
theorem can_sig {e:En} (h:canB e=true):∃hs:e.fn.toNat<e.sgs.length,0≤e.fn∧psOf e=e.sgs[e.fn.toNat].ps∧(psOf e).length≤8∧∀t∈psOf e,storedN e.cs.length t=true:=by
 unfold canB at h
 simp only[Bool.and_eq_true,decide_eq_true_eq,List.all_eq_true] at h
 obtain⟨⟨h1,h2,h3,h4⟩,h5⟩:=h
 have hs:e.fn.toNat<e.sgs.length:=by omega
 have hp:psOf e=e.sgs[e.fn.toNat].ps:=by unfold psOf; rw[List.getElem?_eq_getElem hs]; rfl
 have:=h5 _ (List.getElem_mem hs)
 unfold sigMayB at this
 simp only[Bool.and_eq_true,decide_eq_true_eq,Bool.not_eq_true',List.any_eq_false] at this
 refine⟨hs,h3,hp,by rw[hp]; exact this.1.1,fun t ht=> ?_⟩
 rw[hp] at ht
 have:=this.1.2 t ht
 simpa using this
theorem start_ok {e:En} {n:Int} (h:canB e=true) (h1:¬n<(psOf e).length) (h2:¬16<n):(startF e.cs.length (psOf e) n).2=0:=by
 obtain⟨_,_,_,h3,h4⟩:=can_sig h
 unfold startF
 rw[if_neg]
 rintro(h|h|h|h|h)
 ·omega
 ·exact h2 h
 ·omega
 ·exact h1 h
 ·simp only[List.any_eq_true,Bool.not_eq_true'] at h
  obtain⟨t,ht,h⟩:=h
  rw[h4 t ht] at h; cases h
theorem can_falls {e:En} (hw:WideE e) (h:canB e=true):Falls e.cs e.cs.length:=by
 unfold canB at h
 simp only[Bool.and_eq_true,decide_eq_true_eq] at h
 exact(check_right h.1.1).falls
open Go.Proofs
theorem jumps_a {b:List Ty} {p:Nat} (h:(decF b p).2=0) (hj:jumpsB (decF b p).1.op.val=true):0≤(decF b p).1.a:=by
 have hd:=(decF_ok h).2.1
 rw[hd] at hj ⊢
 have h2:(wid ((b[p]?).getD 0).val).1=2:=by
  rcases of_decide_eq_true hj with h|h <;> (change ((b[p]?).getD 0).val=_ at h; rw[h]; rfl)
 show 0≤opdB _
 rw[h2]
 unfold opdB
 rw[if_neg]
 ·omega
 ·intro hc; have:=hc.1; rw[List.length_take] at this; omega
theorem on_in {b:List Ty} {p:Nat} (h:(decF b p).2=0) {x:Int} (hx:x∈(onD (decF b p).1 b.length).1):0≤x∧x≤b.length:=by
 have hp:(decF b p).1.pos=p:=by rw[(decF_ok h).2.1]; rfl
 have hz:=(decF_ok h).2.2.2
 unfold onD at hx
 by_cases h1:jumpsB (decF b p).1.op.val=true∧(b.length:Int)≤(decF b p).1.a
 ·rw[if_pos h1] at hx; simp at hx
 by_cases h2:endsB (decF b p).1.op.val=false∧(decF b p).1.pos+(ze8 (decF b p).1.op.val:Int)=b.length
 ·simp only[if_neg h1,if_pos h2] at hx; simp at hx
 simp only[if_neg h1,if_neg h2,List.mem_append] at hx
 have key:jumpsB (decF b p).1.op.val=true→0≤(decF b p).1.a∧(decF b p).1.a≤b.length:=fun hj=>⟨jumps_a h hj,by
  by_cases hc:(b.length:Int)≤(decF b p).1.a
  ·exact absurd ⟨hj,hc⟩ h1
  ·omega⟩
 rcases hx with(hx|hx)|hx
 ·split at hx
  ·rename_i hc; obtain rfl:=List.mem_singleton.1 hx; exact key hc.1
  ·cases hx
 ·split at hx
  ·obtain rfl:=List.mem_singleton.1 hx; rw[hp]; omega
  ·cases hx
 ·split at hx
  ·rename_i hc; obtain rfl:=List.mem_singleton.1 hx; exact key hc.1
  ·cases hx
theorem on_len (i:Ins) (n:Nat):(onD i n).1.length≤3:=by
 unfold onD
 by_cases h1:jumpsB i.op.val=true∧(n:Int)≤i.a
 ·rw[if_pos h1]; simp
 by_cases h2:endsB i.op.val=false∧i.pos+(ze8 i.op.val:Int)=n
 ·simp only[if_neg h1,if_pos h2]; simp
 simp only[if_neg h1,if_neg h2,List.length_append]
 have k:∀(c:Prop) [Decidable c] (x:Int),(if c then [x] else []).length≤1:=fun c _ x=>by split <;> simp
 exact Nat.add_le_add (Nat.add_le_add (k _ _) (k _ _)) (k _ _)
theorem stD_len {q:QB} {m:Nat}:(stD q m).length=4:=rfl
theorem stD_take {q:QB} {m:Nat}:(stD q m).take 4=stD q m:=rfl
theorem hand_sz {l:List Cl} {s:IS} {m a:Nat} {f:Fr} (h:s.sz m):(handD l s a f).1.sz m:=by
 unfold handD
 split
 ·exact⟨by simpa using h.a,by simpa using h.b,by simpa using h.c,h.d⟩
 split
 ·exact h
 split
 ·exact⟨h.a,by simpa using h.b,by simpa using h.c,h.d⟩
 ·exact h
theorem stI_off {q:QB} {s:IS} (s':IS) {x:Nat} (h:¬(stI q s).has x):¬(stI q s').has x:=fun h'=>h (stI_has.2 (stI_has.1 h'))
def bXhbE0:=aI @zb4 (aI @zb5 (aI @za9 (aI @za8 (aI @za6 (aI @za5 (aI @zb8 (aI @zb2 (aI @zb3 (aI @za7 (aI @gdD @in_1))))))))))
def bXhbE1:=aI @zb4 (aI @zb5 (aI @za9 (aI @za8 (aI @za6 (aI @za5 (aI @zb8 (aI @zb2 (aI @zb3 (aI @za7 (aI @gdD (aI @in_1 @za4)))))))))))
theorem round69 (q:QB) (hq:q.ne) (s:IS) (e:En) (b:List Ty) (o:Own) (hs:s.sz (b.length+1)) (hb:b.length≤4096) (hw:WideE e) (hF:Falls e.cs e.cs.length) (hcs:e.cs.length*48≤140737488355328) (a:Nat) (ha:a≤b.length)
  (ht:∀x<b.length+1,(s.tk[x]?).getD 0≤5000):
  RCall Tryz.prog 53 [.agg (stD q (b.length+1)),.agg (eEn e),.slice o (rws eT b),.int .i64 a] (stI q s) fun d s'=>d= .tup [.int .i64 (roundD e b s a).2.1,.int .i64 (roundD e b s a).2.2]∧s'=stI q (roundD e b s a).1:=by
 have kc:=stI_c (s:=s) hq
 refine F53.rcall rfl fun T hT=> ?_
 simp -implicitDefEqProofs only[go_sem,c53,hT,stD,Nat.mul_one,Nat.add_zero,Nat.zero_add,bXhbE0]
 intro b4 hb4 b5 m1 m2 hb5
 obtain⟨n1,n2,n3,n4⟩:=stI_ne hb4
 obtain⟨p1,p2,p3,p4⟩:=stI_ne hb5
 have hpc:∀g,(fl eBo s.fresh).take a++[D.bool g]++(fl eBo s.fresh).drop (a+1)=fl eBo (s.fresh.set a g):=fun g=>by
  have:=fl_set (enc:=eBo) (s:=1) (fun x=>rfl) (xs:=s.fresh) (i:=a) (by rw[hs.c]; omega) g
  rwa[Nat.mul_one] at this
 have hlc:(fl eBo s.fresh).length=b.length+1:=by rw[fl_len (s:=1) (fun x=>rfl),hs.c,Nat.mul_one]
 simp -implicitDefEqProofs only[go_sem,hT,Nat.mul_one,Nat.add_zero,Nat.zero_add,n1,n2,n3,n4,Ne.symm n1,Ne.symm n2,Ne.symm n3,Ne.symm n4,p1,p2,p3,p4,Ne.symm p1,Ne.symm p2,Ne.symm p3,Ne.symm p4,m1,m2,kc,hpc,hlc,bXhbE0]
 refine⟨⟨by omega,by omega⟩,by omega, ?_⟩
 rw[set_comm p3,set_comm n3,stI_setC hq]
 generalize hs1:(⟨s.has,s.fr,s.fresh.set a false,s.tk⟩:IS)=s1
 have hsz1:s1.sz (b.length+1):=by rw[←hs1]; exact⟨hs.a,hs.b,by simpa using hs.c,hs.d⟩
 have htk1:s1.tk=s.tk:=by rw[←hs1]
 have hfr1:s1.fr=s.fr:=by rw[←hs1]
 have n4':=stI_off s1 hb4
 have n5':=stI_off s1 hb5
 have base1:St.le (stI q s1) (((stI q s1).set b4 [.bsl q.a 0 (b.length+1) (b.length+1),.bsl q.b 0 (b.length+1) (b.length+1),.bsl q.c 0 (b.length+1) (b.length+1),.bsl q.d 0 (b.length+1) (b.length+1)]).set b5 (eEn e)):=
  (le_add n4').trans (le_add (by rw[set_has]; exact fun h=>h.elim m1 n5'))
 by_cases g1:a=b.length
 ·have hR:roundD e b s a=(s1,(a:Int),51):=by unfold roundD; rw[if_pos g1,hs1]
  have g1':((a:Int)=b.length)=True:=eq_true (by omega)
  simp -implicitDefEqProofs only[go_sem,hT,g1']
  exact⟨_,_,DLe.refl _,base1,by rw[hR]; rfl,by rw[hR]⟩
 have g1':((a:Int)=b.length)=False:=eq_false (by omega)
 simp -implicitDefEqProofs only[go_sem,hT,g1']
 refine za3 (refDecode19 b o a (by omega) (by omega)) ?_
 simp -implicitDefEqProofs only[go_sem,hT,g1',Nat.mul_one,Nat.add_zero,Nat.zero_add,n1,n2,n3,n4,Ne.symm n1,Ne.symm n2,Ne.symm n3,Ne.symm n4,p1,p2,p3,p4,Ne.symm p1,Ne.symm p2,Ne.symm p3,Ne.symm p4,m1,m2,bXhbE0]
 intro b10 r5 r6 r7 r8 hb10
 obtain⟨r1,r2,r3,r4⟩:=stI_ne hb10
 have n10':=stI_off s1 hb10
 have base2:∀v,St.le (stI q s1) ((((stI q s1).set b4 [.bsl q.a 0 (b.length+1) (b.length+1),.bsl q.b 0 (b.length+1) (b.length+1),.bsl q.c 0 (b.length+1) (b.length+1),.bsl q.d 0 (b.length+1) (b.length+1)]).set b5 (eEn e)).set b10 v):=fun v=>
  base1.trans (le_add (by rw[set_has,set_has]; exact fun h=>h.elim r5 fun h=>h.elim r7 n10'))
 by_cases g2:(decF b a).2=0
 case neg=>
  have hR:roundD e b s a=(s1,(a:Int),(decF b a).2):=by unfold roundD; rw[if_neg g1,if_pos g2,hs1]
  have g2':(((decF b a).2:Int)=0)=False:=eq_false (by omega)
  simp -implicitDefEqProofs only[go_sem,hT,g2',Nat.mul_one,Nat.add_zero,Nat.zero_add,n1,n2,n3,n4,Ne.symm n1,Ne.symm n2,Ne.symm n3,Ne.symm n4,p1,p2,p3,p4,Ne.symm p1,Ne.symm p2,Ne.symm p3,Ne.symm p4,m1,m2,r1,r2,r3,r4,Ne.symm r1,Ne.symm r2,Ne.symm r3,Ne.symm r4,r5,r6,r7,r8,bXhbE1]
  exact⟨_,_,DLe.refl _,base2 _,by rw[hR],by rw[hR]⟩
 have g2':(((decF b a).2:Int)=0)=True:=eq_true (by omega)
 have ob:eIn (decF b a).1=[.int .i64 (decF b a).1.pos,.int .u8 (decF b a).1.op.val,.int .i64 (decF b a).1.a,.int .i64 (decF b a).1.b]:=rfl
 simp -implicitDefEqProofs only[go_sem,hT,g2',Nat.mul_one,Nat.add_zero,Nat.zero_add,n1,n2,n3,n4,Ne.symm n1,Ne.symm n2,Ne.symm n3,Ne.symm n4,p1,p2,p3,p4,Ne.symm p1,Ne.symm p2,Ne.symm p3,Ne.symm p4,m1,m2,r1,r2,r3,r4,Ne.symm r1,Ne.symm r2,Ne.symm r3,Ne.symm r4,r5,r6,r7,r8,bXhbE1]
 refine za3 (refSize74 (decF b a).1.op) ?_
 simp -implicitDefEqProofs only[go_sem,hT,Nat.mul_one,Nat.add_zero,Nat.zero_add,n1,n2,n3,n4,Ne.symm n1,Ne.symm n2,Ne.symm n3,Ne.symm n4,p1,p2,p3,p4,Ne.symm p1,Ne.symm p2,Ne.symm p3,Ne.symm p4,m1,m2,r1,r2,r3,r4,Ne.symm r1,Ne.symm r2,Ne.symm r3,Ne.symm r4,r5,r6,r7,r8,bXhbE1]
 have hsz:=sizeOp_le (decF b a).1.op.val
 have hoff:offL (stI q s1) [.bx b4 (stD q (b.length+1)),.bx b5 (eEn e),.bx b10 (eIn (decF b a).1)]:=⟨n4',n5',n10',trivial⟩
 refine callB_under [.bx b4 (stD q (b.length+1)),.bx b5 (eEn e),.bx b10 (eIn (decF b a).1)] hoff ((overlaps111 q hq s1 (b.length+1) hsz1 (by omega) a (ze8 (decF b a).1.op.val) (by omega) (by omega) (by rw[htk1]; exact ht)).xcall (Rp:=fun _ _=>False)) (fun d s' hR _=> ?_) fun d s' h=>h.elim
 obtain⟨rfl,rfl⟩:=hR
 rw[htk1]
 cases g3:overB s.tk a (ze8 (decF b a).1.op.val)
 case true=>
  have hR:roundD e b s a=(s1,(a:Int),80):=by unfold roundD; rw[if_neg g1,if_neg (by omega),if_pos g3,hs1]
  simp -implicitDefEqProofs only[go_sem,hT,putL,List.foldl_cons,List.foldl_nil,LI.put]
  exact⟨_,_,DLe.refl _,base2 _,by rw[hR]; rfl,by rw[hR]⟩
 have kd:=stI_d (q:=q) (s:=s1)
 have hld:(fl eN s1.tk).length=b.length+1:=by rw[fl_len (s:=1) (fun x=>rfl),hsz1.d,Nat.mul_one]
 have hpd:∀g:Nat,(fl eN s1.tk).take a++[D.int .i64 (g:Int)]++(fl eN s1.tk).drop (a+1)=fl eN (s1.tk.set a g):=fun g=>by
  have:=fl_set (enc:=eN) (s:=1) (fun x=>rfl) (xs:=s1.tk) (i:=a) (by rw[hsz1.d]; omega) g
  rwa[Nat.mul_one] at this
 have kb:=stI_b (s:=s1) hq
 have hfl:(fl eFr s1.fr).length=(b.length+1)*26:=by rw[fl_len za6,hsz1.b]
 have hget:((fl eFr s1.fr).drop (a*26)).take 26=eFr ((s.fr[a]?).getD (fr0 0)):=by
  rw[fl_at za6 (by rw[hsz1.b]; omega),←hfr1,List.getElem?_eq_getElem (by rw[hsz1.b]; omega)]; rfl
 have hfa:(26≤((fl eFr s1.fr).drop (a*26)).length)=True:=eq_true (by rw[List.length_drop,hfl]; omega)
 simp -implicitDefEqProofs only[go_sem,hT,putL,List.foldl_cons,List.foldl_nil,LI.put,stD,Nat.mul_one,Nat.add_zero,Nat.zero_add,n1,n2,n3,n4,Ne.symm n1,Ne.symm n2,Ne.symm n3,Ne.symm n4,p1,p2,p3,p4,Ne.symm p1,Ne.symm p2,Ne.symm p3,Ne.symm p4,m1,m2,r1,r2,r3,r4,Ne.symm r1,Ne.symm r2,Ne.symm r3,Ne.symm r4,r5,r6,r7,r8,kd,hld,hpd,kb,hq.bd,hget,hfl,hfa,bXhbE0]
 refine⟨⟨by omega,by omega⟩,by omega, ?_⟩
 rw[set_comm r4,set_comm p4,set_comm n4,stI_setD]
 have hs2:(⟨s1.has,s1.fr,s1.fresh,s1.tk.set a (ze8 (decF b a).1.op.val)⟩:IS)=⟨s.has,s.fr,s.fresh.set a false,s.tk.set a (ze8 (decF b a).1.op.val)⟩:=by rw[←hs1]
 generalize hs2':(⟨s1.has,s1.fr,s1.fresh,s1.tk.set a (ze8 (decF b a).1.op.val)⟩:IS)=s2 at hs2 ⊢
 have hsz2:s2.sz (b.length+1):=by rw[hs2]; exact⟨hs.a,hs.b,by simpa using hs.c,by simpa using hs.d⟩
 have hfr2:s2.fr=s.fr:=by rw[hs2]
 have q4':=stI_off s2 hb4
 have q5':=stI_off s2 hb5
 have q10':=stI_off s2 hb10
 have base3:∀v,St.le (stI q s2) ((((stI q s2).set b4 [.bsl q.a 0 (b.length+1) (b.length+1),.bsl q.b 0 (b.length+1) (b.length+1),.bsl q.c 0 (b.length+1) (b.length+1),.bsl q.d 0 (b.length+1) (b.length+1)]).set b5 (eEn e)).set b10 v):=fun v=>
  ((le_add q4').trans (le_add (by rw[set_has]; exact fun h=>h.elim m1 q5'))).trans (le_add (by rw[set_has,set_has]; exact fun h=>h.elim r5 fun h=>h.elim r7 q10'))
 clear base1 base2 hoff kd hld hpd
 refine⟨⟨by omega,by omega⟩, ?_⟩
 refine za3 (refApply37 e _ _ hw) ?_
 simp -implicitDefEqProofs only[go_sem,hT,Nat.mul_one,Nat.add_zero,Nat.zero_add,n1,n2,n3,n4,Ne.symm n1,Ne.symm n2,Ne.symm n3,Ne.symm n4,p1,p2,p3,p4,Ne.symm p1,Ne.symm p2,Ne.symm p3,Ne.symm p4,m1,m2,r1,r2,r3,r4,Ne.symm r1,Ne.symm r2,Ne.symm r3,Ne.symm r4,r5,r6,r7,r8,bXhbE0]
 intro b13 t5 t6 t7 t8 t9 t10 hb13
 obtain⟨t1,t2,t3,t4⟩:=stI_ne hb13
 have q13':=stI_off s2 hb13
 have base4:∀v w,St.le (stI q s2) (((((stI q s2).set b4 [.bsl q.a 0 (b.length+1) (b.length+1),.bsl q.b 0 (b.length+1) (b.length+1),.bsl q.c 0 (b.length+1) (b.length+1),.bsl q.d 0 (b.length+1) (b.length+1)]).set b5 (eEn e)).set b10 v).set b13 w):=fun v w=>
  (base3 v).trans (le_add (by rw[set_has,set_has,set_has]; exact fun h=>h.elim t5 fun h=>h.elim t7 fun h=>h.elim t9 q13'))
 obtain⟨⟨g,f4⟩,hG⟩:∃x,applyR e ((s.fr[a]?).getD (fr0 0)) (decF b a).1=x:=⟨_,rfl⟩
 rw[hG]
 by_cases g4:f4=0
 case neg=>
  have hR:roundD e b s a=(s2,(a:Int),f4):=by unfold roundD; rw[if_neg g1,if_neg (by omega),if_neg (by rw[g3]; simp)]; simp only[hG]; rw[if_pos g4,hs2]
  have g4':((f4:Int)=0)=False:=eq_false (by omega)
  simp -implicitDefEqProofs only[go_sem,hT,g4',Nat.mul_one,Nat.add_zero,Nat.zero_add,n1,n2,n3,n4,Ne.symm n1,Ne.symm n2,Ne.symm n3,Ne.symm n4,p1,p2,p3,p4,Ne.symm p1,Ne.symm p2,Ne.symm p3,Ne.symm p4,m1,m2,r1,r2,r3,r4,Ne.symm r1,Ne.symm r2,Ne.symm r3,Ne.symm r4,r5,r6,r7,r8,t1,t2,t3,t4,Ne.symm t1,Ne.symm t2,Ne.symm t3,Ne.symm t4,t5,t6,t7,t8,t9,t10,bXhbE1]
  exact⟨_,_,DLe.refl _,base4 _ _,by rw[hR],by rw[hR]⟩
 have g4':((f4:Int)=0)=True:=eq_true (by omega)
 have hpos:(decF b a).1.pos=a:=by rw[(decF_ok g2).2.1]; rfl
 simp -implicitDefEqProofs only[go_sem,hT,g4',Nat.mul_one,Nat.add_zero,Nat.zero_add,n1,n2,n3,n4,Ne.symm n1,Ne.symm n2,Ne.symm n3,Ne.symm n4,p1,p2,p3,p4,Ne.symm p1,Ne.symm p2,Ne.symm p3,Ne.symm p4,m1,m2,r1,r2,r3,r4,Ne.symm r1,Ne.symm r2,Ne.symm r3,Ne.symm r4,r5,r6,r7,r8,t1,t2,t3,t4,Ne.symm t1,Ne.symm t2,Ne.symm t3,Ne.symm t4,t5,t6,t7,t8,t9,t10,bXhbE1]
 refine za3 (on112 (decF b a).1 b.length (by rw[hpos]; omega)) ?_
 simp -implicitDefEqProofs only[go_sem,hT,Nat.mul_one,Nat.add_zero,Nat.zero_add,n1,n2,n3,n4,Ne.symm n1,Ne.symm n2,Ne.symm n3,Ne.symm n4,p1,p2,p3,p4,Ne.symm p1,Ne.symm p2,Ne.symm p3,Ne.symm p4,m1,m2,r1,r2,r3,r4,Ne.symm r1,Ne.symm r2,Ne.symm r3,Ne.symm r4,r5,r6,r7,r8,t1,t2,t3,t4,Ne.symm t1,Ne.symm t2,Ne.symm t3,Ne.symm t4,t5,t6,t7,t8,t9,t10,bXhbE1]
 have hin:=fun x hx=>on_in (b:=b) (p:=a) g2 (x:=x) hx
 generalize hO:onD (decF b a).1 b.length=ot at hin ⊢
 obtain⟨to,f5⟩:=ot
 simp only at hin ⊢
 by_cases g5:f5=0
 case neg=>
  have hR:roundD e b s a=(s2,(a:Int),f5):=by unfold roundD; rw[if_neg g1,if_neg (by omega),if_neg (by rw[g3]; simp)]; simp only[hG,hO]; rw[if_neg (by omega),if_pos g5,hs2]
  have g5':((f5:Int)=0)=False:=eq_false (by omega)
  simp -implicitDefEqProofs only[go_sem,hT,g5',Nat.mul_one,Nat.add_zero,Nat.zero_add,n1,n2,n3,n4,Ne.symm n1,Ne.symm n2,Ne.symm n3,Ne.symm n4,p1,p2,p3,p4,Ne.symm p1,Ne.symm p2,Ne.symm p3,Ne.symm p4,m1,m2,r1,r2,r3,r4,Ne.symm r1,Ne.symm r2,Ne.symm r3,Ne.symm r4,r5,r6,r7,r8,t1,t2,t3,t4,Ne.symm t1,Ne.symm t2,Ne.symm t3,Ne.symm t4,t5,t6,t7,t8,t9,t10,bXhbE1]
  exact⟨_,_,DLe.refl _,base4 _ _,by rw[hR],by rw[hR]⟩
 have g5':((f5:Int)=0)=True:=eq_true (by omega)
 have hR:roundD e b s a=handsD e.cs g to s2:=by unfold roundD; rw[if_neg g1,if_neg (by omega),if_neg (by rw[g3]; simp)]; simp only[hG,hO]; rw[if_neg (by omega),if_neg (by omega),hs2]
 rw[hR]
 simp -implicitDefEqProofs only[go_sem,hT,g5',Nat.mul_one,Nat.add_zero,Nat.zero_add,n1,n2,n3,n4,Ne.symm n1,Ne.symm n2,Ne.symm n3,Ne.symm n4,p1,p2,p3,p4,Ne.symm p1,Ne.symm p2,Ne.symm p3,Ne.symm p4,m1,m2,r1,r2,r3,r4,Ne.symm r1,Ne.symm r2,Ne.symm r3,Ne.symm r4,r5,r6,r7,r8,t1,t2,t3,t4,Ne.symm t1,Ne.symm t2,Ne.symm t3,Ne.symm t4,t5,t6,t7,t8,t9,t10,bXhbE1]
 obtain⟨L,hL⟩:∃L:List LI,L=[.bx b4 (stD q (b.length+1)),.bx b5 (eEn e),.bx b10 (eIn (decF b a).1),.bx b13 (eFr g)]:=⟨_,rfl⟩
 have hof:∀x,offL (stI q x) L:=fun x=>by rw[hL]; exact⟨stI_off x hb4,stI_off x hb5,stI_off x hb10,stI_off x hb13,trivial⟩
 have hlt:to.length≤3:=by have:=on_len (decF b a).1 b.length; rw[hO] at this; exact this
 refine loopL F53 (fun x:Nat×IS=>[(4,.ptr b4 0),(5,.ptr b5 0),(13,.ptr b13 0),(14,.slice .no (rws eI to)),(15,.int .i64 x.1)]) (fun x=>putL (stI q x.2) L)
  (fun x=>x.1≤to.length∧x.2.sz (b.length+1)∧handsD e.cs g to s2=handsD e.cs g (to.drop x.1) x.2) (fun x=>to.length-x.1) (0,s2) ⟨by simp,hsz2,by simp⟩ ?_ (by rw[hL]; exact St.le.refl _) ?_
 ·simp -implicitDefEqProofs only[go_sem,hT,zb4,zb5,za9,za8,za6,za5,zb8,zb2,zb3,za7,gdD,Nat.mul_one,Nat.add_zero,Nat.zero_add,in_1,t1,t2,t3,t4,Ne.symm t1,Ne.symm t2,Ne.symm t3,Ne.symm t4,t5,t6,t7,t8,t9,t10,Int.ofNat_zero]
 clear hT T
 rintro⟨i,s3⟩ ⟨hi,hsz3,heq⟩ T hT
 simp only at hi hsz3 heq hT ⊢
 have y4:(putL (stI q s3) L).box b4=some (stD q (b.length+1)):=by rw[hL]; simp[putL,LI.put,St.set_box,t7,t9,t1,t2,t3,t4,Ne.symm t1,Ne.symm t2,Ne.symm t3,Ne.symm t4,t5,t6,t8,t10,r1,r2,r3,r4,Ne.symm r1,Ne.symm r2,Ne.symm r3,Ne.symm r4,r5,r6,r7,r8,n1,n2,n3,n4,Ne.symm n1,Ne.symm n2,Ne.symm n3,Ne.symm n4,p1,p2,p3,p4,Ne.symm p1,Ne.symm p2,Ne.symm p3,Ne.symm p4,m1,m2]
 have y5:(putL (stI q s3) L).box b5=some (eEn e):=by rw[hL]; simp[putL,LI.put,St.set_box,t1,t2,t3,t4,Ne.symm t1,Ne.symm t2,Ne.symm t3,Ne.symm t4,t5,t6,t7,t8,t9,t10,r1,r2,r3,r4,Ne.symm r1,Ne.symm r2,Ne.symm r3,Ne.symm r4,r5,r6,r7,r8,n1,n2,n3,n4,Ne.symm n1,Ne.symm n2,Ne.symm n3,Ne.symm n4,p1,p2,p3,p4,Ne.symm p1,Ne.symm p2,Ne.symm p3,Ne.symm p4,m1,m2]
 have y13:(putL (stI q s3) L).box b13=some (eFr g):=by rw[hL]; simp[putL,LI.put,St.set_box]
 by_cases h:i<to.length
 ·have p2:((i:Int)<to.length)=True:=eq_true (by omega)
  have hax:=rws_at (enc:=eI) h
  have hd:to.drop i=to[i]::to.drop (i+1):=List.drop_eq_getElem_cons h
  obtain⟨hi0,hi1⟩:=hin _ (List.getElem_mem h)
  obtain⟨z,hz⟩:∃z:Nat,to[i]=z:=⟨to[i].toNat,by omega⟩
  have w1:IntKind.wrap .i64 ((i:Int)+1)=((i+1:Nat):Int):=by rw[zb7 (by omega) (by omega)]; simp
  have en0:(eEn e)[0]? =some (.slice .no (rws eC e.cs)):=rfl
  simp -implicitDefEqProofs only[go_sem,hT,zb4,zb5,za9,za8,za6,za5,zb8,zb2,zb3,za7,gdD,Nat.mul_one,Nat.add_zero,Nat.zero_add,in_1,y4,y5,y13,p2,hax,eI,hz,stD_len,stD_take,en0]
  refine⟨by omega, ?_⟩
  refine callB_under L (hof _) ((hand113 q hq s3 (b.length+1) hsz3 (by omega) e.cs .no hF hcs z (by omega) g).xcall (Rp:=fun _ _=>False)) (fun d s' hR _=> ?_) fun d s' h=>h.elim
  obtain⟨rfl,rfl⟩:=hR
  have hst:handsD e.cs g (to.drop i) s3=if(handD e.cs s3 z g).2≠0 then((handD e.cs s3 z g).1,(z:Int),(handD e.cs s3 z g).2) else handsD e.cs g (to.drop (i+1)) (handD e.cs s3 z g).1:=by
   rw[hd,handsD,hz,Int.toNat_natCast]
  by_cases g6:(handD e.cs s3 z g).2=0
  ·have g6':(((handD e.cs s3 z g).2:Int)=0)=True:=eq_true (by omega)
   simp -implicitDefEqProofs only[go_sem,hT,Nat.mul_one,Nat.add_zero,Nat.zero_add,g6',w1,bXhbE0]
   refine⟨(i+1,(handD e.cs s3 z g).1),⟨by omega,hand_sz hsz3, ?_⟩,by omega,rfl,St.le.refl _⟩
   rw[heq,hst,if_neg (by omega)]
  ·have g6':(((handD e.cs s3 z g).2:Int)=0)=False:=eq_false (by omega)
   simp -implicitDefEqProofs only[go_sem,hT,Nat.mul_one,Nat.add_zero,Nat.zero_add,g6',hax,eI,hz,bXhbE0]
   rw[heq,hst,if_pos g6]
   refine⟨⟨by omega,by omega⟩, ?_⟩
   exact⟨_,_,DLe.refl _,le_putL (St.le.refl _) (hof _),rfl,rfl⟩
 ·have p2:((i:Int)<to.length)=False:=eq_false (by omega)
  simp -implicitDefEqProofs only[go_sem,hT,Nat.mul_one,Nat.add_zero,Nat.zero_add,y4,y5,y13,p2,bXhbE0]
  rw[heq,List.drop_eq_nil_of_le (by omega),handsD]
  exact⟨_,_,DLe.refl _,le_putL (St.le.refl _) (hof _),rfl,rfl⟩
open Go.Proofs
theorem filter_le {α:Type} {p q:α→Bool}:∀{L:List α},(∀x∈L,p x=true→q x=true)→(L.filter p).length≤(L.filter q).length
 |[],_=>Nat.le_refl _
 |x::L,h=>by
  have ih:=filter_le (L:=L) fun y hy=>h y (List.mem_cons_of_mem _ hy)
  have hx:=h x (List.mem_cons_self ..)
  cases hp:p x
  ·rw[List.filter_cons_of_neg (by simp[hp])]
   cases hq:q x
   ·rw[List.filter_cons_of_neg (by simp[hq])]; exact ih
   ·rw[List.filter_cons_of_pos hq,List.length_cons]; omega
  ·rw[List.filter_cons_of_pos hp,List.filter_cons_of_pos (hx hp),List.length_cons,List.length_cons]; omega
theorem filter_lt {α:Type} {p q:α→Bool}:∀{L:List α},(∀x∈L,p x=true→q x=true)→(∃x∈L,p x=false∧q x=true)→(L.filter p).length<(L.filter q).length
 |[],_,⟨x,hx,_⟩=>by cases hx
 |x::L,h,⟨y,hy,h1,h2⟩=>by
  have hx:=h x (List.mem_cons_self ..)
  have hL:∀z∈L,p z=true→q z=true:=fun z hz=>h z (List.mem_cons_of_mem _ hz)
  rcases List.mem_cons.1 hy with rfl|hy
  ·rw[List.filter_cons_of_neg (by simp[h1]),List.filter_cons_of_pos h2,List.length_cons]
   have:=filter_le hL; omega
  ·have ih:=filter_lt hL ⟨y,hy,h1,h2⟩
   cases hp:p x
   ·rw[List.filter_cons_of_neg (by simp[hp])]
    cases hq:q x
    ·rw[List.filter_cons_of_neg (by simp[hq])]; exact ih
    ·rw[List.filter_cons_of_pos hq,List.length_cons]; omega
   ·rw[List.filter_cons_of_pos hp,List.filter_cons_of_pos (hx hp),List.length_cons,List.length_cons]; omega
def rankT (l:List Cl) (t:Ty):Nat:=((List.range 256).filter fun i=>subB l t (tyN i)).length
theorem rankT_le {l:List Cl} {t:Ty}:rankT l t≤256:=Nat.le_trans (List.length_filter_le _ _) (by simp)
theorem rank_lt {l:List Cl} {t u:Ty} (ht:validN l.length t=true) (h:subB l t u=true) (hne:u≠t):rankT l u<rankT l t:=
 filter_lt (fun i _ hi=>subB_trans h hi) ⟨t.val,List.mem_range.2 t.isLt,by
  rw[tyN_self]
  cases hs:subB l u t
  ·rfl
  ·exact absurd (subB_antisymm hs h) hne,by rw[tyN_self]; exact subB_refl ht⟩
def sumN (f:Nat→Nat):Nat→Nat
 |0=>0
 |n+1=>sumN f n+f n
theorem sumN_le {f g:Nat→Nat}:∀{n:Nat},(∀i<n,f i≤g i)→sumN f n≤sumN g n
 |0,_=>Nat.le_refl _
 |n+1,h=>Nat.add_le_add (sumN_le fun i hi=>h i (by omega)) (h n (by omega))
theorem sumN_lt {f g:Nat→Nat}:∀{n:Nat},(∀i<n,f i≤g i)→(∃i<n,f i<g i)→sumN f n<sumN g n
 |0,_,⟨i,hi,_⟩=>by omega
 |n+1,h,⟨i,hi,hlt⟩=>by
  show sumN f n+f n<sumN g n+g n
  by_cases he:i=n
  ·subst he
   have:=sumN_le (n:=i) fun j hj=>h j (by omega)
   omega
  ·have:=sumN_lt (n:=n) (fun j hj=>h j (by omega)) ⟨i,by omega,hlt⟩
   have:=h n (by omega)
   omega
theorem sumN_bound {f:Nat→Nat} {c:Nat} (h:∀i,f i≤c):∀n,sumN f n≤n*c
 |0=>by simp[sumN]
 |n+1=>by
  have:=sumN_bound h n
  have:=h n
  show sumN f n+f n≤_
  rw[Nat.add_mul]; omega
theorem sumN_congr {f g:Nat→Nat} {n:Nat} (h:∀i<n,f i=g i):sumN f n=sumN g n:=
 Nat.le_antisymm (sumN_le fun i hi=>Nat.le_of_eq (h i hi)) (sumN_le fun i hi=>Nat.le_of_eq (h i hi).symm)
def rankF (l:List Cl) (f:Fr):Nat:=sumN (fun i=>rankT l (slAt f i)) 24
theorem rankF_le {l:List Cl} {f:Fr}:rankF l f≤24*256:=sumN_bound (fun i=>rankT_le) 24
theorem merge_falls {l:List Cl} {f g:Fr} (h:(mergeF l f g).2=0) (hne:(mergeF l f g).1≠f):rankF l (mergeF l f g).1<rankF l f:=by
 unfold mergeF at h hne ⊢
 by_cases h0:alikeF l.length f g=0
 case neg=>rw[if_pos h0] at h; exact absurd h h0
 rw[if_neg (by omega)] at hne ⊢
 simp only at hne ⊢
 obtain⟨ca,cb,hloc,hh⟩:=alike_zero h0
 obtain⟨s1,s2,s3,s4⟩:=shaped_of (checkF_iff.1 ca).1
 have h24:(f.loc+f.h).toNat≤24:=by omega
 have hv:=(checkF_iff.1 ca).2.2
 have hw:=(checkF_iff.1 cb).2.2
 have step:∀i,i<24→slAt (mgAt l f g (f.loc+f.h).toNat) i=slAt f i∨rankT l (slAt (mgAt l f g (f.loc+f.h).toNat) i)<rankT l (slAt f i):=fun i hi=>by
  rw[mgAt_sl _ h24 i hi]
  by_cases hc:i<(f.loc+f.h).toNat
  ·rw[if_pos hc]
   by_cases he:mergeT l (slAt f i) (slAt g i)=slAt f i
   ·exact .inl he
   ·exact .inr (rank_lt (hv i hi) (merge_up (hv i hi) (hw i hi)).1 he)
  ·rw[if_neg hc]; exact .inl rfl
 refine sumN_lt (fun i hi=> ?_) ?_
 ·rcases step i hi with h|h
  ·rw[h]; exact Nat.le_refl _
  ·exact Nat.le_of_lt h
 ·refine Classical.byContradiction fun hn=>hne (fr_ext (mgAt_loc _).1 (mgAt_loc _).2 fun i hi=> ?_)
  rcases step i hi with h|h
  ·exact h
  ·exact absurd ⟨i,hi,h⟩ hn
open Go.Proofs
def potA (l:List Cl) (s:IS) (x:Nat):Nat:=if(s.has[x]?).getD false=true then rankF l ((s.fr[x]?).getD (fr0 0)) else 6145
def potS (l:List Cl) (s:IS) (m:Nat):Nat:=sumN (potA l s) m
def newN (s:IS) (m:Nat):Nat:=sumN (fun x=>if(s.fresh[x]?).getD false=true then 1 else 0) m
def muS (l:List Cl) (s:IS) (m:Nat):Nat:=potS l s m*(m+1)+newN s m
theorem potA_le {l:List Cl} {s:IS} {x:Nat}:potA l s x≤6145:=by
 unfold potA; split
 ·have:=rankF_le (l:=l) (f:=(s.fr[x]?).getD (fr0 0)); omega
 ·exact Nat.le_refl _
theorem newN_le {s:IS} {m:Nat}:newN s m≤m:=by
 have:=sumN_bound (f:=fun x=>if(s.fresh[x]?).getD false=true then 1 else 0) (c:=1) (fun i=>by split <;> omega) m
 unfold newN; omega
theorem muS_le {l:List Cl} {s:IS} {m:Nat}:muS l s m≤(m*6145)*(m+1)+m:=by
 have h1:potS l s m≤m*6145:=sumN_bound (fun i=>potA_le) m
 have h2:=newN_le (s:=s) (m:=m)
 have:=Nat.mul_le_mul_right (m+1) h1
 unfold muS; omega
theorem set_at {α:Type} {L:List α} {a:Nat} (h:a<L.length) (v d:α) (x:Nat):((L.set a v)[x]?).getD d=if x=a then v else(L[x]?).getD d:=by
 rw[List.getElem?_set]
 by_cases he:a=x
 ·subst he; simp[h]
 ·rw[if_neg he,if_neg (Ne.symm he)]
theorem hand_falls {l:List Cl} {s:IS} {a m:Nat} {f:Fr} (hs:s.sz m) (ha:a<m):(handD l s a f).1=s∨potS l (handD l s a f).1 m<potS l s m:=by
 unfold handD
 by_cases h1:(s.has[a]?).getD false=false
 ·rw[if_pos h1]
  refine .inr (sumN_lt (fun x hx=> ?_) ⟨a,ha, ?_⟩)
  ·simp only[potA]
   rw[set_at (by rw[hs.a]; exact ha),set_at (by rw[hs.b]; exact ha)]
   by_cases he:x=a
   ·rw[if_pos he,if_pos he,if_pos rfl,he,h1]
    have:=rankF_le (l:=l) (f:=f); simp; omega
   ·rw[if_neg he,if_neg he]; exact Nat.le_refl _
  ·simp only[potA]
   rw[set_at (by rw[hs.a]; exact ha),set_at (by rw[hs.b]; exact ha),if_pos rfl,if_pos rfl,if_pos rfl,h1]
   have:=rankF_le (l:=l) (f:=f); simp; omega
 rw[if_neg h1]
 rw[Bool.not_eq_false] at h1
 by_cases h2:(mergeF l ((s.fr[a]?).getD (fr0 0)) f).2=0
 case neg=>rw[if_pos h2]; exact .inl rfl
 rw[if_neg (by omega)]
 by_cases h3:(mergeF l ((s.fr[a]?).getD (fr0 0)) f).1=(s.fr[a]?).getD (fr0 0)
 ·rw[if_neg (by simpa using h3)]; exact .inl rfl
 rw[if_pos h3]
 have hlt:=merge_falls h2 h3
 refine .inr (sumN_lt (fun x hx=> ?_) ⟨a,ha, ?_⟩)
 ·simp only[potA]
  rw[set_at (by rw[hs.b]; exact ha)]
  by_cases he:x=a
  ·rw[if_pos he,he,h1,if_pos rfl,if_pos rfl]; omega
  ·rw[if_neg he]; exact Nat.le_refl _
 ·simp only[potA]
  rw[set_at (by rw[hs.b]; exact ha),if_pos rfl,h1,if_pos rfl,if_pos rfl]; exact hlt
theorem hands_sz {l:List Cl} {m:Nat} {f:Fr}:∀{to:List Int} {s:IS},s.sz m→(handsD l f to s).1.sz m
 |[],s,h=>h
 |a::r,s,h=>by
  rw[handsD]
  split
  ·exact hand_sz h
  ·exact hands_sz (hand_sz h)
theorem hands_falls {l:List Cl} {m:Nat} {f:Fr}:∀{to:List Int} {s:IS},s.sz m→(∀x∈to,0≤x∧x<m)→(handsD l f to s).1=s∨potS l (handsD l f to s).1 m<potS l s m
 |[],s,h,_=> .inl rfl
 |a::r,s,h,ht=>by
  have h0:=ht a (List.mem_cons_self ..)
  have h1:=hand_falls (l:=l) (f:=f) h (show a.toNat<m by omega)
  rw[handsD]
  split
  ·exact h1
  ·have ih:=hands_falls (l:=l) (f:=f) (hand_sz (l:=l) (a:=a.toNat) (f:=f) h) fun x hx=>ht x (List.mem_cons_of_mem _ hx)
   rcases ih with ih|ih <;> rcases h1 with h1|h1
   ·rw[ih,h1]; exact .inl rfl
   ·rw[ih]; exact .inr h1
   ·rw[h1] at ih ⊢; exact .inr ih
   ·exact .inr (by omega)
theorem hand_tk {l:List Cl} {s:IS} {a:Nat} {f:Fr}:(handD l s a f).1.tk=s.tk:=by
 unfold handD
 split
 ·rfl
 split
 ·rfl
 split <;> rfl
theorem hands_tk {l:List Cl} {f:Fr}:∀{to:List Int} {s:IS},(handsD l f to s).1.tk=s.tk
 |[],s=>rfl
 |a::r,s=>by
  rw[handsD]
  split
  ·exact hand_tk
  ·rw[hands_tk,hand_tk]
theorem round_shape {e:En} {b:List Ty} {s:IS} {a:Nat} (hs:s.sz (b.length+1)) (ha:a≤b.length):
  ∃s2:IS,s2.has=s.has∧s2.fr=s.fr∧s2.fresh=s.fresh.set a false∧(s2.tk=s.tk∨∃z,z≤6∧s2.tk=s.tk.set a z)∧s2.sz (b.length+1)∧
   (roundD e b s a).1.sz (b.length+1)∧(roundD e b s a).1.tk=s2.tk∧((roundD e b s a).1=s2∨potS e.cs (roundD e b s a).1 (b.length+1)<potS e.cs s2 (b.length+1)):=by
 have z1:(IS.mk s.has s.fr (s.fresh.set a false) s.tk).sz (b.length+1):=⟨hs.a,hs.b,by simpa using hs.c,hs.d⟩
 have one:∀p w,roundD e b s a=(⟨s.has,s.fr,s.fresh.set a false,s.tk⟩,p,w)→_:=fun p w h=>(⟨⟨s.has,s.fr,s.fresh.set a false,s.tk⟩,rfl,rfl,rfl,.inl rfl,z1,by rw[h]; exact z1,by rw[h],.inl (by rw[h])⟩:∃s2:IS,s2.has=s.has∧s2.fr=s.fr∧s2.fresh=s.fresh.set a false∧(s2.tk=s.tk∨∃z,z≤6∧s2.tk=s.tk.set a z)∧s2.sz (b.length+1)∧
   (roundD e b s a).1.sz (b.length+1)∧(roundD e b s a).1.tk=s2.tk∧((roundD e b s a).1=s2∨potS e.cs (roundD e b s a).1 (b.length+1)<potS e.cs s2 (b.length+1)))
 by_cases g1:a=b.length
 ·exact one _ _ (by unfold roundD; rw[if_pos g1])
 by_cases g2:(decF b a).2=0
 case neg=>exact one _ _ (by unfold roundD; rw[if_neg g1,if_pos g2])
 cases g3:overB s.tk a (ze8 (decF b a).1.op.val)
 case true=>exact one _ _ (by unfold roundD; rw[if_neg g1,if_neg (by omega),if_pos g3])
 have z2:(IS.mk s.has s.fr (s.fresh.set a false) (s.tk.set a (ze8 (decF b a).1.op.val))).sz (b.length+1):=⟨hs.a,hs.b,by simpa using hs.c,by simpa using hs.d⟩
 have hz:ze8 (decF b a).1.op.val≤6:=sizeOp_le _
 have two:∀p w,roundD e b s a=(⟨s.has,s.fr,s.fresh.set a false,s.tk.set a (ze8 (decF b a).1.op.val)⟩,p,w)→_:=fun p w h=>(⟨⟨s.has,s.fr,s.fresh.set a false,s.tk.set a (ze8 (decF b a).1.op.val)⟩,rfl,rfl,rfl,.inr ⟨_,hz,rfl⟩,z2,by rw[h]; exact z2,by rw[h],.inl (by rw[h])⟩:∃s2:IS,s2.has=s.has∧s2.fr=s.fr∧s2.fresh=s.fresh.set a false∧(s2.tk=s.tk∨∃z,z≤6∧s2.tk=s.tk.set a z)∧s2.sz (b.length+1)∧
   (roundD e b s a).1.sz (b.length+1)∧(roundD e b s a).1.tk=s2.tk∧((roundD e b s a).1=s2∨potS e.cs (roundD e b s a).1 (b.length+1)<potS e.cs s2 (b.length+1)))
 by_cases g4:(applyR e ((s.fr[a]?).getD (fr0 0)) (decF b a).1).2=0
 case neg=>exact two _ _ (by unfold roundD; rw[if_neg g1,if_neg (by omega),if_neg (by rw[g3]; simp)]; simp only; rw[if_pos g4])
 by_cases g5:(onD (decF b a).1 b.length).2=0
 case neg=>exact two _ _ (by unfold roundD; rw[if_neg g1,if_neg (by omega),if_neg (by rw[g3]; simp)]; simp only; rw[if_neg (by omega),if_pos g5])
 have hR:roundD e b s a=handsD e.cs (applyR e ((s.fr[a]?).getD (fr0 0)) (decF b a).1).1 (onD (decF b a).1 b.length).1 ⟨s.has,s.fr,s.fresh.set a false,s.tk.set a (ze8 (decF b a).1.op.val)⟩:=by
  unfold roundD; rw[if_neg g1,if_neg (by omega),if_neg (by rw[g3]; simp)]; simp only; rw[if_neg (by omega),if_neg (by omega)]
 rw[hR]
 exact⟨⟨s.has,s.fr,s.fresh.set a false,s.tk.set a (ze8 (decF b a).1.op.val)⟩,rfl,rfl,rfl,.inr ⟨_,hz,rfl⟩,z2,hands_sz z2,hands_tk,hands_falls z2 fun x hx=>by have:=on_in g2 hx; omega⟩
theorem round_falls {e:En} {b:List Ty} {s:IS} {a:Nat} (hs:s.sz (b.length+1)) (ha:a≤b.length) (hn:(s.fresh[a]?).getD false=true):muS e.cs (roundD e b s a).1 (b.length+1)<muS e.cs s (b.length+1):=by
 obtain⟨s2,h1,h2,h3,-,-,-,-,h4⟩:=round_shape (e:=e) hs ha
 have hp:potS e.cs s2 (b.length+1)=potS e.cs s (b.length+1):=by
  refine sumN_congr fun x _=> ?_
  simp only[potA,h1,h2]
 have hw:newN s2 (b.length+1)<newN s (b.length+1):=by
  refine sumN_lt (fun x hx=> ?_) ⟨a,by omega, ?_⟩
  ·rw[h3,set_at (by rw[hs.c]; omega)]
   by_cases he:x=a
   ·rw[if_pos he]; simp
   ·rw[if_neg he]; exact Nat.le_refl _
  ·rw[h3,set_at (by rw[hs.c]; omega),if_pos rfl,hn]; simp
 rcases h4 with h4|h4
 ·rw[h4]; unfold muS; rw[hp]; omega
 ·rw[hp] at h4
  have hq:=newN_le (s:=(roundD e b s a).1) (m:=b.length+1)
  have hm:=Nat.mul_le_mul_right (b.length+1+1) (Nat.succ_le_of_lt h4)
  rw[Nat.succ_mul] at hm
  unfold muS; omega
def goD (e:En) (b:List Ty):Nat→IS→Int→IS×Int×Nat
 |0,s,_=>(s,0,0)
 |k+1,s,a=>if a<0 then(s,0,0) else if(roundD e b s a.toNat).2.2≠0 then roundD e b s a.toNat else goD e b k (roundD e b s a.toNat).1 (leastD (roundD e b s a.toNat).1.fresh)
def is0 (n:Nat) (f:Fr):IS:=⟨(List.replicate (n+1) false).set 0 true,(List.replicate (n+1) (fr0 0)).set 0 f,(List.replicate (n+1) false).set 0 true,List.replicate (n+1) 0⟩
def entsD (s:IS) (n:Nat):List Ey:=(List.range n).filterMap fun a:Nat=>if(s.has[a]?).getD false=true then some ⟨(a:Int),false,(s.fr[a]?).getD (fr0 0)⟩ else none
def fuelD (n:Nat):Nat:=((n+1)*6145)*(n+2)+n+2
def inferD (e:En) (loc:Int) (b:List Ty):List Ey×Int×Nat:=
 if mayE e loc≠0 then([],0,mayE e loc)
 else if 4096<b.length then([],0,4)
 else
  let r:=goD e b (fuelD b.length) (is0 b.length (startF e.cs.length (psOf e) loc).1) 0
  if r.2.2≠0 then([],r.2.1,r.2.2) else(entsD r.1 b.length,0,0)
theorem least_in {l:List Bool} {a:Int} (h:leastD l=a) (h0:0≤a):a.toNat<l.length∧(l[a.toNat]?).getD false=true:=by
 unfold leastD at h
 split at h
 ·rename_i i hi
  rw[List.findIdx?_eq_some_iff_getElem] at hi
  obtain⟨h1,h2,_⟩:=hi
  subst h
  refine⟨by simpa using h1, ?_⟩
  rw[Int.toNat_natCast,List.getElem?_eq_getElem h1]
  simpa using h2
 ·omega
open Go.Proofs
theorem sigsErr_zero {c:Nat}:∀{l:List Sg},sigsErr c l=0↔l.all (sigMayB c)=true
 |[]=>by simp[sigsErr]
 |s::r=>by
  rw[sigsErr,List.all_cons,Bool.and_eq_true,←sigsErr_zero (l:=r)]
  by_cases h8:8<s.ps.length
  ·rw[if_pos h8]
   have:sigMayB c s=false:=by unfold sigMayB; rw[decide_eq_false (by omega)]; rfl
   simp[this]
  ·rw[if_neg h8]
   cases hs:sigMayB c s <;> simp
theorem may_can (e:En) (n:Int):mayE e n≠0↔(canB e=false∨n<(psOf e).length∨16<n):=by
 by_cases hc:canB e=true
 ·obtain⟨hs,h0,hps,hp8,hst⟩:=can_sig hc
  have hm:mayE e n=(startF e.cs.length (psOf e) n).2:=by
   unfold canB at hc
   simp only[Bool.and_eq_true,decide_eq_true_eq] at hc
   unfold mayE
   rw[if_neg (by simp[hc.1.1]),if_neg (by have:=hc.1.2.1; omega),if_neg (by simp[sigsErr_zero.2 hc.2]),dif_pos ⟨h0,hs⟩,hps]
  rw[hm]
  constructor
  ·intro h
   by_cases h1:n<(psOf e).length
   ·exact .inr (.inl h1)
   by_cases h2:16<n
   ·exact .inr (.inr h2)
   exact absurd (start_ok hc h1 h2) h
  ·rintro(h|h|h)
   ·rw[hc] at h; cases h
   ·unfold startF; rw[if_pos (.inr (.inr (.inr (.inl h))))]; decide
   ·unfold startF; rw[if_pos (.inr (.inl h))]; decide
 ·have hcf:canB e=false:=by simpa using hc
  refine⟨fun _=> .inl hcf,fun _ h=> ?_⟩
  unfold mayE at h
  split at h; · rename_i h1; exact h1 h
  rename_i h1
  split at h; · cases h
  rename_i h2
  split at h; · rename_i h3; exact h3 h
  rename_i h3
  split at h
  ·rename_i h4
   refine hc ?_
   unfold canB
   simp only[Bool.and_eq_true,decide_eq_true_eq]
   exact⟨⟨Classical.not_not.1 h1,by omega,h4.1,by omega⟩,sigsErr_zero.1 (Classical.not_not.1 h3)⟩
  ·cases h
open Go.Proofs
open Go.Proofs
end Go.AL
namespace Go.Proofs
open Go.Shelf
end Go.Proofs
