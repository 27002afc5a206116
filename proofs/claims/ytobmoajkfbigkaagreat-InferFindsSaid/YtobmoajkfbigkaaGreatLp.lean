import Derived.Test.YtobmoajkfbigkaaGreatLo
import Derived.Test.YtobmoajkfbigkaaGreatLn
import Derived.Test.YtobmoajkfbigkaaGreatLe
import Derived.Test.YtobmoajkfbigkaaGreatLm
import Derived.Test.YtobmoajkfbigkaaGreatLi
import Derived.Test.YtobmoajkfbigkaaGreatLj
import Derived.Test.YtobmoajkfbigkaaGreatLl
import Derived.Test.YtobmoajkfbigkaaGreatLk
set_option linter.unusedSimpArgs false
set_option linter.unusedVariables false
set_option maxRecDepth 100000
set_option linter.defProp false
set_option maxHeartbeats 4000000
namespace Go.AL
open Go.Proofs
structure IS where
 has:List Bool
 fr:List Fr
 fresh:List Bool
 tk:List Nat
def onD (i:Ins) (n:Nat):List Int×Nat:=
 let behind:Int:=i.pos+zf4 i.op.val
 if jumpsB i.op.val=true∧(n:Int)≤i.a then([],50)
 else if endsB i.op.val=false∧behind=n then([],51)
 else((if jumpsB i.op.val=true∧(endsB i.op.val=true∨i.a<behind) then [i.a] else [])++(if endsB i.op.val=false then [behind] else [])++
  (if jumpsB i.op.val=true∧endsB i.op.val=false∧behind<i.a then [i.a] else []),0)
def overB (tk:List Nat) (a size:Nat):Bool:=(List.range tk.length).any fun x=>decide (0<(tk[x]?).getD 0∧x≠a∧a<x+(tk[x]?).getD 0∧x<a+size)
def handD (l:List Cl) (s:IS) (a:Nat) (f:Fr):IS×Nat:=
 if(s.has[a]?).getD false=false then(⟨s.has.set a true,s.fr.set a f,s.fresh.set a true,s.tk⟩,0)
 else if(mergeF l ((s.fr[a]?).getD (fr0 0)) f).2≠0 then(s,(mergeF l ((s.fr[a]?).getD (fr0 0)) f).2)
 else if(mergeF l ((s.fr[a]?).getD (fr0 0)) f).1≠(s.fr[a]?).getD (fr0 0) then(⟨s.has,s.fr.set a (mergeF l ((s.fr[a]?).getD (fr0 0)) f).1,s.fresh.set a true,s.tk⟩,0)
 else(s,0)
def handsD (l:List Cl) (f:Fr):List Int→IS→IS×Int×Nat
 |[],s=>(s,0,0)
 |a::r,s=>if(handD l s a.toNat f).2≠0 then((handD l s a.toNat f).1,a,(handD l s a.toNat f).2) else handsD l f r (handD l s a.toNat f).1
def roundD (e:En) (b:List Ty) (s:IS) (a:Nat):IS×Int×Nat:=
 let s1:IS:={s with fresh:=s.fresh.set a false}
 if a=b.length then(s1,a,51)
 else if(decF b a).2≠0 then(s1,a,(decF b a).2)
 else if overB s.tk a (zf4 (decF b a).1.op.val)=true then(s1,a,80)
 else
  let s2:IS:={s1 with tk:=s.tk.set a (zf4 (decF b a).1.op.val)}
  if(applyR e ((s.fr[a]?).getD (fr0 0)) (decF b a).1).2≠0 then(s2,a,(applyR e ((s.fr[a]?).getD (fr0 0)) (decF b a).1).2)
  else if(onD (decF b a).1 b.length).2≠0 then(s2,a,(onD (decF b a).1 b.length).2)
  else handsD e.cs (applyR e ((s.fr[a]?).getD (fr0 0)) (decF b a).1).1 (onD (decF b a).1 b.length).1 s2
def leastD (l:List Bool):Int:=match l.findIdx? id with|some i=>i|none=> -1
open Go.Proofs
def c68:CT (Tryz.f68.body.getD .skip):=⟨_,by conv=>lhs; cbv⟩
theorem F68:Fun1 Tryz.prog 68 17 c68.1 [.tmp 2]:=mkT Tryz.func68 rfl (by decide +kernel) Tryz.ntmps68 rfl c68.2 rfl
def c69:CT (Tryz.f69.body.getD .skip):=⟨_,by conv=>lhs; cbv⟩
theorem F69:Fun1 Tryz.prog 69 97 c69.1 [.tmp 8,.tmp 9]:=mkT Tryz.func69 rfl (by decide +kernel) Tryz.ntmps69 rfl c69.2 rfl
def c111:CT (Tryz.f111.body.getD .skip):=⟨_,by conv=>lhs; cbv⟩
theorem F111:Fun1 Tryz.prog 111 44 c111.1 [.tmp 6]:=mkT Tryz.func111 rfl (by decide +kernel) Tryz.ntmps111 rfl c111.2 rfl
def c112:CT (Tryz.f112.body.getD .skip):=⟨_,by conv=>lhs; cbv⟩
theorem F112:Fun1 Tryz.prog 112 73 c112.1 [.tmp 4,.tmp 5]:=mkT Tryz.func112 rfl (by decide +kernel) Tryz.ntmps112 rfl c112.2 rfl
def c113:AC:=
.seq (rg [oO 4 (.box 126 (tT 0)),oO 7 (.box 84 (tT 3)),oO 8 (.assign (kI 0))])
 (.seq (.seq (rg [oO 11 (.fieldAddr 126 (tT 4) 0),oO 12 (.load 123 (tT 11)),oO 13 (.move (tT 2)),oO 14 (.indexAddr 123 (tT 12) (tT 13)),oO 15 (.load 4 (tT 14)),oO 16 (.unOp .not 4 (tT 15))])
 (.cond (tT 16) (.seq (.seq (.reg true [4,7] [⟨⟨some 17,.fieldAddr 126 (tT 4) 0,none⟩,false,true⟩,⟨⟨some 18,.load 123 (tT 17),none⟩,false,true⟩,⟨⟨some 19,.move (tT 2),none⟩,false,true⟩,⟨⟨some 20,.fieldAddr 126 (tT 4) 1,none⟩,true,true⟩,⟨⟨some 21,.load 124 (tT 20),none⟩,true,true⟩,⟨⟨some 22,.move (tT 2),none⟩,true,true⟩,⟨⟨some 23,.fieldAddr 126 (tT 4) 2,none⟩,true,true⟩,⟨⟨some 24,.load 123 (tT 23),none⟩,true,true⟩,⟨⟨some 25,.move (tT 2),none⟩,true,true⟩,⟨⟨some 26,.load 84 (tT 7),none⟩,true,true⟩,oO 27 (.indexAddr 123 (tT 18) (tT 19)),oN (.store 4 (tT 27) (.const (.bool true))),oO 28 (.indexAddr 124 (tT 21) (tT 22)),oN (.store 84 (tT 28) (tT 26))])
 (rg [oO 29 (.indexAddr 123 (tT 24) (tT 25)),oN (.store 4 (tT 29) (.const (.bool true)))]))
 (.seq (rg [oO 8 (.assign (kI 0))])
 (.ret)))
 (.skip)))
 (.seq (.reg true [] [⟨⟨some 31,.move (tT 1),none⟩,false,true⟩,⟨⟨some 32,.fieldAddr 126 (tT 4) 1,none⟩,false,true⟩,⟨⟨some 33,.load 124 (tT 32),none⟩,false,true⟩,⟨⟨some 34,.move (tT 2),none⟩,false,true⟩,⟨⟨some 35,.indexAddr 124 (tT 33) (tT 34),none⟩,false,true⟩,⟨⟨some 36,.load 84 (tT 35),none⟩,false,true⟩,⟨⟨some 37,.load 84 (tT 7),none⟩,false,true⟩,⟨⟨some 38,cF (.func 151) #[tT 31,tT 36,tT 37] #[22,84,84],none⟩,false,true⟩,⟨⟨some 30,.move (tT 38),none⟩,false,true⟩,⟨⟨some 39,.extract (tT 30) 0,none⟩,false,true⟩,⟨⟨some 40,.extract (tT 30) 1,none⟩,true,true⟩,⟨⟨some 9,.alloc 84,none⟩,true,false⟩,oN (.store 84 (tT 9) (tT 39)),oO 10 (.assign (tT 40))])
 (.seq (.seq (rg [oO 41 (.move (tT 10)),oO 42 (.binOp .neq 32 (tT 41) (kI 0) 32)])
 (.cond (tT 42) (.seq (rg [oO 43 (.move (tT 10)),oO 8 (.assign (tT 43))])
 (.ret))
 (.skip)))
 (.seq (.seq (.reg true [] [⟨⟨some 44,.load 84 (tT 9),none⟩,false,true⟩,⟨⟨some 45,.fieldAddr 126 (tT 4) 1,none⟩,false,true⟩,⟨⟨some 46,.load 124 (tT 45),none⟩,false,true⟩,oO 47 (.move (tT 2)),oO 48 (.indexAddr 124 (tT 46) (tT 47)),oO 49 (.load 84 (tT 48)),oO 50 (.binOp .neq 84 (tT 44) (tT 49) 84)])
 (.cond (tT 50) (.seq (.reg true [4] [⟨⟨some 51,.fieldAddr 126 (tT 4) 1,none⟩,false,true⟩,⟨⟨some 52,.load 124 (tT 51),none⟩,false,true⟩,⟨⟨some 53,.move (tT 2),none⟩,false,true⟩,⟨⟨some 54,.fieldAddr 126 (tT 4) 2,none⟩,true,true⟩,⟨⟨some 55,.load 123 (tT 54),none⟩,true,true⟩,⟨⟨some 56,.move (tT 2),none⟩,true,true⟩,oO 57 (.load 84 (tT 9)),oO 58 (.indexAddr 124 (tT 52) (tT 53)),oN (.store 84 (tT 58) (tT 57))])
 (rg [oO 59 (.indexAddr 123 (tT 55) (tT 56)),oN (.store 4 (tT 59) (.const (.bool true)))]))
 (.skip)))
 (.seq (rg [oO 8 (.assign (kI 0))])
 .ret)))))
theorem F113:Fun1 Tryz.prog 113 60 c113 [.tmp 8]:=mkT Tryz.func113 rfl (by decide +kernel) Tryz.ntmps113 rfl (by kernel_rfl) rfl
open Go.Proofs
def eN (n:Nat):List D:=[.int .i64 n]
open Go.Proofs
def fl {α:Type} (enc:α→List D) (xs:List α):List D:=(rws enc xs).flatten
section
variable {α : Type} {enc : α → List D} {s : Nat}
theorem fl_nil:fl enc []=[]:=rfl
theorem fl_cons (x:α) (xs:List α):fl enc (x::xs)=enc x++fl enc xs:=rfl
theorem fl_app (xs ys:List α):fl enc (xs++ys)=fl enc xs++fl enc ys:=by simp[fl,rws]
theorem fl_len (h:∀x,(enc x).length=s):∀xs:List α,(fl enc xs).length=xs.length*s
 |[]=>by simp[fl_nil]
 |x::xs=>by rw[fl_cons,List.length_append,h,fl_len h xs,List.length_cons,Nat.add_mul,Nat.one_mul,Nat.add_comm]
theorem fl_parts (h:∀x,(enc x).length=s) {xs:List α} {i:Nat} (hi:i<xs.length):fl enc xs=fl enc (xs.take i)++(enc xs[i]++fl enc (xs.drop (i+1)))∧(fl enc (xs.take i)).length=i*s:=by
 refine⟨?_,by rw[fl_len h,List.length_take,Nat.min_eq_left (by omega)]⟩
 rw[←fl_cons,←fl_app]
 congr 1
 rw[List.getElem_cons_drop,List.take_append_drop]
theorem fl_at (h:∀x,(enc x).length=s) {xs:List α} {i:Nat} (hi:i<xs.length):((fl enc xs).drop (i*s)).take s=enc xs[i]:=by
 obtain⟨h1,h2⟩:=fl_parts h hi
 rw[h1,List.drop_left' h2,List.take_left' (h _)]
theorem fl_set (h:∀x,(enc x).length=s) {xs:List α} {i:Nat} (hi:i<xs.length) (y:α):(fl enc xs).take (i*s)++enc y++(fl enc xs).drop (i*s+s)=fl enc (xs.set i y):=by
 obtain⟨h1,h2⟩:=fl_parts h hi
 have h3:(fl enc xs).take (i*s)=fl enc (xs.take i):=by rw[h1,List.take_left' h2]
 have h4:(fl enc xs).drop (i*s+s)=fl enc (xs.drop (i+1)):=by rw[h1,←List.drop_drop,List.drop_left' h2,List.drop_left' (h _)]
 rw[h3,h4,List.append_assoc,←fl_cons,←fl_app,List.set_eq_take_append_cons_drop,if_pos hi]
end
def eBo (b:Bool):List D:=[.bool b]
theorem fl_bo (xs:List Bool):fl eBo xs=xs.map .bool:=by induction xs with|nil=>rfl|cons x xs ih=>rw[fl_cons,ih]; rfl
theorem fl_boAt {xs:List Bool} {i:Nat} (h:i<xs.length):(fl eBo xs)[i]? =some (.bool ((xs[i]?).getD false)):=by
 rw[fl_bo,List.getElem?_map,List.getElem?_eq_getElem h]; rfl
theorem fl_eN (xs:List Nat):fl eN xs=xs.map fun n:Nat=>D.int .i64 n:=by induction xs with|nil=>rfl|cons x xs ih=>rw[fl_cons,ih]; rfl
theorem fl_eNAt {xs:List Nat} {i:Nat} (h:i<xs.length):(fl eN xs)[i]? =some (.int .i64 (((xs[i]?).getD 0:Nat):Int)):=by
 rw[fl_eN,List.getElem?_map,List.getElem?_eq_getElem h]; rfl
structure QB where
 a:Nat
 b:Nat
 c:Nat
 d:Nat
structure QB.ne (q:QB):Prop where
 ab:q.a≠q.b
 ac:q.a≠q.c
 ad:q.a≠q.d
 bc:q.b≠q.c
 bd:q.b≠q.d
 cd:q.c≠q.d
def stD (q:QB) (m:Nat):List D:=[.bsl q.a 0 m m,.bsl q.b 0 m m,.bsl q.c 0 m m,.bsl q.d 0 m m]
def stI (q:QB) (s:IS):St:=(((({}:St).set q.a (fl eBo s.has)).set q.b (fl eFr s.fr)).set q.c (fl eBo s.fresh)).set q.d (fl eN s.tk)
section
variable {q : QB} {s : IS}
theorem stI_a (h:q.ne):(stI q s).box q.a=some (fl eBo s.has):=by simp[stI,St.set,h.ab,h.ac,h.ad]
theorem stI_b (h:q.ne):(stI q s).box q.b=some (fl eFr s.fr):=by simp[stI,St.set,h.bc,h.bd]
theorem stI_c (h:q.ne):(stI q s).box q.c=some (fl eBo s.fresh):=by simp[stI,St.set,h.cd]
theorem stI_d:(stI q s).box q.d=some (fl eN s.tk):=by simp[stI,St.set]
theorem stI_has {x:Nat}:(stI q s).has x↔x=q.a∨x=q.b∨x=q.c∨x=q.d:=by
 simp only[stI,set_has]
 have:=St.not_has_nil x
 constructor
 ·rintro(h|h|h|h|h)
  ·exact .inr (.inr (.inr h))
  ·exact .inr (.inr (.inl h))
  ·exact .inr (.inl h)
  ·exact .inl h
  ·exact absurd h this
 ·rintro(h|h|h|h)
  ·exact .inr (.inr (.inr (.inl h)))
  ·exact .inr (.inr (.inl h))
  ·exact .inr (.inl h)
  ·exact .inl h
theorem stI_ne {x:Nat} (h:¬(stI q s).has x):¬x=q.a∧¬x=q.b∧¬x=q.c∧¬x=q.d:=
 ⟨fun e=>h (stI_has.2 (.inl e)),fun e=>h (stI_has.2 (.inr (.inl e))),fun e=>h (stI_has.2 (.inr (.inr (.inl e)))),fun e=>h (stI_has.2 (.inr (.inr (.inr e))))⟩
end
structure IS.sz (s:IS) (m:Nat):Prop where
 a:s.has.length=m
 b:s.fr.length=m
 c:s.fresh.length=m
 d:s.tk.length=m
theorem least_at {l:List Bool} {k:Nat} (h:k<l.length) (hk:(l[k]?).getD false=true) (hb:∀j<k,(l[j]?).getD false=false):leastD l=k:=by
 unfold leastD
 have:l.findIdx? id=some k:=by
  rw[List.findIdx?_eq_some_iff_getElem]
  refine⟨h,by simpa[h] using hk,fun j hj=> ?_⟩
  have:=hb j hj
  rw[List.getElem?_eq_getElem (by omega)] at this
  simpa using this
 rw[this]
theorem least_no {l:List Bool} (hb:∀j<l.length,(l[j]?).getD false=false):leastD l= -1:=by
 unfold leastD
 have:l.findIdx? id=none:=by
  rw[List.findIdx?_eq_none_iff]
  intro x hx
  obtain⟨j,hj,rfl⟩:=List.mem_iff_getElem.1 hx
  have:=hb j hj
  rw[List.getElem?_eq_getElem hj] at this
  simpa using this
 rw[this]
theorem least68 (q:QB) (h:q.ne) (s:IS) (m:Nat) (hs:s.sz m) (hm:m≤5000):RCall Tryz.prog 68 [.agg (stD q m)] (stI q s) fun d s'=>d= .int .i64 (leastD s.fresh)∧s'=stI q s:=by
 have kc:=stI_c (s:=s) h
 refine F68.rcall rfl fun T hT=> ?_
 simp -implicitDefEqProofs only[go_sem,c68,hT,stD]
 intro b1 hb1
 obtain⟨n1,n2,n3,n4⟩:=stI_ne hb1
 have k1:((stI q s).set b1 [.bsl q.a 0 m m,.bsl q.b 0 m m,.bsl q.c 0 m m,.bsl q.d 0 m m]).box q.c=some (fl eBo s.fresh):=by rw[St.set_box,if_neg (Ne.symm n3)]; exact kc
 refine loopL F68 (fun i:Nat=>[(1,.ptr b1 0),(3,.int .i64 i)]) (fun _=>(stI q s).set b1 [.bsl q.a 0 m m,.bsl q.b 0 m m,.bsl q.c 0 m m,.bsl q.d 0 m m]) (fun i=>i≤m∧∀j<i,(s.fresh[j]?).getD false=false) (fun i=>m-i) 0 ⟨by omega,by omega⟩ ?_ (St.le.refl _) ?_
 ·simp -implicitDefEqProofs only[go_sem,hT,Int.ofNat_zero]
 clear hT T
 intro i ⟨hi,hl⟩ T hT
 by_cases h1:i<m
 ·have h2:((i:Int)<m)=True:=eq_true (by omega)
  have hx:=fl_boAt (xs:=s.fresh) (i:=i) (by rw[hs.c]; exact h1)
  have hnext:IntKind.wrap .i64 ((i:Int)+1)=((i+1:Nat):Int):=by rw[zc3 (by omega) (by omega)]; simp
  cases hf:(s.fresh[i]?).getD false
  ·simp -implicitDefEqProofs only[go_sem,hT,h2,k1,hx,hf,hnext,n1,n2,n3,n4,Ne.symm n1,Ne.symm n2,Ne.symm n3,Ne.symm n4,gdD,Nat.mul_one,Nat.add_zero,Nat.zero_add]
   refine⟨by omega,i+1,⟨by omega,fun j hj=> ?_⟩,by omega,rfl,St.le.refl _⟩
   rcases Nat.lt_succ_iff_lt_or_eq.1 hj with h|rfl
   ·exact hl j h
   ·exact hf
  ·simp -implicitDefEqProofs only[go_sem,hT,h2,k1,hx,hf,hnext,n1,n2,n3,n4,Ne.symm n1,Ne.symm n2,Ne.symm n3,Ne.symm n4,gdD,Nat.mul_one,Nat.add_zero,Nat.zero_add]
   exact⟨by omega,_,_,DLe.refl _,le_add hb1,by rw[least_at (by rw[hs.c]; exact h1) hf hl],rfl⟩
 ·have h2:((i:Int)<m)=False:=eq_false (by omega)
  simp -implicitDefEqProofs only[go_sem,hT,h2,k1,n1,n2,n3,n4,Ne.symm n1,Ne.symm n2,Ne.symm n3,Ne.symm n4]
  exact⟨_,_,DLe.refl _,le_add hb1,by rw[least_no (fun j hj=>hl j (by rw[hs.c] at hj; omega))],rfl⟩
open Go.Proofs
def overAt (tk:List Nat) (a size x:Nat):Bool:=decide (0<(tk[x]?).getD 0∧x≠a∧a<x+(tk[x]?).getD 0∧x<a+size)
theorem over_yes {tk:List Nat} {a size x:Nat} (hx:x<tk.length) (h:overAt tk a size x=true):overB tk a size=true:=by
 unfold overB
 exact List.any_eq_true.2 ⟨x,List.mem_range.2 hx,h⟩
theorem over_no {tk:List Nat} {a size:Nat} (h:∀x<tk.length,overAt tk a size x=false):overB tk a size=false:=by
 unfold overB
 rw[List.any_eq_false]
 intro x hx
 rw[Bool.not_eq_true]
 exact h x (List.mem_range.1 hx)
theorem overlaps111 (q:QB) (h:q.ne) (s:IS) (m:Nat) (hs:s.sz m) (hm:m≤5000) (a size:Nat) (ha:a≤5000) (hz:size≤5000) (ht:∀x<m,(s.tk[x]?).getD 0≤5000):
  RCall Tryz.prog 111 [.agg (stD q m),.int .i64 a,.int .i64 size] (stI q s) fun d s'=>d= .bool (overB s.tk a size)∧s'=stI q s:=by
 have kc:=stI_d (q:=q) (s:=s)
 refine F111.rcall rfl fun T hT=> ?_
 simp -implicitDefEqProofs only[go_sem,c111,hT,stD]
 intro b1 hb1
 obtain⟨n1,n2,n3,n4⟩:=stI_ne hb1
 have k1:((stI q s).set b1 [.bsl q.a 0 m m,.bsl q.b 0 m m,.bsl q.c 0 m m,.bsl q.d 0 m m]).box q.d=some (fl eN s.tk):=by rw[St.set_box,if_neg (Ne.symm n4)]; exact kc
 refine loopL F111 (fun i:Nat=>[(1,.int .i64 a),(2,.int .i64 size),(3,.ptr b1 0),(7,.int .i64 i)]) (fun _=>(stI q s).set b1 [.bsl q.a 0 m m,.bsl q.b 0 m m,.bsl q.c 0 m m,.bsl q.d 0 m m]) (fun i=>i≤m∧∀j<i,overAt s.tk a size j=false) (fun i=>m-i) 0 ⟨by omega,by omega⟩ ?_ (St.le.refl _) ?_
 ·simp -implicitDefEqProofs only[go_sem,hT,Int.ofNat_zero]
 clear hT T
 intro i ⟨hi,hl⟩ T hT
 by_cases h1:i<m
 ·have h2:((i:Int)<m)=True:=eq_true (by omega)
  have hx:=fl_eNAt (xs:=s.tk) (i:=i) (by rw[hs.d]; exact h1)
  have hti:=ht i h1
  generalize htx:(s.tk[i]?).getD 0=z at *
  have w1:IntKind.wrap .i64 ((i:Int)+z)=(i:Int)+z:=zc3 (by omega) (by omega)
  have w2:IntKind.wrap .i64 ((a:Int)+size)=(a:Int)+size:=zc3 (by omega) (by omega)
  have hnext:IntKind.wrap .i64 ((i:Int)+1)=((i+1:Nat):Int):=by rw[zc3 (by omega) (by omega)]; simp
  simp -implicitDefEqProofs only[go_sem,mmB,hT,h2,k1,hx,w1,w2,hnext,n1,n2,n3,n4,Ne.symm n1,Ne.symm n2,Ne.symm n3,Ne.symm n4,gdD,Nat.mul_one,Nat.add_zero,Nat.zero_add]
  refine⟨by omega, ?_, ?_⟩
  ·intro _; omega
  rw[show(decide ((0:Int)<z)&& !decide ((i:Int)=a)&&decide ((a:Int)<i+z)&&decide ((i:Int)<a+size))=overAt s.tk a size i by
   unfold overAt; rw[htx,Bool.eq_iff_iff]; simp; omega]
  cases hc:overAt s.tk a size i
  ·simp -implicitDefEqProofs only[go_sem,hT,hnext]
   refine⟨i+1,⟨by omega,fun j hj=> ?_⟩,by omega,rfl,St.le.refl _⟩
   rcases Nat.lt_succ_iff_lt_or_eq.1 hj with h|rfl
   ·exact hl j h
   ·exact hc
  ·simp -implicitDefEqProofs only[go_sem,hT]
   exact⟨_,_,DLe.refl _,le_add hb1,by rw[over_yes (by rw[hs.d]; exact h1) hc],rfl⟩
 ·have h2:((i:Int)<m)=False:=eq_false (by omega)
  simp -implicitDefEqProofs only[go_sem,mmB,hT,h2,k1,n1,n2,n3,n4,Ne.symm n1,Ne.symm n2,Ne.symm n3,Ne.symm n4]
  exact⟨_,_,DLe.refl _,le_add hb1,by rw[over_no (fun j hj=>hl j (by rw[hs.d] at hj; omega))],rfl⟩
theorem on112 (i:Ins) (n:Nat) (hp:0≤i.pos∧i.pos≤5000):PCall Tryz.prog 112 [.agg (eIn i),.int .i64 n] (.tup [.slice .no (rws eI (onD i n).1),.int .i64 (onD i n).2]):=by
 have hsz:=sizeOp_le i.op.val
 have w1:IntKind.wrap .i64 (i.pos+(zf4 i.op.val:Int))=i.pos+zf4 i.op.val:=zc3 (by omega) (by omega)
 refine F112.pcall' rfl fun T hT=> ?_
 simp -implicitDefEqProofs only[go_sem,mmB,c112,hT,eIn]
 intro b2
 refine⟨fun _ h=>h,za3 (refSize74 i.op) ?_⟩
 simp -implicitDefEqProofs only[go_sem,mmB,hT,w1]
 refine za3 (refJumps22 i.op) ?_
 simp -implicitDefEqProofs only[go_sem,mmB,hT]
 refine za3 (refEnds41 i.op) ?_
 by_cases ht:jumpsB i.op.val=true∧(n:Int)≤i.a
 ·obtain⟨hj,hn⟩:=ht
  have h1:((n:Int)≤i.a)=True:=eq_true hn
  rw[show onD i n=([],50) by rw[onD,if_pos ⟨hj,hn⟩]]
  simp -implicitDefEqProofs only[go_sem,mmB,hT,hj,h1]
  exact DLe.tup (.cons (DLe.slice _ _) (.cons (DLe.refl _) .nil))
 have h0:(jumpsB i.op.val&&decide ((n:Int)≤i.a))=false:=by rw[Bool.eq_false_iff]; simpa using ht
 by_cases hf:endsB i.op.val=false∧i.pos+(zf4 i.op.val:Int)=n
 ·obtain⟨hj,hn⟩:=hf
  rw[show onD i n=([],51) by rw[onD,if_neg ht,if_pos ⟨hj,hn⟩]]
  have h1:(i.pos+(zf4 i.op.val:Int)=n)=True:=eq_true hn
  simp -implicitDefEqProofs only[go_sem,mmB,hT,h0,hj,h1]
  exact DLe.tup (.cons (DLe.slice _ _) (.cons (DLe.refl _) .nil))
 cases hj:jumpsB i.op.val <;> cases he:endsB i.op.val
 ·have h1:(i.pos+(zf4 i.op.val:Int)=n)=False:=eq_false fun h=>hf ⟨he,h⟩
  rw[show onD i n=([i.pos+(zf4 i.op.val:Int)],0) by rw[onD,if_neg ht,if_neg hf,hj,he]; simp]
  simp -implicitDefEqProofs only[go_sem,mmB,hT,hj,he,h1,frz]
  exact⟨fun r h=>by rw[h]; rfl,fun _ _ _=>DLe.tup (.cons (DLe.slice _ _) (.cons (DLe.refl _) .nil))⟩
 ·rw[show onD i n=([],0) by rw[onD,if_neg ht,if_neg hf,hj,he]; simp]
  simp -implicitDefEqProofs only[go_sem,mmB,hT,hj,he]
  exact DLe.tup (.cons (DLe.slice _ _) (.cons (DLe.refl _) .nil))
 ·have h1:((n:Int)≤i.a)=False:=eq_false fun h=>ht ⟨hj,h⟩
  have h2:(i.pos+(zf4 i.op.val:Int)=n)=False:=eq_false fun h=>hf ⟨he,h⟩
  have hD:onD i n=((if i.a<i.pos+(zf4 i.op.val:Int) then [i.a] else [])++[i.pos+(zf4 i.op.val:Int)]++(if i.pos+(zf4 i.op.val:Int)<i.a then [i.a] else []),0):=by
   rw[onD,if_neg ht,if_neg hf,hj,he]; simp
  rw[hD]
  by_cases c1:i.a<i.pos+(zf4 i.op.val:Int)
  ·rw[if_pos c1,if_neg (by omega)]
   have d1:(i.a<i.pos+(zf4 i.op.val:Int))=True:=eq_true c1
   have d2:(i.pos+(zf4 i.op.val:Int)<i.a)=False:=eq_false (by omega)
   simp -implicitDefEqProofs only[go_sem,mmB,hT,hj,he,h1,h2,d1,frz,d2]
   exact⟨fun r h=>by rw[h]; rfl,fun _ _ _=>⟨fun r h=>by rw[h]; rfl,fun _ _ _=>DLe.tup (.cons (DLe.slice _ _) (.cons (DLe.refl _) .nil))⟩⟩
  by_cases c2:i.pos+(zf4 i.op.val:Int)<i.a
  ·rw[if_neg c1,if_pos c2]
   have d1:(i.a<i.pos+(zf4 i.op.val:Int))=False:=eq_false c1
   have d2:(i.pos+(zf4 i.op.val:Int)<i.a)=True:=eq_true c2
   simp -implicitDefEqProofs only[go_sem,mmB,hT,hj,he,h1,h2,d1,frz,d2]
   exact⟨fun r h=>by rw[h]; rfl,fun _ _ _=>⟨fun r h=>by rw[h]; rfl,fun _ _ _=>DLe.tup (.cons (DLe.slice _ _) (.cons (DLe.refl _) .nil))⟩⟩
  ·rw[if_neg c1,if_neg c2]
   have d1:(i.a<i.pos+(zf4 i.op.val:Int))=False:=eq_false c1
   have d2:(i.pos+(zf4 i.op.val:Int)<i.a)=False:=eq_false c2
   simp -implicitDefEqProofs only[go_sem,mmB,hT,hj,he,h1,h2,d1,frz,d2]
   exact⟨fun r h=>by rw[h]; rfl,fun _ _ _=>DLe.tup (.cons (DLe.slice _ _) (.cons (DLe.refl _) .nil))⟩
 ·have h1:((n:Int)≤i.a)=False:=eq_false fun h=>ht ⟨hj,h⟩
  rw[show onD i n=([i.a],0) by rw[onD,if_neg ht,if_neg hf,hj,he]; simp]
  simp -implicitDefEqProofs only[go_sem,mmB,hT,hj,he,h1,frz]
  exact⟨fun r h=>by rw[h]; rfl,fun _ _ _=>DLe.tup (.cons (DLe.slice _ _) (.cons (DLe.refl _) .nil))⟩
open Go.Proofs
section
variable {q : QB} {s : IS}
theorem stI_setA (h:q.ne) (v:List Bool):(stI q s).set q.a (fl eBo v)=stI q ⟨v,s.fr,s.fresh,s.tk⟩:=by
 unfold stI
 rw[set_comm (Ne.symm h.ad),set_comm (Ne.symm h.ac),set_comm (Ne.symm h.ab),za2]
theorem stI_setB (h:q.ne) (v:List Fr):(stI q s).set q.b (fl eFr v)=stI q ⟨s.has,v,s.fresh,s.tk⟩:=by
 unfold stI
 rw[set_comm (Ne.symm h.bd),set_comm (Ne.symm h.bc),za2]
theorem stI_setC (h:q.ne) (v:List Bool):(stI q s).set q.c (fl eBo v)=stI q ⟨s.has,s.fr,v,s.tk⟩:=by
 unfold stI
 rw[set_comm (Ne.symm h.cd),za2]
theorem stI_setD (v:List Nat):(stI q s).set q.d (fl eN v)=stI q ⟨s.has,s.fr,s.fresh,v⟩:=by
 unfold stI
 rw[za2]
end
def bYhbD0:=aI @zc1 (aI @zc2 (aI @zb4 (aI @zb3 (aI @za6 (aI @za4 (aI @fr_0 (aI @fr_1 @gdD)))))))
theorem hand113 (q:QB) (h:q.ne) (s:IS) (m:Nat) (hs:s.sz m) (hm:m≤5000) (l:List Cl) (o:Own) (hf:Falls l l.length) (hl:l.length*48≤140737488355328) (a:Nat) (ha:a<m) (f:Fr):
  RCall Tryz.prog 113 [.agg (stD q m),.slice o (rws eC l),.int .i64 a,.agg (eFr f)] (stI q s) fun d s'=>d= .int .i64 (handD l s a f).2∧s'=stI q (handD l s a f).1:=by
 have ka:=stI_a (s:=s) h
 have kb:=stI_b (s:=s) h
 have kc:=stI_c (s:=s) h
 refine F113.rcall rfl fun T hT=> ?_
 simp -implicitDefEqProofs only[go_sem,mmB,c113,hT,stD,bYhbD0]
 intro b4 hb4 b7 n7 n8 hb7
 obtain⟨n1,n2,n3,n4⟩:=stI_ne hb4
 obtain⟨p1,p2,p3,p4⟩:=stI_ne hb7
 have hx:=fl_boAt (xs:=s.has) (i:=a) (by rw[hs.a]; exact ha)
 have hfl:(fl eFr s.fr).length=m*26:=by rw[fl_len za6,hs.b]
 have hget:((fl eFr s.fr).drop (a*26)).take 26=eFr ((s.fr[a]?).getD (fr0 0)):=by
  rw[fl_at za6 (by rw[hs.b]; exact ha),List.getElem?_eq_getElem (by rw[hs.b]; exact ha)]; rfl
 have hput:∀g,(fl eFr s.fr).take (a*26)++eFr g++(fl eFr s.fr).drop (a*26+26)=fl eFr (s.fr.set a g):=fun g=>fl_set za6 (by rw[hs.b]; exact ha) g
 have hpa:∀g,(fl eBo s.has).take a++[D.bool g]++(fl eBo s.has).drop (a+1)=fl eBo (s.has.set a g):=fun g=>by
  have:=fl_set (enc:=eBo) (s:=1) (fun x=>rfl) (xs:=s.has) (i:=a) (by rw[hs.a]; exact ha) g
  rwa[Nat.mul_one] at this
 have hpc:∀g,(fl eBo s.fresh).take a++[D.bool g]++(fl eBo s.fresh).drop (a+1)=fl eBo (s.fresh.set a g):=fun g=>by
  have:=fl_set (enc:=eBo) (s:=1) (fun x=>rfl) (xs:=s.fresh) (i:=a) (by rw[hs.c]; exact ha) g
  rwa[Nat.mul_one] at this
 have hla:(fl eBo s.has).length=m:=by rw[fl_len (s:=1) (fun x=>rfl),hs.a,Nat.mul_one]
 have hlc:(fl eBo s.fresh).length=m:=by rw[fl_len (s:=1) (fun x=>rfl),hs.c,Nat.mul_one]
 have base:St.le (stI q s) (((stI q s).set b4 [.bsl q.a 0 m m,.bsl q.b 0 m m,.bsl q.c 0 m m,.bsl q.d 0 m m]).set b7 (eFr f)):=(le_add hb4).trans (le_add (by rw[set_has]; exact fun h=>h.elim n7 hb7))
 have hfa:(26≤((fl eFr s.fr).drop (a*26)).length)=True:=eq_true (by rw[List.length_drop,hfl]; omega)
 cases hh:(s.has[a]?).getD false
 ·have hD:handD l s a f=(⟨s.has.set a true,s.fr.set a f,s.fresh.set a true,s.tk⟩,0):=by rw[handD,if_pos hh]
  simp -implicitDefEqProofs only[go_sem,mmB,hT,n1,n2,n3,n4,Ne.symm n1,Ne.symm n2,Ne.symm n3,Ne.symm n4,p1,p2,p3,p4,Ne.symm p1,Ne.symm p2,Ne.symm p3,Ne.symm p4,n7,n8,h.ab,h.ac,h.bc,Ne.symm h.ab,Ne.symm h.ac,Ne.symm h.bc,Nat.mul_one,Nat.add_zero,Nat.zero_add,ka,kb,kc,hx,hh,bYhbD0]
  refine⟨⟨by omega,by omega⟩, ?_⟩
  simp -implicitDefEqProofs only[go_sem,mmB,hT,n1,n2,n3,n4,Ne.symm n1,Ne.symm n2,Ne.symm n3,Ne.symm n4,p1,p2,p3,p4,Ne.symm p1,Ne.symm p2,Ne.symm p3,Ne.symm p4,n7,n8,h.ab,h.ac,h.bc,Ne.symm h.ab,Ne.symm h.ac,Ne.symm h.bc,Nat.mul_one,Nat.add_zero,Nat.zero_add,ka,kb,kc,hx,hh,hput,hpa,hpc,hla,hlc,hfl,bYhbD0]
  refine⟨fun b hb hc=> ?_,⟨by omega,by omega⟩,by omega,⟨by omega,by omega⟩,by omega,⟨by omega,by omega⟩,by omega,_,_,DLe.refl _, ?_,by rw[hD]; rfl,rfl⟩
  ·rcases hb with rfl|rfl
   ·exact hc.2.1 rfl
   ·exact hc.1 rfl
  rw[hD]
  have:=le_set (b:=q.c) (cs:=fl eBo (s.fresh.set a true)) (le_set (b:=q.b) (cs:=fl eFr (s.fr.set a f)) (le_set (b:=q.a) (cs:=fl eBo (s.has.set a true)) base))
  rw[stI_setA h,stI_setB h,stI_setC h] at this
  exact this
 ·simp -implicitDefEqProofs only[go_sem,mmB,hT,n1,n2,n3,n4,Ne.symm n1,Ne.symm n2,Ne.symm n3,Ne.symm n4,p1,p2,p3,p4,Ne.symm p1,Ne.symm p2,Ne.symm p3,Ne.symm p4,n7,n8,h.ab,h.ac,h.bc,Ne.symm h.ab,Ne.symm h.ac,Ne.symm h.bc,Nat.mul_one,Nat.add_zero,Nat.zero_add,ka,kb,kc,hx,hh,bYhbD0]
  refine⟨⟨by omega,by omega⟩, ?_⟩
  simp -implicitDefEqProofs only[go_sem,mmB,hT,n1,n2,n3,n4,Ne.symm n1,Ne.symm n2,Ne.symm n3,Ne.symm n4,p1,p2,p3,p4,Ne.symm p1,Ne.symm p2,Ne.symm p3,Ne.symm p4,n7,n8,h.ab,h.ac,h.bc,Ne.symm h.ab,Ne.symm h.ac,Ne.symm h.bc,Nat.mul_one,Nat.add_zero,Nat.zero_add,ka,kb,kc,hx,hh,hget,hfl,hfa,bYhbD0]
  refine⟨⟨by omega,by omega⟩, ?_⟩
  refine za3 (refMergeF151 l o _ _ hf hl) ?_
  simp -implicitDefEqProofs only[go_sem,mmB,hT,n1,n2,n3,n4,Ne.symm n1,Ne.symm n2,Ne.symm n3,Ne.symm n4,p1,p2,p3,p4,Ne.symm p1,Ne.symm p2,Ne.symm p3,Ne.symm p4,n7,n8,h.ab,h.ac,h.bc,Ne.symm h.ab,Ne.symm h.ac,Ne.symm h.bc,Nat.mul_one,Nat.add_zero,Nat.zero_add,ka,kb,kc,hx,hh,hget,hfl,hfa,bYhbD0]
  intro b9 r5 r6 r7 r8 hb9
  obtain⟨r1,r2,r3,r4⟩:=stI_ne hb9
  have hb9':∀x y,¬(((stI q s).set b4 x).set b7 y).has b9:=fun x y=>by
   rw[set_has,set_has]
   rintro(h|h|h)
   ·exact r5 h
   ·exact r7 h
   ·exact hb9 h
  by_cases he:(mergeF l ((s.fr[a]?).getD (fr0 0)) f).2=0
  case neg=>
   have he':((((mergeF l ((s.fr[a]?).getD (fr0 0)) f).2:Nat):Int)=0)=False:=eq_false (by omega)
   simp -implicitDefEqProofs only[go_sem,mmB,hT,he',za2]
   refine⟨_,_,DLe.refl _,base.trans (le_add (hb9' _ _)), ?_, ?_⟩
   ·rw[handD,if_neg (by rw[hh]; simp),if_pos he]
   ·rw[handD,if_neg (by rw[hh]; simp),if_pos he]
  have he':((((mergeF l ((s.fr[a]?).getD (fr0 0)) f).2:Nat):Int)=0)=True:=eq_true (by omega)
  simp -implicitDefEqProofs only[go_sem,mmB,hT,zc1,zc2,zb4,zb3,za6,za4,fr_0,fr_1,gdD,n1,n2,n3,n4,Ne.symm n1,Ne.symm n2,Ne.symm n3,Ne.symm n4,p1,p2,p3,p4,Ne.symm p1,Ne.symm p2,Ne.symm p3,Ne.symm p4,n7,n8,h.ab,h.ac,h.bc,Ne.symm h.ab,Ne.symm h.ac,Ne.symm h.bc,r1,r2,r3,r4,r5,r6,r7,r8,Ne.symm r1,Ne.symm r2,Ne.symm r3,Ne.symm r4,Nat.mul_one,Nat.add_zero,Nat.zero_add,ka,kb,kc,hget,hfl,hfa,he',eq_fr,za2]
  refine⟨⟨by omega,by omega⟩,fun _ b hb hc=>hc.2.2.1 hb,fun _=>⟨by omega,by omega⟩,fun _=>by omega,fun _=>⟨by omega,by omega⟩,fun _=>by rw[hlc]; omega, ?_⟩
  by_cases hm2:(mergeF l ((s.fr[a]?).getD (fr0 0)) f).1=(s.fr[a]?).getD (fr0 0)
  ·have hD:handD l s a f=(s,0):=by rw[handD,if_neg (by rw[hh]; simp),if_neg (by omega),if_neg (by simpa using hm2)]
   rw[hD,show(!decide ((mergeF l ((s.fr[a]?).getD (fr0 0)) f).1=(s.fr[a]?).getD (fr0 0)))=false by simp[hm2]]
   exact⟨_,_,DLe.refl _,base.trans (le_add (hb9' _ _)),rfl,rfl⟩
  ·have hD:handD l s a f=(⟨s.has,s.fr.set a (mergeF l ((s.fr[a]?).getD (fr0 0)) f).1,s.fresh.set a true,s.tk⟩,0):=by rw[handD,if_neg (by rw[hh]; simp),if_neg (by omega),if_pos hm2]
   rw[hD,show(!decide ((mergeF l ((s.fr[a]?).getD (fr0 0)) f).1=(s.fr[a]?).getD (fr0 0)))=true by simp[hm2],hput,hpc]
   refine⟨_,_,DLe.refl _, ?_,rfl,rfl⟩
   have:=le_set (b:=q.c) (cs:=fl eBo (s.fresh.set a true)) (le_set (b:=q.b) (cs:=fl eFr (s.fr.set a (mergeF l ((s.fr[a]?).getD (fr0 0)) f).1)) (base.trans (le_add (cs:=eFr (mergeF l ((s.fr[a]?).getD (fr0 0)) f).1) (hb9' _ _))))
   rw[stI_setB h,stI_setC h] at this
   exact this
open Go.Proofs
open Go.Proofs
theorem in_1 (i:Ins):(eIn i)[1]? =some (.int .u8 i.op.val):=rfl
theorem in_2 (i:Ins):(eIn i)[2]? =some (.int .i64 i.a):=rfl
open Go.Proofs
theorem can_sig {e:En} (h:canB e=true):∃hs:e.fn.toNat<e.sgs.length,0≤e.fn∧psOf e=e.sgs[e.fn.toNat].ps∧(psOf e).length≤8∧∀t∈psOf e,storedN e.cs.length t=true:=by
 unfold canB at h
 simp only[Bool.and_eq_true,decide_eq_true_eq,List.all_eq_true] at h
 obtain⟨⟨h1,h2,h3,h4⟩,h5⟩:=h
 have hs:e.fn.toNat<e.sgs.length:=by omega
 have hp:psOf e=e.sgs[e.fn.toNat].ps:=by unfold psOf; rw[List.getElem?_eq_getElem hs]; rfl
 have:=h5 _ (List.getElem_mem hs)
 unfold sigMayB at this
 simp only[Bool.and_eq_true,decide_eq_true_eq,Bool.not_eq_true',List.any_eq_false] at this
 refine⟨hs,h3,hp,by rw[hp]; exact this.1.1,fun t ht=> ?_⟩
 rw[hp] at ht
 have:=this.1.2 t ht
 simpa using this
theorem start_ok {e:En} {n:Int} (h:canB e=true) (h1:¬n<(psOf e).length) (h2:¬16<n):(startF e.cs.length (psOf e) n).2=0:=by
 obtain⟨_,_,_,h3,h4⟩:=can_sig h
 unfold startF
 rw[if_neg]
 rintro(h|h|h|h|h)
 ·omega
 ·exact h2 h
 ·omega
 ·exact h1 h
 ·simp only[List.any_eq_true,Bool.not_eq_true'] at h
  obtain⟨t,ht,h⟩:=h
  rw[h4 t ht] at h; cases h
theorem can_falls {e:En} (hw:WideE e) (h:canB e=true):Falls e.cs e.cs.length:=by
 unfold canB at h
 simp only[Bool.and_eq_true,decide_eq_true_eq] at h
 exact(check_right h.1.1).falls
open Go.Proofs
open Go.Proofs
open Go.Proofs
open Go.Proofs
open Go.Proofs
theorem in_0 (i:Ins):(eIn i)[0]? =some (.int .i64 i.pos):=rfl
open Go.Proofs
open Go.Proofs
theorem le_putL:∀{l:List LI} {s σ:St},St.le s σ→offL s l→St.le s (putL σ l)
 |[],_,_,h,_=>h
 |i::l,s,σ,h,hl=>le_putL (l:=l) (by
   cases i with
   |bx b c=>exact⟨fun x y hx=>by
     have:x≠b:=fun he=>hl.1 (by rw[←he]; exact .inl (by simp[hx]))
     simp only[LI.put,St.set,if_neg this]; exact h.box x y hx,fun x y hx=>h.buf x y hx,fun x y hx=>h.mp x y hx⟩
   |gr z n o=>
    cases o with
    |none=>exact h
    |some b=>exact⟨fun x y hx=>h.box x y hx,fun x y hx=>by
      have:x≠b:=fun he=>hl.1 b rfl (by rw[←he]; exact .inr (.inl (by simp[hx])))
      simp only[LI.put,grS,St.setBuf,if_neg this]; exact h.buf x y hx,fun x y hx=>h.mp x y hx⟩) hl.2
open Go.Proofs
theorem jumps_a {b:List Ty} {p:Nat} (h:(decF b p).2=0) (hj:jumpsB (decF b p).1.op.val=true):0≤(decF b p).1.a:=by
 have hd:=(decF_ok h).2.1
 rw[hd] at hj ⊢
 have h2:(wid ((b[p]?).getD 0).val).1=2:=by
  rcases of_decide_eq_true hj with h|h <;> (change ((b[p]?).getD 0).val=_ at h; rw[h]; rfl)
 show 0≤opdB _
 rw[h2]
 unfold opdB
 rw[if_neg]
 ·omega
 ·intro hc; have:=hc.1; rw[List.length_take] at this; omega
theorem on_in {b:List Ty} {p:Nat} (h:(decF b p).2=0) {x:Int} (hx:x∈(onD (decF b p).1 b.length).1):0≤x∧x≤b.length:=by
 have hp:(decF b p).1.pos=p:=by rw[(decF_ok h).2.1]; rfl
 have hz:=(decF_ok h).2.2.2
 unfold onD at hx
 by_cases h1:jumpsB (decF b p).1.op.val=true∧(b.length:Int)≤(decF b p).1.a
 ·rw[if_pos h1] at hx; simp at hx
 by_cases h2:endsB (decF b p).1.op.val=false∧(decF b p).1.pos+(zf4 (decF b p).1.op.val:Int)=b.length
 ·simp only[if_neg h1,if_pos h2] at hx; simp at hx
 simp only[if_neg h1,if_neg h2,List.mem_append] at hx
 have key:jumpsB (decF b p).1.op.val=true→0≤(decF b p).1.a∧(decF b p).1.a≤b.length:=fun hj=>⟨jumps_a h hj,by
  by_cases hc:(b.length:Int)≤(decF b p).1.a
  ·exact absurd ⟨hj,hc⟩ h1
  ·omega⟩
 rcases hx with(hx|hx)|hx
 ·split at hx
  ·rename_i hc; obtain rfl:=List.mem_singleton.1 hx; exact key hc.1
  ·cases hx
 ·split at hx
  ·obtain rfl:=List.mem_singleton.1 hx; rw[hp]; omega
  ·cases hx
 ·split at hx
  ·rename_i hc; obtain rfl:=List.mem_singleton.1 hx; exact key hc.1
  ·cases hx
theorem on_len (i:Ins) (n:Nat):(onD i n).1.length≤3:=by
 unfold onD
 by_cases h1:jumpsB i.op.val=true∧(n:Int)≤i.a
 ·rw[if_pos h1]; simp
 by_cases h2:endsB i.op.val=false∧i.pos+(zf4 i.op.val:Int)=n
 ·simp only[if_neg h1,if_pos h2]; simp
 simp only[if_neg h1,if_neg h2,List.length_append]
 have k:∀(c:Prop) [Decidable c] (x:Int),(if c then [x] else []).length≤1:=fun c _ x=>by split <;> simp
 exact Nat.add_le_add (Nat.add_le_add (k _ _) (k _ _)) (k _ _)
theorem stD_len {q:QB} {m:Nat}:(stD q m).length=4:=rfl
theorem stD_take {q:QB} {m:Nat}:(stD q m).take 4=stD q m:=rfl
theorem hand_sz {l:List Cl} {s:IS} {m a:Nat} {f:Fr} (h:s.sz m):(handD l s a f).1.sz m:=by
 unfold handD
 split
 ·exact⟨by simpa using h.a,by simpa using h.b,by simpa using h.c,h.d⟩
 split
 ·exact h
 split
 ·exact⟨h.a,by simpa using h.b,by simpa using h.c,h.d⟩
 ·exact h
theorem stI_off {q:QB} {s:IS} (s':IS) {x:Nat} (h:¬(stI q s).has x):¬(stI q s').has x:=fun h'=>h (stI_has.2 (stI_has.1 h'))
def bYhbE0:=aI @zc1 (aI @zc2 (aI @zb4 (aI @zb3 (aI @za6 (aI @za4 (aI @zb2 (aI @za8 (aI @zb7 (aI @zb1 (aI @gdD @in_1))))))))))
def bYhbE1:=aI @zc1 (aI @zc2 (aI @zb4 (aI @zb3 (aI @za6 (aI @za4 (aI @zb2 (aI @za8 (aI @zb7 (aI @zb1 (aI @gdD (aI @in_1 @za2)))))))))))
theorem round69 (q:QB) (hq:q.ne) (s:IS) (e:En) (b:List Ty) (o:Own) (hs:s.sz (b.length+1)) (hb:b.length≤4096) (hw:WideE e) (hF:Falls e.cs e.cs.length) (hcs:e.cs.length*48≤140737488355328) (a:Nat) (ha:a≤b.length)
  (ht:∀x<b.length+1,(s.tk[x]?).getD 0≤5000):
  RCall Tryz.prog 69 [.agg (stD q (b.length+1)),.agg (eEn e),.slice o (rws eT b),.int .i64 a] (stI q s) fun d s'=>d= .tup [.int .i64 (roundD e b s a).2.1,.int .i64 (roundD e b s a).2.2]∧s'=stI q (roundD e b s a).1:=by
 have kc:=stI_c (s:=s) hq
 refine F69.rcall rfl fun T hT=> ?_
 simp -implicitDefEqProofs only[go_sem,c69,hT,stD,Nat.mul_one,Nat.add_zero,Nat.zero_add,bYhbE0]
 intro b4 hb4 b5 m1 m2 hb5
 obtain⟨n1,n2,n3,n4⟩:=stI_ne hb4
 obtain⟨p1,p2,p3,p4⟩:=stI_ne hb5
 have hpc:∀g,(fl eBo s.fresh).take a++[D.bool g]++(fl eBo s.fresh).drop (a+1)=fl eBo (s.fresh.set a g):=fun g=>by
  have:=fl_set (enc:=eBo) (s:=1) (fun x=>rfl) (xs:=s.fresh) (i:=a) (by rw[hs.c]; omega) g
  rwa[Nat.mul_one] at this
 have hlc:(fl eBo s.fresh).length=b.length+1:=by rw[fl_len (s:=1) (fun x=>rfl),hs.c,Nat.mul_one]
 simp -implicitDefEqProofs only[go_sem,hT,Nat.mul_one,Nat.add_zero,Nat.zero_add,n1,n2,n3,n4,Ne.symm n1,Ne.symm n2,Ne.symm n3,Ne.symm n4,p1,p2,p3,p4,Ne.symm p1,Ne.symm p2,Ne.symm p3,Ne.symm p4,m1,m2,kc,hpc,hlc,bYhbE0]
 refine⟨⟨by omega,by omega⟩,by omega, ?_⟩
 rw[set_comm p3,set_comm n3,stI_setC hq]
 generalize hs1:(⟨s.has,s.fr,s.fresh.set a false,s.tk⟩:IS)=s1
 have hsz1:s1.sz (b.length+1):=by rw[←hs1]; exact⟨hs.a,hs.b,by simpa using hs.c,hs.d⟩
 have htk1:s1.tk=s.tk:=by rw[←hs1]
 have hfr1:s1.fr=s.fr:=by rw[←hs1]
 have n4':=stI_off s1 hb4
 have n5':=stI_off s1 hb5
 have base1:St.le (stI q s1) (((stI q s1).set b4 [.bsl q.a 0 (b.length+1) (b.length+1),.bsl q.b 0 (b.length+1) (b.length+1),.bsl q.c 0 (b.length+1) (b.length+1),.bsl q.d 0 (b.length+1) (b.length+1)]).set b5 (eEn e)):=
  (le_add n4').trans (le_add (by rw[set_has]; exact fun h=>h.elim m1 n5'))
 by_cases g1:a=b.length
 ·have hR:roundD e b s a=(s1,(a:Int),51):=by unfold roundD; rw[if_pos g1,hs1]
  have g1':((a:Int)=b.length)=True:=eq_true (by omega)
  simp -implicitDefEqProofs only[go_sem,hT,g1']
  exact⟨_,_,DLe.refl _,base1,by rw[hR]; rfl,by rw[hR]⟩
 have g1':((a:Int)=b.length)=False:=eq_false (by omega)
 simp -implicitDefEqProofs only[go_sem,hT,g1']
 refine za3 (refDecode19 b o a (by omega) (by omega)) ?_
 simp -implicitDefEqProofs only[go_sem,hT,g1',Nat.mul_one,Nat.add_zero,Nat.zero_add,n1,n2,n3,n4,Ne.symm n1,Ne.symm n2,Ne.symm n3,Ne.symm n4,p1,p2,p3,p4,Ne.symm p1,Ne.symm p2,Ne.symm p3,Ne.symm p4,m1,m2,bYhbE0]
 intro b10 r5 r6 r7 r8 hb10
 obtain⟨r1,r2,r3,r4⟩:=stI_ne hb10
 have n10':=stI_off s1 hb10
 have base2:∀v,St.le (stI q s1) ((((stI q s1).set b4 [.bsl q.a 0 (b.length+1) (b.length+1),.bsl q.b 0 (b.length+1) (b.length+1),.bsl q.c 0 (b.length+1) (b.length+1),.bsl q.d 0 (b.length+1) (b.length+1)]).set b5 (eEn e)).set b10 v):=fun v=>
  base1.trans (le_add (by rw[set_has,set_has]; exact fun h=>h.elim r5 fun h=>h.elim r7 n10'))
 by_cases g2:(decF b a).2=0
 case neg=>
  have hR:roundD e b s a=(s1,(a:Int),(decF b a).2):=by unfold roundD; rw[if_neg g1,if_pos g2,hs1]
  have g2':(((decF b a).2:Int)=0)=False:=eq_false (by omega)
  simp -implicitDefEqProofs only[go_sem,hT,g2',Nat.mul_one,Nat.add_zero,Nat.zero_add,n1,n2,n3,n4,Ne.symm n1,Ne.symm n2,Ne.symm n3,Ne.symm n4,p1,p2,p3,p4,Ne.symm p1,Ne.symm p2,Ne.symm p3,Ne.symm p4,m1,m2,r1,r2,r3,r4,Ne.symm r1,Ne.symm r2,Ne.symm r3,Ne.symm r4,r5,r6,r7,r8,bYhbE1]
  exact⟨_,_,DLe.refl _,base2 _,by rw[hR],by rw[hR]⟩
 have g2':(((decF b a).2:Int)=0)=True:=eq_true (by omega)
 have ob:eIn (decF b a).1=[.int .i64 (decF b a).1.pos,.int .u8 (decF b a).1.op.val,.int .i64 (decF b a).1.a,.int .i64 (decF b a).1.b]:=rfl
 simp -implicitDefEqProofs only[go_sem,hT,g2',Nat.mul_one,Nat.add_zero,Nat.zero_add,n1,n2,n3,n4,Ne.symm n1,Ne.symm n2,Ne.symm n3,Ne.symm n4,p1,p2,p3,p4,Ne.symm p1,Ne.symm p2,Ne.symm p3,Ne.symm p4,m1,m2,r1,r2,r3,r4,Ne.symm r1,Ne.symm r2,Ne.symm r3,Ne.symm r4,r5,r6,r7,r8,bYhbE1]
 refine za3 (refSize74 (decF b a).1.op) ?_
 simp -implicitDefEqProofs only[go_sem,hT,Nat.mul_one,Nat.add_zero,Nat.zero_add,n1,n2,n3,n4,Ne.symm n1,Ne.symm n2,Ne.symm n3,Ne.symm n4,p1,p2,p3,p4,Ne.symm p1,Ne.symm p2,Ne.symm p3,Ne.symm p4,m1,m2,r1,r2,r3,r4,Ne.symm r1,Ne.symm r2,Ne.symm r3,Ne.symm r4,r5,r6,r7,r8,bYhbE1]
 have hsz:=sizeOp_le (decF b a).1.op.val
 have hoff:offL (stI q s1) [.bx b4 (stD q (b.length+1)),.bx b5 (eEn e),.bx b10 (eIn (decF b a).1)]:=⟨n4',n5',n10',trivial⟩
 refine callB_under [.bx b4 (stD q (b.length+1)),.bx b5 (eEn e),.bx b10 (eIn (decF b a).1)] hoff ((overlaps111 q hq s1 (b.length+1) hsz1 (by omega) a (zf4 (decF b a).1.op.val) (by omega) (by omega) (by rw[htk1]; exact ht)).xcall (Rp:=fun _ _=>False)) (fun d s' hR _=> ?_) fun d s' h=>h.elim
 obtain⟨rfl,rfl⟩:=hR
 rw[htk1]
 cases g3:overB s.tk a (zf4 (decF b a).1.op.val)
 case true=>
  have hR:roundD e b s a=(s1,(a:Int),80):=by unfold roundD; rw[if_neg g1,if_neg (by omega),if_pos g3,hs1]
  simp -implicitDefEqProofs only[go_sem,hT,putL,List.foldl_cons,List.foldl_nil,LI.put]
  exact⟨_,_,DLe.refl _,base2 _,by rw[hR]; rfl,by rw[hR]⟩
 have kd:=stI_d (q:=q) (s:=s1)
 have hld:(fl eN s1.tk).length=b.length+1:=by rw[fl_len (s:=1) (fun x=>rfl),hsz1.d,Nat.mul_one]
 have hpd:∀g:Nat,(fl eN s1.tk).take a++[D.int .i64 (g:Int)]++(fl eN s1.tk).drop (a+1)=fl eN (s1.tk.set a g):=fun g=>by
  have:=fl_set (enc:=eN) (s:=1) (fun x=>rfl) (xs:=s1.tk) (i:=a) (by rw[hsz1.d]; omega) g
  rwa[Nat.mul_one] at this
 have kb:=stI_b (s:=s1) hq
 have hfl:(fl eFr s1.fr).length=(b.length+1)*26:=by rw[fl_len za6,hsz1.b]
 have hget:((fl eFr s1.fr).drop (a*26)).take 26=eFr ((s.fr[a]?).getD (fr0 0)):=by
  rw[fl_at za6 (by rw[hsz1.b]; omega),←hfr1,List.getElem?_eq_getElem (by rw[hsz1.b]; omega)]; rfl
 have hfa:(26≤((fl eFr s1.fr).drop (a*26)).length)=True:=eq_true (by rw[List.length_drop,hfl]; omega)
 simp -implicitDefEqProofs only[go_sem,hT,putL,List.foldl_cons,List.foldl_nil,LI.put,stD,Nat.mul_one,Nat.add_zero,Nat.zero_add,n1,n2,n3,n4,Ne.symm n1,Ne.symm n2,Ne.symm n3,Ne.symm n4,p1,p2,p3,p4,Ne.symm p1,Ne.symm p2,Ne.symm p3,Ne.symm p4,m1,m2,r1,r2,r3,r4,Ne.symm r1,Ne.symm r2,Ne.symm r3,Ne.symm r4,r5,r6,r7,r8,kd,hld,hpd,kb,hq.bd,hget,hfl,hfa,bYhbE0]
 refine⟨⟨by omega,by omega⟩,by omega, ?_⟩
 rw[set_comm r4,set_comm p4,set_comm n4,stI_setD]
 have hs2:(⟨s1.has,s1.fr,s1.fresh,s1.tk.set a (zf4 (decF b a).1.op.val)⟩:IS)=⟨s.has,s.fr,s.fresh.set a false,s.tk.set a (zf4 (decF b a).1.op.val)⟩:=by rw[←hs1]
 generalize hs2':(⟨s1.has,s1.fr,s1.fresh,s1.tk.set a (zf4 (decF b a).1.op.val)⟩:IS)=s2 at hs2 ⊢
 have hsz2:s2.sz (b.length+1):=by rw[hs2]; exact⟨hs.a,hs.b,by simpa using hs.c,by simpa using hs.d⟩
 have hfr2:s2.fr=s.fr:=by rw[hs2]
 have q4':=stI_off s2 hb4
 have q5':=stI_off s2 hb5
 have q10':=stI_off s2 hb10
 have base3:∀v,St.le (stI q s2) ((((stI q s2).set b4 [.bsl q.a 0 (b.length+1) (b.length+1),.bsl q.b 0 (b.length+1) (b.length+1),.bsl q.c 0 (b.length+1) (b.length+1),.bsl q.d 0 (b.length+1) (b.length+1)]).set b5 (eEn e)).set b10 v):=fun v=>
  ((le_add q4').trans (le_add (by rw[set_has]; exact fun h=>h.elim m1 q5'))).trans (le_add (by rw[set_has,set_has]; exact fun h=>h.elim r5 fun h=>h.elim r7 q10'))
 clear base1 base2 hoff kd hld hpd
 refine⟨⟨by omega,by omega⟩, ?_⟩
 refine za3 (refApply37 e _ _ hw) ?_
 simp -implicitDefEqProofs only[go_sem,hT,Nat.mul_one,Nat.add_zero,Nat.zero_add,n1,n2,n3,n4,Ne.symm n1,Ne.symm n2,Ne.symm n3,Ne.symm n4,p1,p2,p3,p4,Ne.symm p1,Ne.symm p2,Ne.symm p3,Ne.symm p4,m1,m2,r1,r2,r3,r4,Ne.symm r1,Ne.symm r2,Ne.symm r3,Ne.symm r4,r5,r6,r7,r8,bYhbE0]
 intro b13 t5 t6 t7 t8 t9 t10 hb13
 obtain⟨t1,t2,t3,t4⟩:=stI_ne hb13
 have q13':=stI_off s2 hb13
 have base4:∀v w,St.le (stI q s2) (((((stI q s2).set b4 [.bsl q.a 0 (b.length+1) (b.length+1),.bsl q.b 0 (b.length+1) (b.length+1),.bsl q.c 0 (b.length+1) (b.length+1),.bsl q.d 0 (b.length+1) (b.length+1)]).set b5 (eEn e)).set b10 v).set b13 w):=fun v w=>
  (base3 v).trans (le_add (by rw[set_has,set_has,set_has]; exact fun h=>h.elim t5 fun h=>h.elim t7 fun h=>h.elim t9 q13'))
 obtain⟨⟨g,f4⟩,hG⟩:∃x,applyR e ((s.fr[a]?).getD (fr0 0)) (decF b a).1=x:=⟨_,rfl⟩
 rw[hG]
 by_cases g4:f4=0
 case neg=>
  have hR:roundD e b s a=(s2,(a:Int),f4):=by unfold roundD; rw[if_neg g1,if_neg (by omega),if_neg (by rw[g3]; simp)]; simp only[hG]; rw[if_pos g4,hs2]
  have g4':((f4:Int)=0)=False:=eq_false (by omega)
  simp -implicitDefEqProofs only[go_sem,hT,g4',Nat.mul_one,Nat.add_zero,Nat.zero_add,n1,n2,n3,n4,Ne.symm n1,Ne.symm n2,Ne.symm n3,Ne.symm n4,p1,p2,p3,p4,Ne.symm p1,Ne.symm p2,Ne.symm p3,Ne.symm p4,m1,m2,r1,r2,r3,r4,Ne.symm r1,Ne.symm r2,Ne.symm r3,Ne.symm r4,r5,r6,r7,r8,t1,t2,t3,t4,Ne.symm t1,Ne.symm t2,Ne.symm t3,Ne.symm t4,t5,t6,t7,t8,t9,t10,bYhbE1]
  exact⟨_,_,DLe.refl _,base4 _ _,by rw[hR],by rw[hR]⟩
 have g4':((f4:Int)=0)=True:=eq_true (by omega)
 have hpos:(decF b a).1.pos=a:=by rw[(decF_ok g2).2.1]; rfl
 simp -implicitDefEqProofs only[go_sem,hT,g4',Nat.mul_one,Nat.add_zero,Nat.zero_add,n1,n2,n3,n4,Ne.symm n1,Ne.symm n2,Ne.symm n3,Ne.symm n4,p1,p2,p3,p4,Ne.symm p1,Ne.symm p2,Ne.symm p3,Ne.symm p4,m1,m2,r1,r2,r3,r4,Ne.symm r1,Ne.symm r2,Ne.symm r3,Ne.symm r4,r5,r6,r7,r8,t1,t2,t3,t4,Ne.symm t1,Ne.symm t2,Ne.symm t3,Ne.symm t4,t5,t6,t7,t8,t9,t10,bYhbE1]
 refine za3 (on112 (decF b a).1 b.length (by rw[hpos]; omega)) ?_
 simp -implicitDefEqProofs only[go_sem,hT,Nat.mul_one,Nat.add_zero,Nat.zero_add,n1,n2,n3,n4,Ne.symm n1,Ne.symm n2,Ne.symm n3,Ne.symm n4,p1,p2,p3,p4,Ne.symm p1,Ne.symm p2,Ne.symm p3,Ne.symm p4,m1,m2,r1,r2,r3,r4,Ne.symm r1,Ne.symm r2,Ne.symm r3,Ne.symm r4,r5,r6,r7,r8,t1,t2,t3,t4,Ne.symm t1,Ne.symm t2,Ne.symm t3,Ne.symm t4,t5,t6,t7,t8,t9,t10,bYhbE1]
 have hin:=fun x hx=>on_in (b:=b) (p:=a) g2 (x:=x) hx
 generalize hO:onD (decF b a).1 b.length=ot at hin ⊢
 obtain⟨to,f5⟩:=ot
 simp only at hin ⊢
 by_cases g5:f5=0
 case neg=>
  have hR:roundD e b s a=(s2,(a:Int),f5):=by unfold roundD; rw[if_neg g1,if_neg (by omega),if_neg (by rw[g3]; simp)]; simp only[hG,hO]; rw[if_neg (by omega),if_pos g5,hs2]
  have g5':((f5:Int)=0)=False:=eq_false (by omega)
  simp -implicitDefEqProofs only[go_sem,hT,g5',Nat.mul_one,Nat.add_zero,Nat.zero_add,n1,n2,n3,n4,Ne.symm n1,Ne.symm n2,Ne.symm n3,Ne.symm n4,p1,p2,p3,p4,Ne.symm p1,Ne.symm p2,Ne.symm p3,Ne.symm p4,m1,m2,r1,r2,r3,r4,Ne.symm r1,Ne.symm r2,Ne.symm r3,Ne.symm r4,r5,r6,r7,r8,t1,t2,t3,t4,Ne.symm t1,Ne.symm t2,Ne.symm t3,Ne.symm t4,t5,t6,t7,t8,t9,t10,bYhbE1]
  exact⟨_,_,DLe.refl _,base4 _ _,by rw[hR],by rw[hR]⟩
 have g5':((f5:Int)=0)=True:=eq_true (by omega)
 have hR:roundD e b s a=handsD e.cs g to s2:=by unfold roundD; rw[if_neg g1,if_neg (by omega),if_neg (by rw[g3]; simp)]; simp only[hG,hO]; rw[if_neg (by omega),if_neg (by omega),hs2]
 rw[hR]
 simp -implicitDefEqProofs only[go_sem,hT,g5',Nat.mul_one,Nat.add_zero,Nat.zero_add,n1,n2,n3,n4,Ne.symm n1,Ne.symm n2,Ne.symm n3,Ne.symm n4,p1,p2,p3,p4,Ne.symm p1,Ne.symm p2,Ne.symm p3,Ne.symm p4,m1,m2,r1,r2,r3,r4,Ne.symm r1,Ne.symm r2,Ne.symm r3,Ne.symm r4,r5,r6,r7,r8,t1,t2,t3,t4,Ne.symm t1,Ne.symm t2,Ne.symm t3,Ne.symm t4,t5,t6,t7,t8,t9,t10,bYhbE1]
 obtain⟨L,hL⟩:∃L:List LI,L=[.bx b4 (stD q (b.length+1)),.bx b5 (eEn e),.bx b10 (eIn (decF b a).1),.bx b13 (eFr g)]:=⟨_,rfl⟩
 have hof:∀x,offL (stI q x) L:=fun x=>by rw[hL]; exact⟨stI_off x hb4,stI_off x hb5,stI_off x hb10,stI_off x hb13,trivial⟩
 have hlt:to.length≤3:=by have:=on_len (decF b a).1 b.length; rw[hO] at this; exact this
 refine loopL F69 (fun x:Nat×IS=>[(4,.ptr b4 0),(5,.ptr b5 0),(13,.ptr b13 0),(14,.slice .no (rws eI to)),(15,.int .i64 x.1)]) (fun x=>putL (stI q x.2) L)
  (fun x=>x.1≤to.length∧x.2.sz (b.length+1)∧handsD e.cs g to s2=handsD e.cs g (to.drop x.1) x.2) (fun x=>to.length-x.1) (0,s2) ⟨by simp,hsz2,by simp⟩ ?_ (by rw[hL]; exact St.le.refl _) ?_
 ·simp -implicitDefEqProofs only[go_sem,hT,zc1,zc2,zb4,zb3,za6,za4,zb2,za8,zb7,zb1,gdD,Nat.mul_one,Nat.add_zero,Nat.zero_add,in_1,t1,t2,t3,t4,Ne.symm t1,Ne.symm t2,Ne.symm t3,Ne.symm t4,t5,t6,t7,t8,t9,t10,Int.ofNat_zero]
 clear hT T
 rintro⟨i,s3⟩ ⟨hi,hsz3,heq⟩ T hT
 simp only at hi hsz3 heq hT ⊢
 have y4:(putL (stI q s3) L).box b4=some (stD q (b.length+1)):=by rw[hL]; simp[putL,LI.put,St.set_box,t7,t9,t1,t2,t3,t4,Ne.symm t1,Ne.symm t2,Ne.symm t3,Ne.symm t4,t5,t6,t8,t10,r1,r2,r3,r4,Ne.symm r1,Ne.symm r2,Ne.symm r3,Ne.symm r4,r5,r6,r7,r8,n1,n2,n3,n4,Ne.symm n1,Ne.symm n2,Ne.symm n3,Ne.symm n4,p1,p2,p3,p4,Ne.symm p1,Ne.symm p2,Ne.symm p3,Ne.symm p4,m1,m2]
 have y5:(putL (stI q s3) L).box b5=some (eEn e):=by rw[hL]; simp[putL,LI.put,St.set_box,t1,t2,t3,t4,Ne.symm t1,Ne.symm t2,Ne.symm t3,Ne.symm t4,t5,t6,t7,t8,t9,t10,r1,r2,r3,r4,Ne.symm r1,Ne.symm r2,Ne.symm r3,Ne.symm r4,r5,r6,r7,r8,n1,n2,n3,n4,Ne.symm n1,Ne.symm n2,Ne.symm n3,Ne.symm n4,p1,p2,p3,p4,Ne.symm p1,Ne.symm p2,Ne.symm p3,Ne.symm p4,m1,m2]
 have y13:(putL (stI q s3) L).box b13=some (eFr g):=by rw[hL]; simp[putL,LI.put,St.set_box]
 by_cases h:i<to.length
 ·have p2:((i:Int)<to.length)=True:=eq_true (by omega)
  have hax:=rws_at (enc:=eI) h
  have hd:to.drop i=to[i]::to.drop (i+1):=List.drop_eq_getElem_cons h
  obtain⟨hi0,hi1⟩:=hin _ (List.getElem_mem h)
  obtain⟨z,hz⟩:∃z:Nat,to[i]=z:=⟨to[i].toNat,by omega⟩
  have w1:IntKind.wrap .i64 ((i:Int)+1)=((i+1:Nat):Int):=by rw[zc3 (by omega) (by omega)]; simp
  have en0:(eEn e)[0]? =some (.slice .no (rws eC e.cs)):=rfl
  simp -implicitDefEqProofs only[go_sem,hT,zc1,zc2,zb4,zb3,za6,za4,zb2,za8,zb7,zb1,gdD,Nat.mul_one,Nat.add_zero,Nat.zero_add,in_1,y4,y5,y13,p2,hax,eI,hz,stD_len,stD_take,en0]
  refine⟨by omega, ?_⟩
  refine callB_under L (hof _) ((hand113 q hq s3 (b.length+1) hsz3 (by omega) e.cs .no hF hcs z (by omega) g).xcall (Rp:=fun _ _=>False)) (fun d s' hR _=> ?_) fun d s' h=>h.elim
  obtain⟨rfl,rfl⟩:=hR
  have hst:handsD e.cs g (to.drop i) s3=if(handD e.cs s3 z g).2≠0 then((handD e.cs s3 z g).1,(z:Int),(handD e.cs s3 z g).2) else handsD e.cs g (to.drop (i+1)) (handD e.cs s3 z g).1:=by
   rw[hd,handsD,hz,Int.toNat_natCast]
  by_cases g6:(handD e.cs s3 z g).2=0
  ·have g6':(((handD e.cs s3 z g).2:Int)=0)=True:=eq_true (by omega)
   simp -implicitDefEqProofs only[go_sem,hT,Nat.mul_one,Nat.add_zero,Nat.zero_add,g6',w1,bYhbE0]
   refine⟨(i+1,(handD e.cs s3 z g).1),⟨by omega,hand_sz hsz3, ?_⟩,by omega,rfl,St.le.refl _⟩
   rw[heq,hst,if_neg (by omega)]
  ·have g6':(((handD e.cs s3 z g).2:Int)=0)=False:=eq_false (by omega)
   simp -implicitDefEqProofs only[go_sem,hT,Nat.mul_one,Nat.add_zero,Nat.zero_add,g6',hax,eI,hz,bYhbE0]
   rw[heq,hst,if_pos g6]
   refine⟨⟨by omega,by omega⟩, ?_⟩
   exact⟨_,_,DLe.refl _,le_putL (St.le.refl _) (hof _),rfl,rfl⟩
 ·have p2:((i:Int)<to.length)=False:=eq_false (by omega)
  simp -implicitDefEqProofs only[go_sem,hT,Nat.mul_one,Nat.add_zero,Nat.zero_add,y4,y5,y13,p2,bYhbE0]
  rw[heq,List.drop_eq_nil_of_le (by omega),handsD]
  exact⟨_,_,DLe.refl _,le_putL (St.le.refl _) (hof _),rfl,rfl⟩
end Go.AL
