import Derived.Test.YtobmoajkfbigkaaGreatSy
import Derived.Test.YtobmoajkfbigkaaGreatSu
set_option linter.unusedSimpArgs false
set_option linter.unusedVariables false
set_option maxRecDepth 100000
set_option maxHeartbeats 4000000
set_option linter.defProp false
namespace Go.AL
open Go.Proofs
def targAt (acc:List Int) (i:Ins):List Int:=if jumpsB i.op.val=true then putI acc i.a else acc
def targD (l:List Ins):List Int:=l.foldl targAt []
theorem targ_snoc (l:List Ins) (i:Ins):targD (l++[i])=targAt (targD l) i:=by simp[targD]
theorem targ_len:∀(n:Nat) (l:List Ins),l.length=n→(targD l).length≤n
 |0,l,h=>by obtain rfl:=List.eq_nil_of_length_eq_zero h; exact Nat.le_refl _
 |n+1,l,h=>by
  obtain⟨r,a,rfl⟩:∃r a,l=r++[a]:=by
   rcases List.eq_nil_or_concat l with h0|⟨r,a,h0⟩
   ·rw[h0] at h; cases h
   ·exact⟨r,a,by rw[h0,List.concat_eq_append]⟩
  have hr:r.length=n:=by rw[List.length_append] at h; simpa using h
  have ih:=targ_len n r hr
  rw[targ_snoc,targAt]
  split
  ·have:=putI_len (targD r) a.a; omega
  ·omega
theorem targ_nil:∀(l:List Ins),targD l=[]↔∀i∈l,jumpsB i.op.val=false:=by
 have key:∀(n:Nat) (l:List Ins),l.length=n→(targD l=[]↔∀i∈l,jumpsB i.op.val=false):=by
  intro n
  induction n with
  |zero=>intro l h; obtain rfl:=List.eq_nil_of_length_eq_zero h; simp[targD]
  |succ n ih=>
   intro l h
   obtain⟨r,a,rfl⟩:∃r a,l=r++[a]:=by
    rcases List.eq_nil_or_concat l with h0|⟨r,a,h0⟩
    ·rw[h0] at h; cases h
    ·exact⟨r,a,by rw[h0,List.concat_eq_append]⟩
   have hr:r.length=n:=by rw[List.length_append] at h; simpa using h
   rw[targ_snoc,targAt]
   constructor
   ·intro h0 i hi
    cases hj:jumpsB a.op.val with
    |true=>
     rw[if_pos hj] at h0
     exfalso
     have:a.a∈putI (targD r) a.a:=putI_mem.2 (.inl rfl)
     rw[h0] at this; cases this
    |false=>
     rw[if_neg (by rw[hj]; simp)] at h0
     rcases List.mem_append.1 hi with hi|hi
     ·exact(ih r hr).1 h0 i hi
     ·rw[List.mem_singleton.1 hi]; exact hj
   ·intro h0
    rw[if_neg (by rw[h0 a (by simp)]; simp)]
    exact(ih r hr).2 fun i hi=>h0 i (List.mem_append_left _ hi)
 exact fun l=>key _ l rfl
theorem targets24 (l:List Ins) (o:Own) (hl:l.length≤900000):PCall Tryz.prog 24 [.slice o (rws eIn l)] (.slice .no (rws eI (targD l))):=by
 refine F24.pcallM rfl fun T hT=> ?_
 simp -implicitDefEqProofs only[go_sem,c24,hT,zb6,za9,anD,za2,eIn_1,eIn_2,gdD,Nat.add_zero]
 refine loopL F24 (fun x:Nat×Own=>[(3,.slice x.2 (rws eI (targD (l.take x.1)))),(6,.slice o (rws eIn l)),(7,.int .i64 l.length),(8,.int .i64 x.1)]) (fun x=>{}) (fun x=>x.1≤l.length) (fun x=>l.length-x.1) (0,.nil) (Nat.zero_le _) ?_ (St.le.refl _) ?_
 ·simp -implicitDefEqProofs only[go_sem,hT,Int.ofNat_zero]
  rfl
 clear hT T
 rintro⟨i,ow⟩ hi T hT
 simp only at hi hT ⊢
 by_cases h:i<l.length
 case neg=>
  have g1:((i:Int)<l.length)=False:=eq_false (by omega)
  rw[List.take_of_length_le (by omega)] at hT
  simp -implicitDefEqProofs only[go_sem,hT,g1]
 have g1:((i:Int)<l.length)=True:=eq_true (by omega)
 have g0:(0≤(i:Int))=True:=eq_true (by omega)
 have w1:IntKind.wrap .i64 ((i:Int)+1)=((i+1:Nat):Int):=by rw[zc1 (by omega) (by omega)]; simp
 have hR:(rws eIn l)[i]?.getD []=eIn l[i]:=rws_at h
 have hs:targD (l.take (i+1))=targAt (targD (l.take i)) l[i]:=by rw[List.take_succ_eq_append_getElem h,targ_snoc]
 have htl:=targ_len _ (l.take i) rfl
 rw[List.length_take] at htl
 generalize l[i]=x at *
 generalize targD (l.take i)=A at *
 simp -implicitDefEqProofs only[go_sem,hT,g1,g0,hR,zb6,za9,anD,za2,eIn_1,eIn_2,gdD,Nat.add_zero,Int.toNat_natCast]
 intro b5
 refine za3 (refJumps22 _) ?_
 cases hj:jumpsB x.op.val with
 |true=>
  rw[targAt,if_pos hj] at hs
  simp -implicitDefEqProofs only[go_sem,hT,zb6,za9,anD,za2,eIn_1,eIn_2,gdD,Nat.add_zero]
  refine za3 (put65 A x.a ow (by omega)) ?_
  simp -implicitDefEqProofs only[go_sem,hT,w1]
  refine⟨(i+1,.no),by simp only; omega,by simp only; omega, ?_,St.le.nil _⟩
  simp only[hs]
  trivial
 |false=>
  rw[targAt,if_neg (by rw[hj]; simp)] at hs
  simp -implicitDefEqProofs only[go_sem,hT,w1]
  refine⟨(i+1,ow),by simp only; omega,by simp only; omega, ?_,St.le.nil _⟩
  simp only[hs]
  trivial
theorem up_len:∀(l:List Nat) (lo n:Nat),lo≤n→l.Pairwise (· < ·)→(∀x∈l,lo≤x∧x<n)→l.length≤n-lo
 |[],_,_,_,_,_=>Nat.zero_le _
 |x::r,lo,n,h,hp,hx=>by
  have h1:=hx x (by simp)
  have h2:=up_len r (x+1) n (by omega) (List.pairwise_cons.1 hp).2 (fun y hy=>⟨(List.pairwise_cons.1 hp).1 y hy,(hx y (by simp[hy])).2⟩)
  simp only[List.length_cons]
  omega
def bYiaB0:=aI @zb1 (aI @za7 (aI @zb6 (aI @za9 (aI @anD (aI @za2 (aI @eIn_1 (aI @eIn_2 (aI @gdD @gh_len))))))))
def bYiaB1:=aI @zb1 (aI @za7 (aI @zb6 (aI @za9 (aI @anD (aI @za2 (aI @eIn_1 (aI @eIn_2 (aI @gdD (aI @gh_len @Int.ofNat_zero)))))))))
theorem law4 (e:En) (loc:Int) (b:List Ty) (hw:WideE e) (hb:b.length≤140737488351232):PCall Tryz.prog 4 [.agg (eEn e),.int .i64 loc,.slice .no (rws eT b)] (.bool true):=by
 have hscan:=scan23 b .no (by omega)
 have hok:=@scanD_ok b
 generalize scanD b=s at *
 obtain⟨L,p,w⟩:=s
 simp only at hscan hok
 refine F4.pcallM rfl fun T hT=> ?_
 simp -implicitDefEqProofs only[go_sem,c4,hT,Nat.add_zero,bYiaB0]
 intro b3
 refine za3 hscan ?_
 by_cases hz:w=0
 case neg=>
  have gz:((w:Int)=0)=False:=eq_false (by omega)
  simp -implicitDefEqProofs only[go_sem,hT,Nat.add_zero,gz,bYiaB0]
  done
 subst hz
 obtain⟨hb4,hL⟩:=hok rfl
 have hll:(insL b L).length=L.length:=by simp[insL]
 by_cases hne:L=[]
 ·subst hne
  have gl:(((([]:List Nat).length:Nat):Int)=0)=True:=eq_true rfl
  simp -implicitDefEqProofs only[go_sem,hT,Nat.add_zero,hll,gl,bYiaB1]
  done
 have hpos:0<L.length:=List.length_pos_iff.2 hne
 have gl:((L.length:Int)=0)=False:=eq_false (by omega)
 have hlen:L.length≤4096:=by
  have:=up_len L 0 b.length (Nat.zero_le _) (hL.rise.imp_of_mem fun {x y} hx hy h=>by have:1≤szA b x:=(decF_ok (hL.each x hx).2.2).2.2.1; omega) fun x hx=>⟨Nat.zero_le _,(hL.each x hx).2.1⟩
  omega
 simp -implicitDefEqProofs only[go_sem,hT,Nat.add_zero,hll,gl,bYiaB1]
 refine za3 (targets24 (insL b L) .no (by omega)) ?_
 by_cases ht:targD (insL b L)=[]
 case neg=>
  have gt:((0:Int)<(targD (insL b L)).length)=True:=eq_true (by have:=List.length_pos_iff.2 ht; omega)
  simp -implicitDefEqProofs only[go_sem,hT,Nat.add_zero,gt,bYiaB0]
  done
 rw[ht]
 have hj:∀a∈L,jumpsB (insA b a).op.val=false:=fun a ha=>(targ_nil _).1 ht _ (List.mem_map.2 ⟨a,ha,rfl⟩)
 have g00:((0:Int)<((([]:List Int).length:Nat):Int))=False:=eq_false (by simp)
 simp -implicitDefEqProofs only[go_sem,hT,Nat.add_zero,g00,hll,bYiaB0]
 refine loopL F4 (fun i:Nat=>[(1,.int .i64 loc),(2,.slice .no (rws eT b)),(3,.ptr b3 0),(7,.slice .no (rws eIn (insL b L))),(36,.slice .no (rws eIn (insL b L))),(37,.int .i64 L.length),(38,.int .i64 i)]) (fun _=>({}:St).set b3 (eEn e)) (fun i=>i≤L.length∧∀j (h:j<L.length),j<i→endsB (insA b L[j]).op.val=decide (j=L.length-1)) (fun i=>L.length-i) 0 ⟨Nat.zero_le _,fun j _ h=>by omega⟩ ?_ (St.le.refl _) ?_
 ·simp -implicitDefEqProofs only[go_sem,hT,Int.ofNat_zero]
 clear hT T
 rintro i ⟨hi,hend⟩ T hT
 by_cases h:i<L.length
 ·have g1:((i:Int)<L.length)=True:=eq_true (by omega)
  have g0:(0≤(i:Int))=True:=eq_true (by omega)
  have w1:IntKind.wrap .i64 ((i:Int)+1)=((i+1:Nat):Int):=by rw[zc1 (by omega) (by omega)]; simp
  have w2:IntKind.wrap .i64 ((L.length:Int)-1)=((L.length-1:Nat):Int):=by rw[zc1 (by omega) (by omega)]; omega
  have hR:(rws eIn (insL b L))[i]?.getD []=eIn (insA b L[i]):=by rw[rws_at (by rw[hll]; exact h)]; simp[insL]
  have hx:=hend
  generalize hxe:insA b L[i]=x at *
  simp -implicitDefEqProofs only[go_sem,hT,g1,g0,hR,zb1,za7,zb6,za9,anD,za2,eIn_1,eIn_2,gdD,Nat.add_zero,gh_len,hll,Int.toNat_natCast]
  intro b11 q1 q2
  refine za3 (refEnds41 _) ?_
  have hd:(decide ((i:Int)=((L.length-1:Nat):Int)))=decide (i=L.length-1):=by rw[decide_eq_decide]; omega
  by_cases he:endsB x.op.val=decide (i=L.length-1)
  ·have ge:(endsB x.op.val !=decide ((i:Int)=((L.length-1:Nat):Int)))=false:=by rw[hd,he]; simp
   simp -implicitDefEqProofs only[go_sem,hT,Nat.add_zero,hll,w2,ge,w1,bYiaB0]
   refine⟨i+1,⟨by omega,fun j hj hlt=> ?_⟩,by omega,rfl,le_add fun h=> ?_⟩
   ·by_cases hji:j=i
    ·subst hji; rw[hxe]; exact he
    ·exact hend j hj (by omega)
   ·rcases set_has.1 h with h|h
    ·exact q1 h
    ·exact St.not_has_nil _ h
  ·have ge:(endsB x.op.val !=decide ((i:Int)=((L.length-1:Nat):Int)))=true:=by rw[hd]; simpa using he
   simp -implicitDefEqProofs only[go_sem,hT,Nat.add_zero,hll,w2,ge,w1,bYiaB0]
 have g1:((i:Int)<L.length)=False:=eq_false (by omega)
 have hiff:=line_iff (loc:=loc) hw hL hne hj fun j hjl=>hend j hjl (by omega)
 have henc:=refEncode25 loc [] (by simp)
 have hinf:=infer26 e loc b .no hw (by omega)
 have hel:(encC loc []).1.length≤6:=by
  unfold encC
  split
  ·simp
  ·exact Nat.le_refl _
 have hcheck:=check15 e loc b (encC loc []).1 .no .no hw (by omega) (by omega)
 generalize encC loc []=EC at *
 obtain⟨ct,y⟩:=EC
 generalize inferD e loc b=I at *
 obtain⟨es,q,z⟩:=I
 simp only at hiff henc hinf hcheck hel
 generalize checkD e loc b ct=g at *
 obtain⟨gh,a2,w2⟩:=g
 simp only at hiff hcheck
 simp -implicitDefEqProofs only[go_sem,hT,Nat.add_zero,g1,bYiaB0]
 refine za3 (henc.args (.cons (DLe.agg (.cons (.refl _) (.cons (DLe.slice _ _) .nil))) .nil)) ?_
 simp -implicitDefEqProofs only[go_sem,hT,Nat.add_zero,bYiaB0]
 refine za3 hinf ?_
 simp -implicitDefEqProofs only[go_sem,hT,Nat.add_zero,bYiaB0]
 refine za3 (env30 e hw) ?_
 simp -implicitDefEqProofs only[go_sem,hT,Nat.add_zero,bYiaB0]
 refine za3 (clone17p b .no (by simp[nilOk]) (by omega)) ?_
 simp -implicitDefEqProofs only[go_sem,hT,Nat.add_zero,bYiaB0]
 refine za3 hcheck ?_
 simp -implicitDefEqProofs only[go_sem,hT,Nat.add_zero,bYiaB0]
 intro b14 r1 r2
 by_cases hw2:w2=0
 ·obtain⟨hz,hy⟩:=hiff.1 hw2
  subst hw2; subst hz; subst hy
  simp -implicitDefEqProofs only[go_sem,hT,Nat.add_zero,decide_true,bYiaB1]
  done
 have gw:((w2:Int)=0)=False:=eq_false (by omega)
 by_cases hz:z=0
 ·have gy:((y:Int)=0)=False:=eq_false (by have:¬y=0:=fun h=>hw2 (hiff.2 ⟨hz,h⟩); omega)
  subst hz
  simp -implicitDefEqProofs only[go_sem,hT,Nat.add_zero,decide_true,decide_false,gw,gy,bYiaB1]
  done
 ·have gz:((z:Int)=0)=False:=eq_false (by omega)
  simp -implicitDefEqProofs only[go_sem,hT,Nat.add_zero,decide_true,decide_false,gw,gz,bYiaB0]
end Go.AL
