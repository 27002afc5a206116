import Derived.Test.YtobmoajkfbigkaaGreatSs
import Derived.Test.YtobmoajkfbigkaaGreatSt
import Derived.Test.YtobmoajkfbigkaaGreatSf
import Derived.Test.YtobmoajkfbigkaaGreatSn
set_option linter.unusedSimpArgs false
set_option linter.unusedVariables false
set_option linter.defProp false
set_option maxRecDepth 100000
set_option maxHeartbeats 4000000
namespace Go.AL
open Go.Proofs
theorem Fun1.pcallM [Mo] {P:Program} {N:Nat} {f:FuncId} {c:AC} {rs:List ResultVar} {ds:List D} {d:D} (F:Fun1 P f N c rs) (hl:decide (ds.length≤N)=true) (h:∀T,(∀t,T t=envOf ds t)→vcA P N c (bodyP P rs d) T {}):PCall P f ds d:=by
 obtain⟨fn,code,h1,h2,h3,h4,rfl,rfl⟩:=F.ex
 refine acall_of_body h1 h2 h3 h4 (of_decide_eq_true hl) ?_
 refine awp_mono (vcA_sound F.hm (of_decide_eq_true F.hN) code (h _ fun _=>rfl)) fun x T σ hq=> ?_
 cases x with
 |normal=>
  simp only[bodyP,leK] at hq
  split at hq
  ·exact⟨_,_,{},by assumption,hq,St.le.nil _,rfl,rfl⟩
  ·exact hq.elim
 |ret=>
  simp only[bodyP,leK] at hq
  split at hq
  ·exact⟨_,_,{},by assumption,hq,St.le.nil _,rfl,rfl⟩
  ·exact hq.elim
 |_=>exact hq.elim
instance moZ:Mo:=⟨fun t=>t==123||t==124||t==29,fun t=>t==143||t==144||t==145,fun t=>t==29⟩
theorem apsZ {t:TypeId}:@Mo.aps moZ t=(t==29):=rfl
theorem cellQ_bsl {b o l c:Nat}:(D.bsl b o l c).cellQ=true:=rfl
section
variable {N : Nat} {d : Option Nat} {K : Env → St → Prop} {T : Env} {σ : St} {m : Nat}
theorem mk123:mkK Tryz.prog N d (@Mo.mks moZ 123) 123 (.int .i64 (m:Int)) (.int .i64 (m:Int)) K T σ=(m≤4611686018427387∧m≤140737488355328∧∀b,¬σ.has b→putK N d (.bsl b 0 m m) K T (σ.set b (fl eBo (List.replicate m false)))):=by
 have hz:(List.replicate m [D.bool false]).flatten=fl eBo (List.replicate m false):=by simp[fl,rws,eBo,List.map_replicate]
 rw[show @Mo.mks moZ 123=true from rfl,mkK_true]
 simp only[Tryz.sli123,Tryz.sz4,Tryz.zero4,Tryz.by4,Option.bind_some,Option.map_some,Int.toNat_natCast,hz,List.length_cons,List.length_nil]
 refine propext ⟨fun⟨⟨_,_,_,_,h⟩,k⟩=>⟨by omega,by omega,k⟩,fun⟨_,h,k⟩=>⟨⟨trivial,trivial,by omega,by omega,by omega⟩,k⟩⟩
theorem mk124:mkK Tryz.prog N d (@Mo.mks moZ 124) 124 (.int .i64 (m:Int)) (.int .i64 (m:Int)) K T σ=(m≤4611686018427387∧m≤3518437208883∧∀b,¬σ.has b→putK N d (.bsl b 0 m m) K T (σ.set b (fl eFr (List.replicate m (fr0 0))))):=by
 have hz:(List.replicate m zFr).flatten=fl eFr (List.replicate m (fr0 0)):=by simp[fl,rws,List.map_replicate,fr_fr0]
 rw[show @Mo.mks moZ 124=true from rfl,mkK_true]
 simp only[Tryz.sli124,Tryz.sz84,Tryz.zero84,Tryz.by84,Option.bind_some,Option.map_some,Int.toNat_natCast,zb8,hz,zc0]
 refine propext ⟨fun⟨⟨_,_,_,_,h⟩,k⟩=>⟨by omega,by omega,k⟩,fun⟨_,h,k⟩=>⟨⟨trivial,trivial,by omega,by omega,by omega⟩,k⟩⟩
theorem mk29:mkK Tryz.prog N d (@Mo.mks moZ 29) 29 (.int .i64 (m:Int)) (.int .i64 (m:Int)) K T σ=(m≤4611686018427387∧m≤17592186044416∧∀b,¬σ.has b→putK N d (.bsl b 0 m m) K T (σ.set b (fl eN (List.replicate m 0)))):=by
 have hz:(List.replicate m [D.int .i64 0]).flatten=fl eN (List.replicate m 0):=by simp[fl,rws,eN,List.map_replicate]
 rw[show @Mo.mks moZ 29=true from rfl,mkK_true]
 simp only[Tryz.sli29,Tryz.sz3,Tryz.zero3,Tryz.by3,Option.bind_some,Option.map_some,Int.toNat_natCast,hz,List.length_cons,List.length_nil]
 refine propext ⟨fun⟨⟨_,_,_,_,h⟩,k⟩=>⟨by omega,by omega,k⟩,fun⟨_,h,k⟩=>⟨⟨trivial,trivial,by omega,by omega,by omega⟩,k⟩⟩
end
attribute [go_sem] apsZ Bool.true_or Bool.or_true Bool.false_or Bool.or_false mk123 mk124 mk29 cellQ_bsl
open Go.Proofs
def c26:AC:=
.seq (rg [oO 3 (.box 25 (tT 0)),oO 6 (.assign (.const (.slice none 0 0))),oO 7 (.assign (kI 0)),oO 8 (.assign (kI 0))])
 (.seq (rg [oO 19 (.load 25 (tT 3)),oO 20 (.move (tT 1)),oO 21 (cF (.func 67) #[tT 19,tT 20] #[25,3]),oO 9 (.assign (tT 21))])
 (.seq (.seq (rg [oO 22 (.move (tT 9)),oO 23 (.binOp .neq 32 (tT 22) (kI 0) 32)])
 (.cond (tT 23) (.seq (rg [oO 24 (.move (tT 9)),oO 6 (.assign (.const (.slice none 0 0))),oO 7 (.assign (kI 0)),oO 8 (.assign (tT 24))])
 (.ret))
 (.skip)))
 (.seq (rg [oO 25 (.move (tT 2)),oO 26 (cB .len #[tT 25] #[26]),oO 10 (.assign (tT 26))])
 (.seq (.seq (rg [oO 27 (.move (tT 10)),oO 28 (.binOp .gtr 3 (tT 27) (kI 4096) 3)])
 (.cond (tT 28) (.seq (rg [oO 6 (.assign (.const (.slice none 0 0))),oO 7 (.assign (kI 0)),oO 8 (.assign (kI 4))])
 (.ret))
 (.skip)))
 (.seq (.reg true [] [⟨⟨some 29,.move (tT 10),none⟩,false,true⟩,⟨⟨some 30,.binOp .add 3 (tT 29) (kI 1) 3,none⟩,false,true⟩,⟨⟨some 31,.makeSlice 123 (tT 30) (tT 30),none⟩,false,true⟩,⟨⟨some 32,.move (tT 10),none⟩,false,true⟩,⟨⟨some 33,.binOp .add 3 (tT 32) (kI 1) 3,none⟩,false,true⟩,⟨⟨some 34,.makeSlice 124 (tT 33) (tT 33),none⟩,false,true⟩,⟨⟨some 35,.move (tT 10),none⟩,false,true⟩,⟨⟨some 36,.binOp .add 3 (tT 35) (kI 1) 3,none⟩,false,true⟩,⟨⟨some 37,.makeSlice 123 (tT 36) (tT 36),none⟩,false,true⟩,⟨⟨some 38,.move (tT 10),none⟩,false,true⟩,⟨⟨some 39,.binOp .add 3 (tT 38) (kI 1) 3,none⟩,false,true⟩,⟨⟨some 40,.makeSlice 29 (tT 39) (tT 39),none⟩,false,true⟩,⟨⟨some 41,.build 126 #[(0,.tmp 31),(1,.tmp 34),(2,.tmp 37),(3,.tmp 40)],none⟩,false,true⟩,oO 11 (.alloc 126),oN (.store 126 (tT 11) (tT 41))])
 (.seq (.reg true [] [⟨⟨some 43,.fieldAddr 25 (tT 3) 0,none⟩,false,true⟩,⟨⟨some 44,.load 22 (tT 43),none⟩,false,true⟩,⟨⟨some 45,.fieldAddr 25 (tT 3) 1,none⟩,false,true⟩,⟨⟨some 46,.load 23 (tT 45),none⟩,false,true⟩,⟨⟨some 47,.fieldAddr 25 (tT 3) 2,none⟩,false,true⟩,⟨⟨some 48,.load 3 (tT 47),none⟩,false,true⟩,⟨⟨some 49,.indexAddr 23 (tT 46) (tT 48),none⟩,false,true⟩,⟨⟨some 50,.fieldAddr 95 (tT 49) 0,none⟩,false,true⟩,⟨⟨some 51,.load 93 (tT 50),none⟩,false,true⟩,⟨⟨some 52,.move (tT 1),none⟩,false,true⟩,⟨⟨some 53,cF (.func 60) #[tT 44,tT 51,tT 52] #[22,93,3],none⟩,false,true⟩,⟨⟨some 42,.move (tT 53),none⟩,false,true⟩,⟨⟨some 54,.extract (tT 42) 0,none⟩,false,true⟩,⟨⟨some 55,.extract (tT 42) 1,none⟩,true,true⟩,⟨⟨some 12,.alloc 84,none⟩,true,false⟩,oN (.store 84 (tT 12) (tT 54)),oO 13 (.assign (tT 55))])
 (.seq (.seq (.reg true [11,12] [⟨⟨some 56,.fieldAddr 126 (tT 11) 0,none⟩,false,true⟩,⟨⟨some 57,.load 123 (tT 56),none⟩,false,true⟩,⟨⟨some 58,.fieldAddr 126 (tT 11) 1,none⟩,true,true⟩,⟨⟨some 59,.load 124 (tT 58),none⟩,true,true⟩,⟨⟨some 60,.fieldAddr 126 (tT 11) 2,none⟩,true,true⟩,⟨⟨some 61,.load 123 (tT 60),none⟩,true,true⟩,⟨⟨some 62,.load 84 (tT 12),none⟩,true,true⟩,oO 63 (.indexAddr 123 (tT 57) (kI 0)),oN (.store 4 (tT 63) (.const (.bool true))),oO 64 (.indexAddr 124 (tT 59) (kI 0)),oN (.store 84 (tT 64) (tT 62))])
 (rg [oO 65 (.indexAddr 123 (tT 61) (kI 0)),oN (.store 4 (tT 65) (.const (.bool true)))]))
 (.seq (.seq (rg [oO 14 (.assign (kI 0))])
 (.block 0 (.loop (.seq (.seq (rg [oO 66 (.move (tT 14)),oO 67 (.binOp .geq 3 (tT 66) (kI 0) 3)])
 (.cond (tT 67) (.skip)
 (.exit 0)))
 (.seq (.block 1 (.seq (rg [oO 71 (.load 126 (tT 11)),oO 72 (.load 25 (tT 3)),oO 73 (.move (tT 2)),oO 74 (.move (tT 14)),oO 75 (cF (.func 69) #[tT 71,tT 72,tT 73,tT 74] #[126,25,26,3]),oO 70 (.move (tT 75)),oO 76 (.extract (tT 70) 0),oO 77 (.extract (tT 70) 1),oO 15 (.assign (tT 76)),oO 16 (.assign (tT 77))])
 (.seq (rg [oO 78 (.move (tT 16)),oO 79 (.binOp .neq 32 (tT 78) (kI 0) 32)])
 (.cond (tT 79) (.seq (rg [oO 80 (.move (tT 15)),oO 81 (.move (tT 16)),oO 6 (.assign (.const (.slice none 0 0))),oO 7 (.assign (tT 80)),oO 8 (.assign (tT 81))])
 (.ret))
 (.skip)))))
 (rg [oO 68 (.load 126 (tT 11)),oO 69 (cF (.func 68) #[tT 68] #[126]),oO 14 (.assign (tT 69))]))))))
 (.seq (rg [oO 17 (.assign (.const (.slice none 0 0)))])
 (.seq (.seq (rg [oO 18 (.assign (kI 0))])
 (.block 2 (.loop (.seq (.seq (rg [oO 82 (.move (tT 18)),oO 83 (.move (tT 10)),oO 84 (.binOp .lss 3 (tT 82) (tT 83) 3)])
 (.cond (tT 84) (.skip)
 (.exit 2)))
 (.seq (.block 3 (.seq (rg [oO 87 (.fieldAddr 126 (tT 11) 0),oO 88 (.load 123 (tT 87)),oO 89 (.move (tT 18)),oO 90 (.indexAddr 123 (tT 88) (tT 89)),oO 91 (.load 4 (tT 90))])
 (.cond (tT 91) (rg [oO 92 (.move (tT 17)),oO 93 (.move (tT 18)),oO 94 (.fieldAddr 126 (tT 11) 1),oO 95 (.load 124 (tT 94)),oO 96 (.move (tT 18)),oO 97 (.indexAddr 124 (tT 95) (tT 96)),oO 98 (.load 84 (tT 97)),oO 99 (.build 86 #[(0,.tmp 93),(2,.tmp 98)]),oO 100 (.buildSlice 50 1 #[(0,.tmp 99)]),oO 101 (cB .append #[tT 92,tT 100] #[50,50]),oO 17 (.assign (tT 101))])
 (.skip))))
 (rg [oO 85 (.move (tT 18)),oO 86 (.binOp .add 3 (tT 85) (kI 1) 3),oO 18 (.assign (tT 86))]))))))
 (.seq (rg [oO 102 (.move (tT 17)),oO 6 (.assign (tT 102)),oO 7 (.assign (kI 0)),oO 8 (.assign (kI 0))])
 .ret)))))))))))
theorem F26:Fun1 Tryz.prog 26 103 c26 [.tmp 6,.tmp 7,.tmp 8]:=mkT Tryz.func26 rfl (by decide +kernel) Tryz.ntmps26 rfl (by kernel_rfl) rfl
def c25:CT (Tryz.f25.body.getD .skip):=⟨_,by conv=>lhs; cbv⟩
theorem F25:Fun1 Tryz.prog 25 85 c25.1 [.tmp 2,.tmp 3]:=mkT Tryz.func25 rfl (by decide +kernel) Tryz.ntmps25 rfl c25.2 rfl
def c66:CT (Tryz.f66.body.getD .skip):=⟨_,by conv=>lhs; cbv⟩
theorem F66:Fun1 Tryz.prog 66 54 c66.1 [.tmp 2,.tmp 3]:=mkT Tryz.func66 rfl (by decide +kernel) Tryz.ntmps66 rfl c66.2 rfl
def c109:CT (Tryz.f109.body.getD .skip):=⟨_,by conv=>lhs; cbv⟩
theorem F109:Fun1 Tryz.prog 109 54 c109.1 [.tmp 4]:=mkT Tryz.func109 rfl (by decide +kernel) Tryz.ntmps109 rfl c109.2 rfl
open Go.Proofs
theorem ents_succ (s:IS) (n:Nat):entsD s (n+1)=entsD s n++(if(s.has[n]?).getD false=true then [⟨(n:Int),false,(s.fr[n]?).getD (fr0 0)⟩] else []):=by
 unfold entsD
 rw[List.range_succ,List.filterMap_append]
 congr 1
 simp only[List.filterMap_cons,List.filterMap_nil]
 split <;> simp_all
theorem frz_fr2 (f:Fr):(eFr f).map frz=eFr f:=by simp[eFr,frz]
theorem ents_len (s:IS):∀n,(entsD s n).length≤n
 |0=>by simp[entsD]
 |n+1=>by
  have:=ents_len s n
  rw[ents_succ,List.length_append]
  split <;> simp <;> omega
def bYhcC0:=aI @zb8 (aI @zc0 (aI @zb3 (aI @zb2 (aI @za5 (aI @za4 (aI @zb1 (aI @za7 @gdD)))))))
def bYhcC1:=aI @zb8 (aI @zc0 (aI @zb3 (aI @zb2 (aI @za5 (aI @za4 (aI @zb1 (aI @za7 (aI @gdD @za2))))))))
theorem infer26 (e:En) (loc:Int) (b:List Ty) (o:Own) (hw:WideE e) (hb:b.length≤140737488355328):
  PCall Tryz.prog 26 [.agg (eEn e),.int .i64 loc,.slice o (rws eT b)] (.tup [.slice .no (rws eEy (inferD e loc b).1),.int .i64 (inferD e loc b).2.1,.int .i64 (inferD e loc b).2.2]):=by
 have en1:(eEn e)[1]? =some (.slice .no (rws eSg e.sgs)):=rfl
 have en0:(eEn e)[0]? =some (.slice .no (rws eC e.cs)):=rfl
 have en2:(eEn e)[2]? =some (.int .i64 e.fn):=rfl
 refine F26.pcallM rfl fun T hT=> ?_
 simp -implicitDefEqProofs only[go_sem,c26,hT,Nat.mul_one,Nat.add_zero,Nat.zero_add,bYhcC0]
 intro b3
 refine za3 (refMay32 e loc hw) ?_
 by_cases g1:mayE e loc=0
 case neg=>
  have hR:inferD e loc b=([],0,mayE e loc):=by unfold inferD; rw[if_pos g1]
  have g1':((mayE e loc:Int)=0)=False:=eq_false (by omega)
  rw[hR]
  simp -implicitDefEqProofs only[go_sem,hT,g1']
  exact DLe.tup (.cons (DLe.slice _ _) (.cons (DLe.refl _) (.cons (DLe.refl _) .nil)))
 have g1':((mayE e loc:Int)=0)=True:=eq_true (by omega)
 by_cases g2:4096<b.length
 ·have hR:inferD e loc b=([],0,4):=by unfold inferD; rw[if_neg (by omega),if_pos g2]
  have g2':((4096:Int)<b.length)=True:=eq_true (by omega)
  rw[hR]
  simp -implicitDefEqProofs only[go_sem,hT,g1',g2']
  exact DLe.tup (.cons (DLe.slice _ _) (.cons (DLe.refl _) (.cons (DLe.refl _) .nil)))
 have g2':((4096:Int)<b.length)=False:=eq_false (by omega)
 have w1:IntKind.wrap .i64 ((b.length:Int)+1)=((b.length+1:Nat):Int):=by rw[zc1 (by omega) (by omega)]; simp
 simp -implicitDefEqProofs only[go_sem,hT,g1',g2',w1,Nat.mul_one,Nat.add_zero,Nat.zero_add,frz,bYhcC0]
 refine⟨by omega,by omega,fun qa a1 a2=>⟨by omega,by omega,fun qb b1 b2 b4 b5=>⟨by omega,by omega,fun qc c1 c2 c3 c4 c5 c6=>⟨by omega,by omega,fun qd d1 d2 d3 d4 d5 d6 d7 d8=>fun b11 e1 e2 e3 e4 e5 e6 e7 e8 e9 e10=> ?_⟩⟩⟩⟩
 have hno:¬(canB e=false∨loc<(psOf e).length∨16<loc):=fun h=>(may_can e loc).2 h g1
 have hcan:canB e=true:=by
  cases h:canB e with
  |true=>rfl
  |false=>exact absurd (.inl h) hno
 obtain⟨hs,h0,hps,hp8,hst⟩:=can_sig hcan
 obtain⟨n,hn⟩:∃n:Nat,e.fn=n:=⟨e.fn.toNat,by omega⟩
 have hn':e.fn.toNat=n:=by omega
 have hs':n<e.sgs.length:=by omega
 have hps2:psOf e=e.sgs[n].ps:=by rw[hps]; simp only[hn']
 have hsg:=rws_at (enc:=eSg) hs'
 simp -implicitDefEqProofs only[go_sem,hT,Nat.mul_one,Nat.add_zero,Nat.zero_add,a1,a2,b1,b2,b4,b5,c1,c2,c3,c4,c5,c6,d1,d2,d3,d4,d5,d6,d7,d8,e1,e2,e3,e4,e5,e6,e7,e8,e9,e10,en0,en1,en2,hn,hsg,bYhcC1]
 have sg0:∀x:Sg,(eSg x)[0]? =some (.slice .no (rws eT x.ps)):=fun _=>rfl
 refine⟨⟨⟨by omega,by omega⟩,rfl⟩, ?_⟩
 simp -implicitDefEqProofs only[go_sem,hT,Nat.mul_one,Nat.add_zero,Nat.zero_add,a1,a2,b1,b2,b4,b5,c1,c2,c3,c4,c5,c6,d1,d2,d3,d4,d5,d6,d7,d8,e1,e2,e3,e4,e5,e6,e7,e8,e9,e10,en0,en1,en2,hn,hsg,sg0,bYhcC1]
 refine za3 (refStart71 e.cs .no .no e.sgs[n].ps loc (by rw[←hps2]; omega)) ?_
 rw[←hps2]
 simp -implicitDefEqProofs only[go_sem,hT,Nat.mul_one,Nat.add_zero,Nat.zero_add,a1,a2,b1,b2,b4,b5,c1,c2,c3,c4,c5,c6,d1,d2,d3,d4,d5,d6,d7,d8,e1,e2,e3,e4,e5,e6,e7,e8,e9,e10,en0,en1,en2,bYhcC1]
 intro b12 f1 f2 f3 f4 f5 f6 f7 f8 f9 f10 f11 f12
 simp -implicitDefEqProofs only[go_sem,hT,Nat.mul_one,Nat.add_zero,Nat.zero_add,a1,a2,b1,b2,b4,b5,c1,c2,c3,c4,c5,c6,d1,d2,d3,d4,d5,d6,d7,d8,e1,e2,e3,e4,e5,e6,e7,e8,e9,e10,f1,f2,f3,f4,f5,f6,f7,f8,f9,f10,f11,f12,bYhcC1]
 refine⟨fun b hb hc=> ?_,by omega,by rw[fl_len (s:=1) (fun x=>rfl)]; simp,by omega,by rw[fl_len za5]; simp; omega,by omega,by rw[fl_len (s:=1) (fun x=>rfl)]; simp, ?_⟩
 ·rcases hb with rfl|rfl
  ·exact hc.2.1 rfl
  ·exact hc.1 rfl
 obtain⟨q,hq⟩:∃q:QB,q=⟨qa,qb,qc,qd⟩:=⟨_,rfl⟩
 have hne:q.ne:=by rw[hq]; exact⟨b2,c4,d6,c2,d4,d2⟩
 obtain⟨L,hL⟩:∃L:List LI,L=[.bx b3 (eEn e),.bx b11 (stD q (b.length+1))]:=⟨_,rfl⟩
 obtain⟨s0,hs0⟩:∃s0,s0=is0 b.length (startF e.cs.length (psOf e) loc).1:=⟨_,rfl⟩
 obtain⟨RES,hRES⟩:∃r,goD e b (fuelD b.length) s0 0=r:=⟨_,rfl⟩
 have hinf:inferD e loc b=if RES.2.2≠0 then([],RES.2.1,RES.2.2) else(entsD RES.1 b.length,0,0):=by
  unfold inferD; rw[if_neg (by omega),if_neg g2,←hs0,hRES]
 have hF:Falls e.cs e.cs.length:=can_falls hw hcan
 refine loopL F26 (fun x:IS×Int=>[(2,.slice o (rws eT b)),(3,.ptr b3 0),(10,.int .i64 b.length),(11,.ptr b11 0),(14,.int .i64 x.2)]) (fun x=>putL (stI q x.1) L)
  (fun x=>x.1.sz (b.length+1)∧(∀j<b.length+1,(x.1.tk[j]?).getD 0≤5000)∧(0≤x.2→x.2≤b.length∧(x.1.fresh[x.2.toNat]?).getD false=true)∧∃k,muS e.cs x.1 (b.length+1)<k∧goD e b k x.1 x.2=RES)
  (fun x=>if x.2<0 then 0 else muS e.cs x.1 (b.length+1)+1) (s0,0) ?_ ?_ ?_ ?_
 ·refine⟨?_,fun j hj=> ?_,fun _=>⟨by omega, ?_⟩,fuelD b.length, ?_,hRES⟩
  ·rw[hs0]; exact⟨by simp[is0],by simp[is0],by simp[is0],by simp[is0]⟩
  ·rw[hs0]; simp[is0,List.getElem?_replicate,hj]
  ·rw[hs0]; simp[is0]
  ·have:=muS_le (l:=e.cs) (s:=s0) (m:=b.length+1)
   show muS e.cs s0 (b.length+1)<fuelD b.length
   unfold fuelD
   rw[show b.length+1+1=b.length+2 from rfl] at this
   generalize (b.length+1)*6145*(b.length+2)=P at *
   omega
 ·simp -implicitDefEqProofs only[go_sem,hT]
 ·have hb1:eBo false=[D.bool false]:=rfl
  have hb2:eBo true=[D.bool true]:=rfl
  have hq3:List.drop 26 (eFr (fr0 0))=[]:=by rw[List.drop_eq_nil_of_le]; rw[za5]; omega
  refine⟨fun x cs hx=> ?_,fun x p hx=> ?_,fun x o hx=> ?_⟩
  ·revert hx
   intro hx
   rw[←hx,hL,hq,hs0]
   simp only[putL,List.foldl_cons,List.foldl_nil,LI.put,stI,stD,is0,St.set_box,List.replicate_succ,List.set_cons_zero,fl_cons,hb1,hb2]
   by_cases y1:x=b11
   ·subst y1; simp[a1,a2,b1,b2,b4,b5,c1,c2,c3,c4,c5,c6,d1,d2,d3,d4,d5,d6,d7,d8,e1,e2,e3,e4,e5,e6,e7,e8,e9,e10,f1,f2,f3,f4,f5,f6,f7,f8,f9,f10,f11,f12]
   by_cases y2:x=b3
   ·subst y2; simp[a1,a2,b1,b2,b4,b5,c1,c2,c3,c4,c5,c6,d1,d2,d3,d4,d5,d6,d7,d8,e1,e2,e3,e4,e5,e6,e7,e8,e9,e10,f1,f2,f3,f4,f5,f6,f7,f8,f9,f10,f11,f12]
   by_cases y3:x=qd
   ·subst y3; simp[a1,a2,b1,b2,b4,b5,c1,c2,c3,c4,c5,c6,d1,d2,d3,d4,d5,d6,d7,d8,e1,e2,e3,e4,e5,e6,e7,e8,e9,e10,f1,f2,f3,f4,f5,f6,f7,f8,f9,f10,f11,f12]
   by_cases y4:x=qc
   ·subst y4; simp[a1,a2,b1,b2,b4,b5,c1,c2,c3,c4,c5,c6,d1,d2,d3,d4,d5,d6,d7,d8,e1,e2,e3,e4,e5,e6,e7,e8,e9,e10,f1,f2,f3,f4,f5,f6,f7,f8,f9,f10,f11,f12]
   by_cases y5:x=qb
   ·subst y5; simp[a1,a2,b1,b2,b4,b5,c1,c2,c3,c4,c5,c6,d1,d2,d3,d4,d5,d6,d7,d8,e1,e2,e3,e4,e5,e6,e7,e8,e9,e10,f1,f2,f3,f4,f5,f6,f7,f8,f9,f10,f11,f12]
    exact List.drop_left' (za5 _)
   by_cases y6:x=qa
   ·subst y6; simp[a1,a2,b1,b2,b4,b5,c1,c2,c3,c4,c5,c6,d1,d2,d3,d4,d5,d6,d7,d8,e1,e2,e3,e4,e5,e6,e7,e8,e9,e10,f1,f2,f3,f4,f5,f6,f7,f8,f9,f10,f11,f12]
   exfalso
   rw[hL,hq,hs0] at hx
   simp[putL,LI.put,stI,stD,St.set_box,y1,y2,y3,y4,y5,y6] at hx
  ·rw[hL] at hx; simp[putL,LI.put,stI,St.set] at hx
  ·rw[hL] at hx; simp[putL,LI.put,stI,St.set] at hx
 clear hT T
 rintro⟨s,a⟩ ⟨hsz,htk,hfre,k,hk,hgo⟩ T hT
 simp only at hsz htk hfre hk hgo hT ⊢
 obtain⟨k,rfl⟩:∃k',k=k'+1:=⟨k-1,by omega⟩
 have hof:∀x,offL (stI q x) L:=fun x=>by
  rw[hL]
  refine⟨fun h=> ?_,fun h=> ?_,trivial⟩
  ·rcases stI_has.1 h with h|h|h|h <;> (rw[hq] at h; simp only at h; first|exact a2 h|exact b5 h|exact c6 h|exact d8 h)
  ·rcases stI_has.1 h with h|h|h|h <;> (rw[hq] at h; simp only at h; first|exact e1 h|exact e3 h|exact e5 h|exact e7 h)
 have y3:∀x,(putL (stI q x) L).box b3=some (eEn e):=fun x=>by rw[hL]; simp[putL,LI.put,St.set_box,a1,a2,b1,b2,b4,b5,c1,c2,c3,c4,c5,c6,d1,d2,d3,d4,d5,d6,d7,d8,e1,e2,e3,e4,e5,e6,e7,e8,e9,e10]
 have y11:∀x,(putL (stI q x) L).box b11=some (stD q (b.length+1)):=fun x=>by rw[hL]; simp[putL,LI.put,St.set_box]
 by_cases h:a<0
 ·rw[goD,if_pos h] at hgo
  have g3:(0≤a)=False:=eq_false (by omega)
  have hres:inferD e loc b=(entsD s b.length,0,0):=by rw[hinf,←hgo,if_neg (by simp)]
  rw[hres]
  have hoff2:∀o',grN o' (putL (stI q s) L)→grN o' (putL (stI q s) L):=fun _ h=>h
  have ya:(putL (stI q s) L).box q.a=some (fl eBo s.has):=by
   have:=stI_a (s:=s) hne
   rw[hL]; simp only[putL,List.foldl_cons,List.foldl_nil,LI.put,St.set_box]
   rw[if_neg (by rw[hq]; exact e8),if_neg (by rw[hq]; exact a1)]; exact this
  have yb:(putL (stI q s) L).box q.b=some (fl eFr s.fr):=by
   have:=stI_b (s:=s) hne
   rw[hL]; simp only[putL,List.foldl_cons,List.foldl_nil,LI.put,St.set_box]
   rw[if_neg (by rw[hq]; exact e6),if_neg (by rw[hq]; exact b4)]; exact this
  simp -implicitDefEqProofs only[go_sem,hT,Nat.mul_one,Nat.add_zero,Nat.zero_add,y3,y11,g3,bYhcC0]
  refine loopL F26 (fun x:Nat×Option Nat=>[(10,.int .i64 b.length),(11,.ptr b11 0),(17,grD 28 x.2 (rws eEy (entsD s x.1))),(18,.int .i64 x.1)]) (fun x=>grS 28 (entsD s x.1).length x.2 (putL (stI q s) L))
   (fun x=>x.1≤b.length∧(x.2=none→(entsD s x.1).length=0)∧grN x.2 (putL (stI q s) L)) (fun x=>b.length-x.1) (0,none) ⟨by omega,fun _=>rfl,grN_none⟩ ?_ (St.le.refl _) ?_
  ·simp -implicitDefEqProofs only[go_sem,hT,Int.ofNat_zero]
   rfl
  clear hT T
  rintro⟨i,ob⟩ ⟨hi,hok,hgn⟩ T hT
  simp only at hi hok hgn hT ⊢
  by_cases h5:i<b.length
  ·have g5:((i:Int)<b.length)=True:=eq_true (by omega)
   have w2:IntKind.wrap .i64 ((i:Int)+1)=((i+1:Nat):Int):=by rw[zc1 (by omega) (by omega)]; simp
   have hx:=fl_boAt (xs:=s.has) (i:=i) (by rw[hsz.a]; omega)
   have hfl:(fl eFr s.fr).length=(b.length+1)*26:=by rw[fl_len za5,hsz.b]
   have hget:((fl eFr s.fr).drop (i*26)).take 26=eFr ((s.fr[i]?).getD (fr0 0)):=by
    rw[fl_at za5 (by rw[hsz.b]; omega),List.getElem?_eq_getElem (by rw[hsz.b]; omega)]; rfl
   have hfa:(26≤((fl eFr s.fr).drop (i*26)).length)=True:=eq_true (by rw[List.length_drop,hfl]; omega)
   have hlen:=ents_len s i
   cases hh:(s.has[i]?).getD false
   ·simp -implicitDefEqProofs only[go_sem,hT,zb8,zc0,zb3,zb2,za5,za4,zb1,za7,gdD,Nat.mul_one,Nat.add_zero,Nat.zero_add,y11,ya,yb,hx,hh,g5,w2,stD,grS_boxa]
    have hs:entsD s (i+1)=entsD s i:=by rw[ents_succ,hh]; simp
    exact⟨⟨by omega,by omega⟩,(i+1,ob),⟨by omega,by rw[hs]; exact hok,hgn⟩,by simp only; omega,⟨by simp only[hs],rfl⟩,by simp only; rw[hs]; exact St.le.refl _⟩
   ·simp -implicitDefEqProofs only[go_sem,hT,zb8,zc0,zb3,zb2,za5,za4,zb1,za7,gdD,Nat.mul_one,Nat.add_zero,Nat.zero_add,y11,ya,yb,hx,hh,g5,w2,stD,grS_boxa,hget,hfa,frz,frz_fr2]
    have hs:entsD s (i+1)=entsD s i++[⟨(i:Int),false,(s.fr[i]?).getD (fr0 0)⟩]:=by rw[ents_succ,hh]; simp
    refine⟨⟨by omega,by omega⟩,⟨by omega,by omega⟩, ?_⟩
    refine app_gr' (ow:= .exact) (ys:=[eEy ⟨(i:Int),false,(s.fr[i]?).getD (fr0 0)⟩]) Tryz.sli50 Tryz.sz86 Tryz.by86 Tryz.zero86 rfl (n:=(entsD s i).length) (m:=1) (base:=putL (stI q s) L) (by rw[za0]) rfl (St.le.refl _) hgn hok (by simp[zb4]) (by omega) fun o' σ' hbox hle hg hno=> ?_
    simp -implicitDefEqProofs only[go_sem,hT,w2]
    have hl2:(entsD s (i+1)).length=(entsD s i).length+1:=by rw[hs]; simp
    refine⟨(i+1,o'),⟨by omega,fun h=>by have:=hno h; omega,hg⟩,by simp only; omega,⟨?_,rfl⟩,by simp only; rw[hl2]; exact hle⟩
    simp only[hs]
    simp[rws]
  ·have g5:((i:Int)<b.length)=False:=eq_false (by omega)
   obtain rfl:i=b.length:=by omega
   simp -implicitDefEqProofs only[go_sem,hT,g5]
   exact DLe.tup (.cons grD_le (.cons (DLe.refl _) (.cons (DLe.refl _) .nil)))
 ·have g3:(0≤a)=True:=eq_true (by omega)
  rw[goD,if_neg h] at hgo
  obtain⟨ha,hfa⟩:=hfre (by omega)
  obtain⟨n2,rfl⟩:∃n2:Nat,a=n2:=⟨a.toNat,by omega⟩
  rw[Int.toNat_natCast] at hgo hfa
  simp -implicitDefEqProofs only[go_sem,hT,zb8,zc0,zb3,zb2,za5,za4,zb1,za7,gdD,Nat.mul_one,Nat.add_zero,Nat.zero_add,y3,y11,g3,stD_len,stD_take]
  refine callB_under L (hof _) ((round69 q hne s e b o hsz (by omega) hw hF (by have:=hw.1.1; omega) n2 (by omega) htk).xcall (Rp:=fun _ _=>False)) (fun d s' hR _=> ?_) fun d s' h=>h.elim
  obtain⟨rfl,rfl⟩:=hR
  obtain⟨s2,r1,r2,r3,r4,r5,r6,r7,-⟩:=round_shape (e:=e) hsz (show n2≤b.length by omega)
  have hfall:=round_falls (e:=e) hsz (show n2≤b.length by omega) hfa
  by_cases g6:(roundD e b s n2).2.2=0
  ·rw[if_neg (by omega)] at hgo
   have g6':(((roundD e b s n2).2.2:Int)=0)=True:=eq_true (by omega)
   simp -implicitDefEqProofs only[go_sem,hT,zb8,zc0,zb3,zb2,za5,za4,zb1,za7,gdD,Nat.mul_one,Nat.add_zero,Nat.zero_add,g6',y11,stD_len,stD_take]
   refine callB_under L (hof _) ((least68 q hne (roundD e b s n2).1 (b.length+1) r6 (by omega)).xcall (Rp:=fun _ _=>False)) (fun d s' hR _=> ?_) fun d s' h=>h.elim
   obtain⟨rfl,rfl⟩:=hR
   simp -implicitDefEqProofs only[go_sem,hT,Nat.mul_one,Nat.add_zero,Nat.zero_add,bYhcC0]
   refine⟨((roundD e b s n2).1,leastD (roundD e b s n2).1.fresh),⟨r6,fun j hj=> ?_,fun h0=> ?_,k,Nat.lt_of_lt_of_le hfall (Nat.le_of_lt_succ hk),hgo⟩, ?_,rfl,St.le.refl _⟩
   ·rw[r7]
    rcases r4 with r4|⟨z,hz,r4⟩
    ·rw[r4]; exact htk j hj
    ·rw[r4,set_at (by rw[hsz.d]; omega)]
     split
     ·omega
     ·exact htk j hj
   ·obtain⟨q1,q2⟩:=least_in rfl h0
    rw[r6.c] at q1
    exact⟨by omega,q2⟩
   ·simp only
    rw[if_neg (show ¬((n2:Nat):Int)<0 by omega)]
    split <;> omega
  ·rw[if_pos g6] at hgo
   have g6':(((roundD e b s n2).2.2:Int)=0)=False:=eq_false (by omega)
   rw[hinf,←hgo,if_pos g6]
   simp -implicitDefEqProofs only[go_sem,hT,Nat.mul_one,Nat.add_zero,Nat.zero_add,g6',bYhcC0]
   exact DLe.tup (.cons (DLe.slice _ _) (.cons (DLe.refl _) (.cons (DLe.refl _) .nil)))
open Go.Proofs
open Go.Proofs
open Go.Proofs
open Go.Proofs
end Go.AL
namespace Go.AL
open Go.Proofs Go.Sort
open Go.Proofs
open Go.Proofs
open Go.Proofs
def FH (s:IS):Prop:=∀x:Nat,(s.fresh[x]?).getD false=true→(s.has[x]?).getD false=true
theorem hand_FH {l:List Cl} {s:IS} {m a:Nat} {g:Fr} (h:FH s) (hs:s.sz m) (ha:a<m):FH (handD l s a g).1:=by
 intro x hx
 unfold handD at hx ⊢
 by_cases h1:(s.has[a]?).getD false=false
 ·rw[if_pos h1] at hx ⊢
  simp only at hx ⊢
  rw[set_at (by rw[hs.c]; exact ha)] at hx
  rw[set_at (by rw[hs.a]; exact ha)]
  by_cases he:x=a
  ·rw[if_pos he]
  ·rw[if_neg he] at hx ⊢; exact h x hx
 ·rw[if_neg h1] at hx ⊢
  split at hx
  ·rename_i h2; rw[if_pos h2]; exact h x hx
  ·rename_i h2
   rw[if_neg h2]
   split at hx
   ·rename_i h3
    rw[if_pos h3]
    simp only at hx ⊢
    rw[set_at (by rw[hs.c]; exact ha)] at hx
    by_cases he:x=a
    ·rw[he]; simpa using h1
    ·rw[if_neg he] at hx; exact h x hx
   ·rename_i h3; rw[if_neg h3]; exact h x hx
theorem hands_FH {l:List Cl} {m:Nat} {g:Fr}:∀{to:List Int} {s:IS},FH s→s.sz m→(∀x∈to,0≤x∧x<m)→FH (handsD l g to s).1
 |[],s,h,_,_=>h
 |a::r,s,h,hs,ht=>by
  have h0:=ht a (List.mem_cons_self ..)
  have k1:=hand_FH (l:=l) (g:=g) h hs (show a.toNat<m by omega)
  rw[handsD]
  split
  ·exact k1
  ·exact hands_FH k1 (hand_sz hs) fun x hx=>ht x (List.mem_cons_of_mem _ hx)
theorem round_FH {e:En} {b:List Ty} {s:IS} {a:Nat} (h:FH s) (hs:s.sz (b.length+1)) (ha:a≤b.length):FH (roundD e b s a).1:=by
 have k0:∀tk,FH ⟨s.has,s.fr,s.fresh.set a false,tk⟩:=fun tk x hx=>by
  simp only at hx ⊢
  rw[set_at (by rw[hs.c]; omega)] at hx
  by_cases he:x=a
  ·rw[if_pos he] at hx; cases hx
  ·rw[if_neg he] at hx; exact h x hx
 unfold roundD
 by_cases g1:a=b.length
 ·rw[if_pos g1]; exact k0 _
 rw[if_neg g1]
 by_cases g2:(decF b a).2=0
 case neg=>rw[if_pos g2]; exact k0 _
 have q2:¬(decF b a).2≠0:=fun h=>h g2
 rw[if_neg q2]
 by_cases g3:overB s.tk a (zf1 (decF b a).1.op.val)=true
 ·rw[if_pos g3]; exact k0 _
 rw[if_neg g3]
 simp only
 by_cases g4:(applyR e ((s.fr[a]?).getD (fr0 0)) (decF b a).1).2=0
 case neg=>rw[if_pos g4]; exact k0 _
 have q4:¬(applyR e ((s.fr[a]?).getD (fr0 0)) (decF b a).1).2≠0:=fun h=>h g4
 rw[if_neg q4]
 by_cases g5:(onD (decF b a).1 b.length).2=0
 case neg=>rw[if_pos g5]; exact k0 _
 have q5:¬(onD (decF b a).1 b.length).2≠0:=fun h=>h g5
 rw[if_neg q5]
 exact hands_FH (m:=b.length+1) (k0 _) ⟨hs.a,hs.b,by simpa using hs.c,by simpa using hs.d⟩ fun x hx=>by have:=on_in g2 hx; omega
open Go.Proofs
open Go.Proofs
def goneD (e:En) (loc:Int) (b:List Ty):IS×Int×Nat:=goD e b (fuelD b.length) (is0 b.length (startF e.cs.length (psOf e) loc).1) 0
open Go.Proofs
open Go.Proofs
end Go.AL
namespace Go.AL
open Go.Proofs Go.RowKit Go.Maps
end Go.AL
namespace Go.AL
open Go.Proofs Go.RowKit Go.Maps Go.WideElems Go.MapKept
open Go.Proofs
theorem least_neg {l:List Bool} (h:leastD l<0) (x:Nat):(l[x]?).getD false=false:=by
 unfold leastD at h
 split at h
 ·omega
 ·rename_i hn
  rw[List.findIdx?_eq_none_iff] at hn
  cases hx:l[x]? with
  |none=>rfl
  |some v=>exact hn v (List.mem_of_getElem? hx)
theorem goD_ind {e:En} {b:List Ty} {I:IS→Prop} (hI:∀(s:IS) (a:Nat),s.sz (b.length+1)→FH s→I s→a≤b.length→(s.fresh[a]?).getD false=true→leastD s.fresh=a→(roundD e b s a).2.2=0→I (roundD e b s a).1):
  ∀(k:Nat) (s:IS),s.sz (b.length+1)→FH s→muS e.cs s (b.length+1)<k→I s→(goD e b k s (leastD s.fresh)).2.2=0→
   ∃r:IS,goD e b k s (leastD s.fresh)=(r,0,0)∧r.sz (b.length+1)∧FH r∧I r∧∀x:Nat,(r.fresh[x]?).getD false=false
 |0,s,_,_,hk,_,_=>absurd hk (Nat.not_lt_zero _)
 |k+1,s,hs,hf,hk,hi,h=>by
  rw[goD] at h ⊢
  by_cases h0:leastD s.fresh<0
  ·rw[if_pos h0]
   exact⟨s,rfl,hs,hf,hi,least_neg h0⟩
  ·rw[if_neg h0] at h ⊢
   obtain⟨a,ha⟩:∃a:Nat,leastD s.fresh=a:=⟨_,(Int.toNat_of_nonneg (by omega)).symm⟩
   obtain⟨h1,h2⟩:=least_in ha (by omega)
   rw[Int.toNat_natCast] at h1 h2
   rw[hs.c] at h1
   rw[ha,Int.toNat_natCast] at h ⊢
   have hal:a≤b.length:=by omega
   by_cases hr:(roundD e b s a).2.2=0
   ·have hr':¬(roundD e b s a).2.2≠0:=fun h=>h hr
    rw[if_neg hr'] at h ⊢
    obtain⟨_,_,_,_,_,_,r6,_,_⟩:=round_shape (e:=e) hs hal
    exact goD_ind hI k _ r6 (round_FH hf hs hal) (Nat.lt_of_lt_of_le (round_falls (e:=e) hs hal h2) (Nat.le_of_lt_succ hk)) (hI s a hs hf hi hal h2 ha hr) h
   ·rw[if_pos hr] at h; exact absurd h hr
theorem is0_sz {n:Nat} {f:Fr}:(is0 n f).sz (n+1):=⟨by simp[is0],by simp[is0],by simp[is0],by simp[is0]⟩
theorem is0_FH {n:Nat} {f:Fr}:FH (is0 n f):=fun x hx=>hx
theorem is0_has {n:Nat} {f:Fr} {x:Nat}:((is0 n f).has[x]?).getD false=decide (x=0):=by
 simp only[is0]
 rw[set_at (by simp)]
 by_cases hx:x=0
 ·rw[if_pos hx]; simp[hx]
 ·rw[if_neg hx,List.getElem?_replicate]; split <;> simp[hx]
theorem is0_fr {n:Nat} {f:Fr}:((is0 n f).fr[0]?).getD (fr0 0)=f:=by
 simp only[is0]
 rw[set_at (by simp),if_pos rfl]
theorem is0_least {n:Nat} {f:Fr}:leastD (is0 n f).fresh=((0:Nat):Int):=least_at (by simp[is0]) (by simp[is0]) (fun j hj=>by omega)
theorem is0_mu {l:List Cl} {n:Nat} {f:Fr}:muS l (is0 n f) (n+1)<fuelD n:=by
 have:=muS_le (l:=l) (s:=is0 n f) (m:=n+1)
 unfold fuelD
 rw[show n+1+1=n+2 from rfl] at this
 generalize (n+1)*6145*(n+2)=P at *
 omega
theorem gone_ind {e:En} {loc:Int} {b:List Ty} {I:IS→Prop} (hI:∀(s:IS) (a:Nat),s.sz (b.length+1)→FH s→I s→a≤b.length→(s.fresh[a]?).getD false=true→leastD s.fresh=a→(roundD e b s a).2.2=0→I (roundD e b s a).1)
  (h0:I (is0 b.length (startF e.cs.length (psOf e) loc).1)) (h:(goneD e loc b).2.2=0):
  ∃r:IS,goneD e loc b=(r,0,0)∧r.sz (b.length+1)∧FH r∧I r∧∀x:Nat,(r.fresh[x]?).getD false=false:=by
 have hl:(0:Int)=leastD (is0 b.length (startF e.cs.length (psOf e) loc).1).fresh:=is0_least.symm
 unfold goneD at h ⊢
 rw[hl] at h ⊢
 exact goD_ind hI _ _ is0_sz is0_FH is0_mu h0 h
def EndI (n:Nat) (s:IS):Prop:=(s.has[n]?).getD false=true→(s.fresh[n]?).getD false=true
theorem hand_end {l:List Cl} {s:IS} {m a n:Nat} {g:Fr} (h:EndI n s) (hs:s.sz m) (ha:a<m):EndI n (handD l s a g).1:=by
 unfold handD
 split
 ·intro hx
  simp only at hx ⊢
  rw[set_at (by rw[hs.c]; omega)]
  rw[set_at (by rw[hs.a]; omega)] at hx
  by_cases he:n=a
  ·rw[if_pos he]
  ·rw[if_neg he] at hx ⊢; exact h hx
 split
 ·exact h
 split
 ·intro hx
  simp only at hx ⊢
  rw[set_at (by rw[hs.c]; omega)]
  by_cases he:n=a
  ·rw[if_pos he]
  ·rw[if_neg he]; exact h hx
 ·exact h
theorem hands_end {l:List Cl} {m n:Nat} {g:Fr}:∀{to:List Int} {s:IS},EndI n s→s.sz m→(∀x∈to,0≤x∧x<m)→EndI n (handsD l g to s).1
 |[],s,h,_,_=>h
 |a::r,s,h,hs,ht=>by
  have h1:=hand_end (l:=l) (g:=g) h hs (show a.toNat<m by have:=ht a (List.mem_cons_self ..); omega)
  rw[handsD]
  split
  ·exact h1
  ·exact hands_end h1 (hand_sz hs) fun x hx=>ht x (List.mem_cons_of_mem _ hx)
theorem round_ok {e:En} {b:List Ty} {s:IS} {a:Nat} (h:(roundD e b s a).2.2=0):
  a≠b.length∧(decF b a).2=0∧overB s.tk a (zf1 (decF b a).1.op.val)=false∧(applyR e ((s.fr[a]?).getD (fr0 0)) (decF b a).1).2=0∧(onD (decF b a).1 b.length).2=0∧
   roundD e b s a=handsD e.cs (applyR e ((s.fr[a]?).getD (fr0 0)) (decF b a).1).1 (onD (decF b a).1 b.length).1 ⟨s.has,s.fr,s.fresh.set a false,s.tk.set a (zf1 (decF b a).1.op.val)⟩:=by
 by_cases g1:a=b.length
 ·unfold roundD at h; rw[if_pos g1] at h; cases h
 by_cases g2:(decF b a).2=0
 case neg=>unfold roundD at h; rw[if_neg g1,if_pos g2] at h; exact absurd h g2
 have q2:¬(decF b a).2≠0:=fun h=>h g2
 cases g3:overB s.tk a (zf1 (decF b a).1.op.val)
 case true=>unfold roundD at h; rw[if_neg g1,if_neg q2,if_pos g3] at h; cases h
 have q3:¬overB s.tk a (zf1 (decF b a).1.op.val)=true:=by rw[g3]; simp
 by_cases g4:(applyR e ((s.fr[a]?).getD (fr0 0)) (decF b a).1).2=0
 case neg=>unfold roundD at h; rw[if_neg g1,if_neg q2,if_neg q3] at h; simp only at h; rw[if_pos g4] at h; exact absurd h g4
 have q4:¬(applyR e ((s.fr[a]?).getD (fr0 0)) (decF b a).1).2≠0:=fun h=>h g4
 by_cases g5:(onD (decF b a).1 b.length).2=0
 case neg=>unfold roundD at h; rw[if_neg g1,if_neg q2,if_neg q3] at h; simp only at h; rw[if_neg q4,if_pos g5] at h; exact absurd h g5
 have q5:¬(onD (decF b a).1 b.length).2≠0:=fun h=>h g5
 refine⟨g1,g2,rfl,g4,g5, ?_⟩
 unfold roundD; rw[if_neg g1,if_neg q2,if_neg q3]; simp only; rw[if_neg q4,if_neg q5]
theorem round_end {e:En} {b:List Ty} {s:IS} {a:Nat} (hi:EndI b.length s) (hs:s.sz (b.length+1)) (ha:a≤b.length) (h:(roundD e b s a).2.2=0):EndI b.length (roundD e b s a).1:=by
 obtain⟨h1,h2,h3,h4,h5,h6⟩:=round_ok h
 rw[h6]
 refine hands_end (m:=b.length+1) ?_ ⟨hs.a,hs.b,by simpa using hs.c,by simpa using hs.d⟩ fun x hx=>by have:=on_in h2 hx; omega
 intro hx
 simp only
 rw[set_at (by rw[hs.c]; omega),if_neg (Ne.symm h1)]
 exact hi hx
theorem gone_end {e:En} {loc:Int} {b:List Ty} (h:(goneD e loc b).2.2=0):((goneD e loc b).1.has[b.length]?).getD false=false:=by
 obtain⟨r,h1,h2,h3,h4,h5⟩:=gone_ind (I:=EndI b.length) (fun s a hs hf hi ha _ _ hr=>round_end hi hs ha hr) (fun hx=>by
  have h0:=hx; rw[is0_has] at h0; simp only[decide_eq_true_eq] at h0
  simp[is0,h0]) h
 rw[h1]
 cases hx:(r.has[b.length]?).getD false with
 |false=>rfl
 |true=>have:=h4 hx; rw[h5] at this; cases this
open Go.Proofs
theorem SubF.refl {l:List Cl} {f:Fr} (h:checkF l.length f=0):SubF l f f:=⟨h,h,rfl,rfl,fun i hi=>subB_refl ((checkF_iff.1 h).2.2 i hi)⟩
theorem SubF.trans {l:List Cl} {f g k:Fr} (h:SubF l f g) (h':SubF l g k):SubF l f k:=⟨h.ca,h'.cb,h.loc.trans h'.loc,h.h.trans h'.h,fun i hi=>subB_trans (h.sl i hi) (h'.sl i hi)⟩
theorem mergeF_ok {l:List Cl} {f g:Fr} (h:(mergeF l f g).2=0):alikeF l.length f g=0∧mergeF l f g=(mgAt l f g (f.loc+f.h).toNat,0):=by
 unfold mergeF at h ⊢
 by_cases h0:alikeF l.length f g=0
 ·exact⟨h0,by rw[if_neg (by omega)]⟩
 ·rw[if_pos h0] at h; exact absurd h h0
theorem mergeF_up {l:List Cl} {f g:Fr} (h:(mergeF l f g).2=0):SubF l f (mergeF l f g).1∧SubF l g (mergeF l f g).1∧∀u,SubF l f u→SubF l g u→SubF l (mergeF l f g).1 u:=by
 obtain⟨h0,h1⟩:=mergeF_ok h
 rw[h1]
 simp only
 obtain⟨ca,cb,hloc,hh⟩:=alike_zero h0
 obtain⟨a1,a2,a3⟩:=checkF_iff.1 ca
 obtain⟨b1,b2,b3⟩:=checkF_iff.1 cb
 obtain⟨s1,s2,s3,s4⟩:=shaped_of a1
 have h24:(f.loc+f.h).toNat≤24:=by omega
 obtain⟨m1,m2⟩:=mgAt_loc (l:=l) (a:=f) (b:=g) (f.loc+f.h).toNat
 have msl:=fun i hi=>mgAt_sl (l:=l) (a:=f) (b:=g) (f.loc+f.h).toNat h24 i hi
 have out:∀k:Fr,bareF k=k→k.loc=f.loc→k.h=f.h→∀i,i<24→¬i<(f.loc+f.h).toNat→slAt k i=0:=fun k hb hl hk i hi hn=>by
  rw[←hb,slAt_bare k hi,if_neg (by omega)]
 generalize mgAt l f g (f.loc+f.h).toNat=m at m1 m2 msl
 have cm:checkF l.length m=0:=by
  refine checkF_iff.2 ⟨?_,fr_ext ?_ ?_ fun i hi=> ?_,fun i hi=> ?_⟩
  ·simp only[shapedB,m1,m2]; simpa[shapedB] using a1
  ·exact bare_loc _
  ·exact bare_h _
  ·rw[slAt_bare m hi,m1,m2]
   by_cases hc:(i:Int)<f.loc+f.h
   ·rw[if_pos hc]
   ·rw[if_neg hc,msl i hi,if_neg (by omega),out f a2 rfl rfl i hi (by omega)]
  ·rw[msl i hi]
   split
   ·exact merge_valid _ _
   ·exact a3 i hi
 refine⟨⟨ca,cm,m1.symm,m2.symm,fun i hi=> ?_⟩,⟨cb,cm,by omega,by omega,fun i hi=> ?_⟩,fun u h1 h2=>⟨cm,h1.cb,m1.trans h1.loc,m2.trans h1.h,fun i hi=> ?_⟩⟩
 ·rw[msl i hi]
  split
  ·exact(merge_up (a3 i hi) (b3 i hi)).1
  ·exact subB_refl (a3 i hi)
 ·rw[msl i hi]
  split
  ·exact(merge_up (a3 i hi) (b3 i hi)).2.1
  ·rename_i hn
   rw[out f a2 rfl rfl i hi hn,out g b2 hloc.symm hh.symm i hi hn]; exact subB_zero l
 ·rw[msl i hi]
  split
  ·exact(merge_up (a3 i hi) (b3 i hi)).2.2 _ (h1.sl i hi) (h2.sl i hi)
  ·exact h1.sl i hi
theorem mergeF_can {l:List Cl} {f g u:Fr} (h1:SubF l f u) (h2:SubF l g u):(mergeF l f g).2=0:=by
 unfold mergeF
 have:=alike_of h1.ca h2.ca (h1.loc.trans h2.loc.symm) (h1.h.trans h2.h.symm)
 rw[if_neg (by omega)]
def hasP (s:IS) (x:Nat):Prop:=(s.has[x]?).getD false=true
def newP (s:IS) (x:Nat):Prop:=(s.fresh[x]?).getD false=true
def frA (s:IS) (x:Nat):Fr:=(s.fr[x]?).getD (fr0 0)
structure Handed (l:List Cl) (g:Fr) (T:List Nat) (s s':IS):Prop where
 has:∀x,hasP s' x↔hasP s x∨x∈T
 old:∀x,hasP s' x→¬newP s' x→hasP s x∧¬newP s x∧frA s' x=frA s x
 up:∀x,hasP s x→frA s' x=frA s x∨SubF l (frA s x) (frA s' x)
 got:∀x∈T,SubF l g (frA s' x)
 least:∀F:Nat→Fr,(∀x,hasP s x→SubF l (frA s x) (F x))→(∀x∈T,SubF l g (F x))→∀x,hasP s' x→SubF l (frA s' x) (F x)
theorem Handed.nil {l:List Cl} {g:Fr} {s:IS}:Handed l g [] s s:=⟨fun x=>by simp,fun x h1 h2=>⟨h1,h2,rfl⟩,fun x _=> .inl rfl,fun x h=>(by cases h),fun F h _ x hx=>h x hx⟩
theorem Handed.trans {l:List Cl} {g:Fr} {T T':List Nat} {s s1 s2:IS} (h:Handed l g T s s1) (h':Handed l g T' s1 s2):Handed l g (T++T') s s2:=by
 refine⟨fun x=> ?_,fun x h1 h2=> ?_,fun x hx=> ?_,fun x hx=> ?_,fun F h1 h2 x hx=> ?_⟩
 ·rw[h'.has,h.has,List.mem_append,or_assoc]
 ·obtain⟨a1,a2,a3⟩:=h'.old x h1 h2
  obtain⟨b1,b2,b3⟩:=h.old x a1 a2
  exact⟨b1,b2,a3.trans b3⟩
 ·rcases h.up x hx with h3|h3 <;> rcases h'.up x ((h.has x).2 (.inl hx)) with h4|h4
  ·exact .inl (h4.trans h3)
  ·exact .inr (h3▸h4)
  ·exact .inr (h4▸h3)
  ·exact .inr (h3.trans h4)
 ·rcases List.mem_append.1 hx with hx|hx
  ·rcases h'.up x ((h.has x).2 (.inr hx)) with h4|h4
   ·rw[h4]; exact h.got x hx
   ·exact(h.got x hx).trans h4
  ·exact h'.got x hx
 ·exact h'.least F (h.least F h1 fun y hy=>h2 y (List.mem_append_left _ hy)) (fun y hy=>h2 y (List.mem_append_right _ hy)) x hx
theorem hand_handed {l:List Cl} {s:IS} {m a:Nat} {g:Fr} (hs:s.sz m) (ha:a<m) (hg:checkF l.length g=0) (h:(handD l s a g).2=0):Handed l g [a] s (handD l s a g).1:=by
 have hla:a<s.has.length:=by rw[hs.a]; omega
 have hlb:a<s.fr.length:=by rw[hs.b]; omega
 have hlc:a<s.fresh.length:=by rw[hs.c]; omega
 unfold handD at h ⊢
 by_cases g1:(s.has[a]?).getD false=false
 ·rw[if_pos g1]
  have e1:∀x,hasP ⟨s.has.set a true,s.fr.set a g,s.fresh.set a true,s.tk⟩ x↔x=a∨hasP s x:=fun x=>by
   simp only[hasP]; rw[set_at hla]; split <;> simp_all
  have e2:∀x,newP ⟨s.has.set a true,s.fr.set a g,s.fresh.set a true,s.tk⟩ x↔x=a∨newP s x:=fun x=>by
   simp only[newP]; rw[set_at hlc]; split <;> simp_all
  have e3:∀x,frA ⟨s.has.set a true,s.fr.set a g,s.fresh.set a true,s.tk⟩ x=if x=a then g else frA s x:=fun x=>by
   simp only[frA]; rw[set_at hlb]
  have hna:∀x,hasP s x→x≠a:=fun x hx he=>by rw[he] at hx; unfold hasP at hx; rw[g1] at hx; cases hx
  refine⟨fun x=>by rw[e1]; simp[or_comm],fun x h1 h2=> ?_,fun x hx=> ?_,fun x hx=> ?_,fun F h1 h2 x hx=> ?_⟩
  ·rw[e2,not_or] at h2
   rw[e1] at h1
   rw[e3,if_neg h2.1]
   exact⟨h1.resolve_left h2.1,h2.2,rfl⟩
  ·rw[e3,if_neg (hna x hx)]; exact .inl rfl
  ·have:x=a:=by simpa using hx
   rw[e3,if_pos this]; exact SubF.refl hg
  ·rw[e3]
   by_cases he:x=a
   ·rw[if_pos he]; exact h2 x (by simp[he])
   ·rw[if_neg he]; exact h1 x (((e1 x).1 hx).resolve_left he)
 rw[if_neg g1] at h ⊢
 have hsa:hasP s a:=by unfold hasP; simpa using g1
 by_cases g2:(mergeF l ((s.fr[a]?).getD (fr0 0)) g).2=0
 case neg=>rw[if_pos g2] at h; exact absurd h g2
 have g2':¬(mergeF l ((s.fr[a]?).getD (fr0 0)) g).2≠0:=fun h=>h g2
 rw[if_neg g2'] at h ⊢
 obtain⟨u1,u2,u3⟩:=mergeF_up g2
 by_cases g3:(mergeF l ((s.fr[a]?).getD (fr0 0)) g).1=(s.fr[a]?).getD (fr0 0)
 ·have g3':¬(mergeF l ((s.fr[a]?).getD (fr0 0)) g).1≠(s.fr[a]?).getD (fr0 0):=fun h=>h g3
  rw[if_neg g3']
  refine⟨fun x=> ?_,fun x h1 h2=>⟨h1,h2,rfl⟩,fun x _=> .inl rfl,fun x hx=> ?_,fun F h1 _ x hx=>h1 x hx⟩
  ·constructor
   ·exact .inl
   ·rintro(h|h)
    ·exact h
    ·rw[show x=a by simpa using h]; exact hsa
  ·rw[show x=a by simpa using hx]
   show SubF l g ((s.fr[a]?).getD (fr0 0))
   rw[←g3]; exact u2
 ·rw[if_pos g3]
  generalize (mergeF l ((s.fr[a]?).getD (fr0 0)) g).1=M at u1 u2 u3 g3
  have e2:∀x,newP ⟨s.has,s.fr.set a M,s.fresh.set a true,s.tk⟩ x↔x=a∨newP s x:=fun x=>by
   simp only[newP]; rw[set_at hlc]; split <;> simp_all
  have e3:∀x,frA ⟨s.has,s.fr.set a M,s.fresh.set a true,s.tk⟩ x=if x=a then M else frA s x:=fun x=>by
   simp only[frA]; rw[set_at hlb]
  refine⟨fun x=> ?_,fun x h1 h2=> ?_,fun x hx=> ?_,fun x hx=> ?_,fun F h1 h2 x hx=> ?_⟩
  ·constructor
   ·exact .inl
   ·rintro(h|h)
    ·exact h
    ·rw[show x=a by simpa using h]; exact hsa
  ·rw[e2,not_or] at h2
   rw[e3,if_neg h2.1]
   exact⟨h1,h2.2,rfl⟩
  ·rw[e3]
   by_cases he:x=a
   ·subst he; rw[if_pos rfl]; exact .inr u1
   ·rw[if_neg he]; exact .inl rfl
  ·rw[e3,if_pos (show x=a by simpa using hx)]; exact u2
  ·rw[e3]
   by_cases he:x=a
   ·subst he; rw[if_pos rfl]; exact u3 _ (h1 x hx) (h2 x (by simp))
   ·rw[if_neg he]; exact h1 x hx
theorem hands_handed {l:List Cl} {m:Nat} {g:Fr} (hg:checkF l.length g=0):∀{to:List Int} {s:IS},s.sz m→(∀x∈to,0≤x∧x<m)→(handsD l g to s).2.2=0→Handed l g (to.map Int.toNat) s (handsD l g to s).1
 |[],s,_,_,_=> .nil
 |a::r,s,hs,ht,h=>by
  have ha:=ht a (List.mem_cons_self ..)
  rw[handsD] at h ⊢
  by_cases h0:(handD l s a.toNat g).2=0
  case neg=>rw[if_pos h0] at h; exact absurd h h0
  have h0':¬(handD l s a.toNat g).2≠0:=fun h=>h h0
  rw[if_neg h0'] at h ⊢
  exact(hand_handed hs (by omega) hg h0).trans (hands_handed hg (hand_sz hs) (fun x hx=>ht x (List.mem_cons_of_mem _ hx)) h)
def nextN (b:List Ty) (a:Nat):List Nat:=(onD (decF b a).1 b.length).1.map Int.toNat
def insA (b:List Ty) (a:Nat):Ins:=(decF b a).1
abbrev szA (b:List Ty) (x:Nat):Nat:=zf1 (insA b x).op.val
def behA (e:En) (b:List Ty) (s:IS) (a:Nat):Fr:=(applyR e (frA s a) (insA b a)).1
theorem round_handed {e:En} {b:List Ty} {s:IS} {a:Nat} (hw:WideE e) (hs:s.sz (b.length+1)) (ha:a≤b.length) (h:(roundD e b s a).2.2=0):
  Handed e.cs (behA e b s a) (nextN b a) ⟨s.has,s.fr,s.fresh.set a false,s.tk.set a (zf1 (decF b a).1.op.val)⟩ (roundD e b s a).1:=by
 obtain⟨h1,h2,h3,h4,h5,h6⟩:=round_ok h
 rw[h6] at h ⊢
 exact hands_handed (done_check hw (done_iff.1 h4)) ⟨hs.a,hs.b,by simpa using hs.c,by simpa using hs.d⟩ (fun x hx=>by have:=on_in h2 hx; omega) h
def FixI (e:En) (b:List Ty) (s:IS):Prop:=∀x,hasP s x→¬newP s x→x≠b.length∧(decF b x).2=0∧(applyR e (frA s x) (insA b x)).2=0∧(onD (decF b x).1 b.length).2=0∧∀y∈nextN b x,hasP s y∧SubF e.cs (behA e b s x) (frA s y)
theorem round_fix {e:En} {b:List Ty} {s:IS} {a:Nat} (hw:WideE e) (hs:s.sz (b.length+1)) (ha:a≤b.length) (hn:newP s a) (hi:FixI e b s) (hf:FH s) (h:(roundD e b s a).2.2=0):FixI e b (roundD e b s a).1:=by
 have H:=round_handed hw hs ha h
 obtain⟨h1,h2,h3,h4,h5,h6⟩:=round_ok h
 have lc:a<s.fresh.length:=by rw[hs.c]; omega
 generalize (roundD e b s a).1=s' at H
 intro x hx hnx
 obtain⟨o1,o2,o3⟩:=H.old x hx hnx
 have o1:hasP s x:=o1
 have o3:frA s' x=frA s x:=o3
 have hb:behA e b s' x=behA e b s x:=by unfold behA; rw[o3]
 have up:∀y g,hasP s y→SubF e.cs g (frA s y)→hasP s' y∧SubF e.cs g (frA s' y):=fun y g hy hg=>⟨(H.has y).2 (.inl hy),by
  rcases H.up y hy with h|h
  ·rw[h]; exact hg
  ·exact hg.trans h⟩
 rw[hb,o3]
 by_cases he:x=a
 ·subst he
  exact⟨h1,h2,h4,h5,fun y hy=>⟨(H.has y).2 (.inr hy),H.got y hy⟩⟩
 ·have hnn:¬newP s x:=fun hc=>o2 (by
   unfold newP at hc ⊢
   simp only
   rw[set_at lc,if_neg he]; exact hc)
  obtain⟨i1,i2,i3,i4,i5⟩:=hi x o1 hnn
  exact⟨i1,i2,i3,i4,fun y hy=>up y _ (i5 y hy).1 (i5 y hy).2⟩
def StartI (e:En) (f0:Fr) (s:IS):Prop:=hasP s 0∧SubF e.cs f0 (frA s 0)∧∀x,hasP s x→checkF e.cs.length (frA s x)=0
theorem round_start {e:En} {b:List Ty} {s:IS} {a:Nat} {f0:Fr} (hw:WideE e) (hs:s.sz (b.length+1)) (ha:a≤b.length) (hi:StartI e f0 s) (h:(roundD e b s a).2.2=0):StartI e f0 (roundD e b s a).1:=by
 have H:=round_handed hw hs ha h
 generalize (roundD e b s a).1=s' at H
 obtain⟨i1,i2,i3⟩:=hi
 refine⟨(H.has 0).2 (.inl i1), ?_,fun x hx=> ?_⟩
 ·rcases H.up 0 i1 with h|h
  ·rw[h]; exact i2
  ·exact i2.trans h
 ·rcases(H.has x).1 hx with hx|hx
  ·rcases H.up x hx with h|h
   ·rw[h]; exact i3 x hx
   ·exact h.cb
  ·exact(H.got x hx).cb
structure FamP (e:En) (b:List Ty) (f0:Fr) (F:Nat→Option Fr):Prop where
 start:∃g,F 0=some g∧SubF e.cs f0 g
 goes:∀x g,F x=some g→(applyR e g (insA b x)).2=0∧∀y∈nextN b x,∃k,F y=some k∧SubF e.cs (applyR e g (insA b x)).1 k
def LeastI (e:En) (F:Nat→Option Fr) (s:IS):Prop:=∀x,hasP s x→∃g,F x=some g∧SubF e.cs (frA s x) g
theorem round_least {e:En} {b:List Ty} {s:IS} {a:Nat} {f0:Fr} {F:Nat→Option Fr} (hw:WideE e) (hs:s.sz (b.length+1)) (ha:a≤b.length) (hh:hasP s a) (hF:FamP e b f0 F) (hi:LeastI e F s) (h:(roundD e b s a).2.2=0):LeastI e F (roundD e b s a).1:=by
 have H:=round_handed hw hs ha h
 obtain⟨h1,h2,h3,h4,h5,h6⟩:=round_ok h
 obtain⟨g,hg,hsub⟩:=hi a hh
 obtain⟨w1,w2⟩:=hF.goes a g hg
 obtain⟨d1,d2⟩:=mono hw (done_iff.1 w1) hsub
 have hnext:∀y∈nextN b a,∃k,F y=some k∧SubF e.cs (behA e b s a) k:=fun y hy=>by
  obtain⟨k,hk,hk2⟩:=w2 y hy
  exact⟨k,hk,d2.trans hk2⟩
 generalize (roundD e b s a).1=s' at H
 have hl:=H.least (fun x=>(F x).getD (fr0 0)) (fun x hx=>by
  obtain⟨k,hk,hk2⟩:=hi x hx
  show SubF e.cs (frA s x) ((F x).getD (fr0 0))
  rw[hk]; exact hk2) (fun y hy=>by
  obtain⟨k,hk,hk2⟩:=hnext y hy
  rw[hk]; exact hk2)
 intro x hx
 have:=hl x hx
 rcases(H.has x).1 hx with hx|hx
 ·obtain⟨k,hk,_⟩:=hi x hx
  exact⟨k,hk,by rw[hk] at this; exact this⟩
 ·obtain⟨k,hk,_⟩:=hnext x hx
  exact⟨k,hk,by rw[hk] at this; exact this⟩
end Go.AL
