import Derived.Test.YtjffaachihpjbaaGreatFp
set_option linter.unusedSimpArgs false
set_option linter.unusedVariables false
set_option linter.defProp false
set_option maxRecDepth 100000
set_option maxHeartbeats 4000000
namespace Go.AL
open Go.Proofs
theorem Fun1.pcallM [Mo] {P:Program} {N:Nat} {f:FuncId} {c:AC} {rs:List ResultVar} {ds:List D} {d:D} (F:Fun1 P f N c rs) (hl:decide (ds.length≤N)=true) (h:∀T,(∀t,T t=envOf ds t)→vcA P N c (bodyP P rs d) T {}):PCall P f ds d:=by
 obtain⟨fn,code,h1,h2,h3,h4,rfl,rfl⟩:=F.ex
 refine acall_of_body h1 h2 h3 h4 (of_decide_eq_true hl) ?_
 refine awp_mono (vcA_sound F.hm (of_decide_eq_true F.hN) code (h _ fun _=>rfl)) fun x T σ hq=> ?_
 cases x with
 |normal=>
  simp only[bodyP,leK] at hq
  split at hq
  ·exact⟨_,_,{},by assumption,hq,St.le.nil _,rfl,rfl⟩
  ·exact hq.elim
 |ret=>
  simp only[bodyP,leK] at hq
  split at hq
  ·exact⟨_,_,{},by assumption,hq,St.le.nil _,rfl,rfl⟩
  ·exact hq.elim
 |_=>exact hq.elim
instance moZ:Mo:=⟨fun t=>t==99||t==109||t==57,fun t=>t==85||t==86||t==87,fun t=>t==57⟩
theorem mpsZ {t:TypeId}:@Mo.mps moZ t=(t==85||t==86||t==87):=rfl
theorem apsZ {t:TypeId}:@Mo.aps moZ t=(t==57):=rfl
theorem cellQ_bsl {b o l c:Nat}:(D.bsl b o l c).cellQ=true:=rfl
theorem cellQ_map {b:Nat}:(D.map b).cellQ=true:=rfl
section
variable {N : Nat} {d : Option Nat} {K : Env → St → Prop} {T : Env} {σ : St} {m : Nat}
theorem mk123:mkK Tryz.prog N d (@Mo.mks moZ 99) 99 (.int .i64 (m:Int)) (.int .i64 (m:Int)) K T σ=(m≤4611686018427387∧m≤140737488355328∧∀b,¬σ.has b→putK N d (.bsl b 0 m m) K T (σ.set b (fl eBo (List.replicate m false)))):=by
 have hz:(List.replicate m [D.bool false]).flatten=fl eBo (List.replicate m false):=by simp[fl,rws,eBo,List.map_replicate]
 rw[show @Mo.mks moZ 99=true from rfl,mkK_true]
 simp only[Tryz.sli99,Tryz.sz4,Tryz.zero4,Tryz.by4,Option.bind_some,Option.map_some,Int.toNat_natCast,hz,List.length_cons,List.length_nil]
 refine propext ⟨fun⟨⟨_,_,_,_,h⟩,k⟩=>⟨by omega,by omega,k⟩,fun⟨_,h,k⟩=>⟨⟨trivial,trivial,by omega,by omega,by omega⟩,k⟩⟩
theorem mk124:mkK Tryz.prog N d (@Mo.mks moZ 109) 109 (.int .i64 (m:Int)) (.int .i64 (m:Int)) K T σ=(m≤4611686018427387∧m≤3518437208883∧∀b,¬σ.has b→putK N d (.bsl b 0 m m) K T (σ.set b (fl eFr (List.replicate m (fr0 0))))):=by
 have hz:(List.replicate m zFr).flatten=fl eFr (List.replicate m (fr0 0)):=by simp[fl,rws,List.map_replicate,fr_fr0]
 rw[show @Mo.mks moZ 109=true from rfl,mkK_true]
 simp only[Tryz.sli109,Tryz.sz38,Tryz.zero38,Tryz.by38,Option.bind_some,Option.map_some,Int.toNat_natCast,zb4,hz,zb5]
 refine propext ⟨fun⟨⟨_,_,_,_,h⟩,k⟩=>⟨by omega,by omega,k⟩,fun⟨_,h,k⟩=>⟨⟨trivial,trivial,by omega,by omega,by omega⟩,k⟩⟩
theorem mk29:mkK Tryz.prog N d (@Mo.mks moZ 57) 57 (.int .i64 (m:Int)) (.int .i64 (m:Int)) K T σ=(m≤4611686018427387∧m≤17592186044416∧∀b,¬σ.has b→putK N d (.bsl b 0 m m) K T (σ.set b (fl eN (List.replicate m 0)))):=by
 have hz:(List.replicate m [D.int .i64 0]).flatten=fl eN (List.replicate m 0):=by simp[fl,rws,eN,List.map_replicate]
 rw[show @Mo.mks moZ 57=true from rfl,mkK_true]
 simp only[Tryz.sli57,Tryz.sz3,Tryz.zero3,Tryz.by3,Option.bind_some,Option.map_some,Int.toNat_natCast,hz,List.length_cons,List.length_nil]
 refine propext ⟨fun⟨⟨_,_,_,_,h⟩,k⟩=>⟨by omega,by omega,k⟩,fun⟨_,h,k⟩=>⟨⟨trivial,trivial,by omega,by omega,by omega⟩,k⟩⟩
end
attribute [go_sem] mpsZ apsZ Bool.true_or Bool.or_true Bool.false_or Bool.or_false mk123 mk124 mk29 cellQ_bsl cellQ_map
open Go.Proofs
def c23:AC:=
.seq (rg [oO 3 (.box 25 (tT 0)),oO 6 (.assign (.const (.slice none 0 0))),oO 7 (.assign (kI 0)),oO 8 (.assign (kI 0))])
 (.seq (rg [oO 19 (.load 25 (tT 3)),oO 20 (.move (tT 1)),oO 21 (cF (.func 51) #[tT 19,tT 20] #[25,3]),oO 9 (.assign (tT 21))])
 (.seq (.seq (rg [oO 22 (.move (tT 9)),oO 23 (.binOp .neq 31 (tT 22) (kI 0) 31)])
 (.cond (tT 23) (.seq (rg [oO 24 (.move (tT 9)),oO 6 (.assign (.const (.slice none 0 0))),oO 7 (.assign (kI 0)),oO 8 (.assign (tT 24))])
 (.ret))
 (.skip)))
 (.seq (rg [oO 25 (.move (tT 2)),oO 26 (cB .len #[tT 25] #[26]),oO 10 (.assign (tT 26))])
 (.seq (.seq (rg [oO 27 (.move (tT 10)),oO 28 (.binOp .gtr 3 (tT 27) (kI 4096) 3)])
 (.cond (tT 28) (.seq (rg [oO 6 (.assign (.const (.slice none 0 0))),oO 7 (.assign (kI 0)),oO 8 (.assign (kI 4))])
 (.ret))
 (.skip)))
 (.seq (.reg true [] [⟨⟨some 29,.move (tT 10),none⟩,false,true⟩,⟨⟨some 30,.binOp .add 3 (tT 29) (kI 1) 3,none⟩,false,true⟩,⟨⟨some 31,.makeSlice 99 (tT 30) (tT 30),none⟩,false,true⟩,⟨⟨some 32,.move (tT 10),none⟩,false,true⟩,⟨⟨some 33,.binOp .add 3 (tT 32) (kI 1) 3,none⟩,false,true⟩,⟨⟨some 34,.makeSlice 109 (tT 33) (tT 33),none⟩,false,true⟩,⟨⟨some 35,.move (tT 10),none⟩,false,true⟩,⟨⟨some 36,.binOp .add 3 (tT 35) (kI 1) 3,none⟩,false,true⟩,⟨⟨some 37,.makeSlice 99 (tT 36) (tT 36),none⟩,false,true⟩,⟨⟨some 38,.move (tT 10),none⟩,false,true⟩,⟨⟨some 39,.binOp .add 3 (tT 38) (kI 1) 3,none⟩,false,true⟩,⟨⟨some 40,.makeSlice 57 (tT 39) (tT 39),none⟩,false,true⟩,⟨⟨some 41,.build 111 #[(0,.tmp 31),(1,.tmp 34),(2,.tmp 37),(3,.tmp 40)],none⟩,false,true⟩,oO 11 (.alloc 111),oN (.store 111 (tT 11) (tT 41))])
 (.seq (.reg true [] [⟨⟨some 43,.fieldAddr 25 (tT 3) 0,none⟩,false,true⟩,⟨⟨some 44,.load 22 (tT 43),none⟩,false,true⟩,⟨⟨some 45,.fieldAddr 25 (tT 3) 1,none⟩,false,true⟩,⟨⟨some 46,.load 23 (tT 45),none⟩,false,true⟩,⟨⟨some 47,.fieldAddr 25 (tT 3) 2,none⟩,false,true⟩,⟨⟨some 48,.load 3 (tT 47),none⟩,false,true⟩,⟨⟨some 49,.indexAddr 23 (tT 46) (tT 48),none⟩,false,true⟩,⟨⟨some 50,.fieldAddr 47 (tT 49) 0,none⟩,false,true⟩,⟨⟨some 51,.load 44 (tT 50),none⟩,false,true⟩,⟨⟨some 52,.move (tT 1),none⟩,false,true⟩,⟨⟨some 53,cF (.func 35) #[tT 44,tT 51,tT 52] #[22,44,3],none⟩,false,true⟩,⟨⟨some 42,.move (tT 53),none⟩,false,true⟩,⟨⟨some 54,.extract (tT 42) 0,none⟩,false,true⟩,⟨⟨some 55,.extract (tT 42) 1,none⟩,true,true⟩,⟨⟨some 12,.alloc 38,none⟩,true,false⟩,oN (.store 38 (tT 12) (tT 54)),oO 13 (.assign (tT 55))])
 (.seq (.seq (.reg true [11,12] [⟨⟨some 56,.fieldAddr 111 (tT 11) 0,none⟩,false,true⟩,⟨⟨some 57,.load 99 (tT 56),none⟩,false,true⟩,⟨⟨some 58,.fieldAddr 111 (tT 11) 1,none⟩,true,true⟩,⟨⟨some 59,.load 109 (tT 58),none⟩,true,true⟩,⟨⟨some 60,.fieldAddr 111 (tT 11) 2,none⟩,true,true⟩,⟨⟨some 61,.load 99 (tT 60),none⟩,true,true⟩,⟨⟨some 62,.load 38 (tT 12),none⟩,true,true⟩,oO 63 (.indexAddr 99 (tT 57) (kI 0)),oN (.store 4 (tT 63) (.const (.bool true))),oO 64 (.indexAddr 109 (tT 59) (kI 0)),oN (.store 38 (tT 64) (tT 62))])
 (rg [oO 65 (.indexAddr 99 (tT 61) (kI 0)),oN (.store 4 (tT 65) (.const (.bool true)))]))
 (.seq (.seq (rg [oO 14 (.assign (kI 0))])
 (.block 0 (.loop (.seq (.seq (rg [oO 66 (.move (tT 14)),oO 67 (.binOp .geq 3 (tT 66) (kI 0) 3)])
 (.cond (tT 67) (.skip)
 (.exit 0)))
 (.seq (.block 1 (.seq (rg [oO 71 (.load 111 (tT 11)),oO 72 (.load 25 (tT 3)),oO 73 (.move (tT 2)),oO 74 (.move (tT 14)),oO 75 (cF (.func 53) #[tT 71,tT 72,tT 73,tT 74] #[111,25,26,3]),oO 70 (.move (tT 75)),oO 76 (.extract (tT 70) 0),oO 77 (.extract (tT 70) 1),oO 15 (.assign (tT 76)),oO 16 (.assign (tT 77))])
 (.seq (rg [oO 78 (.move (tT 16)),oO 79 (.binOp .neq 31 (tT 78) (kI 0) 31)])
 (.cond (tT 79) (.seq (rg [oO 80 (.move (tT 15)),oO 81 (.move (tT 16)),oO 6 (.assign (.const (.slice none 0 0))),oO 7 (.assign (tT 80)),oO 8 (.assign (tT 81))])
 (.ret))
 (.skip)))))
 (rg [oO 68 (.load 111 (tT 11)),oO 69 (cF (.func 52) #[tT 68] #[111]),oO 14 (.assign (tT 69))]))))))
 (.seq (rg [oO 17 (.assign (.const (.slice none 0 0)))])
 (.seq (.seq (rg [oO 18 (.assign (kI 0))])
 (.block 2 (.loop (.seq (.seq (rg [oO 82 (.move (tT 18)),oO 83 (.move (tT 10)),oO 84 (.binOp .lss 3 (tT 82) (tT 83) 3)])
 (.cond (tT 84) (.skip)
 (.exit 2)))
 (.seq (.block 3 (.seq (rg [oO 87 (.fieldAddr 111 (tT 11) 0),oO 88 (.load 99 (tT 87)),oO 89 (.move (tT 18)),oO 90 (.indexAddr 99 (tT 88) (tT 89)),oO 91 (.load 4 (tT 90))])
 (.cond (tT 91) (rg [oO 92 (.move (tT 17)),oO 93 (.move (tT 18)),oO 94 (.fieldAddr 111 (tT 11) 1),oO 95 (.load 109 (tT 94)),oO 96 (.move (tT 18)),oO 97 (.indexAddr 109 (tT 95) (tT 96)),oO 98 (.load 38 (tT 97)),oO 99 (.build 40 #[(0,.tmp 93),(2,.tmp 98)]),oO 100 (.buildSlice 30 1 #[(0,.tmp 99)]),oO 101 (cB .append #[tT 92,tT 100] #[30,30]),oO 17 (.assign (tT 101))])
 (.skip))))
 (rg [oO 85 (.move (tT 18)),oO 86 (.binOp .add 3 (tT 85) (kI 1) 3),oO 18 (.assign (tT 86))]))))))
 (.seq (rg [oO 102 (.move (tT 17)),oO 6 (.assign (tT 102)),oO 7 (.assign (kI 0)),oO 8 (.assign (kI 0))])
 .ret)))))))))))
theorem F23:Fun1 Tryz.prog 23 103 c23 [.tmp 6,.tmp 7,.tmp 8]:=mkT Tryz.func23 rfl (by decide +kernel) Tryz.ntmps23 rfl (by kernel_rfl) rfl
open Go.Proofs
theorem ents_succ (s:IS) (n:Nat):entsD s (n+1)=entsD s n++(if(s.has[n]?).getD false=true then [⟨(n:Int),false,(s.fr[n]?).getD (fr0 0)⟩] else []):=by
 unfold entsD
 rw[List.range_succ,List.filterMap_append]
 congr 1
 simp only[List.filterMap_cons,List.filterMap_nil]
 split <;> simp_all
theorem frz_fr2 (f:Fr):(eFr f).map frz=eFr f:=by simp[eFr,frz]
theorem ents_len (s:IS):∀n,(entsD s n).length≤n
 |0=>by simp[entsD]
 |n+1=>by
  have:=ents_len s n
  rw[ents_succ,List.length_append]
  split <;> simp <;> omega
def bXhcC0:=aI @zb4 (aI @zb5 (aI @za9 (aI @za8 (aI @za6 (aI @za5 (aI @zb8 (aI @zb2 @gdD)))))))
def bXhcC1:=aI @zb4 (aI @zb5 (aI @za9 (aI @za8 (aI @za6 (aI @za5 (aI @zb8 (aI @zb2 (aI @gdD @za4))))))))
theorem infer26 (e:En) (loc:Int) (b:List Ty) (o:Own) (hw:WideE e) (hb:b.length≤140737488355328):
  PCall Tryz.prog 23 [.agg (eEn e),.int .i64 loc,.slice o (rws eT b)] (.tup [.slice .no (rws eEy (inferD e loc b).1),.int .i64 (inferD e loc b).2.1,.int .i64 (inferD e loc b).2.2]):=by
 have en1:(eEn e)[1]? =some (.slice .no (rws eSg e.sgs)):=rfl
 have en0:(eEn e)[0]? =some (.slice .no (rws eC e.cs)):=rfl
 have en2:(eEn e)[2]? =some (.int .i64 e.fn):=rfl
 refine F23.pcallM rfl fun T hT=> ?_
 simp -implicitDefEqProofs only[go_sem,c23,hT,Nat.mul_one,Nat.add_zero,Nat.zero_add,bXhcC0]
 intro b3
 refine za3 (refMay32 e loc hw) ?_
 by_cases g1:mayE e loc=0
 case neg=>
  have hR:inferD e loc b=([],0,mayE e loc):=by unfold inferD; rw[if_pos g1]
  have g1':((mayE e loc:Int)=0)=False:=eq_false (by omega)
  rw[hR]
  simp -implicitDefEqProofs only[go_sem,hT,g1']
  exact DLe.tup (.cons (DLe.slice _ _) (.cons (DLe.refl _) (.cons (DLe.refl _) .nil)))
 have g1':((mayE e loc:Int)=0)=True:=eq_true (by omega)
 by_cases g2:4096<b.length
 ·have hR:inferD e loc b=([],0,4):=by unfold inferD; rw[if_neg (by omega),if_pos g2]
  have g2':((4096:Int)<b.length)=True:=eq_true (by omega)
  rw[hR]
  simp -implicitDefEqProofs only[go_sem,hT,g1',g2']
  exact DLe.tup (.cons (DLe.slice _ _) (.cons (DLe.refl _) (.cons (DLe.refl _) .nil)))
 have g2':((4096:Int)<b.length)=False:=eq_false (by omega)
 have w1:IntKind.wrap .i64 ((b.length:Int)+1)=((b.length+1:Nat):Int):=by rw[zb7 (by omega) (by omega)]; simp
 simp -implicitDefEqProofs only[go_sem,hT,g1',g2',w1,Nat.mul_one,Nat.add_zero,Nat.zero_add,frz,bXhcC0]
 refine⟨by omega,by omega,fun qa a1 a2=>⟨by omega,by omega,fun qb b1 b2 b4 b5=>⟨by omega,by omega,fun qc c1 c2 c3 c4 c5 c6=>⟨by omega,by omega,fun qd d1 d2 d3 d4 d5 d6 d7 d8=>fun b11 e1 e2 e3 e4 e5 e6 e7 e8 e9 e10=> ?_⟩⟩⟩⟩
 have hno:¬(canB e=false∨loc<(psOf e).length∨16<loc):=fun h=>(may_can e loc).2 h g1
 have hcan:canB e=true:=by
  cases h:canB e with
  |true=>rfl
  |false=>exact absurd (.inl h) hno
 obtain⟨hs,h0,hps,hp8,hst⟩:=can_sig hcan
 obtain⟨n,hn⟩:∃n:Nat,e.fn=n:=⟨e.fn.toNat,by omega⟩
 have hn':e.fn.toNat=n:=by omega
 have hs':n<e.sgs.length:=by omega
 have hps2:psOf e=e.sgs[n].ps:=by rw[hps]; simp only[hn']
 have hsg:=rws_at (enc:=eSg) hs'
 simp -implicitDefEqProofs only[go_sem,hT,Nat.mul_one,Nat.add_zero,Nat.zero_add,a1,a2,b1,b2,b4,b5,c1,c2,c3,c4,c5,c6,d1,d2,d3,d4,d5,d6,d7,d8,e1,e2,e3,e4,e5,e6,e7,e8,e9,e10,en0,en1,en2,hn,hsg,bXhcC1]
 have sg0:∀x:Sg,(eSg x)[0]? =some (.slice .no (rws eT x.ps)):=fun _=>rfl
 refine⟨⟨⟨by omega,by omega⟩,rfl⟩, ?_⟩
 simp -implicitDefEqProofs only[go_sem,hT,Nat.mul_one,Nat.add_zero,Nat.zero_add,a1,a2,b1,b2,b4,b5,c1,c2,c3,c4,c5,c6,d1,d2,d3,d4,d5,d6,d7,d8,e1,e2,e3,e4,e5,e6,e7,e8,e9,e10,en0,en1,en2,hn,hsg,sg0,bXhcC1]
 refine za3 (refStart71 e.cs .no .no e.sgs[n].ps loc (by rw[←hps2]; omega)) ?_
 rw[←hps2]
 simp -implicitDefEqProofs only[go_sem,hT,Nat.mul_one,Nat.add_zero,Nat.zero_add,a1,a2,b1,b2,b4,b5,c1,c2,c3,c4,c5,c6,d1,d2,d3,d4,d5,d6,d7,d8,e1,e2,e3,e4,e5,e6,e7,e8,e9,e10,en0,en1,en2,bXhcC1]
 intro b12 f1 f2 f3 f4 f5 f6 f7 f8 f9 f10 f11 f12
 simp -implicitDefEqProofs only[go_sem,hT,Nat.mul_one,Nat.add_zero,Nat.zero_add,a1,a2,b1,b2,b4,b5,c1,c2,c3,c4,c5,c6,d1,d2,d3,d4,d5,d6,d7,d8,e1,e2,e3,e4,e5,e6,e7,e8,e9,e10,f1,f2,f3,f4,f5,f6,f7,f8,f9,f10,f11,f12,bXhcC1]
 refine⟨fun b hb hc=> ?_,by omega,by rw[fl_len (s:=1) (fun x=>rfl)]; simp,by omega,by rw[fl_len za6]; simp; omega,by omega,by rw[fl_len (s:=1) (fun x=>rfl)]; simp, ?_⟩
 ·rcases hb with rfl|rfl
  ·exact hc.2.1 rfl
  ·exact hc.1 rfl
 obtain⟨q,hq⟩:∃q:QB,q=⟨qa,qb,qc,qd⟩:=⟨_,rfl⟩
 have hne:q.ne:=by rw[hq]; exact⟨b2,c4,d6,c2,d4,d2⟩
 obtain⟨L,hL⟩:∃L:List LI,L=[.bx b3 (eEn e),.bx b11 (stD q (b.length+1))]:=⟨_,rfl⟩
 obtain⟨s0,hs0⟩:∃s0,s0=is0 b.length (startF e.cs.length (psOf e) loc).1:=⟨_,rfl⟩
 obtain⟨RES,hRES⟩:∃r,goD e b (fuelD b.length) s0 0=r:=⟨_,rfl⟩
 have hinf:inferD e loc b=if RES.2.2≠0 then([],RES.2.1,RES.2.2) else(entsD RES.1 b.length,0,0):=by
  unfold inferD; rw[if_neg (by omega),if_neg g2,←hs0,hRES]
 have hF:Falls e.cs e.cs.length:=can_falls hw hcan
 refine loopL F23 (fun x:IS×Int=>[(2,.slice o (rws eT b)),(3,.ptr b3 0),(10,.int .i64 b.length),(11,.ptr b11 0),(14,.int .i64 x.2)]) (fun x=>putL (stI q x.1) L)
  (fun x=>x.1.sz (b.length+1)∧(∀j<b.length+1,(x.1.tk[j]?).getD 0≤5000)∧(0≤x.2→x.2≤b.length∧(x.1.fresh[x.2.toNat]?).getD false=true)∧∃k,muS e.cs x.1 (b.length+1)<k∧goD e b k x.1 x.2=RES)
  (fun x=>if x.2<0 then 0 else muS e.cs x.1 (b.length+1)+1) (s0,0) ?_ ?_ ?_ ?_
 ·refine⟨?_,fun j hj=> ?_,fun _=>⟨by omega, ?_⟩,fuelD b.length, ?_,hRES⟩
  ·rw[hs0]; exact⟨by simp[is0],by simp[is0],by simp[is0],by simp[is0]⟩
  ·rw[hs0]; simp[is0,List.getElem?_replicate,hj]
  ·rw[hs0]; simp[is0]
  ·have:=muS_le (l:=e.cs) (s:=s0) (m:=b.length+1)
   show muS e.cs s0 (b.length+1)<fuelD b.length
   unfold fuelD
   rw[show b.length+1+1=b.length+2 from rfl] at this
   generalize (b.length+1)*6145*(b.length+2)=P at *
   omega
 ·simp -implicitDefEqProofs only[go_sem,hT]
 ·have hb1:eBo false=[D.bool false]:=rfl
  have hb2:eBo true=[D.bool true]:=rfl
  have hq3:List.drop 26 (eFr (fr0 0))=[]:=by rw[List.drop_eq_nil_of_le]; rw[za6]; omega
  refine⟨fun x cs hx=> ?_,fun x p hx=> ?_,fun x o hx=> ?_⟩
  ·revert hx
   intro hx
   rw[←hx,hL,hq,hs0]
   simp only[putL,List.foldl_cons,List.foldl_nil,LI.put,stI,stD,is0,St.set_box,List.replicate_succ,List.set_cons_zero,fl_cons,hb1,hb2]
   by_cases y1:x=b11
   ·subst y1; simp[a1,a2,b1,b2,b4,b5,c1,c2,c3,c4,c5,c6,d1,d2,d3,d4,d5,d6,d7,d8,e1,e2,e3,e4,e5,e6,e7,e8,e9,e10,f1,f2,f3,f4,f5,f6,f7,f8,f9,f10,f11,f12]
   by_cases y2:x=b3
   ·subst y2; simp[a1,a2,b1,b2,b4,b5,c1,c2,c3,c4,c5,c6,d1,d2,d3,d4,d5,d6,d7,d8,e1,e2,e3,e4,e5,e6,e7,e8,e9,e10,f1,f2,f3,f4,f5,f6,f7,f8,f9,f10,f11,f12]
   by_cases y3:x=qd
   ·subst y3; simp[a1,a2,b1,b2,b4,b5,c1,c2,c3,c4,c5,c6,d1,d2,d3,d4,d5,d6,d7,d8,e1,e2,e3,e4,e5,e6,e7,e8,e9,e10,f1,f2,f3,f4,f5,f6,f7,f8,f9,f10,f11,f12]
   by_cases y4:x=qc
   ·subst y4; simp[a1,a2,b1,b2,b4,b5,c1,c2,c3,c4,c5,c6,d1,d2,d3,d4,d5,d6,d7,d8,e1,e2,e3,e4,e5,e6,e7,e8,e9,e10,f1,f2,f3,f4,f5,f6,f7,f8,f9,f10,f11,f12]
   by_cases y5:x=qb
   ·subst y5; simp[a1,a2,b1,b2,b4,b5,c1,c2,c3,c4,c5,c6,d1,d2,d3,d4,d5,d6,d7,d8,e1,e2,e3,e4,e5,e6,e7,e8,e9,e10,f1,f2,f3,f4,f5,f6,f7,f8,f9,f10,f11,f12]
    exact List.drop_left' (za6 _)
   by_cases y6:x=qa
   ·subst y6; simp[a1,a2,b1,b2,b4,b5,c1,c2,c3,c4,c5,c6,d1,d2,d3,d4,d5,d6,d7,d8,e1,e2,e3,e4,e5,e6,e7,e8,e9,e10,f1,f2,f3,f4,f5,f6,f7,f8,f9,f10,f11,f12]
   exfalso
   rw[hL,hq,hs0] at hx
   simp[putL,LI.put,stI,stD,St.set_box,y1,y2,y3,y4,y5,y6] at hx
  ·rw[hL] at hx; simp[putL,LI.put,stI,St.set] at hx
  ·rw[hL] at hx; simp[putL,LI.put,stI,St.set] at hx
 clear hT T
 rintro⟨s,a⟩ ⟨hsz,htk,hfre,k,hk,hgo⟩ T hT
 simp only at hsz htk hfre hk hgo hT ⊢
 obtain⟨k,rfl⟩:∃k',k=k'+1:=⟨k-1,by omega⟩
 have hof:∀x,offL (stI q x) L:=fun x=>by
  rw[hL]
  refine⟨fun h=> ?_,fun h=> ?_,trivial⟩
  ·rcases stI_has.1 h with h|h|h|h <;> (rw[hq] at h; simp only at h; first|exact a2 h|exact b5 h|exact c6 h|exact d8 h)
  ·rcases stI_has.1 h with h|h|h|h <;> (rw[hq] at h; simp only at h; first|exact e1 h|exact e3 h|exact e5 h|exact e7 h)
 have y3:∀x,(putL (stI q x) L).box b3=some (eEn e):=fun x=>by rw[hL]; simp[putL,LI.put,St.set_box,a1,a2,b1,b2,b4,b5,c1,c2,c3,c4,c5,c6,d1,d2,d3,d4,d5,d6,d7,d8,e1,e2,e3,e4,e5,e6,e7,e8,e9,e10]
 have y11:∀x,(putL (stI q x) L).box b11=some (stD q (b.length+1)):=fun x=>by rw[hL]; simp[putL,LI.put,St.set_box]
 by_cases h:a<0
 ·rw[goD,if_pos h] at hgo
  have g3:(0≤a)=False:=eq_false (by omega)
  have hres:inferD e loc b=(entsD s b.length,0,0):=by rw[hinf,←hgo,if_neg (by simp)]
  rw[hres]
  have hoff2:∀o',grN o' (putL (stI q s) L)→grN o' (putL (stI q s) L):=fun _ h=>h
  have ya:(putL (stI q s) L).box q.a=some (fl eBo s.has):=by
   have:=stI_a (s:=s) hne
   rw[hL]; simp only[putL,List.foldl_cons,List.foldl_nil,LI.put,St.set_box]
   rw[if_neg (by rw[hq]; exact e8),if_neg (by rw[hq]; exact a1)]; exact this
  have yb:(putL (stI q s) L).box q.b=some (fl eFr s.fr):=by
   have:=stI_b (s:=s) hne
   rw[hL]; simp only[putL,List.foldl_cons,List.foldl_nil,LI.put,St.set_box]
   rw[if_neg (by rw[hq]; exact e6),if_neg (by rw[hq]; exact b4)]; exact this
  simp -implicitDefEqProofs only[go_sem,hT,Nat.mul_one,Nat.add_zero,Nat.zero_add,y3,y11,g3,bXhcC0]
  refine loopL F23 (fun x:Nat×Option Nat=>[(10,.int .i64 b.length),(11,.ptr b11 0),(17,grD 28 x.2 (rws eEy (entsD s x.1))),(18,.int .i64 x.1)]) (fun x=>grS 28 (entsD s x.1).length x.2 (putL (stI q s) L))
   (fun x=>x.1≤b.length∧(x.2=none→(entsD s x.1).length=0)∧grN x.2 (putL (stI q s) L)) (fun x=>b.length-x.1) (0,none) ⟨by omega,fun _=>rfl,grN_none⟩ ?_ (St.le.refl _) ?_
  ·simp -implicitDefEqProofs only[go_sem,hT,Int.ofNat_zero]
   rfl
  clear hT T
  rintro⟨i,ob⟩ ⟨hi,hok,hgn⟩ T hT
  simp only at hi hok hgn hT ⊢
  by_cases h5:i<b.length
  ·have g5:((i:Int)<b.length)=True:=eq_true (by omega)
   have w2:IntKind.wrap .i64 ((i:Int)+1)=((i+1:Nat):Int):=by rw[zb7 (by omega) (by omega)]; simp
   have hx:=fl_boAt (xs:=s.has) (i:=i) (by rw[hsz.a]; omega)
   have hfl:(fl eFr s.fr).length=(b.length+1)*26:=by rw[fl_len za6,hsz.b]
   have hget:((fl eFr s.fr).drop (i*26)).take 26=eFr ((s.fr[i]?).getD (fr0 0)):=by
    rw[fl_at za6 (by rw[hsz.b]; omega),List.getElem?_eq_getElem (by rw[hsz.b]; omega)]; rfl
   have hfa:(26≤((fl eFr s.fr).drop (i*26)).length)=True:=eq_true (by rw[List.length_drop,hfl]; omega)
   have hlen:=ents_len s i
   cases hh:(s.has[i]?).getD false
   ·simp -implicitDefEqProofs only[go_sem,hT,zb4,zb5,za9,za8,za6,za5,zb8,zb2,gdD,Nat.mul_one,Nat.add_zero,Nat.zero_add,y11,ya,yb,hx,hh,g5,w2,stD,grS_boxa]
    have hs:entsD s (i+1)=entsD s i:=by rw[ents_succ,hh]; simp
    exact⟨⟨by omega,by omega⟩,(i+1,ob),⟨by omega,by rw[hs]; exact hok,hgn⟩,by simp only; omega,⟨by simp only[hs],rfl⟩,by simp only; rw[hs]; exact St.le.refl _⟩
   ·simp -implicitDefEqProofs only[go_sem,hT,zb4,zb5,za9,za8,za6,za5,zb8,zb2,gdD,Nat.mul_one,Nat.add_zero,Nat.zero_add,y11,ya,yb,hx,hh,g5,w2,stD,grS_boxa,hget,hfa,frz,frz_fr2]
    have hs:entsD s (i+1)=entsD s i++[⟨(i:Int),false,(s.fr[i]?).getD (fr0 0)⟩]:=by rw[ents_succ,hh]; simp
    refine⟨⟨by omega,by omega⟩,⟨by omega,by omega⟩, ?_⟩
    refine app_gr' (ow:= .exact) (ys:=[eEy ⟨(i:Int),false,(s.fr[i]?).getD (fr0 0)⟩]) Tryz.sli30 Tryz.sz40 Tryz.by40 Tryz.zero40 rfl (n:=(entsD s i).length) (m:=1) (base:=putL (stI q s) L) (by rw[za1]) rfl (St.le.refl _) hgn hok (by simp[ze9]) (by omega) fun o' σ' hbox hle hg hno=> ?_
    simp -implicitDefEqProofs only[go_sem,hT,w2]
    have hl2:(entsD s (i+1)).length=(entsD s i).length+1:=by rw[hs]; simp
    refine⟨(i+1,o'),⟨by omega,fun h=>by have:=hno h; omega,hg⟩,by simp only; omega,⟨?_,rfl⟩,by simp only; rw[hl2]; exact hle⟩
    simp only[hs]
    simp[rws]
  ·have g5:((i:Int)<b.length)=False:=eq_false (by omega)
   obtain rfl:i=b.length:=by omega
   simp -implicitDefEqProofs only[go_sem,hT,g5]
   exact DLe.tup (.cons grD_le (.cons (DLe.refl _) (.cons (DLe.refl _) .nil)))
 ·have g3:(0≤a)=True:=eq_true (by omega)
  rw[goD,if_neg h] at hgo
  obtain⟨ha,hfa⟩:=hfre (by omega)
  obtain⟨n2,rfl⟩:∃n2:Nat,a=n2:=⟨a.toNat,by omega⟩
  rw[Int.toNat_natCast] at hgo hfa
  simp -implicitDefEqProofs only[go_sem,hT,zb4,zb5,za9,za8,za6,za5,zb8,zb2,gdD,Nat.mul_one,Nat.add_zero,Nat.zero_add,y3,y11,g3,stD_len,stD_take]
  refine callB_under L (hof _) ((round69 q hne s e b o hsz (by omega) hw hF (by have:=hw.1.1; omega) n2 (by omega) htk).xcall (Rp:=fun _ _=>False)) (fun d s' hR _=> ?_) fun d s' h=>h.elim
  obtain⟨rfl,rfl⟩:=hR
  obtain⟨s2,r1,r2,r3,r4,r5,r6,r7,-⟩:=round_shape (e:=e) hsz (show n2≤b.length by omega)
  have hfall:=round_falls (e:=e) hsz (show n2≤b.length by omega) hfa
  by_cases g6:(roundD e b s n2).2.2=0
  ·rw[if_neg (by omega)] at hgo
   have g6':(((roundD e b s n2).2.2:Int)=0)=True:=eq_true (by omega)
   simp -implicitDefEqProofs only[go_sem,hT,zb4,zb5,za9,za8,za6,za5,zb8,zb2,gdD,Nat.mul_one,Nat.add_zero,Nat.zero_add,g6',y11,stD_len,stD_take]
   refine callB_under L (hof _) ((least68 q hne (roundD e b s n2).1 (b.length+1) r6 (by omega)).xcall (Rp:=fun _ _=>False)) (fun d s' hR _=> ?_) fun d s' h=>h.elim
   obtain⟨rfl,rfl⟩:=hR
   simp -implicitDefEqProofs only[go_sem,hT,Nat.mul_one,Nat.add_zero,Nat.zero_add,bXhcC0]
   refine⟨((roundD e b s n2).1,leastD (roundD e b s n2).1.fresh),⟨r6,fun j hj=> ?_,fun h0=> ?_,k,Nat.lt_of_lt_of_le hfall (Nat.le_of_lt_succ hk),hgo⟩, ?_,rfl,St.le.refl _⟩
   ·rw[r7]
    rcases r4 with r4|⟨z,hz,r4⟩
    ·rw[r4]; exact htk j hj
    ·rw[r4,set_at (by rw[hsz.d]; omega)]
     split
     ·omega
     ·exact htk j hj
   ·obtain⟨q1,q2⟩:=least_in rfl h0
    rw[r6.c] at q1
    exact⟨by omega,q2⟩
   ·simp only
    rw[if_neg (show ¬((n2:Nat):Int)<0 by omega)]
    split <;> omega
  ·rw[if_pos g6] at hgo
   have g6':(((roundD e b s n2).2.2:Int)=0)=False:=eq_false (by omega)
   rw[hinf,←hgo,if_pos g6]
   simp -implicitDefEqProofs only[go_sem,hT,Nat.mul_one,Nat.add_zero,Nat.zero_add,g6',bXhcC0]
   exact DLe.tup (.cons (DLe.slice _ _) (.cons (DLe.refl _) (.cons (DLe.refl _) .nil)))
open Go.Proofs
def c90:CT (Tryz.f90.body.getD .skip):=⟨_,by conv=>lhs; cbv⟩
theorem F90:Fun1 Tryz.prog 90 59 c90.1 [.tmp 6]:=mkT Tryz.func90 rfl (by decide +kernel) Tryz.ntmps90 rfl c90.2 rfl
def c87:CT (Tryz.f87.body.getD .skip):=⟨_,by conv=>lhs; cbv⟩
theorem F87:Fun1 Tryz.prog 87 43 c87.1 [.tmp 4]:=mkT Tryz.func87 rfl (by decide +kernel) Tryz.ntmps87 rfl c87.2 rfl
def c59_12:AC:=
.seq (rg [oO 94 (.move (tT 8)),oO 95 (cF (.func 61) #[tT 94] #[57])])
 (.seq (.seq (rg [oO 96 (.move (tT 8)),oO 97 (cF (.func 89) #[tT 96] #[57]),oO 98 (cB .len #[tT 97] #[57]),oO 99 (.move (kI 0))])
 (.block 0 (.loop (.seq (rg [oO 100 (.binOp .lss 3 (tT 99) (tT 98) 3)])
 (.seq (.cond (tT 100) (.skip)
 (.exit 0))
 (.seq (.block 1 (.seq (rg [oO 101 (.indexAddr 57 (tT 97) (tT 99)),oO 102 (.load 3 (tT 101)),oO 11 (.assign (tT 102))])
 (.seq (rg [oO 103 (.move (tT 0)),oO 104 (.move (tT 11)),oO 105 (.load 38 (tT 7)),oO 106 (cF (.func 90) #[tT 103,tT 104,tT 105] #[78,3,38]),oO 12 (.assign (tT 106))])
 (.seq (rg [oO 107 (.move (tT 12)),oO 108 (.binOp .neq 31 (tT 107) (kI 0) 31)])
 (.cond (tT 108) (.seq (rg [oO 109 (.move (tT 12)),oO 4 (.assign (tT 109))])
 (.ret))
 (.skip))))))
 (rg [oO 110 (.binOp .add 3 (tT 99) (kI 1) 3),oO 99 (.move (tT 110))])))))))
 (.seq (rg [oO 4 (.assign (kI 0))])
 .ret))
def c59:AC:=
.seq (rg [oO 4 (.assign (kI 0))])
 (.seq (rg [oO 13 (.move (tT 0)),oO 14 (.move (tT 1)),oO 15 (.nilCheck (tT 13)),oO 16 (.fieldAddr 89 (tT 15) 5),oN (.store 3 (tT 16) (tT 14))])
 (.seq (.seq (rg [oO 17 (.move (tT 1)),oO 18 (.move (tT 0)),oO 19 (.nilCheck (tT 18)),oO 20 (.fieldAddr 89 (tT 19) 1),oO 21 (.load 26 (tT 20)),oO 22 (cB .len #[tT 21] #[26]),oO 23 (.binOp .eql 3 (tT 17) (tT 22) 3)])
 (.cond (tT 23) (.seq (rg [oO 4 (.assign (kI 51))])
 (.ret))
 (.skip)))
 (.seq (rg [oO 25 (.move (tT 0)),oO 26 (.nilCheck (tT 25)),oO 27 (.fieldAddr 89 (tT 26) 1),oO 28 (.load 26 (tT 27)),oO 29 (.move (tT 1)),oO 30 (cF (.func 44) #[tT 28,tT 29] #[26,3]),oO 24 (.move (tT 30)),oO 31 (.extract (tT 24) 0),oO 32 (.extract (tT 24) 1),oO 5 (.alloc 67),oN (.store 67 (tT 5) (tT 31)),oO 6 (.assign (tT 32))])
 (.seq (.seq (rg [oO 33 (.move (tT 6)),oO 34 (.binOp .neq 31 (tT 33) (kI 0) 31)])
 (.cond (tT 34) (.seq (rg [oO 35 (.move (tT 6)),oO 4 (.assign (tT 35))])
 (.ret))
 (.skip)))
 (.seq (.seq (rg [oO 36 (.move (tT 0)),oO 37 (.load 67 (tT 5)),oO 38 (cF (.func 87) #[tT 36,tT 37] #[78,67]),oO 39 (.unOp .not 4 (tT 38))])
 (.cond (tT 39) (.seq (rg [oO 4 (.assign (kI 80))])
 (.ret))
 (.skip)))
 (.seq (.reg true [] [⟨⟨some 41,.move (tT 0),none⟩,false,true⟩,⟨⟨some 42,.nilCheck (tT 41),none⟩,false,true⟩,⟨⟨some 43,.fieldAddr 89 (tT 42) 0,none⟩,false,true⟩,⟨⟨some 44,.load 25 (tT 43),none⟩,false,true⟩,⟨⟨some 45,.move (tT 0),none⟩,false,true⟩,⟨⟨some 46,.nilCheck (tT 45),none⟩,false,true⟩,⟨⟨some 47,.fieldAddr 89 (tT 46) 2,none⟩,false,true⟩,⟨⟨some 48,.load 85 (tT 47),none⟩,false,true⟩,⟨⟨some 49,.move (tT 1),none⟩,false,true⟩,⟨⟨some 50,.lookup 85 (tT 48) (tT 49) false,none⟩,false,true⟩,⟨⟨some 51,.load 67 (tT 5),none⟩,false,true⟩,⟨⟨some 52,cF (.func 88) #[tT 44,tT 50,tT 51] #[25,38,67],none⟩,false,true⟩,⟨⟨some 40,.move (tT 52),none⟩,false,true⟩,⟨⟨some 53,.extract (tT 40) 0,none⟩,false,true⟩,⟨⟨some 54,.extract (tT 40) 1,none⟩,true,true⟩,⟨⟨some 7,.alloc 38,none⟩,true,false⟩,oN (.store 38 (tT 7) (tT 53)),oO 6 (.assign (tT 54))])
 (.seq (.seq (rg [oO 55 (.move (tT 6)),oO 56 (.binOp .neq 31 (tT 55) (kI 0) 31)])
 (.cond (tT 56) (.seq (rg [oO 57 (.move (tT 6)),oO 4 (.assign (tT 57))])
 (.ret))
 (.skip)))
 (.seq (rg [oO 8 (.assign (.const (.slice none 0 0)))])
 (.seq (rg [oO 58 (.move (tT 1)),oO 59 (.fieldAddr 67 (tT 5) 1),oO 60 (.load 5 (tT 59)),oO 61 (cF (.func 46) #[tT 60] #[5]),oO 62 (.binOp .add 3 (tT 58) (tT 61) 3),oO 9 (.assign (tT 62))])
 (.seq (.seq (rg [oO 63 (.fieldAddr 67 (tT 5) 1),oO 64 (.load 5 (tT 63)),oO 65 (cF (.func 45) #[tT 64] #[5])])
 (.cond (tT 65) (.seq (.seq (.reg true [] [⟨⟨some 66,.fieldAddr 67 (tT 5) 2,none⟩,false,true⟩,⟨⟨some 67,.load 3 (tT 66),none⟩,false,true⟩,oO 68 (.move (tT 0)),oO 69 (.nilCheck (tT 68)),oO 70 (.fieldAddr 89 (tT 69) 1),oO 71 (.load 26 (tT 70)),oO 72 (cB .len #[tT 71] #[26]),oO 73 (.binOp .geq 3 (tT 67) (tT 72) 3)])
 (.cond (tT 73) (.seq (rg [oO 4 (.assign (kI 50))])
 (.ret))
 (.skip)))
 (rg [oO 74 (.move (tT 8)),oO 75 (.fieldAddr 67 (tT 5) 2),oO 76 (.load 3 (tT 75)),oO 77 (.buildSlice 57 1 #[(0,.tmp 76)]),oO 78 (cB .append #[tT 74,tT 77] #[57,57]),oO 8 (.assign (tT 78))]))
 (.skip)))
 (.seq (.seq (rg [oO 79 (.fieldAddr 67 (tT 5) 1),oO 80 (.load 5 (tT 79)),oO 81 (cF (.func 47) #[tT 80] #[5]),oO 82 (.unOp .not 4 (tT 81))])
 (.cond (tT 82) (.seq (.seq (rg [oO 83 (.move (tT 9)),oO 84 (.move (tT 0)),oO 85 (.nilCheck (tT 84)),oO 86 (.fieldAddr 89 (tT 85) 1),oO 87 (.load 26 (tT 86)),oO 88 (cB .len #[tT 87] #[26]),oO 89 (.binOp .eql 3 (tT 83) (tT 88) 3)])
 (.cond (tT 89) (.seq (rg [oO 4 (.assign (kI 51))])
 (.ret))
 (.skip)))
 (rg [oO 90 (.move (tT 8)),oO 91 (.move (tT 9)),oO 92 (.buildSlice 57 1 #[(0,.tmp 91)]),oO 93 (cB .append #[tT 90,tT 92] #[57,57]),oO 8 (.assign (tT 93))]))
 (.skip)))
 c59_12)))))))))))
theorem F59:Fun1 Tryz.prog 59 111 c59 [.tmp 4]:=mkT Tryz.func59 rfl (by decide +kernel) Tryz.ntmps59 rfl (by kernel_rfl) rfl
def c32:CT (Tryz.f32.body.getD .skip):=⟨_,by conv=>lhs; cbv⟩
theorem F32:Fun1 Tryz.prog 32 88 c32.1 [.tmp 6,.tmp 7,.tmp 8]:=mkT Tryz.func32 rfl (by decide +kernel) Tryz.ntmps32 rfl c32.2 rfl
open Go.Proofs
def kyN (n:Nat):Ky:= .int .i64 (n:Int)
theorem kyN_inj {a b:Nat}:kyN a=kyN b↔a=b:=by
 constructor
 ·intro h; injection h with h1 h2; omega
 ·rintro rfl; rfl
structure MapR {α:Type} (enc:α→D) (f:Nat→Option α) (ks:List (Ky×Nat)) (vs:List D) (clock:Nat):Prop where
 len:vs.length=ks.length
 nod:(ks.map (·.1)).Nodup
 stm:(ks.map (·.2)).Nodup
 old:∀p∈ks,p.2<clock
 key:∀p∈ks,∃n,p.1=kyN n
 yes:∀n a,f n=some a→∃j,kfind ks (kyN n)=some j∧vs[j]? =some (enc a)
 no:∀n,f n=none→kfind ks (kyN n)=none
section
variable {α : Type} {enc : α → D} {f : Nat → Option α} {ks : List (Ky × Nat)} {vs : List D} {clock : Nat}
theorem kf_some {k:Ky} {j:Nat} (h:kfind ks k=some j):∃s,ks[j]? =some (k,s):=by
 unfold kfind at h
 rw[List.findIdx?_eq_some_iff_getElem] at h
 obtain⟨h1,h2,_⟩:=h
 refine⟨ks[j].2, ?_⟩
 rw[List.getElem?_eq_getElem h1]
 have:ks[j].1=k:=by simpa using h2
 rw[←this]
theorem kf_none {k:Ky} (h:kfind ks k=none):∀p∈ks,p.1≠k:=by
 unfold kfind at h
 rw[List.findIdx?_eq_none_iff] at h
 intro p hp
 simpa using h p hp
theorem nodup_at {β:Type}:∀{L:List β} {i j:Nat} {b:β},L.Nodup→L[i]? =some b→L[j]? =some b→i=j
 |[],i,j,b,_,h,_=>by simp at h
 |x::L,i,j,b,hn,hi,hj=>by
  rw[List.nodup_cons] at hn
  cases i with
  |zero=>
   cases j with
   |zero=>rfl
   |succ j=>
    simp only[List.getElem?_cons_zero,Option.some.injEq] at hi
    simp only[List.getElem?_cons_succ] at hj
    exact absurd (hi▸List.mem_of_getElem? hj) hn.1
  |succ i=>
   cases j with
   |zero=>
    simp only[List.getElem?_cons_zero,Option.some.injEq] at hj
    simp only[List.getElem?_cons_succ] at hi
    exact absurd (hj▸List.mem_of_getElem? hi) hn.1
   |succ j=>
    simp only[List.getElem?_cons_succ] at hi hj
    rw[nodup_at hn.2 hi hj]
theorem kf_of {k:Ky} {j s:Nat} (hn:(ks.map (·.1)).Nodup) (h:ks[j]? =some (k,s)):kfind ks k=some j:=by
 cases hk:kfind ks k with
 |none=>exact absurd rfl (kf_none hk _ (List.mem_of_getElem? h))
 |some i=>
  obtain⟨s',h'⟩:=kf_some hk
  congr 1
  exact nodup_at hn (b:=k) (by rw[List.getElem?_map,h']; rfl) (by rw[List.getElem?_map,h]; rfl)
theorem MapR.nil:MapR enc (fun _=>none) [] [] 0:=
 ⟨rfl,List.nodup_nil,List.nodup_nil,fun p h=>(by cases h),fun p h=>(by cases h),fun n a h=>(by cases h),fun n _=>rfl⟩
theorem MapR.set (h:MapR enc f ks vs clock) (n:Nat) (a:α):∃ks' vs' c',mset (some .i64) ks vs clock (kyN n) (enc a)= .map (some .i64) ks' vs' c'∧MapR enc (fun x=>if x=n then some a else f x) ks' vs' c':=by
 unfold mset
 cases hk:kfind ks (kyN n) with
 |some j=>
  refine⟨ks,vs.set j (enc a),clock,rfl,by simpa using h.len,h.nod,h.stm,h.old,h.key,fun x b hx=> ?_,fun x hx=> ?_⟩
  ·obtain⟨s,hj⟩:=kf_some hk
   have hjl:j<vs.length:=by
    rw[h.len]
    exact Classical.byContradiction fun hc=>by rw[List.getElem?_eq_none (by omega)] at hj; cases hj
   by_cases he:x=n
   ·rw[if_pos he] at hx
    cases hx
    refine⟨j,by rw[he]; exact hk, ?_⟩
    rw[List.getElem?_set_self hjl]
   ·rw[if_neg he] at hx
    obtain⟨i,h1,h2⟩:=h.yes x b hx
    refine⟨i,h1, ?_⟩
    rw[List.getElem?_set_ne,h2]
    rintro rfl
    obtain⟨s',hi⟩:=kf_some h1
    rw[hj] at hi
    exact he (kyN_inj.1 (by simpa using hi.symm |> fun h=>(Option.some.inj h) |> congrArg Prod.fst))
  ·by_cases he:x=n
   ·rw[if_pos he] at hx; cases hx
   ·rw[if_neg he] at hx; exact h.no x hx
 |none=>
  have hno:=kf_none hk
  have hap:∀k j,kfind ks k=some j→kfind (ks++[(kyN n,clock)]) k=some j:=fun k j hj=>by
   unfold kfind at hj ⊢
   rw[List.findIdx?_append,hj]; rfl
  refine⟨ks++[(kyN n,clock)],vs++[enc a],clock+1,rfl,by simp[h.len], ?_, ?_,fun p hp=> ?_,fun p hp=> ?_,fun x b hx=> ?_,fun x hx=> ?_⟩
  ·rw[List.map_append,List.nodup_append]
   refine⟨h.nod,by simp,fun x hx y hy=> ?_⟩
   obtain⟨p,hp,rfl⟩:=List.mem_map.1 hx
   simp at hy
   rw[hy]; exact hno p hp
  ·rw[List.map_append,List.nodup_append]
   refine⟨h.stm,by simp,fun x hx y hy=> ?_⟩
   obtain⟨p,hp,rfl⟩:=List.mem_map.1 hx
   simp at hy
   have:=h.old p hp
   omega
  ·rcases List.mem_append.1 hp with hp|hp
   ·have:=h.old p hp; omega
   ·simp at hp; rw[hp]; exact Nat.lt_succ_self _
  ·rcases List.mem_append.1 hp with hp|hp
   ·exact h.key p hp
   ·simp at hp; exact⟨n,by rw[hp]⟩
  ·by_cases he:x=n
   ·rw[if_pos he] at hx
    cases hx
    subst he
    refine⟨ks.length, ?_,by rw[←h.len]; simp⟩
    unfold kfind at hk ⊢
    rw[List.findIdx?_append,hk]
    simp[List.findIdx?_cons]
   ·rw[if_neg he] at hx
    obtain⟨j,h1,h2⟩:=h.yes x b hx
    refine⟨j,hap _ _ h1, ?_⟩
    rw[List.getElem?_append_left,h2]
    exact Classical.byContradiction fun hc=>by rw[List.getElem?_eq_none (by omega)] at h2; cases h2
  ·by_cases he:x=n
   ·rw[if_pos he] at hx; cases hx
   ·rw[if_neg he] at hx
    have:=h.no x hx
    unfold kfind at this ⊢
    rw[List.findIdx?_append,this]
    simp[List.findIdx?_cons,kyN_inj,Ne.symm he]
def lkV {α:Type} (enc:α→D) (z:D) (ok:Bool):Option α→D
 |some a=>pairD ok (enc a) true
 |none=>pairD ok z false
theorem MapR.look (h:MapR enc f ks vs clock) (n:Nat) (z:D) (ok:Bool):
  lookO (some (.map (some .i64) ks vs clock)) (some .i64) (kyN n) z ok=some (lkV enc z ok (f n)):=by
 rw[lookO_map (by rfl)]
 cases hf:f n with
 |none=>rw[h.no n hf]; rfl
 |some a=>
  obtain⟨j,h1,h2⟩:=h.yes n a hf
  rw[h1]; simp only[h2]; rfl
theorem MapR.at (h:MapR enc f ks vs clock) {i s:Nat} {k:Ky} (hi:ks[i]? =some (k,s)):∃n a,k=kyN n∧f n=some a∧vs[i]? =some (enc a):=by
 obtain⟨n,hn⟩:=h.key _ (List.mem_of_getElem? hi)
 simp only at hn
 subst hn
 cases hf:f n with
 |none=>exact absurd rfl (kf_none (h.no n hf) _ (List.mem_of_getElem? hi))
 |some a=>
  obtain⟨j,h1,h2⟩:=h.yes n a hf
  rw[kf_of h.nod hi] at h1
  cases h1
  exact⟨n,a,rfl,hf,h2⟩
theorem MapR.more (h:MapR enc f ks vs clock):0<ks.length↔∃n a,f n=some a:=by
 constructor
 ·intro hl
  obtain⟨⟨k,s⟩,hk⟩:∃x,ks[0]? =some x:=⟨_,List.getElem?_eq_getElem hl⟩
  obtain⟨n,a,_,h2,_⟩:=h.at hk
  exact⟨n,a,h2⟩
 ·rintro⟨n,a,hf⟩
  obtain⟨j,h1,_⟩:=h.yes n a hf
  obtain⟨s,hs⟩:=kf_some h1
  exact Classical.byContradiction fun hc=>by rw[List.getElem?_eq_none (by omega)] at hs; cases hs
theorem nodup_erase {β:Type}:∀{L:List β} {i:Nat},L.Nodup→(L.eraseIdx i).Nodup:=fun h=>List.Nodup.sublist (List.eraseIdx_sublist ..) h
theorem erase_map {β γ:Type} (g:β→γ):∀(L:List β) (i:Nat),(L.eraseIdx i).map g=(L.map g).eraseIdx i
 |[],i=>by simp
 |x::L,0=>by simp
 |x::L,i+1=>by simp[erase_map g L i]
theorem MapR.del (h:MapR enc f ks vs clock) (n:Nat):∃ks' vs',mdel (some .i64) ks vs clock (kyN n)= .map (some .i64) ks' vs' clock∧MapR enc (fun x=>if x=n then none else f x) ks' vs' clock:=by
 unfold mdel
 cases hk:kfind ks (kyN n) with
 |none=>
  refine⟨ks,vs,rfl,h.len,h.nod,h.stm,h.old,h.key,fun x b hx=> ?_,fun x hx=> ?_⟩
  ·by_cases he:x=n
   ·rw[if_pos he] at hx; cases hx
   ·rw[if_neg he] at hx; exact h.yes x b hx
  ·by_cases he:x=n
   ·rw[he]; exact hk
   ·rw[if_neg he] at hx; exact h.no x hx
 |some j=>
  obtain⟨s,hj⟩:=kf_some hk
  have hjl:j<ks.length:=Classical.byContradiction fun hc=>by rw[List.getElem?_eq_none (by omega)] at hj; cases hj
  have hnod:((ks.eraseIdx j).map (·.1)).Nodup:=by rw[erase_map]; exact nodup_erase h.nod
  have hsub:∀p∈ks.eraseIdx j,p∈ks:=fun p hp=>(List.eraseIdx_sublist ..).mem hp
  refine⟨ks.eraseIdx j,vs.eraseIdx j,rfl, ?_,hnod,by rw[erase_map]; exact nodup_erase h.stm,fun p hp=>h.old p (hsub p hp),fun p hp=>h.key p (hsub p hp),fun x b hx=> ?_,fun x hx=> ?_⟩
  ·rw[List.length_eraseIdx,List.length_eraseIdx,h.len]
  ·by_cases he:x=n
   ·rw[if_pos he] at hx; cases hx
   ·rw[if_neg he] at hx
    obtain⟨i,h1,h2⟩:=h.yes x b hx
    obtain⟨s',hi⟩:=kf_some h1
    have hne:i≠j:=by
     rintro rfl
     rw[hj] at hi
     have:=congrArg Prod.fst (Option.some.inj hi)
     exact he (kyN_inj.1 this.symm)
    by_cases hlt:i<j
    ·refine⟨i,kf_of (s:=s') hnod ?_, ?_⟩
     ·rw[List.getElem?_eraseIdx_of_lt hlt]; exact hi
     ·rw[List.getElem?_eraseIdx_of_lt hlt]; exact h2
    ·refine⟨i-1,kf_of (s:=s') hnod ?_, ?_⟩
     ·rw[List.getElem?_eraseIdx_of_ge (by omega),show i-1+1=i by omega]; exact hi
     ·rw[List.getElem?_eraseIdx_of_ge (by omega),show i-1+1=i by omega]; exact h2
  ·cases hk2:kfind (ks.eraseIdx j) (kyN x) with
   |none=>rfl
   |some i=>
    exfalso
    obtain⟨s',hi⟩:=kf_some hk2
    have hmem:=List.mem_of_getElem? hi
    by_cases he:x=n
    ·subst he
     rw[List.getElem?_eraseIdx] at hi
     split at hi
     ·exact absurd (nodup_at h.nod (i:=i) (j:=j) (b:=kyN x) (by rw[List.getElem?_map,hi]; rfl) (by rw[List.getElem?_map,hj]; rfl)) (by omega)
     ·exact absurd (nodup_at h.nod (i:=i+1) (j:=j) (b:=kyN x) (by rw[List.getElem?_map,hi]; rfl) (by rw[List.getElem?_map,hj]; rfl)) (by omega)
    ·rw[if_neg he] at hx
     exact kf_none (h.no x hx) _ (hsub _ hmem) rfl
end
open Go.Proofs
theorem mp143:mapP Tryz.prog 85=some (3,38):=by kernel_rfl
theorem mp144:mapP Tryz.prog 86=some (3,101):=by kernel_rfl
theorem mp145:mapP Tryz.prog 87=some (3,3):=by kernel_rfl
theorem kk3:kkP Tryz.prog 3=some (some .i64):=by kernel_rfl
theorem zv84:zvalD Tryz.prog 38=some (.agg zFr):=by kernel_rfl
theorem zv3:zvalD Tryz.prog 3=some (.int .i64 0):=by kernel_rfl
def dF (f:Fr):D:= .agg (eFr f)
def dU (_:Unit):D:= .agg []
def dN (n:Nat):D:= .int .i64 (n:Int)
structure RS where
 ff:Nat→Option Fr
 nn:Nat→Option Unit
 tt:Nat→Option Nat
 wh:Int
structure RB where
 q:Nat
 f:Nat
 n:Nat
 t:Nat
structure RB.ne (r:RB):Prop where
 qf:r.q≠r.f
 qn:r.q≠r.n
 qt:r.q≠r.t
 fn:r.f≠r.n
 ft:r.f≠r.t
 nt:r.n≠r.t
def eRn (r:RB) (e:En) (b:List Ty) (wh:Int):List D:=eEn e++[.slice .no (rws eT b),.map r.f,.map r.n,.map r.t,.int .i64 wh]
structure RM where
 kf:List (Ky×Nat)
 vf:List D
 cf:Nat
 kn:List (Ky×Nat)
 vn:List D
 cn:Nat
 kt:List (Ky×Nat)
 vt:List D
 ct:Nat
structure RM.of (m:RM) (s:RS):Prop where
 f:MapR dF s.ff m.kf m.vf m.cf
 n:MapR dU s.nn m.kn m.vn m.cn
 t:MapR dN s.tt m.kt m.vt m.ct
def stR (r:RB) (e:En) (b:List Ty) (m:RM) (wh:Int):St:=
 (((({}:St).set r.q (eRn r e b wh)).setM r.f (.map (some .i64) m.kf m.vf m.cf)).setM r.n (.map (some .i64) m.kn m.vn m.cn)).setM r.t (.map (some .i64) m.kt m.vt m.ct)
section
variable {r : RB} {e : En} {b : List Ty} {m : RM} {wh : Int}
theorem stR_q:(stR r e b m wh).box r.q=some (eRn r e b wh):=by simp[stR,setM_box,St.set_box]
theorem stR_f (h:r.ne):(stR r e b m wh).mp r.f=some (.map (some .i64) m.kf m.vf m.cf):=by simp[stR,setM_mp,h.fn,h.ft]
theorem stR_n (h:r.ne):(stR r e b m wh).mp r.n=some (.map (some .i64) m.kn m.vn m.cn):=by simp[stR,setM_mp,h.nt]
theorem stR_t:(stR r e b m wh).mp r.t=some (.map (some .i64) m.kt m.vt m.ct):=by simp[stR,setM_mp]
theorem stR_ne (h:r.ne) {x:Nat} (hx:¬(stR r e b m wh).has x):¬x=r.q∧¬x=r.f∧¬x=r.n∧¬x=r.t:=by
 refine⟨?_, ?_, ?_, ?_⟩ <;> rintro rfl
 ·exact hx (.inl (by rw[stR_q]; simp))
 ·exact hx (.inr (.inr (by rw[stR_f h]; simp)))
 ·exact hx (.inr (.inr (by rw[stR_n h]; simp)))
 ·exact hx (.inr (.inr (by rw[stR_t]; simp)))
theorem stR_has (h:r.ne) {x:Nat}:(stR r e b m wh).has x↔x=r.q∨x=r.f∨x=r.n∨x=r.t:=by
 constructor
 ·intro hx
  refine Classical.byContradiction fun hc=> ?_
  have h1:¬x=r.q:=fun h=>hc (.inl h)
  have h2:¬x=r.f:=fun h=>hc (.inr (.inl h))
  have h3:¬x=r.n:=fun h=>hc (.inr (.inr (.inl h)))
  have h4:¬x=r.t:=fun h=>hc (.inr (.inr (.inr h)))
  simp[St.has,stR,setM_box,setM_buf,setM_mp,St.set_box,h1,h2,h3,h4,St.set] at hx
 ·rintro(rfl|rfl|rfl|rfl)
  ·exact .inl (by rw[stR_q]; simp)
  ·exact .inr (.inr (by rw[stR_f h]; simp))
  ·exact .inr (.inr (by rw[stR_n h]; simp))
  ·exact .inr (.inr (by rw[stR_t]; simp))
theorem le_stR {σ:St} (h1:σ.box r.q=some (eRn r e b wh)) (h2:σ.mp r.f=some (.map (some .i64) m.kf m.vf m.cf)) (h3:σ.mp r.n=some (.map (some .i64) m.kn m.vn m.cn)) (h4:σ.mp r.t=some (.map (some .i64) m.kt m.vt m.ct)):St.le (stR r e b m wh) σ:=by
 refine⟨fun x cs hx=> ?_,fun x p hx=> ?_,fun x o hx=> ?_⟩
 ·simp only[stR,setM_box,St.set_box] at hx
  split at hx
  ·rename_i he; rw[he,h1,hx]
  ·cases hx
 ·simp[stR,setM_buf,St.set] at hx
 ·simp only[stR,setM_mp] at hx
  split at hx
  ·rename_i he; rw[he,h4,hx]
  split at hx
  ·rename_i he; rw[he,h3,hx]
  split at hx
  ·rename_i he; rw[he,h2,hx]
  ·cases hx
theorem stR_off (hr:r.ne) {m':RM} {w':Int} {x:Nat} (h:¬(stR r e b m wh).has x):¬(stR r e b m' w').has x:=fun h'=>h ((stR_has hr).2 ((stR_has hr).1 h'))
theorem eRn_len:(eRn r e b wh).length=8:=rfl
theorem eRn_en:(eRn r e b wh).take 3=eEn e:=rfl
theorem eRn_0:(eRn r e b wh)[0]? =some (.slice .no (rws eC e.cs)):=rfl
theorem eRn_3:(eRn r e b wh)[3]? =some (.slice .no (rws eT b)):=rfl
theorem eRn_4:(eRn r e b wh)[4]? =some (.map r.f):=rfl
theorem eRn_5:(eRn r e b wh)[5]? =some (.map r.n):=rfl
theorem eRn_6:(eRn r e b wh)[6]? =some (.map r.t):=rfl
theorem eRn_7:(eRn r e b wh)[7]? =some (.int .i64 wh):=rfl
theorem eRn_wh (w:Int):(eRn r e b wh).take 7++[D.int .i64 w]++(eRn r e b wh).drop 8=eRn r e b w:=rfl
theorem look143 {σ:St} {n:Nat} {ok:Bool} {f:Nat→Option Fr} {ks:List (Ky×Nat)} {vs:List D} {c:Nat} {x:Nat} (h:MapR dF f ks vs c) (hm:σ.mp x=some (.map (some .i64) ks vs c)):
  lookD Tryz.prog 85 (.map x) (.int .i64 n) ok σ=some (lkV dF (.agg zFr) ok (f n)):=by
 rw[lookD_map mp143 kk3 (keyD_int) zv84,hm]; exact h.look n _ ok
theorem look145 {σ:St} {n:Nat} {ok:Bool} {f:Nat→Option Nat} {ks:List (Ky×Nat)} {vs:List D} {c:Nat} {x:Nat} (h:MapR dN f ks vs c) (hm:σ.mp x=some (.map (some .i64) ks vs c)):
  lookD Tryz.prog 87 (.map x) (.int .i64 n) ok σ=some (lkV dN (.int .i64 0) ok (f n)):=by
 rw[lookD_map mp145 kk3 (keyD_int) zv3,hm]; exact h.look n _ ok
end
def handP (l:List Cl) (s:RS) (a:Nat) (f:Fr):RS×Nat:=match s.ff a with
 |some old=>if(mergeF l old f).2≠0 then({s with wh:=(a:Int)},(mergeF l old f).2)
  else if(mergeF l old f).1≠old then(⟨fun x=>if x=a then some (mergeF l old f).1 else s.ff x,fun x=>if x=a then some () else s.nn x,s.tt,s.wh⟩,0) else(s,0)
 |none=>(⟨fun x=>if x=a then some f else s.ff x,fun x=>if x=a then some () else s.nn x,s.tt,s.wh⟩,0)
def bXhdB0:=aI @zb4 (aI @zb5 (aI @za9 (aI @za8 (aI @za6 (aI @za5 (aI @gdD (aI @eRn_0 (aI @eRn_3 (aI @eRn_4 (aI @eRn_5 (aI @eRn_6 (aI @eRn_7 (aI @eRn_len @nilc_p)))))))))))))
def bXhdB1:=aI @zb4 (aI @zb5 (aI @za9 (aI @za8 (aI @za6 (aI @za5 (aI @gdD (aI @eRn_0 (aI @eRn_3 (aI @eRn_4 (aI @eRn_5 (aI @eRn_6 (aI @eRn_7 (aI @eRn_len (aI @nilc_p @za4))))))))))))))
theorem hand161 (r:RB) (hr:r.ne) (e:En) (b:List Ty) (m:RM) (s:RS) (hm:m.of s) (a:Nat) (f:Fr) (hl:e.cs.length≤140737488355328):
  RCall Tryz.prog 90 [.ptr r.q 0,.int .i64 a,.agg (eFr f)] (stR r e b m s.wh) fun d s'=>d= .int .i64 (handP e.cs s a f).2∧∃m':RM,m'.of (handP e.cs s a f).1∧s'=stR r e b m' (handP e.cs s a f).1.wh:=by
 have kq:=stR_q (r:=r) (e:=e) (b:=b) (m:=m) (wh:=s.wh)
 have kf:=stR_f (e:=e) (b:=b) (m:=m) (wh:=s.wh) hr
 have kn:=stR_n (e:=e) (b:=b) (m:=m) (wh:=s.wh) hr
 refine F90.rcall rfl fun T hT=> ?_
 simp -implicitDefEqProofs only[go_sem,mmB,c90,hT,Nat.mul_one,Nat.add_zero,Nat.zero_add,bXhdB0]
 intro b5 hb5
 have hk1:=fun(σ:St) (h:σ.mp r.f=some (.map (some .i64) m.kf m.vf m.cf))=>look143 (ok:=true) (n:=a) hm.f h
 obtain⟨n1,n2,n3,n4⟩:=stR_ne hr hb5
 simp -implicitDefEqProofs only[go_sem,hT,Nat.mul_one,Nat.add_zero,Nat.zero_add,n1,n2,n3,n4,Ne.symm n1,Ne.symm n2,Ne.symm n3,Ne.symm n4,hk1,kf,kn,kq,bXhdB0]
 cases hff:s.ff a with
 |none=>
  have hP:handP e.cs s a f=(⟨fun x=>if x=a then some f else s.ff x,fun x=>if x=a then some () else s.nn x,s.tt,s.wh⟩,0):=by unfold handP; rw[hff]
  rw[hP]
  simp -implicitDefEqProofs only[go_sem,mmB,hT,Nat.mul_one,Nat.add_zero,Nat.zero_add,n1,n2,n3,n4,Ne.symm n1,Ne.symm n2,Ne.symm n3,Ne.symm n4,lkV,pairD,bXhdB0]
  intro b7 n5 n6 hb7
  obtain⟨p1,p2,p3,p4⟩:=stR_ne hr hb7
  simp -implicitDefEqProofs only[go_sem,mmB,hT,Nat.mul_one,Nat.add_zero,Nat.zero_add,n1,n2,n3,n4,Ne.symm n1,Ne.symm n2,Ne.symm n3,Ne.symm n4,hk1,kf,kn,kq,n5,n6,p1,p2,p3,p4,Ne.symm p1,Ne.symm p2,Ne.symm p3,Ne.symm p4,bXhdB1]
  obtain⟨kf',vf',cf',q1,q2⟩:=hm.f.set a f
  obtain⟨kn',vn',cn',q3,q4⟩:=hm.n.set a ()
  have q1':mset (some .i64) m.kf m.vf m.cf (kyN a) (.agg (eFr f))= .map (some .i64) kf' vf' cf':=q1
  have q3':mset (some .i64) m.kn m.vn m.cn (kyN a) (.agg [])= .map (some .i64) kn' vn' cn':=q3
  rw[updA_map (k:=kyN a) mp143 kk3 keyD_int (by rw[set_mp,set_mp]; exact kf) rfl]
  simp -implicitDefEqProofs only[go_sem,mmB,hT,Nat.mul_one,Nat.add_zero,Nat.zero_add,n1,n2,n3,n4,Ne.symm n1,Ne.symm n2,Ne.symm n3,Ne.symm n4,frz,q1',hr.fn,hr.ft,hr.nt,Ne.symm hr.fn,n5,n6,p1,p2,p3,p4,Ne.symm p1,kn,kq,bXhdB0]
  rw[updA_map (k:=kyN a) mp144 kk3 keyD_int (by rw[setM_mp,if_neg (Ne.symm hr.fn),set_mp,set_mp]; exact kn) rfl]
  simp -implicitDefEqProofs only[go_sem,mmB,hT,Nat.mul_one,Nat.add_zero,Nat.zero_add,n1,n2,n3,n4,Ne.symm n1,Ne.symm n2,Ne.symm n3,Ne.symm n4,frz,q3',bXhdB0]
  have kt:=stR_t (r:=r) (e:=e) (b:=b) (m:=m) (wh:=s.wh)
  refine⟨_,_,DLe.refl _,le_stR (m:=⟨kf',vf',cf',kn',vn',cn',m.kt,m.vt,m.ct⟩) (wh:=s.wh) ?_ ?_ ?_ ?_,rfl,⟨kf',vf',cf',kn',vn',cn',m.kt,m.vt,m.ct⟩,⟨q2,q4,hm.t⟩,rfl⟩
  ·simp[setM_box,St.set_box,Ne.symm n1,Ne.symm p1,kq]
  ·simp[setM_mp,set_mp,hr.fn]
  ·simp[setM_mp,set_mp]
  ·simp[setM_mp,set_mp,Ne.symm hr.ft,Ne.symm hr.nt,kt]
 |some old=>
  simp -implicitDefEqProofs only[go_sem,mmB,hT,Nat.mul_one,Nat.add_zero,Nat.zero_add,n1,n2,n3,n4,Ne.symm n1,Ne.symm n2,Ne.symm n3,Ne.symm n4,lkV,pairD,dF,bXhdB0]
  intro b7 n5 n6 hb7
  obtain⟨p1,p2,p3,p4⟩:=stR_ne hr hb7
  simp -implicitDefEqProofs only[go_sem,mmB,hT,Nat.mul_one,Nat.add_zero,Nat.zero_add,n1,n2,n3,n4,Ne.symm n1,Ne.symm n2,Ne.symm n3,Ne.symm n4,n5,n6,p1,p2,p3,p4,Ne.symm p1,Ne.symm p2,Ne.symm p3,Ne.symm p4,hk1,kf,kn,kq,bXhdB1]
  refine za3 (merge192 e.cs .no old f hl) ?_
  simp -implicitDefEqProofs only[go_sem,mmB,hT,Nat.mul_one,Nat.add_zero,Nat.zero_add,n1,n2,n3,n4,Ne.symm n1,Ne.symm n2,Ne.symm n3,Ne.symm n4,n5,n6,p1,p2,p3,p4,Ne.symm p1,Ne.symm p2,Ne.symm p3,Ne.symm p4,hk1,kf,kn,kq,bXhdB1]
  intro b9 n7 n8 n9 n10 hb9
  obtain⟨t1,t2,t3,t4⟩:=stR_ne hr hb9
  have base:∀v w z,St.le (stR r e b m s.wh) ((((stR r e b m s.wh).set b5 v).set b7 w).set b9 z):=fun v w z=>le_stR (by simp[St.set_box,n1,n2,n3,n4,Ne.symm n1,Ne.symm n2,Ne.symm n3,Ne.symm n4,n5,n6,p1,p2,p3,p4,Ne.symm p1,Ne.symm p2,Ne.symm p3,Ne.symm p4,n7,n8,n9,n10,t1,t2,t3,t4,Ne.symm t1,Ne.symm t2,Ne.symm t3,Ne.symm t4,kq]) (by simp[set_mp,kf]) (by simp[set_mp,kn]) (by rw[set_mp,set_mp,set_mp,stR_t])
  by_cases h0:(mergeF e.cs old f).2=0
  case neg=>
   have hP:handP e.cs s a f=({s with wh:=(a:Int)},(mergeF e.cs old f).2):=by unfold handP; rw[hff]; simp only; rw[if_pos h0]
   have h0':(((mergeF e.cs old f).2:Int)=0)=False:=eq_false (by omega)
   rw[hP]
   simp -implicitDefEqProofs only[go_sem,mmB,hT,Nat.mul_one,Nat.add_zero,Nat.zero_add,n1,n2,n3,n4,Ne.symm n1,Ne.symm n2,Ne.symm n3,Ne.symm n4,n5,n6,p1,p2,p3,p4,Ne.symm p1,Ne.symm p2,Ne.symm p3,Ne.symm p4,n7,n8,n9,n10,t1,t2,t3,t4,Ne.symm t1,Ne.symm t2,Ne.symm t3,Ne.symm t4,kq,h0',bXhdB1]
   simp -implicitDefEqProofs only[go_sem,opq_eq,hT,zb4,zb5,za9,za8,za6,za5,gdD,Nat.mul_one,Nat.add_zero,Nat.zero_add,eRn_0,eRn_3,eRn_4,eRn_5,eRn_6,eRn_7,eRn_len,nilc_p,n1,n2,n3,n4,Ne.symm n1,Ne.symm n2,Ne.symm n3,Ne.symm n4,n5,n6,p1,p2,p3,p4,Ne.symm p1,Ne.symm p2,Ne.symm p3,Ne.symm p4,n7,n8,n9,n10,t1,t2,t3,t4,Ne.symm t1,Ne.symm t2,Ne.symm t3,Ne.symm t4,kq,h0',za4]
   refine⟨_,_,DLe.refl _,le_stR (m:=m) (wh:=(a:Int)) ?_ ?_ ?_ ?_,rfl,m,⟨hm.f,hm.n,hm.t⟩,rfl⟩
   ·rw[St.set_box,if_pos rfl]; rfl
   ·simp[set_mp,kf]
   ·simp[set_mp,kn]
   ·rw[set_mp,set_mp,set_mp,set_mp,stR_t]
  have h0':(((mergeF e.cs old f).2:Int)=0)=True:=eq_true (by omega)
  simp -implicitDefEqProofs only[go_sem,mmB,hT,zb4,zb5,za9,za8,za6,za5,gdD,Nat.mul_one,Nat.add_zero,Nat.zero_add,eRn_0,eRn_3,eRn_4,eRn_5,eRn_6,eRn_7,eRn_len,nilc_p,n1,n2,n3,n4,Ne.symm n1,Ne.symm n2,Ne.symm n3,Ne.symm n4,n5,n6,p1,p2,p3,p4,Ne.symm p1,Ne.symm p2,Ne.symm p3,Ne.symm p4,n7,n8,n9,n10,t1,t2,t3,t4,Ne.symm t1,Ne.symm t2,Ne.symm t3,Ne.symm t4,kq,h0',za4,eq_fr,ze7,anD]
  rw[opq_eq]
  simp -implicitDefEqProofs only[go_sem,mmB,hT,zb4,zb5,za9,za8,za6,za5,gdD,Nat.mul_one,Nat.add_zero,Nat.zero_add,eRn_0,eRn_3,eRn_4,eRn_5,eRn_6,eRn_7,eRn_len,nilc_p,n1,n2,n3,n4,Ne.symm n1,Ne.symm n2,Ne.symm n3,Ne.symm n4,n5,n6,p1,p2,p3,p4,Ne.symm p1,Ne.symm p2,Ne.symm p3,Ne.symm p4,n7,n8,n9,n10,t1,t2,t3,t4,Ne.symm t1,Ne.symm t2,Ne.symm t3,Ne.symm t4,kq,h0',za4,eq_fr,ze7,anD]
  by_cases hm2:(mergeF e.cs old f).1=old
  ·have hP:handP e.cs s a f=(s,0):=by unfold handP; rw[hff]; simp only; rw[if_neg (by omega),if_neg (by simpa using hm2)]
   rw[hP,show(!decide ((mergeF e.cs old f).1=old))=false by simp[hm2]]
   simp -implicitDefEqProofs only[go_sem,condM,br,Bool.false_eq_true,opq_eq,mk,hT,zb4,zb5,za9,za8,za6,za5,gdD,Nat.mul_one,Nat.add_zero,Nat.zero_add,eRn_0,eRn_3,eRn_4,eRn_5,eRn_6,eRn_7,eRn_len,nilc_p,n1,n2,n3,n4,Ne.symm n1,Ne.symm n2,Ne.symm n3,Ne.symm n4,n5,n6,p1,p2,p3,p4,Ne.symm p1,Ne.symm p2,Ne.symm p3,Ne.symm p4,n7,n8,n9,n10,t1,t2,t3,t4,Ne.symm t1,Ne.symm t2,Ne.symm t3,Ne.symm t4,kq,za4]
   exact⟨_,_,DLe.refl _,le_stR (by simp[St.set_box,n1,n2,n3,n4,Ne.symm n1,Ne.symm n2,Ne.symm n3,Ne.symm n4,n5,n6,p1,p2,p3,p4,Ne.symm p1,Ne.symm p2,Ne.symm p3,Ne.symm p4,n7,n8,n9,n10,t1,t2,t3,t4,Ne.symm t1,Ne.symm t2,Ne.symm t3,Ne.symm t4,kq]) (by simp[set_mp,kf]) (by simp[set_mp,kn]) (by simp only[set_mp]; rw[stR_t]),rfl,m,hm,rfl⟩
  ·have hP:handP e.cs s a f=(⟨fun x=>if x=a then some (mergeF e.cs old f).1 else s.ff x,fun x=>if x=a then some () else s.nn x,s.tt,s.wh⟩,0):=by unfold handP; rw[hff]; simp only; rw[if_neg (by omega),if_pos hm2]
   rw[hP,show(!decide ((mergeF e.cs old f).1=old))=true by simp[hm2]]
   obtain⟨kf',vf',cf',q1,q2⟩:=hm.f.set a (mergeF e.cs old f).1
   obtain⟨kn',vn',cn',q3,q4⟩:=hm.n.set a ()
   have q1':mset (some .i64) m.kf m.vf m.cf (kyN a) (.agg (eFr (mergeF e.cs old f).1))= .map (some .i64) kf' vf' cf':=q1
   have q3':mset (some .i64) m.kn m.vn m.cn (kyN a) (.agg [])= .map (some .i64) kn' vn' cn':=q3
   simp only[condM,br]
   rw[updA_map (k:=kyN a) mp143 kk3 keyD_int (by rw[set_mp,set_mp,set_mp,set_mp]; exact kf) rfl]
   simp -implicitDefEqProofs only[go_sem,mmB,hT,Nat.mul_one,Nat.add_zero,Nat.zero_add,n1,n2,n3,n4,Ne.symm n1,Ne.symm n2,Ne.symm n3,Ne.symm n4,n5,n6,p1,p2,p3,p4,Ne.symm p1,Ne.symm p2,Ne.symm p3,Ne.symm p4,n7,n8,n9,n10,t1,t2,t3,t4,Ne.symm t1,Ne.symm t2,Ne.symm t3,Ne.symm t4,frz,q1',hr.fn,hr.ft,hr.nt,Ne.symm hr.fn,kn,kq,bXhdB0]
   rw[updA_map (k:=kyN a) mp144 kk3 keyD_int (by rw[setM_mp,if_neg (Ne.symm hr.fn),set_mp,set_mp,set_mp,set_mp]; exact kn) rfl]
   simp -implicitDefEqProofs only[go_sem,opq_eq,hT,zb4,zb5,za9,za8,za6,za5,gdD,Nat.mul_one,Nat.add_zero,Nat.zero_add,eRn_0,eRn_3,eRn_4,eRn_5,eRn_6,eRn_7,eRn_len,nilc_p,n1,n2,n3,n4,Ne.symm n1,Ne.symm n2,Ne.symm n3,Ne.symm n4,frz,q3']
   have kt:=stR_t (r:=r) (e:=e) (b:=b) (m:=m) (wh:=s.wh)
   refine⟨_,_,DLe.refl _,le_stR (m:=⟨kf',vf',cf',kn',vn',cn',m.kt,m.vt,m.ct⟩) (wh:=s.wh) ?_ ?_ ?_ ?_,rfl,⟨kf',vf',cf',kn',vn',cn',m.kt,m.vt,m.ct⟩,⟨q2,q4,hm.t⟩,rfl⟩
   ·simp[setM_box,St.set_box,n1,n2,n3,n4,Ne.symm n1,Ne.symm n2,Ne.symm n3,Ne.symm n4,n5,n6,p1,p2,p3,p4,Ne.symm p1,Ne.symm p2,Ne.symm p3,Ne.symm p4,n7,n8,n9,n10,t1,t2,t3,t4,Ne.symm t1,Ne.symm t2,Ne.symm t3,Ne.symm t4,kq]
   ·simp[setM_mp,set_mp,hr.fn]
   ·simp[setM_mp,set_mp]
   ·simp[setM_mp,set_mp,Ne.symm hr.ft,Ne.symm hr.nt,kt]
end Go.AL
