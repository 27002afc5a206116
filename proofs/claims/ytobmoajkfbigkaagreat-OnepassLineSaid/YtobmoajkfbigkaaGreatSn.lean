import Derived.Test.YtobmoajkfbigkaaGreatSm
import Derived.Test.YtobmoajkfbigkaaGreatSh
set_option linter.unusedSimpArgs false
set_option linter.unusedVariables false
set_option maxRecDepth 100000
set_option maxHeartbeats 4000000
set_option linter.defProp false
namespace Go.AL
open Go.Proofs
theorem wantedAll_iff {l:List Cl} {tk had:List Ty} (hl:tk.length=had.length):wantedAll l tk had=true↔∀k,k<tk.length→wantedB l ((had[k]?).getD 0) ((tk[k]?).getD 0)=true:=by
 unfold wantedAll
 rw[List.all_eq_true]
 constructor
 ·intro h k hk
  have hk':k<had.length:=by omega
  rw[List.getElem?_eq_getElem hk,List.getElem?_eq_getElem hk']
  exact h (tk[k],had[k]) (by
   refine List.mem_of_getElem? (i:=k) ?_
   rw[List.getElem?_zip_eq_some]; simp[hk,hk'])
 ·intro h p hp
  obtain⟨k,hk⟩:=List.getElem?_of_mem hp
  rw[List.getElem?_zip_eq_some] at hk
  obtain⟨h1,h2⟩:=hk
  have:=h k (List.getElem?_eq_some_iff.1 h1).1
  rw[h1,h2] at this
  exact this
structure SubF (l:List Cl) (a b:Fr):Prop where
 ca:checkF l.length a=0
 cb:checkF l.length b=0
 loc:a.loc=b.loc
 h:a.h=b.h
 sl:∀i,i<24→subB l (slAt a i) (slAt b i)=true
theorem subFr_iff {l:List Cl} {a b:Fr}:subFr l a b=true↔SubF l a b:=by
 simp only[subFr,Bool.and_eq_true,decide_eq_true_eq,List.all_eq_true,List.mem_range]
 exact⟨fun⟨⟨h1,h2,h3,h4⟩,h5⟩=>⟨h1,h2,h3,h4,h5⟩,fun h=>⟨⟨h.ca,h.cb,h.loc,h.h⟩,h.sl⟩⟩
theorem had_mono {l:List Cl} {a b:Fr} (h:SubF l a b) {n:Nat} (hn:(n:Int)≤a.h) (k:Nat):subB l (((hadL a n)[k]?).getD 0) (((hadL b n)[k]?).getD 0)=true:=by
 obtain⟨s1,s2,s3,s4⟩:=shaped_of (checkF_shape h.ca)
 by_cases hk:k<n
 ·rw[hadL_at hk,hadL_at hk,←h.loc,←h.h]
  exact h.sl _ (by omega)
 ·rw[List.getElem?_eq_none (by rw[hadL_len]; omega),List.getElem?_eq_none (by rw[hadL_len]; omega)]
  exact subB_zero l
theorem head_mono {l:List Cl} {a b:Fr} (h:SubF l a b) {n:Nat} (hn:(n:Int)≤a.h):subB l ((hadL a n).headD 0) ((hadL b n).headD 0)=true:=by
 have e:∀L:List Ty,L.headD 0=(L[0]?).getD 0:=fun L=>by cases L <;> rfl
 rw[e,e]; exact had_mono h hn 0
theorem mono {e:En} {f g:Fr} {i:Ins} (hw:WideE e) (hd:Done e g i) (hs:SubF e.cs f g):Done e f i∧SubF e.cs (applyR e f i).1 (applyR e g i).1:=by
 obtain⟨s1,s2,s3,s4⟩:=shaped_of (checkF_shape hs.ca)
 have hloc:=hs.loc
 have hh:=hs.h
 have hun:((takesO e i i.op.val).length:Int)≤f.h:=by rw[hh]; exact hd.under
 have hl:i.op.val=4∨i.op.val=5→0≤i.a∧i.a<f.loc:=fun h=>by have:=hd.loc h; omega
 have h16:i.op.val=16→(takesO e i i.op.val).length=2:=fun h=>by rw[h]; rfl
 have df:Done e f i:=by
  refine⟨hd.can,hs.ca,hd.op,hl,hd.opnd,hun, ?_,fun h=> ?_,fun h=> ?_,by rw[hh]; exact hd.ret, ?_⟩
  ·rw[wantedAll_iff (by rw[hadL_len])]
   intro k hk
   have:=(wantedAll_iff (by rw[hadL_len])).1 hd.want k hk
   exact wanted_mono (had_mono hs hun k) this
  ·have h2:=h16 h
   rw[h2] at hun
   have:=hd.same h
   simp only[sameB,decide_eq_true_eq] at this ⊢
   obtain⟨t1,t2⟩:=this
   have e0:=small_mono (had_mono hs hun 0) t2
   have e1:=small_mono (had_mono hs hun 1) (by rw[←t1]; exact t2)
   rw[e0,e1]
   exact⟨t1,t2⟩
  ·have:=hl (.inl h)
   exact known_mono (hs.sl _ (by omega)) (hd.known h)
  ·have:=hd.over
   rw[givesR_len] at this ⊢
   omega
 refine⟨df,done_check hw df,done_check hw hd, ?_, ?_,fun k hk=> ?_⟩
 ·rw[(done_behind df).loc,(done_behind hd).loc,hloc]
 ·rw[(done_behind df).h,(done_behind hd).h,givesR_len,givesR_len,hh]
 ·rw[(done_behind df).sl k hk,(done_behind hd).sl k hk,hloc,hh]
  split
  ·split
   ·exact head_mono hs hun
   ·exact hs.sl k hk
  ·generalize k-(g.loc+g.h-(takesO e i i.op.val).length).toNat=j
   have hv:=givesR_valid hw df
   unfold givesR at hv ⊢
   split
   ·rename_i h4
    have:=hl (.inl h4)
    cases j with
    |zero=>exact hs.sl _ (by omega)
    |succ j=>simp only[List.getElem?_cons_succ,List.getElem?_nil,Option.getD_none]; exact subB_zero _
   rename_i n4
   rw[if_neg n4] at hv
   split
   ·match j with
    |0=>exact head_mono hs hun
    |1=>exact head_mono hs hun
    |j+2=>simp only[List.getElem?_cons_succ,List.getElem?_nil,Option.getD_none]; exact subB_zero _
   rename_i n7
   rw[if_neg n7] at hv
   split
   ·match j with
    |0=>exact had_mono hs hun 1
    |1=>exact head_mono hs hun
    |j+2=>simp only[List.getElem?_cons_succ,List.getElem?_nil,Option.getD_none]; exact subB_zero _
   rename_i n8
   rw[if_neg n8] at hv
   cases hg:(givesO e i i.op.val)[j]? with
   |none=>exact subB_zero _
   |some t=>exact subB_refl (hv t (List.mem_of_getElem? hg))
open Go.Proofs
def c21:CT (Tryz.f21.body.getD .skip):=⟨_,by conv=>lhs; cbv⟩
theorem F21:Fun1 Tryz.prog 21 13 c21.1 [.tmp 2]:=mkT Tryz.func21 rfl (by decide +kernel) Tryz.ntmps21 rfl c21.2 rfl
def c85:CT (Tryz.f85.body.getD .skip):=⟨_,by conv=>lhs; cbv⟩
theorem F85:Fun1 Tryz.prog 85 13 c85.1 [.tmp 2]:=mkT Tryz.func85 rfl (by decide +kernel) Tryz.ntmps85 rfl c85.2 rfl
open Go.Proofs
def c206:CT (Tryz.f206.body.getD .skip):=⟨_,by conv=>lhs; cbv⟩
theorem F206:Fun1 Tryz.prog 206 33 c206.1 [.tmp 6]:=mkT Tryz.func206 rfl (by decide +kernel) Tryz.ntmps206 rfl c206.2 rfl
def c171:CT (Tryz.f171.body.getD .skip):=⟨_,by conv=>lhs; cbv⟩
theorem F171:Fun1 Tryz.prog 171 28 c171.1 [.tmp 6]:=mkT Tryz.func171 rfl (by decide +kernel) Tryz.ntmps171 rfl c171.2 rfl
def c82:CT (Tryz.f82.body.getD .skip):=⟨_,by conv=>lhs; cbv⟩
theorem F82:Fun1 Tryz.prog 82 84 c82.1 [.cell 4 38,.tmp 5]:=mkT Tryz.func82 rfl (by decide +kernel) Tryz.ntmps82 rfl c82.2 rfl
def c127:CT (Tryz.f127.body.getD .skip):=⟨_,by conv=>lhs; cbv⟩
theorem F127:Fun1 Tryz.prog 127 30 c127.1 [.tmp 3]:=mkT Tryz.func127 rfl (by decide +kernel) Tryz.ntmps127 rfl c127.2 rfl
def c83:CT (Tryz.f83.body.getD .skip):=⟨_,by conv=>lhs; cbv⟩
theorem F83:Fun1 Tryz.prog 83 9 c83.1 [.tmp 2]:=mkT Tryz.func83 rfl (by decide +kernel) Tryz.ntmps83 rfl c83.2 rfl
def c19:CT (Tryz.f19.body.getD .skip):=⟨_,by conv=>lhs; cbv⟩
theorem F19:Fun1 Tryz.prog 19 73 c19.1 [.cell 4 38,.tmp 5]:=mkT Tryz.func19 rfl (by decide +kernel) Tryz.ntmps19 rfl c19.2 rfl
def c64:CT (Tryz.f64.body.getD .skip):=⟨_,by conv=>lhs; cbv⟩
theorem F64:Fun1 Tryz.prog 64 29 c64.1 [.tmp 4]:=mkT Tryz.func64 rfl (by decide +kernel) Tryz.ntmps64 rfl c64.2 rfl
def c22:CT (Tryz.f22.body.getD .skip):=⟨_,by conv=>lhs; cbv⟩
theorem F22:Fun1 Tryz.prog 22 9 c22.1 [.tmp 2]:=mkT Tryz.func22 rfl (by decide +kernel) Tryz.ntmps22 rfl c22.2 rfl
open Go.Proofs
def c108:CT (Tryz.f108.body.getD .skip):=⟨_,by conv=>lhs; cbv⟩
theorem F108:Fun1 Tryz.prog 108 17 c108.1 [.tmp 4]:=mkT Tryz.func108 rfl (by decide +kernel) Tryz.ntmps108 rfl c108.2 rfl
def c149:CT (Tryz.f149.body.getD .skip):=⟨_,by conv=>lhs; cbv⟩
theorem F149:Fun1 Tryz.prog 149 13 c149.1 [.tmp 2]:=mkT Tryz.func149 rfl (by decide +kernel) Tryz.ntmps149 rfl c149.2 rfl
def c134:CT (Tryz.f134.body.getD .skip):=⟨_,by conv=>lhs; cbv⟩
theorem F134:Fun1 Tryz.prog 134 52 c134.1 [.tmp 2,.tmp 3,.tmp 4]:=mkT Tryz.func134 rfl (by decide +kernel) Tryz.ntmps134 rfl c134.2 rfl
def c167:CT (Tryz.f167.body.getD .skip):=⟨_,by conv=>lhs; cbv⟩
theorem F167:Fun1 Tryz.prog 167 13 c167.1 [.tmp 2]:=mkT Tryz.func167 rfl (by decide +kernel) Tryz.ntmps167 rfl c167.2 rfl
def c135:CT (Tryz.f135.body.getD .skip):=⟨_,by conv=>lhs; cbv⟩
theorem F135:Fun1 Tryz.prog 135 19 c135.1 [.tmp 2]:=mkT Tryz.func135 rfl (by decide +kernel) Tryz.ntmps135 rfl c135.2 rfl
def c165:CT (Tryz.f165.body.getD .skip):=⟨_,by conv=>lhs; cbv⟩
theorem F165:Fun1 Tryz.prog 165 20 c165.1 [.tmp 4]:=mkT Tryz.func165 rfl (by decide +kernel) Tryz.ntmps165 rfl c165.2 rfl
def c204:CT (Tryz.f204.body.getD .skip):=⟨_,by conv=>lhs; cbv⟩
theorem F204:Fun1 Tryz.prog 204 13 c204.1 [.tmp 2]:=mkT Tryz.func204 rfl (by decide +kernel) Tryz.ntmps204 rfl c204.2 rfl
def c205:AC:=
.seq (rg [oO 2 (.alloc 86),oO 3 (.assign (kI 0)),oO 4 (.assign (kI 0))])
 (.seq (.reg true [0] [⟨⟨some 12,.build 86 #[],none⟩,false,true⟩,⟨⟨some 13,.move (tT 0),none⟩,true,true⟩,⟨⟨some 14,.nilCheck (tT 13),none⟩,true,true⟩,⟨⟨some 15,.fieldAddr 199 (tT 14) 0,none⟩,true,true⟩,⟨⟨some 16,.load 26 (tT 15),none⟩,true,true⟩,⟨⟨some 17,.move (tT 0),none⟩,true,true⟩,⟨⟨some 18,.nilCheck (tT 17),none⟩,true,true⟩,⟨⟨some 19,.fieldAddr 199 (tT 18) 1,none⟩,true,true⟩,⟨⟨some 20,.load 3 (tT 19),none⟩,true,true⟩,oO 5 (.alloc 86),oN (.store 86 (tT 5) (tT 12)),oO 6 (.assign (tT 16)),oO 7 (.assign (tT 20))])
 (.seq (.seq (rg [oO 21 (.move (tT 6)),oO 22 (cB .len #[tT 21] #[26]),oO 23 (.move (tT 7)),oO 24 (.binOp .sub 3 (tT 22) (tT 23) 3),oO 25 (.binOp .lss 3 (tT 24) (kI 2) 3)])
 (.cond (tT 25) (.seq (rg [oO 26 (.load 86 (tT 5)),oO 27 (.move (tT 6)),oO 28 (cB .len #[tT 27] #[26]),oN (.store 86 (tT 2) (tT 26)),oO 3 (.assign (tT 28)),oO 4 (.assign (kI 2))])
 (.ret))
 (.skip)))
 (.seq (rg [oO 29 (.move (tT 6)),oO 30 (.move (tT 7)),oO 31 (.slice 26 (tT 29) (some (tT 30)) none none),oO 32 (cF (.func 167) #[tT 31] #[26]),oO 33 (.build 86 #[(0,.tmp 32)]),oO 8 (.alloc 86),oN (.store 86 (tT 8) (tT 33))])
 (.seq (.seq (.reg true [] [⟨⟨some 34,.move (tT 0),none⟩,false,true⟩,⟨⟨some 35,.nilCheck (tT 34),none⟩,false,true⟩,⟨⟨some 36,.fieldAddr 199 (tT 35) 2,none⟩,false,true⟩,⟨⟨some 37,.load 3 (tT 36),none⟩,false,true⟩,oO 38 (.fieldAddr 86 (tT 8) 0),oO 39 (.load 3 (tT 38)),oO 40 (cF (.func 165) #[tT 37,tT 39] #[3,3]),oO 9 (.assign (tT 40))])
 (.seq (rg [oO 41 (.move (tT 9)),oO 42 (.binOp .neq 32 (tT 41) (kI 0) 32)])
 (.cond (tT 42) (.seq (rg [oO 43 (.load 86 (tT 5)),oO 44 (.move (tT 7)),oO 45 (.move (tT 9)),oN (.store 86 (tT 2) (tT 43)),oO 3 (.assign (tT 44)),oO 4 (.assign (tT 45))])
 (.ret))
 (.skip))))
 (.seq (rg [oO 46 (.move (tT 7)),oO 47 (.binOp .add 3 (tT 46) (kI 2) 3),oO 7 (.assign (tT 47))])
 (.seq (.seq (rg [oO 48 (.move (tT 7)),oO 49 (.move (tT 6)),oO 50 (cB .len #[tT 49] #[26]),oO 51 (.binOp .eql 3 (tT 48) (tT 50) 3)])
 (.cond (tT 51) (.seq (rg [oO 52 (.load 86 (tT 5)),oO 53 (.move (tT 7)),oN (.store 86 (tT 2) (tT 52)),oO 3 (.assign (tT 53)),oO 4 (.assign (kI 2))])
 (.ret))
 (.skip)))
 (.seq (.seq (rg [oO 54 (.move (tT 6)),oO 55 (.move (tT 7)),oO 56 (.indexAddr 26 (tT 54) (tT 55)),oO 57 (.load 5 (tT 56)),oO 58 (.binOp .gtr 5 (tT 57) (kB 1) 5)])
 (.cond (tT 58) (.seq (rg [oO 59 (.load 86 (tT 5)),oO 60 (.move (tT 7)),oN (.store 86 (tT 2) (tT 59)),oO 3 (.assign (tT 60)),oO 4 (.assign (kI 63))])
 (.ret))
 (.skip)))
 (.seq (.seq (rg [oO 61 (.move (tT 6)),oO 62 (.move (tT 7)),oO 63 (.indexAddr 26 (tT 61) (tT 62)),oO 64 (.load 5 (tT 63)),oO 65 (.binOp .eql 5 (tT 64) (kB 0) 5)])
 (.cond (tT 65) (.seq (rg [oO 66 (.fieldAddr 86 (tT 8) 1),oN (.store 4 (tT 66) (.const (.bool true)))])
 (.seq (rg [oO 67 (.load 86 (tT 8)),oO 68 (.move (tT 7)),oO 69 (.binOp .add 3 (tT 68) (kI 1) 3),oN (.store 86 (tT 2) (tT 67)),oO 3 (.assign (tT 69)),oO 4 (.assign (kI 0))])
 (.ret)))
 (.skip)))
 (.seq (rg [oO 70 (.move (tT 7)),oO 71 (.binOp .add 3 (tT 70) (kI 1) 3),oO 7 (.assign (tT 71))])
 (.seq (.seq (rg [oO 72 (.move (tT 7)),oO 73 (.move (tT 6)),oO 74 (cB .len #[tT 73] #[26]),oO 75 (.binOp .eql 3 (tT 72) (tT 74) 3)])
 (.cond (tT 75) (.seq (rg [oO 76 (.load 86 (tT 5)),oO 77 (.move (tT 7)),oN (.store 86 (tT 2) (tT 76)),oO 3 (.assign (tT 77)),oO 4 (.assign (kI 2))])
 (.ret))
 (.skip)))
 (.seq (.seq (.reg true [6] [⟨⟨some 78,.move (tT 6),none⟩,false,true⟩,⟨⟨some 79,.indexAddr 26 (tT 78) (kI 3),none⟩,false,true⟩,⟨⟨some 80,.load 5 (tT 79),none⟩,false,true⟩,⟨⟨some 81,.convert 5 3 (tT 80),none⟩,false,true⟩,⟨⟨some 82,.move (tT 6),none⟩,true,true⟩,⟨⟨some 83,.move (tT 7),none⟩,true,true⟩,⟨⟨some 84,.indexAddr 26 (tT 82) (tT 83),none⟩,true,true⟩,⟨⟨some 85,.load 5 (tT 84),none⟩,true,true⟩,⟨⟨some 86,.convert 5 3 (tT 85),none⟩,true,true⟩,oO 87 (.fieldAddr 86 (tT 8) 2),oO 88 (.fieldAddr 84 (tT 87) 0),oN (.store 3 (tT 88) (tT 81))])
 (rg [oO 89 (.fieldAddr 86 (tT 8) 2),oO 90 (.fieldAddr 84 (tT 89) 1),oN (.store 3 (tT 90) (tT 86))]))
 (.seq (rg [oO 91 (.fieldAddr 86 (tT 8) 2),oO 92 (.fieldAddr 84 (tT 91) 0),oO 93 (.load 3 (tT 92)),oO 94 (.fieldAddr 86 (tT 8) 2),oO 95 (.fieldAddr 84 (tT 94) 1),oO 96 (.load 3 (tT 95)),oO 97 (.binOp .add 3 (tT 93) (tT 96) 3),oO 10 (.assign (tT 97))])
 (.seq (.seq (rg [oO 98 (.move (tT 10)),oO 99 (.binOp .gtr 3 (tT 98) (kI 24) 3)])
 (.cond (tT 99) (.seq (rg [oO 100 (.load 86 (tT 5)),oO 101 (.move (tT 7)),oN (.store 86 (tT 2) (tT 100)),oO 3 (.assign (tT 101)),oO 4 (.assign (kI 65))])
 (.ret))
 (.skip)))
 (.seq (rg [oO 102 (.move (tT 7)),oO 103 (.binOp .add 3 (tT 102) (kI 1) 3),oO 7 (.assign (tT 103))])
 (.seq (.seq (rg [oO 104 (.move (tT 10)),oO 105 (.move (kI 0))])
 (.block 0 (.loop (.seq (rg [oO 106 (.binOp .lss 3 (tT 105) (tT 104) 3)])
 (.seq (.cond (tT 106) (.skip)
 (.exit 0))
 (.seq (.block 1 (.seq (rg [oO 107 (.move (tT 105)),oO 11 (.assign (tT 107))])
 (.seq (.seq (rg [oO 108 (.move (tT 7)),oO 109 (.move (tT 6)),oO 110 (cB .len #[tT 109] #[26]),oO 111 (.binOp .eql 3 (tT 108) (tT 110) 3)])
 (.cond (tT 111) (.seq (rg [oO 112 (.load 86 (tT 5)),oO 113 (.move (tT 7)),oN (.store 86 (tT 2) (tT 112)),oO 3 (.assign (tT 113)),oO 4 (.assign (kI 2))])
 (.ret))
 (.skip)))
 (.seq (.seq (rg [oO 114 (.move (tT 6)),oO 115 (.move (tT 7)),oO 116 (.indexAddr 26 (tT 114) (tT 115)),oO 117 (.load 5 (tT 116)),oO 118 (cF (.func 204) #[tT 117] #[81]),oO 119 (.unOp .not 4 (tT 118))])
 (.cond (tT 119) (.seq (rg [oO 120 (.load 86 (tT 5)),oO 121 (.move (tT 7)),oN (.store 86 (tT 2) (tT 120)),oO 3 (.assign (tT 121)),oO 4 (.assign (kI 62))])
 (.ret))
 (.skip)))
 (.seq (rg [oO 122 (.move (tT 11)),oO 123 (.move (tT 6)),oO 124 (.move (tT 7)),oO 125 (.indexAddr 26 (tT 123) (tT 124)),oO 126 (.load 5 (tT 125)),oO 127 (.fieldAddr 86 (tT 8) 2),oO 128 (.fieldAddr 84 (tT 127) 2),oO 129 (.indexAddr 82 (tT 128) (tT 122)),oN (.store 81 (tT 129) (tT 126))])
 (rg [oO 130 (.move (tT 7)),oO 131 (.binOp .add 3 (tT 130) (kI 1) 3),oO 7 (.assign (tT 131))]))))))
 (rg [oO 132 (.binOp .add 3 (tT 105) (kI 1) 3),oO 105 (.move (tT 132))])))))))
 (.seq (rg [oO 133 (.load 86 (tT 8)),oO 134 (.move (tT 7)),oN (.store 86 (tT 2) (tT 133)),oO 3 (.assign (tT 134)),oO 4 (.assign (kI 0))])
 .ret))))))))))))))))
theorem F205:Fun1 Tryz.prog 205 135 c205 [.cell 2 86,.tmp 3,.tmp 4]:=mkT Tryz.func205 rfl (by decide +kernel) Tryz.ntmps205 rfl (by kernel_rfl) rfl
def c169:CT (Tryz.f169.body.getD .skip):=⟨_,by conv=>lhs; cbv⟩
theorem F169:Fun1 Tryz.prog 169 107 c169.1 [.cell 2 86,.tmp 3,.tmp 4]:=mkT Tryz.func169 rfl (by decide +kernel) Tryz.ntmps169 rfl c169.2 rfl
def c136:CT (Tryz.f136.body.getD .skip):=⟨_,by conv=>lhs; cbv⟩
theorem F136:Fun1 Tryz.prog 136 4 c136.1 [.tmp 2]:=mkT Tryz.func136 rfl (by decide +kernel) Tryz.ntmps136 rfl c136.2 rfl
open Go.Proofs
def c94:CT (Tryz.f94.body.getD .skip):=⟨_,by conv=>lhs; cbv⟩
def c93:CT (Tryz.f93.body.getD .skip):=⟨_,by conv=>lhs; cbv⟩
theorem F93:Fun1 Tryz.prog 93 8 c93.1 []:=mkT Tryz.func93 rfl (by decide +kernel) Tryz.ntmps93 rfl c93.2 rfl
def c95:CT (Tryz.f95.body.getD .skip):=⟨_,by conv=>lhs; cbv⟩
theorem F95:Fun1 Tryz.prog 95 9 c95.1 []:=mkT Tryz.func95 rfl (by decide +kernel) Tryz.ntmps95 rfl c95.2 rfl
def c53:CT (Tryz.f53.body.getD .skip):=⟨_,by conv=>lhs; cbv⟩
theorem F53:Fun1 Tryz.prog 53 87 c53.1 [.tmp 8]:=mkT Tryz.func53 rfl (by decide +kernel) Tryz.ntmps53 rfl c53.2 rfl
def c55:CT (Tryz.f55.body.getD .skip):=⟨_,by conv=>lhs; cbv⟩
theorem F55:Fun1 Tryz.prog 55 43 c55.1 []:=mkT Tryz.func55 rfl (by decide +kernel) Tryz.ntmps55 rfl c55.2 rfl
def c98:CT (Tryz.f98.body.getD .skip):=⟨_,by conv=>lhs; cbv⟩
theorem F98:Fun1 Tryz.prog 98 109 c98.1 [.tmp 4]:=mkT Tryz.func98 rfl (by decide +kernel) Tryz.ntmps98 rfl c98.2 rfl
def c99:CT (Tryz.f99.body.getD .skip):=⟨_,by conv=>lhs; cbv⟩
theorem F99:Fun1 Tryz.prog 99 114 c99.1 [.tmp 4]:=mkT Tryz.func99 rfl (by decide +kernel) Tryz.ntmps99 rfl c99.2 rfl
def c141:CT (Tryz.f141.body.getD .skip):=⟨_,by conv=>lhs; cbv⟩
theorem F141:Fun1 Tryz.prog 141 61 c141.1 [.cell 4 86,.tmp 5]:=mkT Tryz.func141 rfl (by decide +kernel) Tryz.ntmps141 rfl c141.2 rfl
def c142:CT (Tryz.f142.body.getD .skip):=⟨_,by conv=>lhs; cbv⟩
theorem F142:Fun1 Tryz.prog 142 28 c142.1 []:=mkT Tryz.func142 rfl (by decide +kernel) Tryz.ntmps142 rfl c142.2 rfl
def c143:CT (Tryz.f143.body.getD .skip):=⟨_,by conv=>lhs; cbv⟩
theorem F143:Fun1 Tryz.prog 143 62 c143.1 [.cell 4 38]:=mkT Tryz.func143 rfl (by decide +kernel) Tryz.ntmps143 rfl c143.2 rfl
def c145:CT (Tryz.f145.body.getD .skip):=⟨_,by conv=>lhs; cbv⟩
theorem F145:Fun1 Tryz.prog 145 46 c145.1 []:=mkT Tryz.func145 rfl (by decide +kernel) Tryz.ntmps145 rfl c145.2 rfl
open Go.Proofs
def c51:CT (Tryz.f51.body.getD .skip):=⟨_,by conv=>lhs; cbv⟩
def c92:CT (Tryz.f92.body.getD .skip):=⟨_,by conv=>lhs; cbv⟩
def c52:CT (Tryz.f52.body.getD .skip):=⟨_,by conv=>lhs; cbv⟩
theorem F52:Fun1 Tryz.prog 52 22 c52.1 []:=mkT Tryz.func52 rfl (by decide +kernel) Tryz.ntmps52 rfl c52.2 rfl
def c54:CT (Tryz.f54.body.getD .skip):=⟨_,by conv=>lhs; cbv⟩
theorem F54:Fun1 Tryz.prog 54 8 c54.1 [.tmp 3]:=mkT Tryz.func54 rfl (by decide +kernel) Tryz.ntmps54 rfl c54.2 rfl
def c15:CT (Tryz.f15.body.getD .skip):=⟨_,by conv=>lhs; cbv⟩
theorem F15:Fun1 Tryz.prog 15 22 c15.1 [.cell 8 31,.tmp 9,.tmp 10]:=mkT Tryz.func15 rfl (by decide +kernel) Tryz.ntmps15 rfl c15.2 rfl
open Go.Proofs
def c17:CT (Tryz.f17.body.getD .skip):=⟨_,by conv=>lhs; cbv⟩
theorem F17:Fun1 Tryz.prog 17 8 c17.1 [.tmp 2]:=mkT Tryz.func17 rfl (by decide +kernel) Tryz.ntmps17 rfl c17.2 rfl
open Go.Proofs
open Go.Proofs
open Go.Proofs
open Go.Proofs
open Go.Proofs
def c186:CT (Tryz.f186.body.getD .skip):=⟨_,by conv=>lhs; cbv⟩
theorem F186:Fun1 Tryz.prog 186 41 c186.1 [.tmp 6]:=mkT Tryz.func186 rfl (by decide +kernel) Tryz.ntmps186 rfl c186.2 rfl
def c219:CT (Tryz.f219.body.getD .skip):=⟨_,by conv=>lhs; cbv⟩
theorem F219:Fun1 Tryz.prog 219 19 c219.1 [.tmp 2]:=mkT Tryz.func219 rfl (by decide +kernel) Tryz.ntmps219 rfl c219.2 rfl
def c151:CT (Tryz.f151.body.getD .skip):=⟨_,by conv=>lhs; cbv⟩
theorem F151:Fun1 Tryz.prog 151 61 c151.1 [.cell 6 84,.tmp 7]:=mkT Tryz.func151 rfl (by decide +kernel) Tryz.ntmps151 rfl c151.2 rfl
open Go.Proofs
def mergeT (l:List Cl) (a b:Ty):Ty:=
 if validN l.length a=false∨validN l.length b=false then 0
 else if subB l a b=true then b
 else if subB l b a=true then a
 else if isRefB a=false∨isRefB b=false then 0
 else match (upI l (clsOf l.length a)).find? fun k:Nat=>(upI l (clsOf l.length b)).any fun j=>decide ((j:Int)=(k:Int)) with
  |some k=>ofClass k
  |none=>5
theorem up_le {l:List Cl}:∀(n:Nat) (c:Int),c<n→∀k∈upI l c,(k:Int)≤c∧k<l.length
 |0,c,h,k,hk=>by rw[upI_neg (by omega)] at hk; cases hk
 |n+1,c,h,k,hk=>by
  by_cases h0:c<0
  ·rw[upI_neg h0] at hk; cases hk
  by_cases h1:(l.length:Int)≤c
  ·rw[upI_out h1] at hk; cases hk
  obtain⟨c,rfl⟩:∃c':Nat,c=c':=⟨c.toNat,by omega⟩
  have hc:c<l.length:=by omega
  rw[upI_step hc] at hk
  rcases List.mem_cons.1 hk with rfl|hk
  ·exact⟨by omega,hc⟩
  ·split at hk
   ·rename_i hp
    obtain⟨h2,h3⟩:=up_le n l[c].parent (by omega) k hk
    exact⟨by omega,h3⟩
   ·cases hk
theorem up_mem {l:List Cl} {c:Int} {k:Nat} (hk:k∈upI l c):(k:Int)≤c∧k<l.length:=up_le (c.toNat+1) c (by omega) k hk
theorem up_self {l:List Cl} {c:Nat} (h:c<l.length):c∈upI l (c:Int):=by rw[upI_step h]; exact List.mem_cons_self
theorem up_chain {l:List Cl}:∀(n:Nat) (c:Int),c<n→(upI l c).Pairwise fun x y:Nat=>y∈upI l (x:Int)
 |0,c,h=>by rw[upI_neg (by omega)]; exact List.Pairwise.nil
 |n+1,c,h=>by
  by_cases h0:c<0
  ·rw[upI_neg h0]; exact List.Pairwise.nil
  by_cases h1:(l.length:Int)≤c
  ·rw[upI_out h1]; exact List.Pairwise.nil
  obtain⟨c,rfl⟩:∃c':Nat,c=c':=⟨c.toNat,by omega⟩
  have hc:c<l.length:=by omega
  rw[upI_step hc]
  split
  ·rename_i hp
   refine List.pairwise_cons.2 ⟨fun y hy=> ?_,up_chain n l[c].parent (by omega)⟩
   rw[upI_step hc,if_pos hp]; exact List.mem_cons_of_mem _ hy
  ·exact List.pairwise_cons.2 ⟨fun y hy=>(by cases hy),List.Pairwise.nil⟩
theorem find_up {l:List Cl} {c:Int} {p:Nat→Bool} {k:Nat} (h:(upI l c).find? p=some k):k∈upI l c∧p k=true∧∀j∈upI l c,p j=true→j∈upI l (k:Int):=by
 refine⟨List.mem_of_find?_eq_some h,List.find?_some h,fun j hj hp=> ?_⟩
 have hch:=up_chain (l:=l) (c.toNat+1) c (by omega)
 have hk:=up_mem (List.mem_of_find?_eq_some h)
 generalize upI l c=L at *
 induction L with
 |nil=>cases hj
 |cons x L ih=>
  rw[List.find?_cons] at h
  obtain⟨h1,h2⟩:=List.pairwise_cons.1 hch
  cases hx:p x
  ·rw[hx] at h
   rcases List.mem_cons.1 hj with rfl|hj
   ·rw[hx] at hp; cases hp
   ·exact ih h hj h2
  ·rw[hx] at h
   cases h
   rcases List.mem_cons.1 hj with rfl|hj
   ·exact up_self hk.2
   ·exact h1 j hj
theorem subB_antisymm {l:List Cl} {a b:Ty} (h1:subB l a b=true) (h2:subB l b a=true):a=b:=by
 obtain⟨ha,hb⟩:=subB_valid h1
 rw[subB_iff ha hb] at h1
 rw[subB_iff hb ha] at h2
 simp only[SubP,isRef_iff] at h1 h2
 rcases h1 with h1|h1|⟨h1,h3,h4⟩|⟨h1,h3,h4⟩
 ·exact h1
 ·rcases h2 with h2|h2|⟨h2,h5,h6⟩|⟨h2,h5,h6⟩
  ·exact h2.symm
  ·exact Fin.ext (by omega)
  ·omega
  ·omega
 ·rcases h2 with h2|h2|⟨h2,h5,h6⟩|⟨h2,h5,h6⟩
  ·exact h2.symm
  ·omega
  ·exact Fin.ext (by omega)
  ·have:=(up_mem h6).1; omega
 ·rcases h2 with h2|h2|⟨h2,h5,h6⟩|⟨h2,h5,h6⟩
  ·exact h2.symm
  ·omega
  ·omega
  ·have:=(up_mem h4).1
   have:=(up_mem h6).1
   exact Fin.ext (by omega)
theorem ofClass_val {k:Nat} (h:k<240):(ofClass (k:Int)).val=16+k:=by
 show(16+((k:Int)).toNat)%256=_
 rw[Int.toNat_natCast]; omega
theorem valid_0 (n:Nat):validN n 0=true:=by simp[validN]
theorem valid_5 (n:Nat):validN n 5=true:=decide_eq_true (.inl (by decide))
theorem sub_top {l:List Cl} {a:Ty} (h:validN l.length a=true):subB l a 0=true:=(subB_iff h (valid_0 _)).2 (.inr (.inl rfl))
theorem merge_up {l:List Cl} {a b:Ty} (ha:validN l.length a=true) (hb:validN l.length b=true):subB l a (mergeT l a b)=true∧subB l b (mergeT l a b)=true∧∀t,subB l a t=true→subB l b t=true→subB l (mergeT l a b) t=true:=by
 unfold mergeT
 rw[if_neg (by simp[ha,hb])]
 by_cases h1:subB l a b=true
 ·rw[if_pos h1]; exact⟨h1,subB_refl hb,fun t _ h=>h⟩
 rw[if_neg h1]
 by_cases h2:subB l b a=true
 ·rw[if_pos h2]; exact⟨subB_refl ha,h2,fun t h _=>h⟩
 rw[if_neg h2]
 have n1:¬SubP l a b:=fun h=>h1 ((subB_iff ha hb).2 h)
 have n2:¬SubP l b a:=fun h=>h2 ((subB_iff hb ha).2 h)
 by_cases h3:isRefB a=false∨isRefB b=false
 ·rw[if_pos h3]
  refine⟨sub_top ha,sub_top hb,fun t h4 h5=> ?_⟩
  have ht:=(subB_valid h4).2
  rw[subB_iff ha ht] at h4
  rw[subB_iff hb ht] at h5
  have h3':¬(isRefB a=true∧isRefB b=true):=by rcases h3 with h|h <;> simp[h]
  have:t=0:=by
   simp only[SubP] at h4 h5 n1 n2
   simp only[isRef_iff] at h3' h4 h5 n1 n2
   rcases h4 with rfl|h4|⟨h4,h6,h7⟩|⟨h4,h6,h7⟩
   ·exact absurd h5 n2
   ·exact Fin.ext h4
   ·rcases h5 with rfl|h5|⟨h5,h8,h9⟩|⟨h5,h8,h9⟩
    ·exact absurd (.inr (.inr (.inl ⟨h4,h6,h7⟩))) n1
    ·exact Fin.ext h5
    ·omega
    ·omega
   ·rcases h5 with rfl|h5|⟨h5,h8,h9⟩|⟨h5,h8,h9⟩
    ·exact absurd (.inr (.inr (.inr ⟨h4,h6,h7⟩))) n1
    ·exact Fin.ext h5
    ·omega
    ·omega
  rw[this]; exact sub_top (valid_0 _)
 rw[if_neg h3]
 have hra:isRefB a=true:=by simp only[not_or,Bool.not_eq_false] at h3; exact h3.1
 have hrb:isRefB b=true:=by simp only[not_or,Bool.not_eq_false] at h3; exact h3.2
 have v5:=valid_5 l.length
 have hany:isRefB 5=true:=rfl
 have top5:∀t:Ty,t.val=0→subB l 5 t=true:=fun t ht=>(subB_iff v5 (by simp[validN,ht])).2 (.inr (.inl ht))
 have any5:∀t:Ty,t.val=5→subB l 5 t=true:=fun t ht=>by
  have:t=5:=Fin.ext ht
  rw[this]; exact subB_refl v5
 have nb:a.val≠3∧b.val≠3∧a≠b:=by
  refine⟨fun h=>n1 (.inr (.inr (.inl ⟨.inl h,hra,hrb⟩))),fun h=>n2 (.inr (.inr (.inl ⟨.inl h,hrb,hra⟩))),fun h=>n1 (.inl h)⟩
 have both:∀t,subB l a t=true→subB l b t=true→t.val=0∨t.val=5∨(16≤a.val∧16≤b.val∧16≤t.val∧(t.val-16)∈upI l ((a.val:Int)-16)∧(t.val-16)∈upI l ((b.val:Int)-16)):=fun t h4 h5=>by
  have ht:=(subB_valid h4).2
  rw[subB_iff ha ht] at h4
  rw[subB_iff hb ht] at h5
  rcases h4 with rfl|h4|⟨h4,h6,h7⟩|⟨h4,h6,h7⟩
  ·exact absurd h5 n2
  ·exact .inl h4
  ·have:=nb.1
   exact .inr (.inl (by omega))
  ·rcases h5 with rfl|h5|⟨h5,h8,h9⟩|⟨h5,h8,h9⟩
   ·exact absurd (.inr (.inr (.inr ⟨h4,h6,h7⟩))) n1
   ·exact .inl h5
   ·have:=nb.2.1
    exact .inr (.inl (by omega))
   ·exact .inr (.inr ⟨h4,h5,h6,h7,h9⟩)
 cases hf:(upI l (clsOf l.length a)).find? fun k:Nat=>(upI l (clsOf l.length b)).any fun j=>decide ((j:Int)=(k:Int)) with
 |none=>
  simp only
  refine⟨(subB_iff ha v5).2 (.inr (.inr (.inl ⟨.inr rfl,hra,hany⟩))),(subB_iff hb v5).2 (.inr (.inr (.inl ⟨.inr rfl,hrb,hany⟩))),fun t h4 h5=> ?_⟩
  rcases both t h4 h5 with h|h|⟨h6,h7,h8,h9,h10⟩
  ·exact top5 t h
  ·exact any5 t h
  ·exfalso
   have:=List.find?_eq_none.1 hf (t.val-16) (by rw[clsOf_val ha h6]; exact h9)
   apply this
   rw[List.any_eq_true]
   exact⟨t.val-16,by rw[clsOf_val hb h7]; exact h10,by simp⟩
 |some k=>
  simp only
  obtain⟨m1,m2,m3⟩:=find_up hf
  have h16:16≤a.val:=by
   by_cases h:16≤a.val
   ·exact h
   ·rw[clsOf_no h,upI_neg (by omega)] at m1; cases m1
  rw[clsOf_val ha h16] at m1 m3
  rw[List.any_eq_true] at m2
  obtain⟨j,hj,hd⟩:=m2
  have hjk:j=k:=by simp at hd; omega
  subst hjk
  have h16b:16≤b.val:=by
   by_cases h:16≤b.val
   ·exact h
   ·rw[clsOf_no h,upI_neg (by omega)] at hj; cases hj
  have hk:=up_mem m1
  have hlt:j<240:=by have:=a.isLt; omega
  have hv:=ofClass_val hlt
  have hvalid:validN l.length (ofClass (j:Int))=true:=by simp only[validN,decide_eq_true_eq,hv]; omega
  rw[clsOf_val hb h16b] at hj
  refine⟨(subB_iff ha hvalid).2 (.inr (.inr (.inr ⟨h16,by omega,by rw[hv,show 16+j-16=j by omega]; exact m1⟩))),(subB_iff hb hvalid).2 (.inr (.inr (.inr ⟨h16b,by omega,by rw[hv,show 16+j-16=j by omega]; exact hj⟩))),fun t h4 h5=> ?_⟩
  have ht:=(subB_valid h4).2
  rcases both t h4 h5 with h|h|⟨h6,h7,h8,h9,h10⟩
  ·exact(subB_iff hvalid ht).2 (.inr (.inl h))
  ·exact(subB_iff hvalid ht).2 (.inr (.inr (.inl ⟨.inr h,by rw[isRef_iff]; omega,by rw[isRef_iff]; omega⟩)))
  ·refine(subB_iff hvalid ht).2 (.inr (.inr (.inr ⟨by omega,h8, ?_⟩)))
   rw[hv,show((16+j:Nat):Int)-16=(j:Int) by omega]
   refine m3 _ h9 ?_
   rw[List.any_eq_true]
   exact⟨t.val-16,by rw[clsOf_val hb h16b]; exact h10,by simp⟩
theorem merge_valid {l:List Cl} (a b:Ty):validN l.length (mergeT l a b)=true:=by
 by_cases h:validN l.length a=true∧validN l.length b=true
 ·exact(subB_valid (merge_up h.1 h.2).1).2
 ·unfold mergeT
  rw[if_pos (by cases ha:validN l.length a <;> cases hb:validN l.length b <;> simp_all)]
  exact valid_0 _
open Go.Proofs
open Go.Proofs
def tyN (i:Nat):Ty:=Fin.ofNat 256 i
theorem tyN_val {i:Nat} (h:i<256):(tyN i).val=i:=Nat.mod_eq_of_lt h
def allT (n i:Nat):List Ty:=((List.range i).map tyN).filter (validN n)
theorem allT_succ (n i:Nat):allT n (i+1)=allT n i++(if validN n (tyN i)=true then [tyN i] else []):=by
 unfold allT
 rw[List.range_succ,List.map_append,List.filter_append]
 congr 1
 simp only[List.map_cons,List.map_nil,List.filter_cons,List.filter_nil]
theorem allT_len (n i:Nat):(allT n i).length≤i:=by
 unfold allT
 refine Nat.le_trans (List.length_filter_le _ _) ?_
 simp
theorem all219 (l:List Cl) (o:Own):PCall Tryz.prog 219 [.slice o (rws eC l)] (.slice .no (rws eT (allT l.length 256))):=by
 refine F219.pcall' rfl fun T hT=> ?_
 simp -implicitDefEqProofs only[go_sem,c219,hT]
 refine loopL F219 (fun x:Nat×Option Nat=>[(0,.slice o (rws eC l)),(4,.int .i64 x.1),(3,grD 1 x.2 (rws eT (allT l.length x.1)))]) (fun x=>grS 1 (allT l.length x.1).length x.2 {}) (fun x=>x.1≤256∧(x.2=none→(allT l.length x.1).length=0)) (fun x=>256-x.1) (0,none)
  ⟨Nat.zero_le _,fun _=>rfl⟩ ?_ (St.le.refl _) ?_
 ·simp -implicitDefEqProofs only[go_sem,hT,Int.ofNat_zero]
  rfl
 clear hT T
 rintro⟨i,ob⟩ ⟨hi,hok⟩ T hT
 simp only at hi hok hT ⊢
 by_cases h:i<256
 ·have h1:((i:Int)<256)=True:=by simp; omega
  have hv:=tyN_val h
  have hw:IntKind.wrap .u8 (i:Int)=((tyN i).val:Int):=by
   rw[hv]; simp only[IntKind.wrap,IntKind.bits,IntKind.signed]; simp; omega
  have hlen:=allT_len l.length i
  have hnext:IntKind.wrap .i64 ((i:Int)+1)=((i+1:Nat):Int):=by rw[zc1 (by omega) (by omega)]; simp
  simp -implicitDefEqProofs only[go_sem,hT,h1,hw]
  refine za3 (refValid87 l o (tyN i)) ?_
  cases hva:validN l.length (tyN i)
  ·simp -implicitDefEqProofs only[go_sem,hT,hnext]
   have hs:allT l.length (i+1)=allT l.length i:=by rw[allT_succ,hva]; simp
   exact⟨(i+1,ob),⟨by omega,by rw[hs]; exact hok⟩,by omega,⟨rfl,by rw[hs]⟩,by simp only; rw[hs]; exact St.le.refl _⟩
  ·simp -implicitDefEqProofs only[go_sem,hT,hw,frz]
   refine app_gr' Tryz.sli93 Tryz.sz81 Tryz.by81 Tryz.zero81 rfl (n:=(allT l.length i).length) (m:=1) (base:={}) (by rw[za0]) rfl (St.le.refl _) grN_nil hok (by simp) (by omega) fun o' σ' hbox hle _ hno=> ?_
   have hs:allT l.length (i+1)=allT l.length i++[tyN i]:=by rw[allT_succ,hva]; simp
   have hl2:(allT l.length (i+1)).length=(allT l.length i).length+1:=by rw[hs]; simp
   simp -implicitDefEqProofs only[go_sem,hT,hnext]
   refine⟨(i+1,o'),⟨by omega,fun h=>absurd (hno h) (by omega)⟩,by omega,⟨rfl, ?_⟩,by simp only; rw[hl2]; exact hle⟩
   rw[hs]; simp[rws,eT]
 ·have h1:((i:Int)<256)=False:=by simp; omega
  obtain rfl:i=256:=by omega
  simp -implicitDefEqProofs only[go_sem,hT,h1]
  exact grD_le
def bestT (l:List Cl) (a b:Ty) (L:List Ty):Ty:=L.foldl (fun best t=>if subB l a t=true∧subB l b t=true∧subB l t best=true then t else best) 0
theorem best_snoc (l:List Cl) (a b t:Ty) (L:List Ty):bestT l a b (L++[t])=if subB l a t=true∧subB l b t=true∧subB l t (bestT l a b L)=true then t else bestT l a b L:=by
 unfold bestT; rw[List.foldl_append]; rfl
theorem best_both {l:List Cl} {a b:Ty} (ha:validN l.length a=true) (hb:validN l.length b=true):∀n:Nat,∀L:List Ty,L.length=n→subB l a (bestT l a b L)=true∧subB l b (bestT l a b L)=true
 |0,L,h=>by obtain rfl:=List.eq_nil_of_length_eq_zero h; exact⟨sub_top ha,sub_top hb⟩
 |n+1,L,h=>by
  have hne:L≠[]:=fun h0=>by rw[h0] at h; cases h
  obtain⟨L',t,rfl⟩:∃L' t,L=L'++[t]:=⟨_,_,(List.dropLast_concat_getLast hne).symm⟩
  have ih:=best_both ha hb n L' (by simpa using h)
  rw[best_snoc]
  split
  ·rename_i hc; exact⟨hc.1,hc.2.1⟩
  ·exact ih
theorem best_merge {l:List Cl} {a b:Ty} (ha:validN l.length a=true) (hb:validN l.length b=true):∀n:Nat,∀L:List Ty,L.length=n→mergeT l a b∈L→bestT l a b L=mergeT l a b
 |0,L,h,hm=>by obtain rfl:=List.eq_nil_of_length_eq_zero h; cases hm
 |n+1,L,h,hm=>by
  have hne:L≠[]:=fun h0=>by rw[h0] at h; cases h
  obtain⟨L',t,rfl⟩:∃L' t,L=L'++[t]:=⟨_,_,(List.dropLast_concat_getLast hne).symm⟩
  obtain⟨m1,m2,m3⟩:=merge_up (l:=l) ha hb
  have hl:L'.length=n:=by simpa using h
  obtain⟨b1,b2⟩:=best_both ha hb n L' hl
  rw[best_snoc]
  split
  ·rename_i hc
   have h1:=m3 t hc.1 hc.2.1
   by_cases hin:mergeT l a b∈L'
   ·rw[best_merge ha hb n L' hl hin] at hc
    exact subB_antisymm hc.2.2 h1
   ·rcases List.mem_append.1 hm with h2|h2
    ·exact absurd h2 hin
    ·simp at h2; exact h2.symm
  ·rename_i hc
   by_cases hin:mergeT l a b∈L'
   ·exact best_merge ha hb n L' hl hin
   ·rcases List.mem_append.1 hm with h2|h2
    ·exact absurd h2 hin
    ·simp at h2
     exfalso; apply hc
     rw[←h2]
     exact⟨m1,m2,m3 _ b1 b2⟩
theorem best_none {l:List Cl} {a b:Ty} (h:validN l.length a=false∨validN l.length b=false) (L:List Ty):bestT l a b L=0:=by
 unfold bestT
 have hs:∀t,¬(subB l a t=true∧subB l b t=true):=fun t ⟨h1,h2⟩=>by
  rcases h with h|h
  ·rw[(subB_valid h1).1] at h; cases h
  ·rw[(subB_valid h2).1] at h; cases h
 induction L with
 |nil=>rfl
 |cons t L ih=>
  rw[List.foldl_cons,if_neg (fun hc=>hs t ⟨hc.1,hc.2.1⟩)]
  exact ih
theorem tyN_self (t:Ty):tyN t.val=t:=Fin.ext (tyN_val t.isLt)
theorem best_all (l:List Cl) (a b:Ty):bestT l a b (allT l.length 256)=mergeT l a b:=by
 by_cases h:validN l.length a=true∧validN l.length b=true
 ·refine best_merge h.1 h.2 _ _ rfl ?_
  unfold allT
  rw[List.mem_filter]
  exact⟨List.mem_map.2 ⟨(mergeT l a b).val,List.mem_range.2 (mergeT l a b).isLt,tyN_self _⟩,merge_valid a b⟩
 ·have h':validN l.length a=false∨validN l.length b=false:=by cases ha:validN l.length a <;> cases hb:validN l.length b <;> simp_all
  rw[best_none h']
  unfold mergeT; rw[if_pos h']
theorem refMerge186 (l:List Cl) (o:Own) (a b:Ty) (hf:Falls l l.length) (hl:l.length*48≤140737488355328):PCall Tryz.prog 186 [.slice o (rws eC l),.int .u8 a.val,.int .u8 b.val] (.int .u8 (mergeT l a b).val):=by
 refine F186.pcall' rfl fun T hT=> ?_
 simp -implicitDefEqProofs only[go_sem,c186,hT]
 refine za3 (all219 l o) ?_
 rw[←best_all]
 have hlen:=allT_len l.length 256
 generalize allT l.length 256=A at *
 simp -implicitDefEqProofs only[go_sem,hT]
 refine loopL F186 (fun i:Nat=>[(0,.slice o (rws eC l)),(1,.int .u8 a.val),(2,.int .u8 b.val),(7,.int .u8 (bestT l a b (A.take i)).val),(8,.slice .no (rws eT A)),(9,.int .i64 i)]) (fun _=>{}) (fun i=>i≤A.length) (fun i=>A.length-i) 0 (Nat.zero_le _) ?_ (St.le.nil _) ?_
 ·simp -implicitDefEqProofs only[go_sem,hT,Int.ofNat_zero]
  rfl
 clear hT T
 intro i hi T hT
 by_cases h:i<A.length
 ·have h1:((i:Int)<A.length)=True:=eq_true (by omega)
  have hR:(rws eT A)[i]?.getD []=eT A[i]:=rws_at h
  have htake:A.take (i+1)=A.take i++[A[i]]:=List.take_succ_eq_append_getElem h
  have hnext:IntKind.wrap .i64 ((i:Int)+1)=((i+1:Nat):Int):=by rw[zc1 (by omega) (by omega)]; simp
  generalize A[i]=t at *
  have hbest:bestT l a b (A.take (i+1))=if subB l a t=true∧subB l b t=true∧subB l t (bestT l a b (A.take i))=true then t else bestT l a b (A.take i):=by rw[htake,best_snoc]
  simp -implicitDefEqProofs only[go_sem,hT,h1,hR,eT,eT_len]
  refine⟨by omega, ?_⟩
  refine za3 (refSub79 l o a t hf hl) ?_
  cases s1:subB l a t
  ·simp -implicitDefEqProofs only[go_sem,hT,hnext]
   exact⟨i+1,by omega,by omega,by rw[hbest,s1]; simp,St.le.refl _⟩
  simp -implicitDefEqProofs only[go_sem,hT]
  refine za3 (refSub79 l o b t hf hl) ?_
  cases s2:subB l b t
  ·simp -implicitDefEqProofs only[go_sem,hT,hnext]
   exact⟨i+1,by omega,by omega,by rw[hbest,s2]; simp,St.le.refl _⟩
  simp -implicitDefEqProofs only[go_sem,hT]
  refine za3 (refSub79 l o t _ hf hl) ?_
  cases s3:subB l t (bestT l a b (A.take i))
  ·simp -implicitDefEqProofs only[go_sem,hT,hnext]
   exact⟨i+1,by omega,by omega,by rw[hbest,s3]; simp,St.le.refl _⟩
  simp -implicitDefEqProofs only[go_sem,hT,hnext]
  exact⟨i+1,by omega,by omega,by rw[hbest,s1,s2,s3]; simp,St.le.refl _⟩
 ·have h1:((i:Int)<A.length)=False:=eq_false (by omega)
  simp -implicitDefEqProofs only[go_sem,hT,h1]
  rw[List.take_of_length_le (by omega)]
  exact DLe.refl _
open Go.Proofs
def endsB (op:Nat):Bool:=decide (op=19∨op=22∨op=32)
theorem refEnds41 (t:Ty):PCall Tryz.prog 21 [.int .u8 t.val] (.bool (endsB t.val)):=by
 refine F21.pcall' rfl fun T hT=> ?_
 simp -implicitDefEqProofs only[go_sem,mmB,c21,hT]
 exact zf3 (by rw[Bool.eq_iff_iff]; simp[endsB]; omega)
theorem ends88 (t:Ty):PCall Tryz.prog 85 [.int .u8 t.val] (.bool (endsB t.val)):=by
 refine F85.pcall' rfl fun T hT=> ?_
 simp -implicitDefEqProofs only[go_sem,mmB,c85,hT]
 exact zf3 (by rw[Bool.eq_iff_iff]; simp[endsB]; omega)
open Go.Proofs
theorem eIn_1 (i:Ins):(eIn i)[1]? =some (.int .u8 i.op.val):=rfl
open Go.Proofs
open Go.Proofs
def alikeF (n:Nat) (a b:Fr):Nat:=if checkF n a≠0 then checkF n a else if checkF n b≠0 then checkF n b else if a.loc=b.loc∧a.h=b.h then 0 else 32
def bYfaA0:=aI @za5 (aI @za4 (aI @fr_0 (aI @fr_1 @gdD)))
def bYfaA1:=aI @za5 (aI @za4 (aI @fr_0 (aI @fr_1 (aI @gdD @Int.ofNat_zero))))
theorem alike206 (l:List Cl) (o:Own) (a b:Fr):PCall Tryz.prog 206 [.slice o (rws eC l),.agg (eFr a),.agg (eFr b)] (.int .i64 (alikeF l.length a b)):=by
 refine F206.pcall' rfl fun T hT=> ?_
 simp -implicitDefEqProofs only[go_sem,c206,hT,bYfaA0]
 intro b4 b5 n1 n2
 simp -implicitDefEqProofs only[go_sem,hT,n1,n2,bYfaA0]
 refine za3 (check81 l o a) ?_
 by_cases h1:checkF l.length a=0
 case neg=>
  have h1':((checkF l.length a:Int)=0)=False:=by simp; omega
  rw[show alikeF l.length a b=checkF l.length a by rw[alikeF,if_pos h1]]
  simp -implicitDefEqProofs only[go_sem,mmB,hT,n1,n2,h1',bYfaA0]
  all_goals exact DLe.refl _
 have h1':((checkF l.length a:Int)=0)=True:=by simp; omega
 simp -implicitDefEqProofs only[go_sem,hT,n1,n2,h1',bYfaA0]
 refine za3 (check81 l o b) ?_
 by_cases h2:checkF l.length b=0
 case neg=>
  have h2':((checkF l.length b:Int)=0)=False:=by simp; omega
  rw[show alikeF l.length a b=checkF l.length b by rw[alikeF,if_neg (by simp[h1]),if_pos h2]]
  simp -implicitDefEqProofs only[go_sem,mmB,hT,n1,n2,h2',bYfaA0]
  all_goals exact DLe.refl _
 have h2':((checkF l.length b:Int)=0)=True:=by simp; omega
 have ha:alikeF l.length a b=if a.loc=b.loc∧a.h=b.h then 0 else 32:=by rw[alikeF,if_neg (by simp[h1]),if_neg (by simp[h2])]
 rw[ha,h2]
 by_cases h3:a.loc=b.loc∧a.h=b.h
 ·have hq:(!decide (a.loc=b.loc)|| !decide (a.h=b.h))=false:=by simp[h3]
  rw[if_pos h3]
  simp -implicitDefEqProofs only[go_sem,mmB,hT,n1,n2,h2',hq,bYfaA1]
  all_goals exact DLe.refl _
 ·have hq:(!decide (a.loc=b.loc)|| !decide (a.h=b.h))=true:=by
   by_cases h4:a.loc=b.loc
   ·have:¬a.h=b.h:=fun h=>h3 ⟨h4,h⟩
    simp[h4,this]
   ·simp[h4]
  rw[if_neg h3]
  simp -implicitDefEqProofs only[go_sem,mmB,hT,n1,n2,h2',hq,bYfaA1]
  all_goals exact DLe.refl _
theorem sub171 (l:List Cl) (o:Own) (a b:Fr) (hl:l.length≤140737488355328):PCall Tryz.prog 171 [.slice o (rws eC l),.agg (eFr a),.agg (eFr b)] (.bool (subFr l a b)):=by
 refine F171.pcall' rfl fun T hT=> ?_
 simp -implicitDefEqProofs only[go_sem,c171,hT,bYfaA0]
 intro b4 b5 n1 n2
 simp -implicitDefEqProofs only[go_sem,hT,n1,n2,bYfaA0]
 refine za3 (alike206 l o a b) ?_
 have hsf:subFr l a b=(decide (alikeF l.length a b=0)&&(List.range 24).all fun i=>subB l (slAt a i) (slAt b i)):=by
  rw[subFr]; congr 1
  unfold alikeF
  rw[Bool.eq_iff_iff]
  simp only[decide_eq_true_eq]
  repeat' split
  all_goals simp_all
  all_goals omega
 by_cases h0:alikeF l.length a b=0
 case neg=>
  have h0':((alikeF l.length a b:Int)=0)=False:=by simp; omega
  simp -implicitDefEqProofs only[go_sem,hT,n1,n2,h0',bYfaA0]
  exact zf3 (by rw[hsf,decide_eq_false h0]; rfl)
 have h0':((alikeF l.length a b:Int)=0)=True:=by simp; omega
 obtain⟨R,hR⟩:∃R,((List.range 24).all fun i=>subB l (slAt a i) (slAt b i))=R:=⟨_,rfl⟩
 rw[hsf,decide_eq_true h0,hR,Bool.true_and]
 simp -implicitDefEqProofs only[go_sem,hT,n1,n2,h0',bYfaA1]
 refine loopL F171 (fun i:Nat=>[(0,.slice o (rws eC l)),(4,.ptr b4 0),(5,.ptr b5 0),(13,.int .i64 i)]) (fun _=>(({}:St).set b4 (eFr a)).set b5 (eFr b)) (fun i=>i≤24∧∀j:Nat,j<i→subB l (slAt a j) (slAt b j)=true) (fun i=>24-i) 0 ⟨by omega,fun j hj=>by omega⟩ ?_ (St.le.refl _) ?_
 ·simp -implicitDefEqProofs only[go_sem,hT,Int.ofNat_zero]
 clear hT T
 rintro k ⟨hk,hv⟩ T hT
 by_cases hkn:k<24
 ·have h1:((k:Int)<24)=True:=by simp; omega
  have hx:=fr_slAt a hkn
  have hy:=fr_slAt b hkn
  have hd:∀j:Nat,j<k+1→j=k∨j<k:=fun j hj=>by omega
  have hkm:24-(k+1)<24-k:=by omega
  simp -implicitDefEqProofs only[go_sem,hT,h1,hx,hy,Nat.mul_one,n1,n2,bYfaA0]
  refine⟨by omega,by omega,za3 (sub164 l o _ _ hl) ?_⟩
  cases hb:subB l (slAt a k) (slAt b k)
  ·obtain rfl:R=false:=hR.symm.trans (List.all_eq_false.2 ⟨k,List.mem_range.2 hkn,by simp[hb]⟩)
   simp -implicitDefEqProofs only[go_sem,hT]
  ·simp -implicitDefEqProofs only[go_sem,hT]
   refine⟨k+1,⟨hkn,fun j hj=> ?_⟩,hkm, ?_,St.le.refl _⟩
   ·rcases hd j hj with rfl|h
    ·exact hb
    ·exact hv j h
   ·rw[zc1 (by omega) (by omega)]; simp
 ·have h1:((k:Int)<24)=False:=by simp; omega
  obtain rfl:k=24:=by omega
  have hall:((List.range 24).all fun i=>subB l (slAt a i) (slAt b i))=true:=List.all_eq_true.2 fun j hj=>hv j (List.mem_range.1 hj)
  obtain rfl:R=true:=hR.symm.trans hall
  simp -implicitDefEqProofs only[go_sem,hT,h1,n1,n2,bYfaA0]
open Go.Proofs
def mgAt (l:List Cl) (a b:Fr):Nat→Fr
 |0=>a
 |i+1=>setF (mgAt l a b i) i (mergeT l (slAt (mgAt l a b i) i) (slAt b i))
theorem mgAt_loc {l:List Cl} {a b:Fr}:∀n,(mgAt l a b n).loc=a.loc∧(mgAt l a b n).h=a.h
 |0=>⟨rfl,rfl⟩
 |n+1=>by rw[mgAt,setF_loc,setF_h]; exact mgAt_loc n
theorem mgAt_sl {l:List Cl} {a b:Fr}:∀n,n≤24→∀i,i<24→slAt (mgAt l a b n) i=if i<n then mergeT l (slAt a i) (slAt b i) else slAt a i
 |0,_,i,_=>by rw[if_neg (by omega)]; rfl
 |n+1,hn,i,hi=>by
  have ih:=mgAt_sl (l:=l) (a:=a) (b:=b) n (by omega)
  rw[mgAt,slAt_set _ hi (by simp; omega),Int.toNat_natCast]
  by_cases h:i=n
  ·subst h; rw[if_pos rfl,if_pos (by omega),ih i hi,if_neg (by omega)]
  ·rw[if_neg h,ih i hi]
   by_cases h2:i<n
   ·rw[if_pos h2,if_pos (by omega)]
   ·rw[if_neg h2,if_neg (by omega)]
def mergeF (l:List Cl) (a b:Fr):Fr×Nat:=if alikeF l.length a b≠0 then(fr0 0,alikeF l.length a b) else(mgAt l a b (a.loc+a.h).toNat,0)
theorem alike_zero {n:Nat} {a b:Fr} (h:alikeF n a b=0):checkF n a=0∧checkF n b=0∧a.loc=b.loc∧a.h=b.h:=by
 unfold alikeF at h
 split at h
 ·omega
 split at h
 ·omega
 split at h
 ·rename_i h1 h2 h3
  exact⟨by omega,by omega,h3⟩
 ·cases h
theorem alike_of {n:Nat} {a b:Fr} (h1:checkF n a=0) (h2:checkF n b=0) (h3:a.loc=b.loc) (h4:a.h=b.h):alikeF n a b=0:=by
 unfold alikeF
 rw[if_neg (by omega),if_neg (by omega),if_pos ⟨h3,h4⟩]
theorem mgAt_store (l:List Cl) (a b:Fr) {i:Nat} (h:i<24):(eFr (mgAt l a b i)).take (2+i)++[D.int .u8 ((mergeT l (slAt (mgAt l a b i) i) (slAt b i)).val:Int)]++(eFr (mgAt l a b i)).drop (2+i+1)=eFr (mgAt l a b (i+1)):=by
 have:=fr_setF (f:=mgAt l a b i) (a:=(i:Int)) (t:=mergeT l (slAt (mgAt l a b i) i) (slAt b i)) (by omega) (by omega)
 rw[Int.toNat_natCast] at this
 rw[mgAt]; exact this
def bYhaD0:=aI @zb8 (aI @zc0 (aI @zb3 (aI @zb2 (aI @za5 (aI @za4 (aI @fr_0 (aI @fr_1 @gdD)))))))
def bYhaD1:=aI @zb8 (aI @zc0 (aI @zb3 (aI @zb2 (aI @za5 (aI @za4 (aI @fr_0 (aI @fr_1 (aI @gdD (aI @za2 (aI @za6 @fr_fr0))))))))))
theorem refMergeF151 (l:List Cl) (o:Own) (a b:Fr) (hf:Falls l l.length) (hl:l.length*48≤140737488355328):PCall Tryz.prog 151 [.slice o (rws eC l),.agg (eFr a),.agg (eFr b)] (.tup [.agg (eFr (mergeF l a b).1),.int .i64 (mergeF l a b).2]):=by
 refine F151.pcall' rfl fun T hT=> ?_
 simp -implicitDefEqProofs only[go_sem,c151,hT,bYhaD0]
 intro b4 b5 n1 n2 b6 n3 n4 n5 n6
 simp -implicitDefEqProofs only[go_sem,hT,n1,n2,n3,n4,n5,n6,bYhaD0]
 refine za3 (refCheck40 l o a) ?_
 by_cases h1:checkF l.length a=0
 case neg=>
  have h1':((checkF l.length a:Int)=0)=False:=by simp; omega
  have ha:alikeF l.length a b=checkF l.length a:=by rw[alikeF,if_pos h1]
  rw[show mergeF l a b=(fr0 0,checkF l.length a) by rw[mergeF,ha,if_pos h1]]
  simp -implicitDefEqProofs only[go_sem,hT,n1,n2,n3,n4,n5,n6,h1',bYhaD1]
 have h1':((checkF l.length a:Int)=0)=True:=by simp; omega
 simp -implicitDefEqProofs only[go_sem,hT,n1,n2,n3,n4,n5,n6,h1',bYhaD0]
 refine za3 (refCheck40 l o b) ?_
 by_cases h2:checkF l.length b=0
 case neg=>
  have h2':((checkF l.length b:Int)=0)=False:=by simp; omega
  have ha:alikeF l.length a b=checkF l.length b:=by rw[alikeF,if_neg (by omega),if_pos h2]
  rw[show mergeF l a b=(fr0 0,checkF l.length b) by rw[mergeF,ha,if_pos h2]]
  simp -implicitDefEqProofs only[go_sem,hT,n1,n2,n3,n4,n5,n6,h2',bYhaD1]
 have h2':((checkF l.length b:Int)=0)=True:=by simp; omega
 by_cases h3:a.loc=b.loc∧a.h=b.h
 case neg=>
  have ha:alikeF l.length a b=32:=by rw[alikeF,if_neg (by omega),if_neg (by omega),if_neg h3]
  rw[show mergeF l a b=(fr0 0,32) by rw[mergeF,ha,if_pos (by omega)]]
  have hq:(!decide (a.loc=b.loc)|| !decide (a.h=b.h))=true:=by
   by_cases h4:a.loc=b.loc
   ·have:¬a.h=b.h:=fun h=>h3 ⟨h4,h⟩
    simp[h4,this]
   ·simp[h4]
  simp -implicitDefEqProofs only[go_sem,mmB,hT,n1,n2,n3,n4,n5,n6,h2',hq,bYhaD1]
  exact DLe.refl _
 have hq:(!decide (a.loc=b.loc)|| !decide (a.h=b.h))=false:=by simp[h3]
 have h0:=alike_of h1 h2 h3.1 h3.2
 obtain⟨s1,s2,s3,s4⟩:=shaped_of (checkF_iff.1 h1).1
 obtain⟨n,hn⟩:∃n:Nat,a.loc+a.h=n:=⟨(a.loc+a.h).toNat,by omega⟩
 have w1:IntKind.wrap .i64 (a.loc+a.h)=(n:Int):=by rw[zc1 (by omega) (by omega),hn]
 have hm:mergeF l a b=(mgAt l a b n,0):=by rw[mergeF,if_neg (by omega),hn,Int.toNat_natCast]
 have h24:n≤24:=by omega
 simp -implicitDefEqProofs only[go_sem,mmB,hT,n1,n2,n3,n4,n5,n6,h2',hq,bYhaD0]
 refine loopL F151 (fun i:Nat=>[(0,.slice o (rws eC l)),(4,.ptr b4 0),(5,.ptr b5 0),(6,.ptr b6 0),(10,.int .i64 i)]) (fun i=>((({}:St).set b4 (eFr (mgAt l a b i))).set b5 (eFr b)).set b6 zFr) (fun i=>i≤n) (fun i=>n-i) 0 (by omega) ?_ (St.le.refl _) ?_
 ·simp -implicitDefEqProofs only[go_sem,hT,Int.ofNat_zero]
 clear hT T
 intro i hi T hT
 obtain⟨e1,e2⟩:=mgAt_loc (l:=l) (a:=a) (b:=b) i
 by_cases h:i<n
 ·have h1:((i:Int)<n)=True:=eq_true (by omega)
  have hx:=fr_slAt (mgAt l a b i) (show i<24 by omega)
  have hy:=fr_slAt b (show i<24 by omega)
  have hst:=mgAt_store l a b (show i<24 by omega)
  have hnext:IntKind.wrap .i64 ((i:Int)+1)=((i+1:Nat):Int):=by rw[zc1 (by omega) (by omega)]; simp
  simp -implicitDefEqProofs only[go_sem,hT,n1,n2,n3,n4,n5,n6,hx,hy,e1,e2,w1,h1,Nat.mul_one,bYhaD0]
  refine⟨⟨by omega,by omega⟩,⟨by omega,by omega⟩, ?_⟩
  refine za3 (refMerge186 l o _ _ hf hl) ?_
  simp -implicitDefEqProofs only[go_sem,hT,h1,zb8,zc0,zb3,zb2,za5,za4,fr_0,fr_1,gdD,n1,n2,n3,n4,n5,n6,hx,hy,hnext,Nat.mul_one,hst,za2]
  refine⟨⟨by omega,by omega⟩,by omega,i+1,by omega,by omega,rfl, ?_⟩
  rw[set_comm n5,set_comm n1,za2]
  exact St.le.refl _
 ·have h1:((i:Int)<n)=False:=eq_false (by omega)
  obtain rfl:i=n:=by omega
  simp -implicitDefEqProofs only[go_sem,hT,zb8,zc0,zb3,zb2,za5,za4,fr_0,fr_1,gdD,n1,n2,n3,n4,n5,n6,e1,e2,w1,h1,hm,za6,za2,Int.ofNat_zero]
end Go.AL
