import Derived.Test.YtobmoajkfbigkaaGreatLt
import Derived.Test.YtobmoajkfbigkaaGreatLq
set_option linter.unusedSimpArgs false
set_option linter.unusedVariables false
set_option maxRecDepth 100000
set_option maxHeartbeats 4000000
set_option linter.defProp false
namespace Go.AL
open Go.Proofs
instance eyDec:DecidableEq Ey:=fun a b=>decidable_of_iff (a.pos=b.pos∧a.dead=b.dead∧a.fr=b.fr) (by
 obtain⟨a1,a2,a3⟩:=a
 obtain⟨b1,b2,b3⟩:=b
 simp)
theorem eq_frN (m:Nat) (f g:Fr):eqV Tryz.prog (m+3) 84 (.agg (eFr f)) (.agg (eFr g))=some (decide (f=g)):=by
 have h1:Tryz.prog.stoodInHeld 84=false:=by kernel_rfl
 have h2:(Tryz.prog.info? 81).isSome=true:=by kernel_rfl
 have h3:Tryz.prog.cellsOf 81=1:=by kernel_rfl
 have t:∀f:Fr,((eFr f).drop 2).take 24=f.sl.toList.map eU:=fun f=>by
  rw[List.take_of_length_le (by simp[eFr])]
  rfl
 rw[eqV_struct Tryz.underlying84 h1 rfl]
 simp only[fsParts,List.map_cons,List.map_nil,eqAll]
 simp -implicitDefEqProofs only[go_sem,fr_0,fr_1,t,za6,eqV_int Tryz.underlying3]
 rw[eqV_array Tryz.underlying82 h2,h3,List.range_eq_range',eqAll_from f.sl.toList g.sl.toList (by simp) (by simp) 24 0 rfl]
 obtain⟨a,b,c⟩:=f
 obtain⟨a',b',c'⟩:=g
 simp only[List.drop_zero,Bool.and_true]
 congr 1
 rw[Bool.eq_iff_iff]
 simp[Fr.mk.injEq,Vector.toList_inj]
theorem eq_ey (x y:Ey):eqV Tryz.prog 10 86 (.agg (eEy x)) (.agg (eEy y))=some (decide (x=y)):=by
 have h1:Tryz.prog.stoodInHeld 86=false:=by kernel_rfl
 have t:∀x:Ey,((eEy x).drop 2).take 26=eFr x.fr:=fun x=>by
  show(eFr x.fr).take 26=_
  exact za4 _
 rw[show(10:Nat)=9+1 from rfl,eqV_struct Tryz.underlying86 h1 rfl]
 simp only[fsParts,List.map_cons,List.map_nil,eqAll]
 simp -implicitDefEqProofs only[go_sem,ey_0,ey_1,t,zb5,eqV_int Tryz.underlying3,eqV_bool Tryz.underlying4]
 rw[show(9:Nat)=6+3 from rfl,eq_frN]
 obtain⟨a,b,c⟩:=x
 obtain⟨a',b',c'⟩:=y
 simp only[Bool.and_true]
 congr 1
 rw[Bool.eq_iff_iff]
 simp[Ey.mk.injEq]
theorem eqG86:eqGP Tryz.prog 86=true:=by kernel_rfl
theorem equal42 (o:Li) (es fs:List Ey) (ho:rO o es.length (liX o es) {}) (he:es.length≤100000) (hf:fs.length≤100000):
  RCall Tryz.prog 42 [rD o es.length,.slice .no (rws eEy fs)] (rS o (liX o es) {}) fun d s'=>d= .bool (decide (es=fs))∧s'=rS o (liX o es) {}:=by
 refine F42.rcall rfl fun T hT=> ?_
 by_cases hl:es.length=fs.length
 case neg=>
  have g1:((es.length:Int)=fs.length)=False:=eq_false (by omega)
  have hne:decide (es=fs)=false:=by rw[decide_eq_false_iff_not]; rintro rfl; exact hl rfl
  rw[hne]
  cases o with
  |none=>
   have h0:es.length=0:=ho
   have g2:(((0:Nat):Int)=fs.length)=False:=eq_false (by omega)
   simp -implicitDefEqProofs only[go_sem,c42,hT,rD,g2]
   exact⟨_,_,DLe.refl _,St.le.refl _,rfl,rfl⟩
  |some p=>
   simp -implicitDefEqProofs only[go_sem,c42,hT,rD,g1]
   exact⟨_,_,DLe.refl _,St.le.refl _,rfl,rfl⟩
 have g1:((es.length:Int)=fs.length)=True:=eq_true (by omega)
 cases o with
 |none=>
  have h0:es.length=0:=ho
  obtain rfl:es=[]:=List.eq_nil_of_length_eq_zero h0
  obtain rfl:fs=[]:=List.eq_nil_of_length_eq_zero hl.symm
  simp -implicitDefEqProofs only[go_sem,c42,hT,rD]
  refine loopL F42 (fun i:Nat=>[(0,.slice .nil []),(12,.int .i64 0),(13,.int .i64 0)]) (fun _=>rS none (liX none []) {}) (fun _=>True) (fun _=>0) 0 trivial ?_ (St.le.refl _) ?_
  ·simp -implicitDefEqProofs only[go_sem,hT,rD]
   rfl
  clear hT T
  rintro i-T hT
  simp -implicitDefEqProofs only[go_sem,hT]
  exact⟨_,_,DLe.refl _,St.le.refl _,rfl,rfl⟩
 |some p=>
  simp -implicitDefEqProofs only[go_sem,c42,hT,rD,g1]
  refine loopL F42 (fun i:Nat=>[(0,.bsl p.1 0 es.length p.2),(1,.slice .no (rws eEy fs)),(12,.int .i64 es.length),(13,.int .i64 i)]) (fun _=>rS (some p) (liX (some p) es) {}) (fun i=>i≤es.length∧es.take i=fs.take i) (fun i=>es.length-i) 0
   ⟨Nat.zero_le _,rfl⟩ ?_ (St.le.refl _) ?_
  ·simp -implicitDefEqProofs only[go_sem,hT,rD,Int.ofNat_zero]
  clear hT T
  rintro i ⟨hi,heq⟩ T hT
  by_cases h:i<es.length
  case neg=>
   have g5:((i:Int)<es.length)=False:=eq_false (by omega)
   simp -implicitDefEqProofs only[go_sem,hT,g5]
   refine⟨_,_,DLe.refl _,St.le.refl _, ?_,rfl⟩
   rw[List.take_of_length_le (by omega),List.take_of_length_le (by omega)] at heq
   simp[heq]
  have g5:((i:Int)<es.length)=True:=eq_true (by omega)
  have w1:IntKind.wrap .i64 ((i:Int)+1)=((i+1:Nat):Int):=by rw[zc3 (by omega) (by omega)]; simp
  have hbox:(rS (some p) (liX (some p) es) {}).box p.1=some (liX (some p) es):=by simp[rS,St.set_box]
  have hfl:(fl eEy es).length=es.length*28:=fl_len zb5 es
  have hget:((liX (some p) es).drop (i*28)).take 28=eEy es[i]:=by
   unfold liX
   rw[List.drop_append_of_le_length (by rw[hfl]; omega),List.take_append_of_le_length (by rw[List.length_drop,hfl]; omega),fl_at zb5 h]
  have hfa:(28≤((liX (some p) es).drop (i*28)).length)=True:=eq_true (by
   rw[List.length_drop,liX_len ho.2.1]; have:=ho.2.1; omega)
  have h2:i<fs.length:=by omega
  simp -implicitDefEqProofs only[go_sem,hT,g5,Int.toNat_natCast,rws_at h2,zb5,hbox,hget,hfa,eq_ey,eqG86,za9]
  refine⟨by omega,⟨by omega,by omega⟩, ?_⟩
  refine br_split (fun h'=> ?_) fun h'=> ?_
  ·refine⟨_,_,DLe.refl _,St.le.refl _, ?_,rfl⟩
   simp at h'
   congr 1
   symm
   rw[decide_eq_false_iff_not]
   rintro rfl
   exact h' rfl
  ·simp at h'
   exact⟨i+1,⟨by omega,take_eq_step heq h (by omega) h'⟩,by omega,by rw[w1],St.le.refl _⟩
open Go.Proofs
theorem infer_len (e:En) (loc:Int) (b:List Ty) (hw:WideE e):(inferD e loc b).1.length≤4096:=by
 unfold inferD
 split
 ·simp
 split
 ·simp
 ·simp only
  split
  ·simp
  ·show(entsD _ _).length≤4096
   have:=ents_len (goD e b (fuelD b.length) (is0 b.length (startF e.cs.length (psOf e) loc).1) 0).1 b.length
   omega
theorem lenD_r {o:Li} {n:Nat} {X:List D} {σ:St} (h:rO o n X σ):lenD Tryz.prog 50 (rD o n)=some (.int .i64 (n:Int)):=by
 cases o with
 |none=>have h0:n=0:=h; subst h0; simp -implicitDefEqProofs only[go_sem,rD]
 |some p=>simp -implicitDefEqProofs only[go_sem,rD]
theorem rS_comm {o o':Li} {X Y:List D} {σ:St} (h:∀p p',o=some p→o'=some p'→p.1≠p'.1):rS o X (rS o' Y σ)=rS o' Y (rS o X σ):=by
 cases o with
 |none=>rfl
 |some p=>
  cases o' with
  |none=>rfl
  |some p'=>exact set_comm (Ne.symm (h p p' rfl rfl))
def bYheN0:=aI @zb2 (aI @za8 @anD)
theorem law10 (e:En) (loc:Int) (b:List Ty) (hw:WideE e) (hb:b.length≤140737488351232):PCall Tryz.prog 10 [.agg (eEn e),.int .i64 loc,.slice .no (rws eT b)] (.bool true):=by
 have hlen:=infer_len e loc b hw
 refine F10.pcallM rfl fun T hT=> ?_
 simp -implicitDefEqProofs only[go_sem,c10,hT,bYheN0]
 intro b3
 refine za3 (env30 e hw) ?_
 simp -implicitDefEqProofs only[go_sem,hT,bYheN0]
 intro b7 n1 n2
 refine za3 (roomy27 b .no (by simp[nilOk]) (by omega)) ?_
 simp -implicitDefEqProofs only[go_sem,hT,n1,n2,bYheN0]
 refine callB_li (infer41 e loc b hw (by omega)) fun d s' ⟨o,ho,hd,hs⟩=>⟨o,_,hs,fun hf=> ?_⟩
 subst hd
 have hlx:∀p,o=some p→(liX o (inferD e loc b).1).length=p.2*28:=fun p hp=>by subst hp; exact ho.2.2
 generalize hX:liX o (inferD e loc b).1=X at *
 rw[za2] at hf ⊢
 have k3:((({}:St).set b3 (eEn e)).set b7 (eEn e)).box b3=some (eEn e):=by simp[St.set_box,n1,n2]
 have k7:((({}:St).set b3 (eEn e)).set b7 (eEn e)).box b7=some (eEn e):=by simp[St.set_box]
 generalize (({}:St).set b3 (eEn e)).set b7 (eEn e)=σ at *
 have ho1:rO o (inferD e loc b).1.length X σ:=by
  cases o with
  |none=>exact ho
  |some p=>exact⟨hf p rfl,ho.2⟩
 have k3o:=rS_box ho1 k3
 have k7o:=rS_box ho1 k7
 simp -implicitDefEqProofs only[go_sem,hT,k3o,bYheN0]
 refine za3 (infer26 e loc b .no hw (by omega)) ?_
 simp -implicitDefEqProofs only[go_sem,hT,k3o,k7o,bYheN0]
 subst hX
 refine callB_look hf (equal42 o _ _ ho (by omega) (by omega)) ?_
 simp -implicitDefEqProofs only[go_sem,hT,k3o,k7o,bYheN0]
 refine callB_li (infer41 e loc b hw (by omega)) fun d s' ⟨o2,ho2,hd2,hs2⟩=>⟨o2,_,hs2,fun hf2=> ?_⟩
 subst hd2
 have hd2:∀p,o2=some p→¬σ.has p.1:=fun p hp h=>hf2 p hp (rS_has.2 (.inr h))
 have hlr:=lenD_r ho1
 generalize hX2:liX o2 (inferD e loc b).1=X2 at *
 have hcomm:∀(o':Li) (X':List D),(∀p p',o2=some p→o'=some p'→p.1≠p'.1)→rS o2 X2 (rS o' X' σ)=rS o' X' (rS o2 X2 σ):=fun o' X' h=>rS_comm h
 have hdis:∀p p',o2=some p→o=some p'→p.1≠p'.1:=fun p p' hp hp' he=>hf2 p hp (rS_has.2 (.inl ⟨p',hp',he⟩))
 rw[hcomm o _ hdis]
 have ho3:rO o (inferD e loc b).1.length (liX o (inferD e loc b).1) (rS o2 X2 σ):=by
  cases o with
  |none=>exact ho1
  |some p=>exact⟨fun h=>by
    rcases rS_has.1 h with⟨q,hq,he⟩|h
    ·exact hdis q p hq rfl he.symm
    ·exact ho1.1 h,ho1.2⟩
 have ho21:rO o2 (inferD e loc b).1.length X2 σ:=by
  cases o2 with
  |none=>exact ho2
  |some p=>exact⟨hd2 p rfl,ho2.2⟩
 generalize liX o (inferD e loc b).1=X at *
 generalize hσ2:rS o2 X2 σ=σ2 at *
 simp -implicitDefEqProofs only[go_sem,hT,hlr,bYheN0]
 refine loopL F10 (fun x:Nat×List D=>[(2,.slice .no (rws eT b)),(3,.ptr b3 0),(7,.ptr b7 0),(9,.slice .no (rws eT (b++guardB))),(13,.slice .no (rws eEy (inferD e loc b).1)),(16,rD o2 (inferD e loc b).1.length),(10,rD o (inferD e loc b).1.length),(66,.int .i64 (inferD e loc b).1.length),(67,.int .i64 x.1)]) (fun x=>rS o x.2 σ2) (fun x=>x.1≤(inferD e loc b).1.length∧rO o (inferD e loc b).1.length x.2 σ2) (fun x=>(inferD e loc b).1.length-x.1) (0,X) ⟨Nat.zero_le _,ho3⟩ ?_ (St.le.refl _) ?_
 ·simp -implicitDefEqProofs only[go_sem,hT,Int.ofNat_zero]
 clear hT T
 rintro⟨i,Y⟩ ⟨hi,hY⟩ T hT
 simp only at hi hY hT ⊢
 by_cases h:i<(inferD e loc b).1.length
 ·have g5:((i:Int)<(inferD e loc b).1.length)=True:=eq_true (by omega)
  have w1:IntKind.wrap .i64 ((i:Int)+1)=((i+1:Nat):Int):=by rw[zc3 (by omega) (by omega)]; simp
  cases o with
  |none=>have h0:(inferD e loc b).1.length=0:=ho; omega
  |some p=>
   have hbox:(rS (some p) Y σ2).box p.1=some Y:=by simp[rS,St.set_box]
   have hYl:=hY.2.2
   have hnp:=hY.2.1
   have hset:∀C,(rS (some p) Y σ2).set p.1 C=rS (some p) C σ2:=fun C=>za2
   simp -implicitDefEqProofs only[go_sem,hT,g5,rD,w1,hbox,hset]
   refine⟨by omega,by rw[hYl]; omega,(i+1,_),⟨by simp only; omega,hY.1,hnp, ?_⟩,by simp only; omega,rfl,St.le.refl _⟩
   simp only[List.length_append,List.length_take,List.length_drop,List.length_cons,List.length_nil,hYl]
   omega
 have g5:((i:Int)<(inferD e loc b).1.length)=False:=eq_false (by omega)
 simp -implicitDefEqProofs only[go_sem,hT,g5]
 refine loopL F10 (fun x:Nat×Li×List D=>[(2,.slice .no (rws eT b)),(3,.ptr b3 0),(7,.ptr b7 0),(9,.slice .no (rws eT (b++guardB))),(13,.slice .no (rws eEy (inferD e loc b).1)),(16,rD o2 (inferD e loc b).1.length),(10,rD x.2.1 ((inferD e loc b).1.length+x.1)),(75,.int .i64 x.1)]) (fun x=>rS x.2.1 x.2.2 σ2) (fun x=>x.1≤20∧rO x.2.1 ((inferD e loc b).1.length+x.1) x.2.2 σ2) (fun x=>20-x.1) (0,o,Y) ⟨Nat.zero_le _,hY⟩ ?_ (St.le.refl _) ?_
 ·simp -implicitDefEqProofs only[go_sem,hT,Int.ofNat_zero]
 clear hT T
 rintro⟨k,o',Z⟩ ⟨hk,hZ⟩ T hT
 simp only at hk hZ hT ⊢
 by_cases h':k<20
 ·have g6:((k:Int)<20)=True:=eq_true (by omega)
  have w1:IntKind.wrap .i64 ((k:Int)+1)=((k+1:Nat):Int):=by rw[zc3 (by omega) (by omega)]; simp
  simp -implicitDefEqProofs only[go_sem,hT,g6,frz]
  refine r_app rfl hZ (by omega) fun o3 Z3 σ3 hZ3 hle=> ?_
  simp -implicitDefEqProofs only[go_sem,hT,w1]
  exact⟨(k+1,o3,Z3),⟨by simp only; omega,hZ3⟩,by simp only; omega,⟨rfl,rfl⟩,hle⟩
 have g6:((k:Int)<20)=False:=eq_false (by omega)
 simp -implicitDefEqProofs only[go_sem,hT,g6]
 subst hσ2
 have hdis':∀p p',o2=some p→o'=some p'→p.1≠p'.1:=fun p p' hp hp' he=>by
  subst hp'
  exact hZ.1 (rS_has.2 (.inl ⟨p,hp,he.symm⟩))
 rw[←hcomm o' Z hdis']
 have hf3:∀p,o2=some p→¬(rS o' Z σ).has p.1:=fun p hp h=>by
  rcases rS_has.1 h with⟨q,hq,he⟩|h
  ·exact hdis' p q hp hq he
  ·exact hd2 p hp h
 subst hX2
 refine callB_look hf3 (equal42 o2 _ _ ho2 (by omega) (by omega)) ?_
 have hZ3:rO o' ((inferD e loc b).1.length+k) Z σ:=by
  cases o' with
  |none=>exact hZ
  |some p=>exact⟨fun h=>hZ.1 (rS_has.2 (.inr h)),hZ.2⟩
 have ho4:rO o2 (inferD e loc b).1.length (liX o2 (inferD e loc b).1) (rS o' Z σ):=by
  cases o2 with
  |none=>exact ho2
  |some p=>exact⟨hf3 p rfl,ho2.2⟩
 have q3:=rS_box ho4 (rS_box hZ3 k3)
 have q7:=rS_box ho4 (rS_box hZ3 k7)
 simp -implicitDefEqProofs only[go_sem,hT,q3,q7,bYheN0]
 refine za3 (sameEnv33 e e hw) ?_
 simp -implicitDefEqProofs only[go_sem,hT,q3,q7,bYheN0]
 refine za3 (untouched30 b .no .no (by omega)) ?_
 simp -implicitDefEqProofs only[go_sem,hT,q3,q7,bYheN0]
end Go.AL
