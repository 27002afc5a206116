import Derived.Test.YtobmoajkfbigkaaGreatRx
set_option linter.unusedSimpArgs false
set_option linter.unusedVariables false
set_option maxRecDepth 100000
set_option maxHeartbeats 4000000
set_option linter.defProp false
namespace Go.AL
open Go.Proofs
theorem compact2 (x y:Int):Lib.compact [x,y]=if x=y then [x] else [x,y]:=by
 unfold Lib.compact Lib.compactUpTo Lib.keeps
 by_cases h:x=y
 ·simp[List.range_succ,h]
 ·simp[List.range_succ,h,Ne.symm h]
theorem compact1 (x:Int):Lib.compact [x]=[x]:=by
 unfold Lib.compact Lib.compactUpTo Lib.keeps
 simp[List.range_succ]
theorem sort1 (x:Int):sortZ [x]=[x]:=by simp[sortZ]
theorem sort2 (x y:Int):sortZ [x,y]=if x≤y then [x,y] else [y,x]:=by
 unfold sortZ
 simp[List.mergeSort,List.MergeSort.Internal.splitInTwo,List.merge]
def visitP (e:En) (b:List Ty) (s:RS) (a:Nat) (fa:Fr):RS×Nat:=
 let s0:RS:={s with wh:=(a:Int)}
 if a=b.length then(s0,51)
 else if(decF b a).2≠0 then(s0,(decF b a).2)
 else
  let s1:RS:=⟨s.ff,s.nn,(takeP a (zf1 (decF b a).1.op.val) a s.tt).1,(a:Int)⟩
  if(takeP a (zf1 (decF b a).1.op.val) a s.tt).2=false then(s1,80)
  else if(applyR e fa (decF b a).1).2≠0 then(s1,(applyR e fa (decF b a).1).2)
  else if(onD (decF b a).1 b.length).2≠0 then(s1,(onD (decF b a).1 b.length).2)
  else handsP e.cs (applyR e fa (decF b a).1).1 (onD (decF b a).1 b.length).1 s1
section
variable {N : Nat} {d : Option Nat} {K : Env → St → Prop} {T : Env} {σ : St}
theorem appB_nil {x:Int} (hk:∀b cap,¬σ.has b→1≤cap→putK N d (.bsl b 0 1 cap) K T (σ.set b ([x].map eZ++List.replicate (cap-1) .any))):
  apK Tryz.prog N d true 29 29 (.slice .nil []) (.slice .exact [[.int .i64 x]]) K T σ:=by
 show appendB Tryz.prog N d 29 29 (.slice .nil []) (.slice .exact [[.int .i64 x]]) K T σ
 simp only[appendB,Tryz.sli29,Tryz.sz3,Tryz.by3,Tryz.zero3,Option.map_some,true_and]
 refine⟨rfl,by omega,by omega,by simp,by simp,by simp,fun b cap h1 h2=> ?_⟩
 have:=hk b cap h1 h2
 simpa[eZ] using this
theorem appB_one {x y:Int} {b cap:Nat} (hc:1≤cap) (hσ:σ.box b=some ([x].map eZ++List.replicate (cap-1) .any))
  (h1:2≤cap→putK N d (.bsl b 0 2 cap) K T (σ.set b ([x,y].map eZ++List.replicate (cap-2) .any)))
  (h2:∀b' cap',¬σ.has b'→2≤cap'→putK N d (.bsl b' 0 2 cap') K T (σ.set b' ([x,y].map eZ++List.replicate (cap'-2) .any))):
  apK Tryz.prog N d true 29 29 (.bsl b 0 1 cap) (.slice .exact [[.int .i64 y]]) K T σ:=by
 show appendB Tryz.prog N d 29 29 (.bsl b 0 1 cap) (.slice .exact [[.int .i64 y]]) K T σ
 simp only[appendB,Tryz.sli29,Tryz.sz3,Tryz.by3,Tryz.zero3,Option.map_some,true_and,hσ]
 refine⟨rfl,by omega,by omega,by simp,hc,by simp; omega,by simp,fun h=> ?_,fun h b' cap' h3 h4=> ?_⟩
 ·have:=h1 h
  have e:layD ([x].map eZ++List.replicate (cap-1) .any) (1*1) [[D.int .i64 y]].flatten=[x,y].map eZ++List.replicate (cap-2) .any:=by
   simp only[layD,List.map_cons,List.map_nil,List.flatten_cons,List.flatten_nil,List.append_nil,List.length_cons,List.length_nil]
   simp[eZ,Nat.sub_sub]
  rw[e]; exact this
 ·have:=h2 b' cap' h3 h4
  have e:([x].map eZ++List.replicate (cap-1) D.any).take (1*1)++[[D.int .i64 y]].flatten++List.replicate ((cap'-(1+1))*1) D.any=[x,y].map eZ++List.replicate (cap'-2) .any:=by
   simp[eZ]
  simp only[List.length_cons,List.length_nil,Nat.zero_add] at *
  rw[e]; exact this
end
theorem stR_wh {r:RB} {e:En} {b:List Ty} {m:RM} {wh w:Int}:(stR r e b m wh).set r.q (eRn r e b w)=stR r e b m w:=by
 simp only[stR,St.set,St.setM]
 congr 1
 funext x
 split <;> rfl
def bYheC0:=aI @zb8 (aI @zc0 (aI @zb2 (aI @zb1 (aI @za5 (aI @za4 (aI @gdD (aI @eRn_0 (aI @eRn_3 (aI @eRn_4 (aI @eRn_5 (aI @eRn_6 (aI @eRn_7 (aI @eRn_len (aI @zc1 (aI @zb7 (aI @zb0 (aI @in_0 (aI @in_1 (aI @in_2 @eRn_en)))))))))))))))))))
def bYheC1:=aI @zb8 (aI @zc0 (aI @zb2 (aI @zb1 (aI @za5 (aI @za4 (aI @gdD (aI @eRn_0 (aI @eRn_3 (aI @eRn_4 (aI @eRn_5 (aI @eRn_6 (aI @eRn_7 (aI @eRn_len (aI @zc1 (aI @zb7 (aI @zb0 (aI @in_0 (aI @in_1 (aI @in_2 (aI @eRn_en @za2))))))))))))))))))))
theorem visit123 (r:RB) (hr:r.ne) (e:En) (b:List Ty) (m:RM) (s:RS) (hm:m.of s) (a:Nat) (fa:Fr) (hfa:s.ff a=some fa) (hb:b.length≤4096) (ha:a≤b.length) (hw:WideE e) (hl:e.cs.length≤140737488355328):
  RCall Tryz.prog 123 [.ptr r.q 0,.int .i64 a] (stR r e b m s.wh) fun d s'=>d= .int .i64 (visitP e b s a fa).2∧∃m':RM,m'.of (visitP e b s a fa).1∧s'=stR r e b m' (visitP e b s a fa).1.wh:=by
 have kq:=stR_q (r:=r) (e:=e) (b:=b) (m:=m) (wh:=s.wh)
 have kq':=stR_q (r:=r) (e:=e) (b:=b) (m:=m) (wh:=(a:Int))
 refine F123.rcall rfl fun T hT=> ?_
 simp -implicitDefEqProofs only[go_sem,c123,hT,zb8,zc0,zb2,zb1,za5,za4,gdD,Nat.mul_one,Nat.add_zero,Nat.zero_add,eRn_0,eRn_3,eRn_4,eRn_5,eRn_6,eRn_7,eRn_len,zc1,zb7,zb0,in_0,in_1,in_2,eRn_en,kq,eRn_wh,stR_wh,kq']
 by_cases g1:a=b.length
 ·have hV:visitP e b s a fa=({s with wh:=(a:Int)},51):=by unfold visitP; rw[if_pos g1]
  have g1':((a:Int)=b.length)=True:=eq_true (by omega)
  rw[hV]
  simp -implicitDefEqProofs only[go_sem,hT,g1']
  exact⟨_,_,DLe.refl _,St.le.refl _,rfl,m,⟨hm.f,hm.n,hm.t⟩,rfl⟩
 have g1':((a:Int)=b.length)=False:=eq_false (by omega)
 simp -implicitDefEqProofs only[go_sem,hT,g1',Nat.mul_one,Nat.add_zero,Nat.zero_add,kq',bYheC0]
 refine za3 (decode82 b _ a (by omega) (by omega)) ?_
 simp -implicitDefEqProofs only[go_sem,hT,Nat.mul_one,Nat.add_zero,Nat.zero_add,kq',bYheC0]
 intro b5 hb5
 obtain⟨n1,n2,n3,n4⟩:=stR_ne hr hb5
 have off5:∀m' w,¬(stR r e b m' w).has b5:=fun m' w=>stR_off hr hb5
 by_cases g2:(decF b a).2=0
 case neg=>
  have hV:visitP e b s a fa=({s with wh:=(a:Int)},(decF b a).2):=by unfold visitP; rw[if_neg g1]; simp only; rw[if_pos g2]
  have g2':(((decF b a).2:Int)=0)=False:=eq_false (by omega)
  rw[hV]
  simp -implicitDefEqProofs only[go_sem,hT,g2',Nat.mul_one,Nat.add_zero,Nat.zero_add,n1,n2,n3,n4,Ne.symm n1,Ne.symm n2,Ne.symm n3,Ne.symm n4,bYheC1]
  exact⟨_,_,DLe.refl _,le_add (off5 _ _),rfl,m,⟨hm.f,hm.n,hm.t⟩,rfl⟩
 have g2':(((decF b a).2:Int)=0)=True:=eq_true (by omega)
 have hdec:=decF_ok g2
 have hpos:(decF b a).1.pos=a:=by rw[hdec.2.1]; rfl
 simp -implicitDefEqProofs only[go_sem,hT,g2',Nat.mul_one,Nat.add_zero,Nat.zero_add,n1,n2,n3,n4,Ne.symm n1,Ne.symm n2,Ne.symm n3,Ne.symm n4,kq',bYheC1]
 have hsz:=sizeOp_le (decF b a).1.op.val
 refine callB_under [.bx b5 (eIn (decF b a).1)] ⟨off5 _ _,trivial⟩ ((take159 r hr e b m ⟨s.ff,s.nn,s.tt,(a:Int)⟩ ⟨hm.f,hm.n,hm.t⟩ (decF b a).1 a hpos (by omega)).xcall (Rp:=fun _ _=>False)) (fun d s' hR _=> ?_) fun d s' h=>h.elim
 obtain⟨rfl,m1,hm1,rfl⟩:=hR
 simp only at hm1 ⊢
 have kq1:=stR_q (r:=r) (e:=e) (b:=b) (m:=m1) (wh:=(a:Int))
 have kf1:=stR_f (e:=e) (b:=b) (m:=m1) (wh:=(a:Int)) hr
 cases g3:(takeP a (zf1 (decF b a).1.op.val) a s.tt).2
 case false=>
  have hV:visitP e b s a fa=(⟨s.ff,s.nn,(takeP a (zf1 (decF b a).1.op.val) a s.tt).1,(a:Int)⟩,80):=by unfold visitP; rw[if_neg g1]; simp only; rw[if_neg (by omega),if_pos g3]
  rw[hV]
  simp -implicitDefEqProofs only[go_sem,hT,putL,List.foldl_cons,List.foldl_nil,LI.put]
  exact⟨_,_,DLe.refl _,le_add (off5 _ _),rfl,m1,hm1,rfl⟩
 have hk1:=fun(σ:St) (h:σ.mp r.f=some (.map (some .i64) m1.kf m1.vf m1.cf))=>look143 (ok:=false) (n:=a) hm1.f h
 simp only[hfa,lkV,pairD] at hk1
 simp -implicitDefEqProofs only[go_sem,hT,putL,List.foldl_cons,List.foldl_nil,LI.put,Nat.mul_one,Nat.add_zero,Nat.zero_add,n1,n2,n3,n4,Ne.symm n1,Ne.symm n2,Ne.symm n3,Ne.symm n4,kq1,kf1,hk1,dF,bYheC0]
 refine za3 (apply144 e fa (decF b a).1 hw) ?_
 simp -implicitDefEqProofs only[go_sem,hT,Nat.mul_one,Nat.add_zero,Nat.zero_add,n1,n2,n3,n4,Ne.symm n1,Ne.symm n2,Ne.symm n3,Ne.symm n4,kq1,bYheC0]
 intro b7 p5 p6 hb7
 obtain⟨p1,p2,p3,p4⟩:=stR_ne hr hb7
 have off7:∀m' w,¬(stR r e b m' w).has b7:=fun m' w=>stR_off hr hb7
 have hle2:∀v w,St.le (stR r e b m1 (a:Int)) (((stR r e b m1 (a:Int)).set b5 v).set b7 w):=fun v w=>(le_add (off5 _ _)).trans (le_add (by rw[set_has]; exact fun h=>h.elim p5 (off7 _ _)))
 obtain⟨⟨g,f4⟩,hG⟩:∃x,applyR e fa (decF b a).1=x:=⟨_,rfl⟩
 rw[hG]
 by_cases g4:f4=0
 case neg=>
  have hV:visitP e b s a fa=(⟨s.ff,s.nn,(takeP a (zf1 (decF b a).1.op.val) a s.tt).1,(a:Int)⟩,f4):=by unfold visitP; rw[if_neg g1]; simp only; rw[if_neg (by omega),if_neg (by rw[g3]; simp),hG,if_pos g4]
  have g4':((f4:Int)=0)=False:=eq_false (by omega)
  rw[hV]
  simp -implicitDefEqProofs only[go_sem,hT,g4',Nat.mul_one,Nat.add_zero,Nat.zero_add,n1,n2,n3,n4,Ne.symm n1,Ne.symm n2,Ne.symm n3,Ne.symm n4,p5,p6,p1,p2,p3,p4,Ne.symm p1,Ne.symm p2,Ne.symm p3,Ne.symm p4,bYheC1]
  exact⟨_,_,DLe.refl _,hle2 _ _,rfl,m1,hm1,rfl⟩
 have g4':((f4:Int)=0)=True:=eq_true (by omega)
 simp -implicitDefEqProofs only[go_sem,hT,g4',Nat.mul_one,Nat.add_zero,Nat.zero_add,n1,n2,n3,n4,Ne.symm n1,Ne.symm n2,Ne.symm n3,Ne.symm n4,p5,p6,p1,p2,p3,p4,Ne.symm p1,Ne.symm p2,Ne.symm p3,Ne.symm p4,bYheC1]
 refine za3 (size125 (decF b a).1.op) ?_
 have w1:IntKind.wrap .i64 ((a:Int)+(zf1 (decF b a).1.op.val:Int))=(a:Int)+zf1 (decF b a).1.op.val:=zc2 (by omega) (by omega)
 simp -implicitDefEqProofs only[go_sem,hT,Nat.mul_one,Nat.add_zero,Nat.zero_add,n1,n2,n3,n4,Ne.symm n1,Ne.symm n2,Ne.symm n3,Ne.symm n4,p5,p6,p1,p2,p3,p4,Ne.symm p1,Ne.symm p2,Ne.symm p3,Ne.symm p4,w1,kq1,bYheC0]
 refine za3 (jumps83 (decF b a).1.op) ?_
 have kq2:∀w,(stR r e b m1 w).box r.q=some (eRn r e b w):=fun w=>stR_q
 have hV1:∀f5,(onD (decF b a).1 b.length).2=f5→f5≠0→visitP e b s a fa=(⟨s.ff,s.nn,(takeP a (zf1 (decF b a).1.op.val) a s.tt).1,(a:Int)⟩,f5):=fun f5 h5 h6=>by
  unfold visitP; rw[if_neg g1]; simp only; rw[if_neg (by omega),if_neg (by rw[g3]; simp),hG,if_neg (by omega),if_pos (by omega),h5]
 have hV2:(onD (decF b a).1 b.length).2=0→visitP e b s a fa=handsP e.cs g (onD (decF b a).1 b.length).1 ⟨s.ff,s.nn,(takeP a (zf1 (decF b a).1.op.val) a s.tt).1,(a:Int)⟩:=fun h5=>by
  unfold visitP; rw[if_neg g1]; simp only; rw[if_neg (by omega),if_neg (by rw[g3]; simp),hG,if_neg (by omega),if_neg (by omega)]
 have hja:=fun hj=>jumps_a g2 hj
 have hL:∀m' w,offL (stR r e b m' w) [.bx b5 (eIn (decF b a).1),.bx b7 (eFr g)]:=fun m' w=>⟨off5 _ _,off7 _ _,trivial⟩
 have hb7':∀m' w,(putL (stR r e b m' w) [.bx b5 (eIn (decF b a).1),.bx b7 (eFr g)]).box b7=some (eFr g):=fun m' w=>by simp[putL,LI.put,St.set_box]
 have offB:∀{bb:Nat} {v w:List D},¬(((stR r e b m1 (a:Int)).set b5 v).set b7 w).has bb→∀m' w',¬(putL (stR r e b m' w') [.bx b5 (eIn (decF b a).1),.bx b7 (eFr g)]).has bb:=fun {bb v w} h m' w' h'=>h (by
  simp only[putL,List.foldl_cons,List.foldl_nil,LI.put,set_has] at h' ⊢
  rcases h' with h'|h'|h'
  ·exact .inl h'
  ·exact .inr (.inl h')
  ·exact .inr (.inr ((stR_has hr).2 ((stR_has hr).1 h'))))
 have tail:=fun(bb cap k:Nat) (zs:List Int) hz hc hbb hpos R hR T (hE:envOk [(0,.ptr r.q 0),(7,.ptr b7 0),(8,.bsl bb 0 zs.length cap)] T)=>visit_tail r hr e b m1 ⟨s.ff,s.nn,(takeP a (zf1 (decF b a).1.op.val) a s.tt).1,(a:Int)⟩ hm1 g hl [.bx b5 (eIn (decF b a).1),.bx b7 (eFr g)] b7 bb cap k zs hz hc hL hb7' hbb hpos R hR T hE.1 hE.2.1 hE.2.2.1
 cases hj:jumpsB (decF b a).1.op.val
 ·simp -implicitDefEqProofs only[go_sem,hT,Nat.mul_one,Nat.add_zero,Nat.zero_add,n1,n2,n3,n4,Ne.symm n1,Ne.symm n2,Ne.symm n3,Ne.symm n4,p5,p6,p1,p2,p3,p4,Ne.symm p1,Ne.symm p2,Ne.symm p3,Ne.symm p4,kq1,bYheC0]
  refine za3 (ends88 (decF b a).1.op) ?_
  cases he:endsB (decF b a).1.op.val
  ·by_cases g6:(a:Int)+zf1 (decF b a).1.op.val=b.length
   ·have g6':((a:Int)+zf1 (decF b a).1.op.val=b.length)=True:=eq_true g6
    simp -implicitDefEqProofs only[go_sem,hT,Nat.mul_one,Nat.add_zero,Nat.zero_add,n1,n2,n3,n4,Ne.symm n1,Ne.symm n2,Ne.symm n3,Ne.symm n4,p5,p6,p1,p2,p3,p4,Ne.symm p1,Ne.symm p2,Ne.symm p3,Ne.symm p4,kq1,g6',bYheC0]
    rw[hV1 51 (by unfold onD; rw[if_neg (by rw[hj]; simp),if_pos ⟨he,by rw[hpos]; exact g6⟩]) (by omega)]
    exact⟨_,_,DLe.refl _,hle2 _ _,rfl,m1,hm1,rfl⟩
   ·have g6':((a:Int)+zf1 (decF b a).1.op.val=b.length)=False:=eq_false g6
    simp -implicitDefEqProofs only[go_sem,hT,Nat.mul_one,Nat.add_zero,Nat.zero_add,n1,n2,n3,n4,Ne.symm n1,Ne.symm n2,Ne.symm n3,Ne.symm n4,p5,p6,p1,p2,p3,p4,Ne.symm p1,Ne.symm p2,Ne.symm p3,Ne.symm p4,kq1,g6',frz,bYheC0]
    refine appB_nil fun bb cap hbb hc=> ?_
    have ho:onD (decF b a).1 b.length=([(a:Int)+zf1 (decF b a).1.op.val],0):=by
     unfold onD; rw[if_neg (by rw[hj]; simp),if_neg (by rw[hpos]; exact fun h=>g6 h.2),hj,he,hpos]; simp
    rw[hV2 (by rw[ho]),ho]
    simp -implicitDefEqProofs only[go_sem,hT]
    refine tail bb cap (cap-1) [(a:Int)+zf1 (decF b a).1.op.val] (by simp) (by simpa using hc) (offB hbb) (by intro z hz; simp at hz; omega) _ (by rw[sort1,compact1]) _ ?_
    simp -implicitDefEqProofs only[go_sem,hT]
  ·simp -implicitDefEqProofs only[go_sem,hT,Nat.mul_one,Nat.add_zero,Nat.zero_add,n1,n2,n3,n4,Ne.symm n1,Ne.symm n2,Ne.symm n3,Ne.symm n4,p5,p6,p1,p2,p3,p4,Ne.symm p1,Ne.symm p2,Ne.symm p3,Ne.symm p4,kq1,bYheC0]
   have ho:onD (decF b a).1 b.length=([],0):=by
    unfold onD; rw[if_neg (by rw[hj]; simp),if_neg (by rw[he]; simp),hj,he]; simp
   rw[hV2 (by rw[ho]),ho]
   simp -implicitDefEqProofs only[go_sem,c123_12,hT]
   refine za3 sort125n ?_
   simp -implicitDefEqProofs only[go_sem,hT]
   refine za3 compact160n ?_
   simp -implicitDefEqProofs only[go_sem,hT]
   refine loopL F123 (fun _:Unit=>[(98,.int .i64 0),(99,.int .i64 0)]) (fun _=>stR r e b m1 (a:Int)) (fun _=>True) (fun _=>0) () trivial ?_ (hle2 _ _) ?_
   ·simp -implicitDefEqProofs only[go_sem,hT]
    rfl
   clear hT T
   intro _ _ T hT
   simp -implicitDefEqProofs only[go_sem,hT]
   exact⟨_,_,DLe.refl _,St.le.refl _,rfl,m1,hm1,rfl⟩
 ·by_cases g5:(b.length:Int)≤(decF b a).1.a
  ·have g5':((b.length:Int)≤(decF b a).1.a)=True:=eq_true g5
   simp -implicitDefEqProofs only[go_sem,hT,Nat.mul_one,Nat.add_zero,Nat.zero_add,n1,n2,n3,n4,Ne.symm n1,Ne.symm n2,Ne.symm n3,Ne.symm n4,p5,p6,p1,p2,p3,p4,Ne.symm p1,Ne.symm p2,Ne.symm p3,Ne.symm p4,kq1,g5',bYheC0]
   rw[hV1 50 (by unfold onD; rw[if_pos ⟨hj,g5⟩]) (by omega)]
   exact⟨_,_,DLe.refl _,hle2 _ _,rfl,m1,hm1,rfl⟩
  ·have g5':((b.length:Int)≤(decF b a).1.a)=False:=eq_false g5
   simp -implicitDefEqProofs only[go_sem,hT,Nat.mul_one,Nat.add_zero,Nat.zero_add,n1,n2,n3,n4,Ne.symm n1,Ne.symm n2,Ne.symm n3,Ne.symm n4,p5,p6,p1,p2,p3,p4,Ne.symm p1,Ne.symm p2,Ne.symm p3,Ne.symm p4,kq1,g5',frz,bYheC0]
   refine appB_nil fun b1 cap hb1 hc1=> ?_
   have hb1':=hb1
   simp only[set_has,not_or] at hb1'
   obtain⟨z1,z2,hz3⟩:=hb1'
   obtain⟨z3,z4,z5,z6⟩:=stR_ne hr hz3
   simp -implicitDefEqProofs only[go_sem,hT,Nat.mul_one,Nat.add_zero,Nat.zero_add,n1,n2,n3,n4,Ne.symm n1,Ne.symm n2,Ne.symm n3,Ne.symm n4,p5,p6,p1,p2,p3,p4,Ne.symm p1,Ne.symm p2,Ne.symm p3,Ne.symm p4,z1,z2,z3,z4,z5,z6,Ne.symm z1,Ne.symm z2,Ne.symm z3,kq1,bYheC0]
   refine za3 (ends88 (decF b a).1.op) ?_
   have hA0:=hja hj
   cases he:endsB (decF b a).1.op.val
   ·by_cases g6:(a:Int)+zf1 (decF b a).1.op.val=b.length
    ·have g6':((a:Int)+zf1 (decF b a).1.op.val=b.length)=True:=eq_true g6
     simp -implicitDefEqProofs only[go_sem,hT,Nat.mul_one,Nat.add_zero,Nat.zero_add,n1,n2,n3,n4,Ne.symm n1,Ne.symm n2,Ne.symm n3,Ne.symm n4,p5,p6,p1,p2,p3,p4,Ne.symm p1,Ne.symm p2,Ne.symm p3,Ne.symm p4,z1,z2,z3,z4,z5,z6,Ne.symm z1,Ne.symm z2,Ne.symm z3,kq1,g6',bYheC0]
     rw[hV1 51 (by unfold onD; rw[if_neg (fun h=>g5 h.2),if_pos ⟨he,by rw[hpos]; exact g6⟩]) (by omega)]
     exact⟨_,_,DLe.refl _,(hle2 _ _).trans (le_add hb1),rfl,m1,hm1,rfl⟩
    ·have g6':((a:Int)+zf1 (decF b a).1.op.val=b.length)=False:=eq_false g6
     have ho:onD (decF b a).1 b.length=(Lib.compact (sortZ [(decF b a).1.a,(a:Int)+zf1 (decF b a).1.op.val]),0):=by
      unfold onD
      rw[if_neg (fun h=>g5 h.2),if_neg (by rw[hpos]; exact fun h=>g6 h.2),hj,he,hpos,sort2]
      simp only[Bool.false_eq_true,true_and,false_or,if_true]
      rcases Int.lt_trichotomy (decF b a).1.a ((a:Int)+zf1 (decF b a).1.op.val) with h|h|h
      ·rw[if_pos h,if_neg (by omega),if_pos (by omega),compact2,if_neg (by omega)]; rfl
      ·rw[if_neg (by omega),if_neg (by omega),if_pos (by omega),compact2,if_pos h,h]; rfl
      ·rw[if_neg (by omega),if_pos h,if_neg (by omega),compact2,if_neg (by omega)]; rfl
     rw[hV2 (by rw[ho]),ho]
     simp -implicitDefEqProofs only[go_sem,hT,Nat.mul_one,Nat.add_zero,Nat.zero_add,n1,n2,n3,n4,Ne.symm n1,Ne.symm n2,Ne.symm n3,Ne.symm n4,p5,p6,p1,p2,p3,p4,Ne.symm p1,Ne.symm p2,Ne.symm p3,Ne.symm p4,z1,z2,z3,z4,z5,z6,Ne.symm z1,Ne.symm z2,Ne.symm z3,kq1,g6',frz,bYheC0]
     have fin:∀z∈[(decF b a).1.a,(a:Int)+zf1 (decF b a).1.op.val],0≤z:=by intro z hz; simp at hz; omega
     refine appB_one hc1 (by rw[St.set_box,if_pos rfl]; rfl) (fun h2=> ?_) (fun b2 cap2 hb2 h2=> ?_)
     ·simp -implicitDefEqProofs only[go_sem,hT,za2]
      refine tail b1 cap (cap-2) [(decF b a).1.a,(a:Int)+zf1 (decF b a).1.op.val] (by simp) (by simpa using h2) (offB hb1) fin _ rfl _ ?_
      simp -implicitDefEqProofs only[go_sem,hT]
     ·have off1:∀m' w,¬(stR r e b m' w).has b1:=fun m' w=>stR_off hr hz3
      simp -implicitDefEqProofs only[go_sem,hT]
      refine visit_tail r hr e b m1 ⟨s.ff,s.nn,(takeP a (zf1 (decF b a).1.op.val) a s.tt).1,(a:Int)⟩ hm1 g hl [.bx b5 (eIn (decF b a).1),.bx b7 (eFr g),.bx b1 ([(decF b a).1.a].map eZ++List.replicate (cap-1) .any)] b7 b2 cap2 (cap2-2) [(decF b a).1.a,(a:Int)+zf1 (decF b a).1.op.val] (by simp) (by simpa using h2)
       (fun m' w=>⟨off5 _ _,off7 _ _,off1 _ _,trivial⟩) (fun m' w=>by simp[putL,LI.put,St.set_box,Ne.symm z1]) (fun m' w' h'=>hb2 ?_) fin _ rfl _ ?_ ?_ ?_
      ·simp only[putL,List.foldl_cons,List.foldl_nil,LI.put,set_has] at h' ⊢
       rcases h' with h'|h'|h'|h'
       ·exact .inl h'
       ·exact .inr (.inl h')
       ·exact .inr (.inr (.inl h'))
       ·exact .inr (.inr (.inr ((stR_has hr).2 ((stR_has hr).1 h'))))
      ·simp -implicitDefEqProofs only[go_sem,hT]
      ·simp -implicitDefEqProofs only[go_sem,hT]
      ·simp -implicitDefEqProofs only[go_sem,hT]
   ·have ho:onD (decF b a).1 b.length=([(decF b a).1.a],0):=by
     unfold onD; rw[if_neg (fun h=>g5 h.2),if_neg (by rw[he]; simp),hj,he]; simp
    rw[hV2 (by rw[ho]),ho]
    simp -implicitDefEqProofs only[go_sem,hT,Nat.mul_one,Nat.add_zero,Nat.zero_add,n1,n2,n3,n4,Ne.symm n1,Ne.symm n2,Ne.symm n3,Ne.symm n4,p5,p6,p1,p2,p3,p4,Ne.symm p1,Ne.symm p2,Ne.symm p3,Ne.symm p4,z1,z2,z3,z4,z5,z6,Ne.symm z1,Ne.symm z2,Ne.symm z3,kq1,bYheC0]
    refine tail b1 cap (cap-1) [(decF b a).1.a] (by simp) (by simpa using hc1) (offB hb1) (by intro z hz; simp at hz; omega) _ (by rw[sort1,compact1]) _ ?_
    simp -implicitDefEqProofs only[go_sem,hT]
open Go.Proofs
theorem take_spec (p:Nat):∀(k x:Nat) (tt:Nat→Option Nat),
  ((∀y,x≤y→y<x+k→∀z,tt y=some z→z=p)→takeP p k x tt=(fun y=>if x≤y∧y<x+k then some p else tt y,true))∧
  ((∃y z,x≤y∧y<x+k∧tt y=some z∧z≠p)→(takeP p k x tt).2=false)
 |0,x,tt=>⟨fun _=>by
   show(tt,true)=_
   congr 1
   funext y
   rw[if_neg (by omega)],fun⟨y,z,h1,h2,_⟩=>by omega⟩
 |k+1,x,tt=>by
  have ih:=take_spec p k (x+1) (fun y=>if y=x then some p else tt y)
  constructor
  ·intro h
   have e:takeP p (k+1) x tt=takeP p k (x+1) fun y=>if y=x then some p else tt y:=by
    rw[takeP]
    cases htx:tt x with
    |none=>rfl
    |some z=>simp only; rw[if_neg (by simpa using h x (Nat.le_refl _) (by omega) z htx)]
   rw[e,ih.1 fun y h1 h2 z hz=>by
    split at hz
    ·cases hz; rfl
    ·exact h y (by omega) (by omega) z hz]
   congr 1
   funext y
   by_cases h1:y=x
   ·subst h1; rw[if_neg (by omega),if_pos rfl,if_pos (by omega)]
   ·by_cases h2:x+1≤y∧y<x+1+k
    ·rw[if_pos h2,if_pos (by omega)]
    ·rw[if_neg h2,if_neg h1,if_neg (by omega)]
  ·rintro⟨y,z,h1,h2,h3,h4⟩
   rw[takeP]
   by_cases hy:y=x
   ·subst hy
    rw[h3]; simp only; rw[if_pos h4]
   ·have hrest:=ih.2 ⟨y,z,by omega,by omega,by rw[if_neg hy]; exact h3,h4⟩
    cases htx:tt x with
    |none=>exact hrest
    |some w=>
     simp only
     split
     ·rfl
     ·exact hrest
structure Alike (b:List Ty) (s:IS) (p:RS):Prop where
 f:∀x,p.ff x=if(s.has[x]?).getD false=true then some ((s.fr[x]?).getD (fr0 0)) else none
 n:∀x,p.nn x=if(s.fresh[x]?).getD false=true then some () else none
 t:∀y x,p.tt y=some x↔x≤y∧y<x+(s.tk[x]?).getD 0
 z:∀x,(s.tk[x]?).getD 0≠0→(s.tk[x]?).getD 0=zf1 (decF b x).1.op.val
theorem hand_alike {l:List Cl} {b:List Ty} {s:IS} {p:RS} {m a:Nat} {g:Fr} (h:Alike b s p) (hs:s.sz m) (ha:a<m):
  Alike b (handD l s a g).1 (handP l p a g).1∧(handD l s a g).2=(handP l p a g).2∧((handP l p a g).2≠0→(handP l p a g).1.wh=a):=by
 have hf:=h.f a
 unfold handD handP
 by_cases h1:(s.has[a]?).getD false=false
 ·rw[if_pos h1]
  rw[if_neg (by rw[h1]; simp)] at hf
  rw[hf]
  refine⟨⟨fun x=> ?_,fun x=> ?_,h.t,h.z⟩,rfl,fun h=>absurd rfl h⟩
  ·simp only
   rw[set_at (by rw[hs.a]; exact ha),set_at (by rw[hs.b]; exact ha)]
   by_cases he:x=a
   ·rw[if_pos he,if_pos he,if_pos he]; simp
   ·rw[if_neg he,if_neg he,if_neg he]; exact h.f x
  ·simp only
   rw[set_at (by rw[hs.c]; exact ha)]
   by_cases he:x=a
   ·rw[if_pos he,if_pos he]; simp
   ·rw[if_neg he,if_neg he]; exact h.n x
 ·rw[if_neg h1]
  rw[Bool.not_eq_false] at h1
  rw[if_pos h1] at hf
  rw[hf]
  simp only
  by_cases h2:(mergeF l ((s.fr[a]?).getD (fr0 0)) g).2=0
  ·have q2:¬(mergeF l ((s.fr[a]?).getD (fr0 0)) g).2≠0:=fun h=>h h2
   rw[if_neg q2,if_neg q2]
   by_cases h3:(mergeF l ((s.fr[a]?).getD (fr0 0)) g).1=(s.fr[a]?).getD (fr0 0)
   ·have q3:¬(mergeF l ((s.fr[a]?).getD (fr0 0)) g).1≠(s.fr[a]?).getD (fr0 0):=fun h=>h h3
    rw[if_neg q3,if_neg q3]
    exact⟨h,rfl,fun h=>absurd rfl h⟩
   ·rw[if_pos h3,if_pos h3]
    refine⟨⟨fun x=> ?_,fun x=> ?_,h.t,h.z⟩,rfl,fun h=>absurd rfl h⟩
    ·simp only
     rw[set_at (by rw[hs.b]; exact ha)]
     by_cases he:x=a
     ·subst he; rw[if_pos rfl,if_pos rfl,h1,if_pos rfl]
     ·rw[if_neg he,if_neg he]; exact h.f x
    ·simp only
     rw[set_at (by rw[hs.c]; exact ha)]
     by_cases he:x=a
     ·rw[if_pos he,if_pos he]; simp
     ·rw[if_neg he,if_neg he]; exact h.n x
  ·rw[if_pos h2,if_pos h2]
   exact⟨⟨h.f,h.n,h.t,h.z⟩,rfl,fun _=>rfl⟩
def FH (s:IS):Prop:=∀x:Nat,(s.fresh[x]?).getD false=true→(s.has[x]?).getD false=true
theorem hand_FH {l:List Cl} {s:IS} {m a:Nat} {g:Fr} (h:FH s) (hs:s.sz m) (ha:a<m):FH (handD l s a g).1:=by
 intro x hx
 unfold handD at hx ⊢
 by_cases h1:(s.has[a]?).getD false=false
 ·rw[if_pos h1] at hx ⊢
  simp only at hx ⊢
  rw[set_at (by rw[hs.c]; exact ha)] at hx
  rw[set_at (by rw[hs.a]; exact ha)]
  by_cases he:x=a
  ·rw[if_pos he]
  ·rw[if_neg he] at hx ⊢; exact h x hx
 ·rw[if_neg h1] at hx ⊢
  split at hx
  ·rename_i h2; rw[if_pos h2]; exact h x hx
  ·rename_i h2
   rw[if_neg h2]
   split at hx
   ·rename_i h3
    rw[if_pos h3]
    simp only at hx ⊢
    rw[set_at (by rw[hs.c]; exact ha)] at hx
    by_cases he:x=a
    ·rw[he]; simpa using h1
    ·rw[if_neg he] at hx; exact h x hx
   ·rename_i h3; rw[if_neg h3]; exact h x hx
theorem hands_FH {l:List Cl} {m:Nat} {g:Fr}:∀{to:List Int} {s:IS},FH s→s.sz m→(∀x∈to,0≤x∧x<m)→FH (handsD l g to s).1
 |[],s,h,_,_=>h
 |a::r,s,h,hs,ht=>by
  have h0:=ht a (List.mem_cons_self ..)
  have k1:=hand_FH (l:=l) (g:=g) h hs (show a.toNat<m by omega)
  rw[handsD]
  split
  ·exact k1
  ·exact hands_FH k1 (hand_sz hs) fun x hx=>ht x (List.mem_cons_of_mem _ hx)
theorem round_FH {e:En} {b:List Ty} {s:IS} {a:Nat} (h:FH s) (hs:s.sz (b.length+1)) (ha:a≤b.length):FH (roundD e b s a).1:=by
 have k0:∀tk,FH ⟨s.has,s.fr,s.fresh.set a false,tk⟩:=fun tk x hx=>by
  simp only at hx ⊢
  rw[set_at (by rw[hs.c]; omega)] at hx
  by_cases he:x=a
  ·rw[if_pos he] at hx; cases hx
  ·rw[if_neg he] at hx; exact h x hx
 unfold roundD
 by_cases g1:a=b.length
 ·rw[if_pos g1]; exact k0 _
 rw[if_neg g1]
 by_cases g2:(decF b a).2=0
 case neg=>rw[if_pos g2]; exact k0 _
 have q2:¬(decF b a).2≠0:=fun h=>h g2
 rw[if_neg q2]
 by_cases g3:overB s.tk a (zf1 (decF b a).1.op.val)=true
 ·rw[if_pos g3]; exact k0 _
 rw[if_neg g3]
 simp only
 by_cases g4:(applyR e ((s.fr[a]?).getD (fr0 0)) (decF b a).1).2=0
 case neg=>rw[if_pos g4]; exact k0 _
 have q4:¬(applyR e ((s.fr[a]?).getD (fr0 0)) (decF b a).1).2≠0:=fun h=>h g4
 rw[if_neg q4]
 by_cases g5:(onD (decF b a).1 b.length).2=0
 case neg=>rw[if_pos g5]; exact k0 _
 have q5:¬(onD (decF b a).1 b.length).2≠0:=fun h=>h g5
 rw[if_neg q5]
 exact hands_FH (m:=b.length+1) (k0 _) ⟨hs.a,hs.b,by simpa using hs.c,by simpa using hs.d⟩ fun x hx=>by have:=on_in g2 hx; omega
theorem hands_alike {l:List Cl} {b:List Ty} {m:Nat} {g:Fr}:∀{to:List Int} {s:IS} {p:RS},Alike b s p→s.sz m→(∀x∈to,0≤x∧x<m)→
  (handsD l g to s).2.2=(handsP l g to p).2∧((handsP l g to p).2≠0→(handsD l g to s).2.1=(handsP l g to p).1.wh)∧Alike b (handsD l g to s).1 (handsP l g to p).1
 |[],s,p,h,_,_=>⟨rfl,fun h=>absurd rfl h,h⟩
 |a::r,s,p,h,hs,ht=>by
  have h0:=ht a (List.mem_cons_self ..)
  obtain⟨k1,k2,k3⟩:=hand_alike (l:=l) (g:=g) h hs (show a.toNat<m by omega)
  rw[handsD,handsP]
  by_cases he:(handP l p a.toNat g).2=0
  ·have q1:¬(handP l p a.toNat g).2≠0:=fun h=>h he
   have q2:¬(handD l s a.toNat g).2≠0:=by rw[k2]; exact q1
   rw[if_neg q1,if_neg q2]
   exact hands_alike k1 (hand_sz hs) fun x hx=>ht x (List.mem_cons_of_mem _ hx)
  ·have q2:(handD l s a.toNat g).2≠0:=by rw[k2]; exact he
   rw[if_pos he,if_pos q2]
   refine⟨k2,fun _=> ?_,k1⟩
   rw[k3 he]; show a=_; omega
theorem over_alike {b:List Ty} {s:IS} {p:RS} {a z:Nat} (h:Alike b s p) (hz:0<z):overB s.tk a z=true↔∃y x,a≤y∧y<a+z∧p.tt y=some x∧x≠a:=by
 unfold overB
 rw[List.any_eq_true]
 constructor
 ·rintro⟨x,hx,hd⟩
  rw[decide_eq_true_eq] at hd
  obtain⟨h1,h2,h3,h4⟩:=hd
  refine⟨max a x,x,by omega,by omega,(h.t _ _).2 ⟨by omega,by omega⟩,h2⟩
 ·rintro⟨y,x,h1,h2,h3,h4⟩
  obtain⟨h5,h6⟩:=(h.t _ _).1 h3
  have hl:x<s.tk.length:=Classical.byContradiction fun hc=>by
   rw[List.getElem?_eq_none (by omega)] at h6
   simp at h6; omega
  exact⟨x,List.mem_range.2 hl,by rw[decide_eq_true_eq]; exact⟨by omega,h4,by omega,by omega⟩⟩
theorem visit_alike {e:En} {b:List Ty} {s:IS} {p:RS} {a:Nat} {fa:Fr} (h:Alike b ⟨s.has,s.fr,s.fresh.set a false,s.tk⟩ p) (hs:s.sz (b.length+1)) (ha:a≤b.length) (hfa:fa=(s.fr[a]?).getD (fr0 0)):
  (roundD e b s a).2.2=(visitP e b p a fa).2∧((visitP e b p a fa).2≠0→(roundD e b s a).2.1=(visitP e b p a fa).1.wh)∧((visitP e b p a fa).2=0→Alike b (roundD e b s a).1 (visitP e b p a fa).1):=by
 subst hfa
 unfold roundD visitP
 by_cases g1:a=b.length
 ·rw[if_pos g1,if_pos g1]
  exact⟨rfl,fun _=>rfl,fun h=>by cases h⟩
 rw[if_neg g1,if_neg g1]
 by_cases g2:(decF b a).2=0
 case neg=>
  rw[if_pos g2]
  simp only
  rw[if_pos g2]
  exact⟨rfl,fun _=>rfl,fun h=>absurd h g2⟩
 have q2:¬(decF b a).2≠0:=fun h=>h g2
 have hdec:=decF_ok g2
 rw[if_neg q2]
 simp only
 rw[if_neg q2]
 have hov:=over_alike (a:=a) (z:=zf1 (decF b a).1.op.val) h (by omega)
 simp only at hov
 have hsp:=take_spec a (zf1 (decF b a).1.op.val) a p.tt
 cases g3:overB s.tk a (zf1 (decF b a).1.op.val)
 case true=>
  obtain⟨y,x,h1,h2,h3,h4⟩:=hov.1 g3
  rw[if_pos rfl,if_pos (hsp.2 ⟨y,x,h1,h2,h3,h4⟩)]
  exact⟨rfl,fun _=>rfl,fun h=>by cases h⟩
 have hno:∀y,a≤y→y<a+zf1 (decF b a).1.op.val→∀x,p.tt y=some x→x=a:=fun y h1 h2 x h3=>Classical.byContradiction fun hne=>by
  have:=hov.2 ⟨y,x,h1,h2,h3,hne⟩
  rw[g3] at this; cases this
 have htk:=hsp.1 hno
 rw[htk]
 simp only[Bool.false_eq_true,Bool.true_eq_false,if_false]
 by_cases g4:(applyR e ((s.fr[a]?).getD (fr0 0)) (decF b a).1).2=0
 case neg=>
  rw[if_pos g4,if_pos g4]
  exact⟨rfl,fun _=>rfl,fun h=>absurd h g4⟩
 have q4:¬(applyR e ((s.fr[a]?).getD (fr0 0)) (decF b a).1).2≠0:=fun h=>h g4
 rw[if_neg q4,if_neg q4]
 by_cases g5:(onD (decF b a).1 b.length).2=0
 case neg=>
  rw[if_pos g5,if_pos g5]
  exact⟨rfl,fun _=>rfl,fun h=>absurd h g5⟩
 have q5:¬(onD (decF b a).1 b.length).2≠0:=fun h=>h g5
 rw[if_neg q5,if_neg q5]
 have hal:Alike b ⟨s.has,s.fr,s.fresh.set a false,s.tk.set a (zf1 (decF b a).1.op.val)⟩ ⟨p.ff,p.nn,fun y=>if a≤y∧y<a+zf1 (decF b a).1.op.val then some a else p.tt y,(a:Int)⟩:=by
  refine⟨h.f,h.n,fun y x=> ?_,fun x hx=> ?_⟩
  ·simp only
   rw[set_at (by rw[hs.d]; omega)]
   by_cases he:x=a
   ·subst he
    rw[if_pos rfl]
    constructor
    ·intro hy
     by_cases hc:x≤y∧y<x+zf1 (decF b x).1.op.val
     ·exact hc
     ·rw[if_neg hc] at hy
      have h6:=(h.t y x).1 hy
      simp only at h6
      have h7:=h.z x (show(s.tk[x]?).getD 0≠0 by omega)
      simp only at h7
      rw[h7] at h6; exact h6
    ·intro hy; rw[if_pos hy]
   ·rw[if_neg he]
    by_cases hc:a≤y∧y<a+zf1 (decF b a).1.op.val
    ·rw[if_pos hc]
     constructor
     ·intro h5; cases h5; exact absurd rfl he
     ·intro h5
      exact absurd (hno y hc.1 hc.2 x ((h.t y x).2 h5)) he
    ·rw[if_neg hc]; exact h.t y x
  ·simp only at hx ⊢
   rw[set_at (by rw[hs.d]; omega)] at hx ⊢
   by_cases he:x=a
   ·rw[if_pos he,he]
   ·rw[if_neg he] at hx ⊢; exact h.z x hx
 obtain⟨k1,k2,k3⟩:=hands_alike (l:=e.cs) (m:=b.length+1) (g:=(applyR e ((s.fr[a]?).getD (fr0 0)) (decF b a).1).1) (to:=(onD (decF b a).1 b.length).1) hal ⟨hs.a,hs.b,by simpa using hs.c,by simpa using hs.d⟩ fun x hx=>by have:=on_in g2 hx; omega
 exact⟨k1,k2,fun _=>k3⟩
open Go.Proofs
structure SeenI (ks:List (Ky×Nat)) (n0:Nat) (seen:List Nat) (v:Nat):Prop where
 is:v=n0∨∃p∈ks,p.1=kyN v
 le:v≤n0
 all:∀p∈ks,p.2∈seen→∀n,p.1=kyN n→v≤n
theorem seen_nil {ks:List (Ky×Nat)} {n0:Nat}:SeenI ks n0 [] n0:=⟨.inl rfl,Nat.le_refl _,fun _ _ h=>by cases h⟩
theorem seen_step {ks:List (Ky×Nat)} {n0 v n s i:Nat} {seen:List Nat} (h:SeenI ks n0 seen v) (hn:(ks.map (·.2)).Nodup) (hi:ks[i]? =some (kyN n,s)):SeenI ks n0 (seen++[s]) (min v n):=by
 have hm:=List.mem_of_getElem? hi
 refine⟨?_,by have:=h.le; omega,fun p hp hs x hx=> ?_⟩
 ·by_cases hc:v≤n
  ·rw[Nat.min_eq_left hc]; exact h.is
  ·rw[Nat.min_eq_right (by omega)]; exact .inr ⟨_,hm,rfl⟩
 ·rcases List.mem_append.1 hs with hs|hs
  ·have:=h.all p hp hs x hx; omega
  ·have hps:p.2=s:=by simpa using hs
   obtain⟨j,hj⟩:=List.mem_iff_getElem?.1 hp
   have:i=j:=nodup_at hn (b:=s) (by rw[List.getElem?_map,hi]; rfl) (by rw[List.getElem?_map,hj,←hps]; rfl)
   subst this
   rw[hi] at hj
   cases hj
   have:=kyN_inj.1 hx
   omega
def unseen (ks:List (Ky×Nat)) (seen:List Nat):Nat:=(ks.filter fun p=>decide (p.2∉seen)).length
theorem unseen_lt {ks:List (Ky×Nat)} {seen:List Nat} {i s:Nat} {k:Ky} (hi:ks[i]? =some (k,s)) (hs:s∉seen):unseen ks (seen++[s])<unseen ks seen:=
 filter_lt (fun p _ hp=>by
  rw[decide_eq_true_eq] at hp ⊢
  exact fun h=>hp (List.mem_append_left _ h)) ⟨_,List.mem_of_getElem? hi,by simp,by simpa using hs⟩
theorem seen_end {b:List Ty} {s:IS} {p:RS} {ks:List (Ky×Nat)} {vs:List D} {c n0 v:Nat} {seen:List Nat} (h:SeenI ks n0 seen v) (hm:MapR dU p.nn ks vs c) (ha:Alike b s p) (hs:s.sz (n0+1)) (hall:∀p∈ks,p.2∈seen) (hne:0<ks.length):
  leastD s.fresh=v∧v≤n0∧(s.fresh[v]?).getD false=true:=by
 have key:∀x,(s.fresh[x]?).getD false=true↔∃q∈ks,q.1=kyN x:=fun x=>by
  have hx:=ha.n x
  constructor
  ·intro hf
   rw[if_pos hf] at hx
   obtain⟨j,h1,_⟩:=hm.yes x () hx
   obtain⟨t,ht⟩:=kf_some h1
   exact⟨_,List.mem_of_getElem? ht,rfl⟩
  ·rintro⟨q,hq,he⟩
   refine Classical.byContradiction fun hc=> ?_
   rw[if_neg hc] at hx
   exact kf_none (hm.no x hx) q hq he
 have hv:(s.fresh[v]?).getD false=true:=by
  rcases h.is with h1|h1
  ·obtain⟨q,hq⟩:∃q,ks[0]? =some q:=⟨_,List.getElem?_eq_getElem hne⟩
   have hmem:=List.mem_of_getElem? hq
   obtain⟨x,hx⟩:=hm.key q hmem
   have hle:=h.all q hmem (hall q hmem) x hx
   have hfx:=(key x).2 ⟨q,hmem,hx⟩
   have hxl:x<s.fresh.length:=Classical.byContradiction fun hc=>by rw[List.getElem?_eq_none (by omega)] at hfx; cases hfx
   rw[hs.c] at hxl
   rw[show v=x by omega]; exact hfx
  ·exact(key v).2 h1
 refine⟨least_at (by rw[hs.c]; have:=h.le; omega) hv fun j hj=> ?_,h.le,hv⟩
 cases hf:(s.fresh[j]?).getD false with
 |false=>rfl
 |true=>
  obtain⟨q,hq,he⟩:=(key j).1 hf
  have:=h.all q hq (hall q hq) j he
  omega
open Go.Proofs
section
variable {P : Program} {N : Nat} {T : Env} {σ : St} {Q : XA → Env → St → Prop} {c : AC} {id : Nat}
theorem vc_scope [DSt] [Mo]:vcA P N (.scope c) Q T σ=vcA P N c (scopeA Q) T σ:=rfl
theorem scope_r:scopeA Q .ret T σ=Q .ret T σ:=rfl
attribute [go_sem] vc_scope scope_r
end
theorem callB_underM {P:Program} {N:Nat} {T:Env} {K:Env→St→Prop} {Q:XA→Env→St→Prop} {s:St} {dst:Option Nat} {g:FuncId} {ds:List D} {R:D→St→Prop} {b:Nat} {o:MO} (hb:¬s.has b) (h:RCall P g ds s R)
  (hk:∀d s',R d s'→putK N dst d K T (s'.setM b o)):callB P N [] false dst g ds K Q T (s.setM b o):=by
 have hj:∀s':St,¬s'.has b→St.join s' (({}:St).setM b o)=s'.setM b o:=fun s' hs=>by
  have hm:s'.mp b=none:=not_mp hs
  simp only[St.join,St.setM]
  congr 1
  ·funext x; cases s'.box x <;> rfl
  ·funext x; cases s'.buf x <;> rfl
  ·funext x
   by_cases he:x=b
   ·subst he; simp[hm]
   ·simp[he]
 have hh:∀x,(({}:St).setM b o).has x→x=b:=fun x hx=>by
  simp only[St.has,St.setM] at hx
  by_cases he:x=b
  ·exact he
  ·simp[he] at hx
 refine⟨s,({}:St).setM b o,_,⟨(hj s hb).symm,fun x hx hf=>hb (hh x hf▸hx)⟩,fun b hb=>(by cases hb),h,fun h=>(by cases h),fun x s' ⟨d,hx,hd⟩ hap _=> ?_⟩
 subst hx
 have hb':¬s'.has b:=fun hc=>hap b hc (.inr (.inr (by simp[St.setM])))
 rw[hj s' hb']
 exact hk d s' hd
theorem zero147:zf2 Tryz.prog 147=some [.slice .nil [],.slice .nil [],.int .i64 0,.slice .nil [],.any,.any,.any,.int .i64 0]:=by kernel_rfl
theorem setM_setM {σ:St} {b:Nat} {x y:MO}:(σ.setM b x).setM b y=σ.setM b y:=by
 simp only[St.setM]; congr 1; funext z; split <;> rfl
def goneD (e:En) (loc:Int) (b:List Ty):IS×Int×Nat:=goD e b (fuelD b.length) (is0 b.length (startF e.cs.length (psOf e) loc).1) 0
def aroundR (e:En) (loc:Int) (b:List Ty) (d:D) (s':St):Prop:=
 if mayE e loc≠0 then d= .tup [.nilptr,.int .i64 0,.int .i64 (mayE e loc)]∧s'={}
 else if 4096<b.length then d= .tup [.nilptr,.int .i64 0,.int .i64 4]∧s'={}
 else if(goneD e loc b).2.2≠0 then d= .tup [.nilptr,.int .i64 (goneD e loc b).2.1,.int .i64 (goneD e loc b).2.2]∧s'={}
 else ∃(r:RB) (m:RM) (p:RS),r.ne∧m.of p∧Alike b (goneD e loc b).1 p∧(goneD e loc b).1.sz (b.length+1)∧d= .tup [.ptr r.q 0,.int .i64 0,.int .i64 0]∧s'=stR r e b m p.wh
def bYheF0:=aI @zb8 (aI @zc0 (aI @zb2 (aI @zb1 (aI @za5 (aI @za4 (aI @zb3 (aI @za7 (aI @gdD @zc1))))))))
theorem around79 (e:En) (loc:Int) (b:List Ty) (hw:WideE e) (hb:b.length≤140737488355328):
  RCall Tryz.prog 79 [.agg (eEn e),.int .i64 loc,.slice .no (rws eT b)] {} (aroundR e loc b):=by
 have en1:(eEn e)[1]? =some (.slice .no (rws eSg e.sgs)):=rfl
 have en0:(eEn e)[0]? =some (.slice .no (rws eC e.cs)):=rfl
 have en2:(eEn e)[2]? =some (.int .i64 e.fn):=rfl
 refine F79.rcall rfl fun T hT=> ?_
 simp -implicitDefEqProofs only[go_sem,c79,hT,Nat.mul_one,Nat.add_zero,Nat.zero_add,bYheF0]
 intro b3
 refine za3 (may31 e loc hw) ?_
 by_cases g1:mayE e loc=0
 case neg=>
  have g1':((mayE e loc:Int)=0)=False:=eq_false (by omega)
  simp -implicitDefEqProofs only[go_sem,hT,g1']
  refine⟨_,{},DLe.refl _,St.le.nil _, ?_⟩
  unfold aroundR; rw[if_pos g1]; exact⟨rfl,rfl⟩
 have g1':((mayE e loc:Int)=0)=True:=eq_true (by omega)
 by_cases g2:4096<b.length
 ·have g2':((4096:Int)<b.length)=True:=eq_true (by omega)
  simp -implicitDefEqProofs only[go_sem,hT,g1',g2',Nat.mul_one,Nat.add_zero,Nat.zero_add,bYheF0]
  refine⟨_,{},DLe.refl _,St.le.nil _, ?_⟩
  unfold aroundR; rw[if_neg (by omega),if_pos g2]; exact⟨rfl,rfl⟩
 have g2':((4096:Int)<b.length)=False:=eq_false (by omega)
 have hno:¬(canB e=false∨loc<(psOf e).length∨16<loc):=fun h=>(may_can e loc).2 h g1
 have hcan:canB e=true:=by
  cases h:canB e with
  |true=>rfl
  |false=>exact absurd (.inl h) hno
 obtain⟨hs,h0,hps,hp8,hst⟩:=can_sig hcan
 obtain⟨n,hn⟩:∃n:Nat,e.fn=n:=⟨e.fn.toNat,by omega⟩
 have hn':e.fn.toNat=n:=by omega
 have hs':n<e.sgs.length:=by omega
 have hps2:psOf e=e.sgs[n].ps:=by rw[hps]; simp only[hn']
 have hsg:=rws_at (enc:=eSg) hs'
 have sg0:∀x:Sg,(eSg x)[0]? =some (.slice .no (rws eT x.ps)):=fun _=>rfl
 simp -implicitDefEqProofs only[go_sem,hT,g1',g2',Nat.mul_one,Nat.add_zero,Nat.zero_add,en0,en1,en2,hn,hsg,bYheF0]
 refine⟨⟨⟨by omega,by omega⟩,rfl⟩, ?_⟩
 simp -implicitDefEqProofs only[go_sem,hT,Nat.mul_one,Nat.add_zero,Nat.zero_add,en0,en1,en2,hn,hsg,sg0,bYheF0]
 refine za3 (start68 e.cs .no .no e.sgs[n].ps loc (by rw[←hps2]; omega)) ?_
 rw[←hps2]
 simp -implicitDefEqProofs only[go_sem,hT,Nat.mul_one,Nat.add_zero,Nat.zero_add,en0,en1,en2,bYheF0]
 intro b10 m1 m2
 simp -implicitDefEqProofs only[go_sem,hT,zb8,zc0,zb2,zb1,za5,za4,zb3,za7,gdD,Nat.mul_one,Nat.add_zero,Nat.zero_add,zc1,en0,en1,en2,m1,m2,za2,frz]
 obtain⟨f0,hf0⟩:∃f0,(startF e.cs.length (psOf e) loc).1=f0:=⟨_,rfl⟩
 rw[hf0]
 obtain⟨kf,vf,cf,q1,q2⟩:=(MapR.nil (enc:=dF)).set 0 f0
 obtain⟨kn,vn,cn,q3,q4⟩:=(MapR.nil (enc:=dU)).set 0 ()
 have q1':mset (some .i64) [] [] 0 (kyN 0) (.agg (eFr f0))= .map (some .i64) kf vf cf:=q1
 have q3':mset (some .i64) [] [] 0 (kyN 0) (.agg [])= .map (some .i64) kn vn cn:=q3
 rw[mkmA_map mp143 kk3]
 intro bf hbf
 simp only[set_has,not_or] at hbf
 obtain⟨u1,u2,u3⟩:=hbf
 simp -implicitDefEqProofs only[go_sem,hT,Nat.mul_one,Nat.add_zero,Nat.zero_add,m1,m2,u1,u2,Ne.symm u1,Ne.symm u2,bYheF0]
 rw[updA_map (k:=kyN 0) mp143 kk3 rfl (by rw[setM_mp,if_pos rfl]) rfl]
 simp -implicitDefEqProofs only[go_sem,hT,frz,q1']
 rw[mkmA_map mp144 kk3]
 intro bn hbn
 simp -implicitDefEqProofs only[go_sem,hT]
 rw[updA_map (k:=kyN 0) mp144 kk3 rfl (by rw[setM_mp,if_pos rfl]) rfl]
 simp -implicitDefEqProofs only[go_sem,hT,frz,q3']
 rw[mkmA_map mp145 kk3]
 intro bt hbt
 simp -implicitDefEqProofs only[go_sem,hT,zb8,zc0,zb2,zb1,za5,za4,zb3,za7,gdD,Nat.mul_one,Nat.add_zero,Nat.zero_add,zc1,frz,zero147,eEn]
 intro bq hbq
 have hbn':=hbn
 have hbt':=hbt
 have hbq':=hbq
 obtain⟨r,hr0⟩:∃r:RB,r=⟨bq,bf,bn,bt⟩:=⟨_,rfl⟩
 have hne:r.ne:=by
  rw[hr0]
  refine⟨fun h=> ?_,fun h=> ?_,fun h=> ?_,fun h=> ?_,fun h=> ?_,fun h=> ?_⟩
  ·exact hbq (.inr (.inr (by rw[show bq=bf from h]; simp only[setM_mp]; repeat' split <;> simp)))
  ·exact hbq (.inr (.inr (by rw[show bq=bn from h]; simp only[setM_mp]; repeat' split <;> simp)))
  ·exact hbq (.inr (.inr (by rw[show bq=bt from h]; simp[setM_mp])))
  ·exact hbn (.inr (.inr (by rw[←show bf=bn from h]; simp[setM_mp])))
  ·exact hbt (.inr (.inr (by rw[←show bf=bt from h]; simp only[setM_mp]; repeat' split <;> simp)))
  ·exact hbt (.inr (.inr (by rw[←show bn=bt from h]; simp[setM_mp])))
 obtain⟨m0,hm0⟩:∃m0:RM,m0=⟨kf,vf,cf,kn,vn,cn,[],[],0⟩:=⟨_,rfl⟩
 obtain⟨s0,hs0⟩:∃s0,s0=is0 b.length f0:=⟨_,rfl⟩
 obtain⟨RES,hRES⟩:∃x,goneD e loc b=x:=⟨_,rfl⟩
 have hgo0:goD e b (fuelD b.length) s0 0=RES:=by rw[←hRES,goneD,hf0,←hs0]
 have hF:Falls e.cs e.cs.length:=can_falls hw hcan
 refine loopL F79 (fun x:IS×RS×RM=>[(2,.slice .no (rws eT b)),(12,.ptr r.q 0),(13,.int .i64 0)]) (fun x=>stR r e b x.2.2 x.2.1.wh)
  (fun x=>x.1.sz (b.length+1)∧FH x.1∧Alike b x.1 x.2.1∧x.2.2.of x.2.1∧∃k,muS e.cs x.1 (b.length+1)<k∧goD e b k x.1 (leastD x.1.fresh)=RES)
  (fun x=>muS e.cs x.1 (b.length+1)) (s0,⟨fun x=>if x=0 then some f0 else none,fun x=>if x=0 then some () else none,fun _=>none,0⟩,m0) ?_ ?_ ?_ ?_
 ·have hl0:leastD s0.fresh=((0:Nat):Int):=by
   rw[hs0]; exact least_at (by simp[is0]) (by simp[is0]) (fun j hj=>by omega)
  refine⟨by rw[hs0]; exact⟨by simp[is0],by simp[is0],by simp[is0],by simp[is0]⟩,by rw[hs0]; exact fun x hx=>hx,⟨fun x=> ?_,fun x=> ?_,fun y x=> ?_,fun x hx=> ?_⟩,by rw[hm0]; exact⟨q2,q4,MapR.nil⟩,fuelD b.length, ?_,by rw[hl0]; exact hgo0⟩
  ·simp only[hs0,is0]
   rw[set_at (by simp),set_at (by simp)]
   by_cases hx:x=0
   ·rw[if_pos hx,if_pos hx,if_pos hx]; simp
   ·rw[if_neg hx,if_neg hx,List.getElem?_replicate]; split <;> simp
  ·simp only[hs0,is0]
   rw[set_at (by simp)]
   by_cases hx:x=0
   ·rw[if_pos hx,if_pos hx]; simp
   ·rw[if_neg hx,if_neg hx,List.getElem?_replicate]; split <;> simp
  ·simp only[hs0,is0,List.getElem?_replicate]
   constructor
   ·intro h; cases h
   ·rintro⟨h1,h2⟩; split at h2 <;> simp at h2 <;> omega
  ·exfalso; apply hx
   simp only[hs0,is0,List.getElem?_replicate]; split <;> rfl
  ·have:=muS_le (l:=e.cs) (s:=s0) (m:=b.length+1)
   show muS e.cs s0 (b.length+1)<fuelD b.length
   unfold fuelD
   rw[show b.length+1+1=b.length+2 from rfl] at this
   generalize (b.length+1)*6145*(b.length+2)=P at *
   omega
 ·simp -implicitDefEqProofs only[go_sem,hT,hr0]
 ·have x1:=hne.qf; have x2:=hne.qn; have x3:=hne.qt; have x4:=hne.fn; have x5:=hne.ft; have x6:=hne.nt
  rw[hr0] at x1 x2 x3 x4 x5 x6 ⊢
  simp only at x1 x2 x3 x4 x5 x6
  refine le_stR ?_ ?_ ?_ ?_
  ·rw[St.set_box,if_pos rfl]; rfl
  ·rw[hm0]; simp[set_mp,setM_mp,x4,x5]
  ·rw[hm0]; simp[set_mp,setM_mp,x6]
  ·rw[hm0]; simp[set_mp,setM_mp]
 clear hT T
 rintro⟨s,p,m⟩ ⟨hsz,hFH,hal,hm,k,hk,hgo⟩ T hT
 simp only at hsz hFH hal hm hk hgo hT ⊢
 have kq:=stR_q (r:=r) (e:=e) (b:=b) (m:=m) (wh:=p.wh)
 have kn':=stR_n (e:=e) (b:=b) (m:=m) (wh:=p.wh) hne
 simp -implicitDefEqProofs only[go_sem,hT,zb8,zc0,zb2,zb1,za5,za4,zb3,za7,gdD,Nat.mul_one,Nat.add_zero,Nat.zero_add,zc1,eRn_0,eRn_3,eRn_4,eRn_5,eRn_6,eRn_7,eRn_len,kq]
 rw[mlenA_map mp144 kn']
 obtain⟨k,rfl⟩:∃k',k=k'+1:=⟨k-1,by omega⟩
 by_cases h0:0<m.kn.length
 case neg=>
  have g3:((0:Int)<m.kn.length)=False:=eq_false (by omega)
  have hnone:∀x:Nat,(s.fresh[x]?).getD false=false:=fun x=>by
   cases hf:(s.fresh[x]?).getD false with
   |false=>rfl
   |true=>
    have:=hal.n x
    rw[if_pos hf] at this
    exact absurd (hm.n.more.2 ⟨x,(),this⟩) h0
  rw[least_no (fun j _=>hnone j),goD,if_pos (by omega)] at hgo
  simp -implicitDefEqProofs only[go_sem,hT,g3]
  refine⟨_,_,DLe.refl _,St.le.refl _, ?_⟩
  unfold aroundR
  rw[if_neg (by omega),if_neg g2,hRES,←hgo,if_neg (by simp)]
  exact⟨r,m,p,hne,hm,hal,hsz,rfl,rfl⟩
 have g3:((0:Int)<m.kn.length)=True:=eq_true (by omega)
 simp -implicitDefEqProofs only[go_sem,hT,g3,zb8,zc0,zb2,zb1,za5,za4,zb3,za7,gdD,Nat.mul_one,Nat.add_zero,Nat.zero_add,zc1,eRn_0,eRn_3,eRn_4,eRn_5,eRn_6,eRn_7,eRn_len,kq]
 rw[rangeA_map mp144 kn']
 intro bi hbi
 simp -implicitDefEqProofs only[go_sem,hT]
 obtain⟨i1,i2,i3,i4⟩:=stR_ne hne hbi
 refine loopL F79 (fun x:Nat×List Nat=>[(2,.slice .no (rws eT b)),(12,.ptr r.q 0),(13,.int .i64 0),(14,.int .i64 x.1),(62,.ptr bi 0)]) (fun x=>(stR r e b m p.wh).setM bi (.iter r.n m.cn x.2))
  (fun x=>SeenI m.kn b.length x.2 x.1) (fun x=>unseen m.kn x.2) (b.length,[]) seen_nil ?_ (St.le.refl _) ?_
 ·simp -implicitDefEqProofs only[go_sem,hT]
 clear hT T
 rintro⟨v,seen⟩ hseen T hT
 simp only at hseen hT ⊢
 have hmpi:((stR r e b m p.wh).setM bi (.iter r.n m.cn seen)).mp bi=some (.iter r.n m.cn seen):=by rw[setM_mp,if_pos rfl]
 have hmpn:((stR r e b m p.wh).setM bi (.iter r.n m.cn seen)).mp r.n=some (.map (some .i64) m.kn m.vn m.cn):=by rw[setM_mp,if_neg (Ne.symm i3)]; exact kn'
 simp -implicitDefEqProofs only[go_sem,hT]
 simp only[nextA,hmpi,hmpn]
 refine⟨trivial,fun hall=> ?_,fun i k' st hi hst=> ?_⟩
 ·obtain⟨e1,e2,e3⟩:=seen_end hseen hm.n hal hsz hall h0
  simp -implicitDefEqProofs only[go_sem,hT,zc1,eRn_5,eRn_len,setM_box,kq,gdD]
  obtain⟨kn2,vn2,d1,d2⟩:=hm.n.del v
  have hvF:=hFH v e3
  have hfa:p.ff v=some ((s.fr[v]?).getD (fr0 0)):=by rw[hal.f v,if_pos hvF]
  rw[delA_map (k:=kyN v) mp144 kk3 rfl hmpn rfl,d1]
  have hstate:((stR r e b m p.wh).setM bi (.iter r.n m.cn seen)).setM r.n (.map (some .i64) kn2 vn2 m.cn)=(stR r e b ⟨m.kf,m.vf,m.cf,kn2,vn2,m.cn,m.kt,m.vt,m.ct⟩ p.wh).setM bi (.iter r.n m.cn seen):=by
   simp only[stR,St.setM]
   congr 1
   funext x
   by_cases h1:x=r.n
   ·subst h1; simp[Ne.symm i3,hne.nt]
   ·simp[h1]
  rw[hstate]
  have hm2:RM.of ⟨m.kf,m.vf,m.cf,kn2,vn2,m.cn,m.kt,m.vt,m.ct⟩ ⟨p.ff,fun x=>if x=v then none else p.nn x,p.tt,p.wh⟩:=⟨hm.f,d2,hm.t⟩
  have hal2:Alike b ⟨s.has,s.fr,s.fresh.set v false,s.tk⟩ ⟨p.ff,fun x=>if x=v then none else p.nn x,p.tt,p.wh⟩:=by
   refine⟨hal.f,fun x=> ?_,hal.t,hal.z⟩
   simp only
   rw[set_at (by rw[hsz.c]; omega)]
   by_cases he:x=v
   ·rw[if_pos he,if_pos he]; simp
   ·rw[if_neg he,if_neg he]; exact hal.n x
  simp -implicitDefEqProofs only[go_sem,hT]
  refine callB_underM (stR_off hne hbi) (visit123 r hne e b _ _ hm2 v _ hfa (by omega) (by omega) hw (by have:=hw.1.1; omega)) fun d s' hR=> ?_
  obtain⟨rfl,m3,hm3,rfl⟩:=hR
  obtain⟨v1,v2,v3⟩:=visit_alike (e:=e) (fa:=(s.fr[v]?).getD (fr0 0)) hal2 hsz e2 rfl
  generalize hVP:visitP e b ⟨p.ff,fun x=>if x=v then none else p.nn x,p.tt,p.wh⟩ v ((s.fr[v]?).getD (fr0 0))=VP at hm3 v1 v2 v3 ⊢
  rw[e1,goD,if_neg (by omega),Int.toNat_natCast] at hgo
  have kq3:=stR_q (r:=r) (e:=e) (b:=b) (m:=m3) (wh:=VP.1.wh)
  have hfin:St.le (stR r e b m3 VP.1.wh) ((stR r e b m3 VP.1.wh).setM bi (.iter r.n m.cn seen)):=le_stR (by rw[setM_box]; exact kq3) (by rw[setM_mp,if_neg (Ne.symm i2)]; exact stR_f hne) (by rw[setM_mp,if_neg (Ne.symm i3)]; exact stR_n hne) (by rw[setM_mp,if_neg (Ne.symm i4)]; exact stR_t)
  by_cases g6:VP.2=0
  ·have g6':((VP.2:Int)=0)=True:=eq_true (by omega)
   rw[if_neg (by omega)] at hgo
   have hfall:=round_falls (e:=e) hsz e2 e3
   obtain⟨_,_,_,_,_,_,r6,_,_⟩:=round_shape (e:=e) hsz e2
   simp -implicitDefEqProofs only[go_sem,hT,g6']
   refine⟨((roundD e b s v).1,VP.1,m3),⟨r6,round_FH hFH hsz e2,v3 g6,hm3,k,Nat.lt_of_lt_of_le hfall (Nat.le_of_lt_succ hk),hgo⟩,hfall, ?_,hfin⟩
   rw[g6]; rfl
  ·have g6':((VP.2:Int)=0)=False:=eq_false (by omega)
   rw[if_pos (by omega)] at hgo
   simp -implicitDefEqProofs only[go_sem,hT,g6',zc1,eRn_7,eRn_len,setM_box,kq3,gdD]
   refine⟨_,{},DLe.refl _,St.le.nil _, ?_⟩
   unfold aroundR
   rw[if_neg (by omega),if_neg g2,hRES,←hgo,if_pos (by omega),v1,v2 g6]
   exact⟨rfl,rfl⟩
 ·obtain⟨x,u,rfl,hx,hvx⟩:=hm.n.at hi
  have hlt:=unseen_lt (seen:=seen) hi hst
  rw[setM_setM]
  simp -implicitDefEqProofs only[go_sem,hT]
  have hmpi':((stR r e b m p.wh).setM bi (.iter r.n m.cn (seen++[st]))).mp bi=some (.iter r.n m.cn (seen++[st])):=by rw[setM_mp,if_pos rfl]
  have hmpn':((stR r e b m p.wh).setM bi (.iter r.n m.cn (seen++[st]))).mp r.n=some (.map (some .i64) m.kn m.vn m.cn):=by rw[setM_mp,if_neg (Ne.symm i3)]; exact kn'
  simp only[entryA,hmpi',hmpn',List.getLast?_append,List.getLast?_singleton,Option.some_or]
  refine⟨trivial,i,kyN x,hi, ?_⟩
  simp -implicitDefEqProofs only[go_sem,hT,kyN,Ky.d]
  refine⟨(min v x,seen++[st]),seen_step hseen hm.n.stm hi,hlt, ?_,St.le.refl _⟩
  simp only
  congr 1
  omega
end Go.AL
