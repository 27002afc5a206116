import Derived.Test.YtobmoajkfbigkaaGreatSq
import Derived.Test.YtobmoajkfbigkaaGreatSn
import Derived.Test.YtobmoajkfbigkaaGreatSe
set_option linter.unusedSimpArgs false
set_option linter.unusedVariables false
set_option maxRecDepth 100000
set_option maxHeartbeats 4000000
set_option linter.defProp false
namespace Go.AL
open Go.Proofs
noncomputable def p94 (i:Nat):Code:=match i with
 |0=>sL k94
 |1=>sL (sR k94)
 |2=>sL (sR (sR k94))
 |3=>sL (sR (sR (sR k94)))
 |4=>sL (sL (sR (sR (sR (sR k94)))))
 |5=>sL (sR (sR (sR (sR (sR k94)))))
 |_=>sL (sR (sR (sR (sR (sR (sR k94))))))
theorem body94:Tryz.f94.body=some (chainC [p94 0,p94 1,p94 2,p94 3] (.seq (.seq (p94 4) (.block 0 (.rangeFunc (.tmp 25) #[26] (.region 6 asO false) (.block 1 (.region 7 bdO false))))) (chainC [p94 5,p94 6] .ret))):=by kernel_rfl
theorem pre94:chainA [p94 0,p94 1,p94 2,p94 3]= .seq (acL c94) (.seq (acL (acR c94)) (.seq (acL (acR (acR c94))) (acL (acR (acR (acR c94)))))):=by kernel_rfl
theorem mid94:chainA [p94 4]=acL (acL (acR (acR (acR (acR c94))))):=by kernel_rfl
theorem suf94:chainA [p94 5,p94 6]= .seq (acL (acR (acR (acR (acR (acR c94)))))) (acL (acR (acR (acR (acR (acR (acR c94))))))):=by kernel_rfl
theorem rs94:Tryz.f94.results.toList=[.cell 2 52,.tmp 3,.tmp 4]:=by kernel_rfl
theorem ahead94 (b:List Ty) (o:Own) (hl:b.length≤140737488355328) (T:Env) (hT:∀t,T t=envOf [.slice o (rws eT b)] t):vcA Tryz.prog 48 (chainA [p94 0,p94 1,p94 2,p94 3])
  (fun x T' s=>(x= .ret∧(headD b).2≠0∧∃d,resA Tryz.prog T' s Tryz.f94.results.toList=some d∧DLe d (.tup [.agg (eCt ct0),.int .i64 (headD b).1,.int .i64 (headD b).2]))∨
   (x= .normal∧(headD b).2=0∧∃b2 r b8,r≠b2∧b8≠b2∧b8≠r∧s=((({}:St).set b2 [.int .i64 0,.slice .nil []]).set r (eRd b 6 (-1) (word2 b 4) (word2 b 4) 0 0)).set b8 [.int .i64 (bt b 3),.slice .nil []]∧T' 2= .ptr b2 0∧T' 5= .ptr r 0∧T' 8= .ptr b8 0)) T {}:=by
 rw[pre94,rs94]
 simp -implicitDefEqProofs only[go_sem,c94,acL,acR,hT,eRd_len,rd_0,rd_7,zc2,rws_one eT_len,gdD,za2,za6]
 intro b2
 refine callB_under (s:={}) [.bx b2 [.int .i64 0,.slice .nil []]] ⟨St.not_has_nil _,trivial⟩ (((open134 b hl).args (.cons (DLe.slice _ _) .nil)).xcall (Rp:=fun _ _=>False)) (fun d s' hR hoff=> ?_) fun d s' h=>h.elim
 have hb2:¬s'.has b2:=hoff.1
 clear hoff
 by_cases h0:(headD b).2=0
 case neg=>
  rw[openR_no h0] at hR
  obtain⟨rfl,rfl⟩:=hR
  have q0:(((headD b).2:Int)=0)=False:=by simp; omega
  have hp:putL ({}:St) [.bx b2 [.int .i64 0,.slice .nil []]]=({}:St).set b2 [.int .i64 0,.slice .nil []]:=rfl
  simp -implicitDefEqProofs only[go_sem,hp,hT,eRd_len,rd_0,rd_7,zc2,rws_one eT_len,gdD,za2,za6,q0,h0]
  exact .inl ⟨_,rfl,DLe.tup (.cons (DLe.agg (.cons (.refl _) (.cons (DLe.slice _ _) .nil))) (.refl _))⟩
 rw[openR_yes h0] at hR
 obtain⟨r,rfl,rfl⟩:=hR
 have hrb:r≠b2:=fun h=>hb2 (by rw[set_has]; exact .inl h.symm)
 have hp:putL (({}:St).set r (eRd b 6 (-1) (word2 b 4) (word2 b 4) 0 0)) [.bx b2 [.int .i64 0,.slice .nil []]]=(({}:St).set b2 [.int .i64 0,.slice .nil []]).set r (eRd b 6 (-1) (word2 b 4) (word2 b 4) 0 0):=by
  show(({}:St).set r _).set b2 _=_
  rw[set_comm hrb]
 simp -implicitDefEqProofs only[go_sem,hp,hT,eRd_len,rd_0,rd_7,zc2,rws_one eT_len,gdD,za2,za6,h0,Int.ofNat_zero]
 refine callB_box (b:=r) (by simp[St.set]) (by simp[St.set]) (locals135 b r 6 (-1) (word2 b 4) (word2 b 4) 0 0 (by have:=headD_zero h0; omega)) ?_
 simp -implicitDefEqProofs only[go_sem,hT,eRd_len,rd_0,rd_7,zc2,rws_one eT_len,gdD,za2,za6,h0,Int.ofNat_zero]
 intro b8 h1 h2
 intro h3 h4
 exact .inr ⟨b2,r,b8,hrb,h3,h1,rfl,rfl,rfl,rfl⟩
theorem sN_nil {b2 bc r b8 loc:Nat} {rd:List D}:sN b2 bc r b8 loc none [] rd=(((({}:St).set b2 [.int .i64 0,.slice .nil []]).set bc [.ptr r 0]).set r rd).set b8 [.int .i64 loc,.slice .nil []]:=rfl
theorem mid94_ok [DSt] (b:List Ty) {b2 r b8 left:Nat} {T:Env} (h2:r≠b2) (h4:b8≠b2) (h6:b8≠r) (t2:T 2= .ptr b2 0) (t5:T 5= .ptr r 0) (t8:T 8= .ptr b8 0):
  vcA Tryz.prog 48 (chainA [p94 4]) (fun x T' s=>x= .normal∧∃bc,Ap b2 bc r b8∧s=sN b2 bc r b8 (bt b 3) none [] (eRd b 6 (-1) left left 0 0)∧T' 2= .ptr b2 0∧T' 5= .ptr r 0∧T' 8= .ptr b8 0∧T' 25= .func (.func 168) [] [.ptr bc 0])
   T (((({}:St).set b2 [.int .i64 0,.slice .nil []]).set r (eRd b 6 (-1) left left 0 0)).set b8 [.int .i64 (bt b 3),.slice .nil []]):=by
 rw[mid94]
 simp -implicitDefEqProofs only[go_sem,c94,acL,acR,t2,t5,t8]
 refine callB_under (s:={}) [.bx b2 [.int .i64 0,.slice .nil []],.bx r (eRd b 6 (-1) left left 0 0),.bx b8 [.int .i64 (bt b 3),.slice .nil []]] ⟨St.not_has_nil _,St.not_has_nil _,St.not_has_nil _,trivial⟩ ((all136 r).xcall (Rp:=fun _ _=>False)) (fun d s' hR hoff=> ?_) fun d s' h=>h.elim
 obtain⟨bc,rfl,rfl⟩:=hR
 obtain⟨o1,o2,o3,-⟩:=hoff
 have n1:bc≠b2:=fun h=>o1 (by rw[set_has]; exact .inl h.symm)
 have n2:r≠bc:=fun h=>o2 (by rw[set_has]; exact .inl h)
 have n3:b8≠bc:=fun h=>o3 (by rw[set_has]; exact .inl h)
 have hp:putL (({}:St).set bc [.ptr r 0]) [.bx b2 [.int .i64 0,.slice .nil []],.bx r (eRd b 6 (-1) left left 0 0),.bx b8 [.int .i64 (bt b 3),.slice .nil []]]=sN b2 bc r b8 (bt b 3) none [] (eRd b 6 (-1) left left 0 0):=by
  rw[sN_nil]
  show(((({}:St).set bc _).set b2 _).set r _).set b8 _=_
  rw[set_comm n1]
 rw[hp]
 simp -implicitDefEqProofs only[go_sem,t2,t5,t8]
 exact⟨bc,⟨n1,h2,n2,h4,n3,h6⟩,rfl,rfl⟩
theorem after94_ok [DSt] (b:List Ty) {b2 bc r b8 p left n bad err:Nat} {last:Int} {o:Option Nat} {ES:List Ey} {T:Env} (ha:Ap b2 bc r b8) (t2:T 2= .ptr b2 0) (t5:T 5= .ptr r 0) (t8:T 8= .ptr b8 0):
  vcA Tryz.prog 48 (chainA [p94 5,p94 6]) (fun x T' s=>(x= .ret∨x= .normal)∧∃d,resA Tryz.prog T' s Tryz.f94.results.toList=some d∧
   DLe d (if err≠0 then .tup [.agg (eCt ct0),.int .i64 bad,.int .i64 err] else .tup [.agg (eCt ⟨bt b 3,ES⟩),.int .i64 0,.int .i64 0]))
   T (sN b2 bc r b8 (bt b 3) o ES (eRd b p last left n bad err)):=by
 obtain⟨S0,hS0⟩:∃S0,sN b2 bc r b8 (bt b 3) o ES (eRd b p last left n bad err)=S0:=⟨_,rfl⟩
 have hbr:S0.box r=some (eRd b p last left n bad err):=by
  rw[←hS0,sN,grS_boxa,sB,St.set_box,if_neg (Ne.symm ha.h6),St.set_box,if_pos rfl]
 have hb2:S0.box b2=some [.int .i64 0,.slice .nil []]:=by
  rw[←hS0,sN,grS_boxa,sB,St.set_box,if_neg (Ne.symm ha.h4),St.set_box,if_neg (Ne.symm ha.h2),St.set_box,if_neg (Ne.symm ha.h1),St.set_box,if_pos rfl]
 have hb8:S0.box b8=some [.int .i64 (bt b 3),grD 28 o (rws eEy ES)]:=by rw[←hS0,sN,grS_boxa,sB,St.set_box,if_pos rfl]; rfl
 rw[hS0,suf94,rs94]
 by_cases h0:err=0
 case neg=>
  have q0:((err:Int)=0)=False:=by simp; omega
  rw[if_pos h0]
  simp -implicitDefEqProofs only[go_sem,c94,acL,acR,t2,t5,t8,hbr,hb2,hb8,q0,eRd_len,rd_5,rd_6,zc2,rws_one eT_len,gdD,za2,za6]
  exact⟨fun x hx=>by simp[hx,hbr],Ne.symm ha.h2,_,rfl,DLe.tup (.cons (DLe.agg (.cons (.refl _) (.cons (DLe.slice _ _) .nil))) (.refl _))⟩
 rw[if_neg (by simp[h0])]
 subst h0
 simp -implicitDefEqProofs only[go_sem,c94,acL,acR,t2,t5,t8,hbr,hb2,hb8,Int.ofNat_zero,eRd_len,rd_5,rd_6,zc2,rws_one eT_len,gdD,za2,za6]
 exact⟨_,rfl,DLe.tup (.cons (DLe.agg (.cons (.refl _) (.cons grD_le .nil))) (.refl _))⟩
theorem decC_fin {b:List Ty} (h:(headD b).2=0):decC b=if(fin b (word2 b 4) 6 (-1)).2≠0 then(ct0,fin b (word2 b 4) 6 (-1)) else(⟨bt b 3,esOf (decP b (bt b 3) (word2 b 4) 6 (-1)).1⟩,0,0):=by
 unfold decC toldD fin
 rw[if_neg (show ¬(headD b).2≠0 by simp[h])]
 by_cases h1:(decP b (bt b 3) (word2 b 4) 6 (-1)).2.2≠0
 ·simp only[if_pos h1]
 ·simp only[if_neg h1]
  by_cases h2:(decP b (bt b 3) (word2 b 4) 6 (-1)).2.1<b.length
  ·simp only[if_pos h2]
  ·simp only[if_neg h2]
theorem leaves_mark {P:Program} {fn:Func} {N n dk:Nat} {M:MMap} {T:Env} {σ:St} {a:Act} {w:World} {d d':D} {R:Ending→World→Prop} [DSt] (hi:AInv N M T σ a w) (hd:a.defers=[{target:= .collected dk,args:= #[]}]) (hk:w.heap[dk]? =some (.deferred (some []))) (hM:M dk=some .box) (hs:¬σ.has dk)
  (hr:resA P T σ fn.results.toList=some d) (hle:DLe d d') (hR:∀v,Rep M (w.putObj dk (.deferred none)) d' v→R (.returned v) (w.putObj dk (.deferred none))):LeavesInM Fence.wide n P fn a.tmps R a.defers .returning w:=by
 rw[hd]
 refine⟨by simp,.inl ⟨dk,_,rfl,run_takeDeferred hk, ?_⟩⟩
 have hi':=ainv_put (o:= .deferred none) hi hM hs
 obtain⟨v,hv,hrep⟩:=resA_sound hr hi'
 exact⟨v,hv,hR v (hle _ _ _ hrep)⟩
theorem decode94 (b:List Ty) (o:Own) (hl:b.length≤140737488355328):PCall Tryz.prog 94 [.slice o (rws eT b)] (.tup [.agg (eCt (decC b).1),.int .i64 (decC b).2.1,.int .i64 (decC b).2.2]):=by
 refine⟨⟨Tryz.f94,Tryz.func94,rfl,rfl⟩,fun M w vs hi hv=> ?_⟩
 refine(callsIn_wide (n:=0)).1 (callsIn_of_wp_marks Tryz.func94 body94 trivial ?_)
 obtain⟨tms,htms⟩:∃tms,(vs.toArray++Array.replicate (Tryz.f94.ntmps-vs.toArray.size) undef:Array Value)=tms:=⟨_,rfl⟩
 have hlen:vs.length=1:=by have:=hv.length; simpa using this.symm
 have hsz:tms.size=48:=by rw[←htms,Tryz.ntmps94]; simp[hlen]
 have hi0:AInv 48 M (envOf [.slice o (rws eT b)]) {} {tmps:=tms,defers:=[]} w:=⟨hi,hsz,rfl,fun t=>by rw[←htms]; exact envOf_rep hv _ t⟩
 rw[htms]
 refine wpIn_chain Tryz.follows_mixed (by decide) hi.dom ?hy1 ?hx1 _ (ahead94 b o hl _ fun t=>rfl) hi0 (KeepF.refl _ _ _)
 case hx1=>
  rintro e a1 w1 hne ⟨M1,T1,s1,x,hx,hi1,hk1,⟨rfl,h0,d,hd,hle⟩|⟨rfl,-⟩⟩
  ·obtain rfl:=hx
   obtain⟨v,hv1,hr1⟩:=resA_sound hd hi1
   show LeavesInM Fence.wide 0 Tryz.prog Tryz.f94 a1.tmps _ a1.defers .returning w1
   rw[show a1.defers=[] from hi1.defers]
   refine⟨v,hv1,M1,{},.ret _,⟨v,rfl, ?_⟩,hi1.inv.less (St.le.nil _),hk1.less (St.le.nil _),rfl,rfl⟩
   have hz:decC b=(ct0,headD b):=by unfold decC toldD; simp[h0]
   rw[hz]; exact hle _ _ _ hr1
  ·exact absurd hx hne
 rintro a1 w1 ⟨M1,T1,s1,x,hx,hi1,hk1,-,⟨hh,-⟩|⟨-,h0,b2,r,b8,h2,h4,h6,rfl,t2,t5,t8⟩⟩
 ·cases hh; exact absurd hx (by simp[RepX])
 obtain⟨hb6,hloc,hcnt⟩:=headD_zero h0
 refine wpIn_seq (wpIn_chain Tryz.follows_mixed (by decide) hi.dom ?hy2 ?hx2 _ (mid94_ok b h2 h4 h6 t2 t5 t8) hi1 hk1)
 case hx2=>
  rintro e a2 w2 hne ⟨M2,T2,s2,x,hx,hi2,hk2,rfl,-⟩
  exact absurd hx hne
 rintro a2 w2 ⟨M2,T2,s2,x,hx,hi2,hk2,-,-,bc,ha,rfl,u2,u5,u8,u25⟩
 refine wpIn_block (wpIn_rangeFunc fun fn _=> ?_)
 have hg:a2.eval (.tmp 25)= .func (.func 168) #[] #[.pointer (some ⟨bc,0,none⟩)]:=by
  have:=hi2.env 25
  rw[u25] at this
  obtain⟨vf,vc,e1,e2,e3⟩:=this
  obtain⟨v,vs',e4,e5,e6⟩:=e3
  have e7:vf= #[]:=by simpa[zf8] using e2
  obtain rfl:=e5
  obtain rfl:=e6
  have e8:vc= #[.pointer (some ⟨bc,0,none⟩)]:=by rw[←Array.toList_inj]; exact e4
  rw[e7,e8] at e1; exact e1
 obtain⟨W1,hW1⟩:∃W1,((w2.alloc (.deferred (some []))).alloc (.loop {state:= .ready,pending:=none,fn,tmps:=a2.tmps,params:= #[26],assign:= .region 6 asO false,body:= .block 1 (.region 7 bdO false),defers:=w2.heap.size}))=W1:=⟨_,rfl⟩
 have hen:(Instr.enterLoop fn a2.tmps #[26] (.region 6 asO false) (.block 1 (.region 7 bdO false)) Fence.wide.round).run Tryz.prog w2= .ok (w2.heap.size+1,[{target:= .collected w2.heap.size,args:= #[]}]) W1:=by
  rw[←hW1]; exact run_enterLoop_outer fn a2.tmps _ _ _
 have hres:(resolve a2.eval (rangeCall (.tmp 25) (w2.heap.size+1)) 0).run Tryz.prog W1= .ok {target:= .fn (.func 168) #[.pointer (some ⟨bc,0,none⟩)],args:= #[.func (.yield (w2.heap.size+1)) #[] #[]]} W1:=by
  simp[resolve,hg,Deferred.ofValue,eval_const]
 have hinv:(invoke (.fn (.func 168) #[.pointer (some ⟨bc,0,none⟩)]) #[.func (.yield (w2.heap.size+1)) #[] #[]]).run Tryz.prog W1= .ok (.enter 168 #[.func (.yield (w2.heap.size+1)) #[] #[],.pointer (some ⟨bc,0,none⟩)]) W1:=by
  exact callFunc_run ⟨Tryz.f168,Tryz.func168,rfl,rfl⟩ _ _
 refine⟨w2.heap.size+1,[{target:= .collected w2.heap.size,args:= #[]}],W1,_,W1,168,_,W1,hen,hres,fun _ _=>trivial,hinv,fun h=>absurd h (by simp[Fence.wide]),callsIn_wide.2 ?_⟩
 obtain⟨i1,k1⟩:=inv_rec hi2.inv (.deferred (some []))
 obtain⟨i2,k2⟩:=inv_rec i1 (.loop {state:= .ready,pending:=none,fn,tmps:=a2.tmps,params:= #[26],assign:= .region 6 asO false,body:= .block 1 (.region 7 bdO false),defers:=w2.heap.size})
 have hs1:(w2.alloc (.deferred (some []))).heap.size=w2.heap.size+1:=heap_alloc_size _ _
 rw[hs1,hW1] at i2 k2
 have k12:=k1.trans hi2.inv.dom k2
 have hlt:∀x,(sN b2 bc r b8 (bt b 3) none [] (eRd b 6 (-1) (word2 b 4) (word2 b 4) 0 0)).has x→x<w2.heap.size:=fun x hx=>hi2.inv.dom x (hi2.inv.lt hx)
 have hL:LD M2 (sN b2 bc r b8 (bt b 3) none [] (eRd b 6 (-1) (word2 b 4) (word2 b 4) 0 0)) w2 T2 (w2.heap.size+1) w2.heap.size fn a2.tmps (updM (updM M2 w2.heap.size) (w2.heap.size+1)) (sN b2 bc r b8 (bt b 3) none [] (eRd b 6 (-1) (word2 b 4) (word2 b 4) 0 0)) W1:=
  {inv:=i2,ml:=by simp[updM],md:=by simp[updM],nl:=fun hx=>by have:=hlt _ hx; omega,nd:=fun hx=>by have:=hlt _ hx; omega,ne:=by omega,hl:=by omega,hdk:=by omega,dom₀:=hi2.inv.dom,old:=k12
   lrec:=by rw[←hW1,←hs1]; exact World.alloc_heap_new _ _
   dfr:=by rw[←hW1,heap_alloc_old (by rw[hs1]; omega)]; exact World.alloc_heap_new _ _
   size:=hi2.size
   env:=fun t=>(hi2.env t).keep k12.toKeep}
 refine(all168 ha hl hb6 u8 hcnt hL).mono ?_
 rintro e w3 ⟨rfl,M3,o3,p3,left3,last3,hL3⟩
 refine⟨none,_,run_endLoop hL3.lrec (by simp), ?_⟩
 have hz2:=hi2.size
 have hf2:a2.defers=[]:=hi2.defers
 have hdm2:=hi2.inv.dom
 letI:DSt:=⟨[{target:= .collected w2.heap.size,args:= #[]}]⟩
 obtain⟨w4,hw4⟩:∃w4,w3.putObj (w2.heap.size+1) (.loop {state:= .exhausted,pending:=none,fn:=fn,tmps:=a2.tmps,params:= #[26],assign:= .region 6 asO false,body:= .block 1 (.region 7 bdO false),defers:=w2.heap.size})=w4:=⟨_,rfl⟩
 have hi4:AInv 48 M3 T2 (sN b2 bc r b8 (bt b 3) o3 (esOf (decP b (bt b 3) (word2 b 4) 6 (-1)).1) (eRd b p3 last3 left3 (word2 b 4) (fin b (word2 b 4) 6 (-1)).1 (fin b (word2 b 4) 6 (-1)).2)) {a2 with defers:=[{target:= .collected w2.heap.size,args:= #[]}]++a2.defers} w4:=
  ⟨hw4▸inv_put hL3.inv hL3.ml hL3.nl,hz2,by rw[hf2]; rfl,fun t=>(hL3.env t).keep (hw4▸keep_put hL3.ml)⟩
 have hK4:KeepF M {} w M3 (sN b2 bc r b8 (bt b 3) o3 (esOf (decP b (bt b 3) (word2 b 4) 6 (-1)).1) (eRd b p3 last3 left3 (word2 b 4) (fin b (word2 b 4) 6 (-1)).1 (fin b (word2 b 4) 6 (-1)).2)) w4:=hk2.trans hi.dom (hw4▸keepF_put hdm2 hL3.old hL3.ml hL3.hl)
 have hd4:w4.heap[w2.heap.size]? =some (.deferred (some [])):=by rw[←hw4,World.putObj_heap_other (by omega)]; exact hL3.dfr
 have hsz2:w.heap.size≤w2.heap.size:=hk2.size
 have fin94:∀a5 w5 M5 T5 s5,AInv 48 M5 T5 s5 a5 w5→KeepF M3 (sN b2 bc r b8 (bt b 3) o3 (esOf (decP b (bt b 3) (word2 b 4) 6 (-1)).1) (eRd b p3 last3 left3 (word2 b 4) (fin b (word2 b 4) 6 (-1)).1 (fin b (word2 b 4) 6 (-1)).2)) w4 M5 s5 w5→(∃d,resA Tryz.prog T5 s5 Tryz.f94.results.toList=some d∧
   DLe d (if(fin b (word2 b 4) 6 (-1)).2≠0 then .tup [.agg (eCt ct0),.int .i64 (fin b (word2 b 4) 6 (-1)).1,.int .i64 (fin b (word2 b 4) 6 (-1)).2] else .tup [.agg (eCt ⟨bt b 3,esOf (decP b (bt b 3) (word2 b 4) 6 (-1)).1⟩),.int .i64 0,.int .i64 0]))→
   bodyPostM Fence.wide 0 Tryz.prog Tryz.f94 (fun e w'=>∃M' s' x,RepE M' w' x e∧Inv M' s' w'∧KeepF M {} w M' s' w'∧x= .ret (.tup [.agg (eCt (decC b).1),.int .i64 (decC b).2.1,.int .i64 (decC b).2.2])∧s'={}) .ret a5 w5:=by
  rintro a5 w5 M5 T5 s5 hi5 hk5 ⟨d,hd,hle⟩
  have hf5:=hk5.frame w2.heap.size (by rw[hL3.md]; simp) hL3.nd
  have hM5:M5 w2.heap.size=some .box:=hf5.1.trans hL3.md
  have hs5:¬s5.has w2.heap.size:=fun hx=>(hk5.fresh _ hx).elim hL3.nd (by have:=hi4.inv.dom _ (show M3 w2.heap.size≠none by rw[hL3.md]; simp); omega)
  refine leaves_mark hi5 hi5.defers (hf5.2.trans hd4) hM5 hs5 hd hle fun v hv=> ?_
  refine⟨M5,{},.ret _,⟨v,rfl, ?_⟩,(inv_put hi5.inv hM5 hs5).less (St.le.nil _),(keepF_put hi.dom (hK4.trans hi.dom hk5) hM5 hsz2).less (St.le.nil _),rfl,rfl⟩
  rw[decC_fin h0]
  split
  ·rename_i h; rw[if_pos h] at hv; exact hv
  ·rename_i h; rw[if_neg h] at hv; exact hv
 show(chainC [p94 5,p94 6] .ret).wpIn Fence.wide 0 Tryz.prog _ {a2 with defers:=[{target:= .collected w2.heap.size,args:= #[]}]++a2.defers} _
 rw[hw4]
 refine wpIn_chain (M₀:=M3) (w₀:=w4) Tryz.follows_mixed (by decide) hi4.inv.dom ?hy3 ?hx3 _ (after94_ok b ha u2 u5 u8) hi4 (KeepF.refl _ _ _)
 case hx3=>
  rintro e a5 w5 hne ⟨M5,T5,s5,x,hx,hi5,hk5,rfl|rfl,hd⟩
  ·obtain rfl:=hx
   exact fin94 a5 w5 M5 T5 s5 hi5 hk5 hd
  ·exact absurd hx hne
 rintro a5 w5 ⟨M5,T5,s5,x,hx,hi5,hk5,-,-,hd⟩
 exact wpIn_ret (fin94 a5 w5 M5 T5 s5 hi5 hk5 hd)
open Go.Proofs
def refD (a:Int) (w:Nat):D:= .iface 161 (.agg [.int .i64 a,.int .i64 w])
theorem refuse93 (a:Int) (w:Nat):XCall Tryz.prog 93 [.int .i64 a,.int .i64 w] {} (fun _ _=>False) fun d s'=>d=refD a w∧s'={}:=by
 refine F93.xcall rfl fun T hT=> ?_
 simp -implicitDefEqProofs only[go_sem,c93,hT]
 exact⟨_,_,DLe.refl _,St.le.refl _,rfl,rfl⟩
theorem must95_ok (a:Int):PCall Tryz.prog 95 [.int .i64 a,.int .i64 0] (.tup []):=by
 refine F95.pcall' rfl fun T hT=> ?_
 simp -implicitDefEqProofs only[go_sem,c95,hT]
theorem must95_no (a:Int) (w:Nat) (hw:w≠0):XCall Tryz.prog 95 [.int .i64 a,.int .i64 w] {} (fun _ _=>False) fun d s'=>d=refD a w∧s'={}:=by
 have q:((w:Int)=0)=False:=eq_false (by omega)
 refine F95.xcall rfl fun T hT=> ?_
 simp -implicitDefEqProofs only[go_sem,c95,hT,q]
 refine callB_pan (refuse93 a w) ?_
 simp -implicitDefEqProofs only[go_sem]
 exact⟨_,_,DLe.refl _,St.le.refl _,rfl,rfl⟩
def eP (e:En) (n:Nat) (l:List Ey) (nx:Nat) (fd:D) (s:PS) (o:Option Nat):List D:=
 eEn e++([.int .i64 n,.slice .no (rws eEy l),.int .i64 nx,fd,grD 1 o (rws eN s.fet),.int .i64 s.cmp]++(eFr s.fr++[.bool s.live]))
section
variable {e : En} {n : Nat} {l : List Ey} {nx : Nat} {fd : D} {s : PS} {o : Option Nat}
theorem e_len:(eP e n l nx fd s o).length=36:=by simp[eP,eEn,za5]
theorem e_0:(eP e n l nx fd s o)[0]? =some (.slice .no (rws eC e.cs)):=rfl
theorem e_3:(eP e n l nx fd s o)[3]? =some (.int .i64 n):=rfl
theorem e_4:(eP e n l nx fd s o)[4]? =some (.slice .no (rws eEy l)):=rfl
theorem e_5:(eP e n l nx fd s o)[5]? =some (.int .i64 nx):=rfl
theorem e_7:(eP e n l nx fd s o)[7]? =some (grD 1 o (rws eN s.fet)):=rfl
theorem e_8:(eP e n l nx fd s o)[8]? =some (.int .i64 s.cmp):=rfl
theorem e_35:(eP e n l nx fd s o)[35]? =some (.bool s.live):=by simp[eP,eEn,List.getElem?_append,za5]
theorem e_en:(eP e n l nx fd s o).take 3=eEn e:=rfl
theorem e_d9:(eP e n l nx fd s o).drop 9=eFr s.fr++[.bool s.live]:=rfl
theorem e_fr:((eP e n l nx fd s o).drop 9).take 26=eFr s.fr:=by rw[e_d9,List.take_left' (za5 _)]
theorem e_d35:(eP e n l nx fd s o).drop 35=[.bool s.live]:=by rw[show 35=9+26 from rfl,←List.drop_drop,e_d9,List.drop_left' (za5 _)]
theorem e_d36:(eP e n l nx fd s o).drop 36=[]:=by rw[show 36=35+1 from rfl,←List.drop_drop,e_d35]; rfl
theorem e_t9:(eP e n l nx fd s o).take 9=eEn e++[.int .i64 n,.slice .no (rws eEy l),.int .i64 nx,fd,grD 1 o (rws eN s.fet),.int .i64 s.cmp]:=rfl
theorem e_t35:(eP e n l nx fd s o).take 35=(eEn e++[.int .i64 n,.slice .no (rws eEy l),.int .i64 nx,fd,grD 1 o (rws eN s.fet),.int .i64 s.cmp])++eFr s.fr:=by
 rw[show 35=9+26 from rfl,List.take_add,e_t9,e_fr]
theorem e_snx {k:Nat}:(eP e n l nx fd s o).take 5++[D.int .i64 k]++(eP e n l nx fd s o).drop 6=eP e n l k fd s o:=rfl
theorem e_sfd {d:D}:(eP e n l nx fd s o).take 6++[d]++(eP e n l nx fd s o).drop 7=eP e n l nx d s o:=rfl
theorem e_sfet {o':Option Nat} {r:List Nat}:(eP e n l nx fd s o).take 7++[grD 1 o' (rws eN r)]++(eP e n l nx fd s o).drop 8=eP e n l nx fd {s with fet:=r} o':=rfl
theorem e_scmp {x:Nat}:(eP e n l nx fd s o).take 8++[D.int .i64 x]++(eP e n l nx fd s o).drop 9=eP e n l nx fd {s with cmp:=x} o:=rfl
theorem e_sfr {f:Fr}:(eP e n l nx fd s o).take 9++eFr f++(eP e n l nx fd s o).drop 35=eP e n l nx fd {s with fr:=f} o:=by
 rw[e_t9,e_d35]; simp[eP]
theorem e_slive {x:Bool}:(eP e n l nx fd s o).take 35++[D.bool x]++(eP e n l nx fd s o).drop 36=eP e n l nx fd {s with live:=x} o:=by
 rw[e_t35,e_d36]; simp[eP]
end
def foundD (l:List Ey) (a:Int):D:= .tup [.agg (eEy ((findE l a).getD ey0)),.bool (findE l a).isSome]
def bYgdA0:=aI @e_len (aI @e_0 (aI @e_3 (aI @e_4 (aI @e_5 (aI @e_7 (aI @e_8 (aI @e_35 (aI @e_en (aI @e_fr (aI @zc2 (aI @gdD (aI @ldD (aI @zb4 (aI @za8 (aI @zb7 (aI @anD (aI @za2 (aI @ey_0 (aI @ey_1 (aI @ey_d2 (aI @ey_zero @za6)))))))))))))))))))))
theorem entry141 (e:En) (n:Nat) (l:List Ey) (nx:Nat) (fd:D) (s:PS) (o:Option Nat) (q:Nat) (a:Int) (hl:Ents l):
  RCall Tryz.prog 141 [.ptr q 0,.int .i64 a] (({}:St).set q (eP e n l nx fd s o)) fun d s'=>d=foundD l a∧s'=({}:St).set q (eP e n l nx fd s o):=by
 obtain⟨S0,hS0⟩:∃S0,({}:St).set q (eP e n l nx fd s o)=S0:=⟨_,rfl⟩
 have hq:S0.box q=some (eP e n l nx fd s o):=by rw[←hS0,St.set_box,if_pos rfl]
 have hlen:=hl.len
 refine F141.rcall rfl fun T hT=> ?_
 rw[hS0]
 simp -implicitDefEqProofs only[go_sem,c141,hT,hq,forall_eq,bYgdA0]
 intro b4 hb4
 have n4:b4≠q:=fun h=>hb4 (by rw[h]; exact .inl (by simp[hq]))
 simp -implicitDefEqProofs only[go_sem,hT,hq,forall_eq,n4,Ne.symm n4,bYgdA0]
 obtain⟨S1,hS1⟩:∃S1,S0.set b4 (eEy ey0)=S1:=⟨_,rfl⟩
 have hq1:S1.box q=some (eP e n l nx fd s o):=by rw[←hS1,St.set_box,if_neg (Ne.symm n4),hq]
 have h41:S1.box b4=some (eEy ey0):=by rw[←hS1,St.set_box,if_pos rfl]
 have hle:St.le S0 S1:=hS1▸le_add hb4
 rw[hS1]
 have hle2:∀X,St.le S0 (S1.set b4 X):=fun X=>by rw[←hS1,za2]; exact le_add hb4
 have hcl:=cnt_le l a
 refine loopL F141 (fun x:Nat×Nat=>[(0,.ptr q 0),(1,.int .i64 a),(4,.ptr b4 0),(5,.bool false),(6,.int .i64 x.1),(7,.int .i64 x.2)]) (fun _=>S1) (fun x=>x.1≤cnt l a∧cnt l a≤x.2∧x.2≤l.length) (fun x=>x.2-x.1) (0,l.length) ⟨by omega,by simpa using hcl,by simp⟩ ?_ (St.le.refl _) ?_
 ·simp -implicitDefEqProofs only[go_sem,hT,Int.ofNat_zero]
 clear hT T
 rintro⟨x,y⟩ ⟨h1,h2,h3⟩ T hT
 simp only at h1 h2 h3 hT ⊢
 by_cases hxy:x<y
 ·have p1:((x:Int)<y)=True:=eq_true (by omega)
  have w1:IntKind.wrap .i64 ((x:Int)+y)=((x+y:Nat):Int):=wrapN (by omega) (by omega)
  have w2:IntKind.wrap .i64 (((x+y:Nat):Int).tdiv 2)=(((x+y)/2:Nat):Int):=wrapN (by rw[Int.tdiv_eq_ediv_of_nonneg (by omega)]; omega) (by omega)
  obtain⟨k,hk⟩:∃k,(x+y)/2=k:=⟨_,rfl⟩
  rw[hk] at w2
  have hkl:k<l.length:=by omega
  have p2:((k:Int)<l.length)=True:=eq_true (by omega)
  have p0:(0≤(k:Int))=True:=eq_true (by omega)
  have w3:IntKind.wrap .i64 ((k:Int)+1)=((k+1:Nat):Int):=wrapN (by omega) (by omega)
  have hat:=getEy hkl
  have hci:=cnt_iff hl.rise (a:=a) hkl
  by_cases h4:l[k].pos<a
  ·simp -implicitDefEqProofs only[go_sem,hT,hq1,forall_eq,n4,Ne.symm n4,p1,w1,w2,w3,p2,p0,hat,h4,bYgdA0]
   have:=hci.1 h4
   exact⟨(k+1,y),⟨by simp only; omega,h2,h3⟩,by simp only; omega,⟨rfl,rfl⟩,St.le.refl _⟩
  ·simp -implicitDefEqProofs only[go_sem,hT,hq1,forall_eq,n4,Ne.symm n4,p1,w1,w2,w3,p2,p0,hat,h4,bYgdA0]
   have:=mt hci.2 h4
   exact⟨(x,k),⟨h1,by simp only; omega,by simp only; omega⟩,by simp only; omega,⟨rfl,rfl⟩,St.le.refl _⟩
 obtain rfl:x=y:=by omega
 obtain rfl:x=cnt l a:=by omega
 have p1:((cnt l a:Int)<cnt l a)=False:=eq_false (by omega)
 have hfe:=findE_cnt hl.rise a
 by_cases h5:cnt l a=l.length
 ·have p2:((cnt l a:Int)=l.length)=True:=eq_true (by omega)
  rw[h5,List.getElem?_eq_none (Nat.le_refl _)] at hfe
  rw[show foundD l a= .tup [.agg (eEy ey0),.bool false] by unfold foundD; rw[hfe]; rfl]
  simp -implicitDefEqProofs only[go_sem,hT,hq1,h41,forall_eq,n4,Ne.symm n4,p1,p2,bYgdA0]
  exact⟨_,S0,DLe.refl _,hle2 _,rfl,rfl⟩
 have hlt:cnt l a<l.length:=by omega
 have p2:((cnt l a:Int)=l.length)=False:=eq_false (by omega)
 have p3:((cnt l a:Int)<l.length)=True:=eq_true (by omega)
 have p0:(0≤(cnt l a:Int))=True:=eq_true (by omega)
 have hat:=getEy hlt
 rw[List.getElem?_eq_getElem hlt] at hfe
 by_cases h6:l[cnt l a].pos=a
 ·rw[show foundD l a= .tup [.agg (eEy l[cnt l a]),.bool true] by unfold foundD; rw[hfe]; simp[h6]]
  simp -implicitDefEqProofs only[go_sem,hT,hq1,h41,forall_eq,n4,Ne.symm n4,p1,p2,p3,p0,hat,h6,bYgdA0]
  exact⟨_,S0,DLe.refl _,hle2 _,rfl,rfl⟩
 ·rw[show foundD l a= .tup [.agg (eEy ey0),.bool false] by unfold foundD; rw[hfe]; simp[h6]]
  simp -implicitDefEqProofs only[go_sem,hT,hq1,h41,forall_eq,n4,Ne.symm n4,p1,p2,p3,p0,hat,h6,bYgdA0]
  exact⟨_,S0,DLe.refl _,hle2 _,rfl,rfl⟩
theorem sub_hold (e:En) (f g:Fr) (hw:WideE e):PCall Tryz.prog 171 [.slice .no (rws eC e.cs),.agg (eFr f),.agg (eFr g)] (.bool (subFr e.cs f g)):=sub171 e.cs .no f g (by have:=hw.1.1; omega)
def bYgdA1:=aI @e_len (aI @e_0 (aI @e_3 (aI @e_4 (aI @e_5 (aI @e_7 (aI @e_8 (aI @e_35 (aI @e_en (aI @e_fr (aI @e_scmp (aI @zc2 (aI @gdD (aI @ldD (aI @za5 (aI @za4 (aI @zb0 (aI @anD (aI @za2 @za6))))))))))))))))))
theorem hold142 (e:En) (n:Nat) (l:List Ey) (nx:Nat) (fd:D) (s:PS) (o:Option Nat) (q:Nat) (at':Int) (f g:Fr) (hw:WideE e) (hc:s.cmp≤100000):
  XCall Tryz.prog 142 [.ptr q 0,.int .i64 at',.agg (eFr f),.agg (eFr g)] (({}:St).set q (eP e n l nx fd s o)) (fun d s'=>subFr e.cs f g=true∧d= .tup []∧s'=({}:St).set q (eP e n l nx fd {s with cmp:=s.cmp+1} o))
   (fun d _=>subFr e.cs f g=false∧d=refD at' 92):=by
 obtain⟨S0,hS0⟩:∃S0,({}:St).set q (eP e n l nx fd s o)=S0:=⟨_,rfl⟩
 have hq:S0.box q=some (eP e n l nx fd s o):=by rw[←hS0,St.set_box,if_pos rfl]
 have wc:IntKind.wrap .i64 ((s.cmp:Int)+1)=((s.cmp+1:Nat):Int):=wrapN (by omega) (by omega)
 refine F142.xcall rfl fun T hT=> ?_
 rw[hS0]
 simp -implicitDefEqProofs only[go_sem,c142,hT,hq,forall_eq,bYgdA1]
 intro b6 h6 b7 n1 n2 h7
 have n4:b6≠q:=fun h=>h6 (by rw[h]; exact .inl (by simp[hq]))
 have n5:b7≠q:=fun h=>h7 (by rw[h]; exact .inl (by simp[hq]))
 simp -implicitDefEqProofs only[go_sem,hT,hq,forall_eq,n4,Ne.symm n4,n5,Ne.symm n5,n1,n2,wc,bYgdA1]
 refine za3 (sub_hold e f g hw) ?_
 cases hs:subFr e.cs f g with
 |true=>
  simp -implicitDefEqProofs only[go_sem,hT,hq,forall_eq,n4,Ne.symm n4,n5,Ne.symm n5,n1,n2,wc,bYgdA1]
  refine⟨_,S0.set q (eP e n l nx fd {s with cmp:=s.cmp+1} o),DLe.refl _,le_set ((le_add h6).trans (le_add ?_)),rfl,by rw[←hS0,za2]⟩
  rw[set_has]; rintro(h|h)
  ·exact n1 h
  ·exact h7 h
 |false=>
  simp -implicitDefEqProofs only[go_sem,hT,hq,forall_eq,n4,Ne.symm n4,n5,Ne.symm n5,n1,n2,wc,bYgdA1]
  refine callB_pan (refuse93 at' 92) ?_
  simp -implicitDefEqProofs only[go_sem]
  exact⟨_,_,DLe.refl _,St.le.refl _,rfl⟩
theorem found_some {l:List Ey} {a:Int} {x:Ey} (h:findE l a=some x):foundD l a= .tup [.agg (eEy x),.bool true]:=by unfold foundD; rw[h]; rfl
theorem found_none {l:List Ey} {a:Int} (h:findE l a=none):foundD l a= .tup [.agg (eEy ey0),.bool false]:=by unfold foundD; rw[h]; rfl
theorem in_0 (i:Ins):(eIn i)[0]? =some (.int .i64 i.pos):=rfl
def bYgdA2:=aI @e_len (aI @e_0 (aI @e_3 (aI @e_4 (aI @e_5 (aI @e_7 (aI @e_8 (aI @e_35 (aI @e_en (aI @e_fr (aI @e_scmp (aI @zc2 (aI @gdD (aI @ldD (aI @zb6 (aI @za9 (aI @in_0 (aI @in_2 (aI @zb4 (aI @za8 (aI @zb7 (aI @za5 (aI @za4 (aI @zb0 (aI @anD (aI @za2 (aI @za6 (aI @ey_0 (aI @ey_1 (aI @ey_d2 @ey_zero)))))))))))))))))))))))))))))
theorem jump145 (e:En) (n:Nat) (l:List Ey) (nx:Nat) (fd:D) (s:PS) (o:Option Nat) (q:Nat) (i:Ins) (hw:WideE e) (hl:Ents l) (hc:s.cmp≤100000):
  XCall Tryz.prog 145 [.ptr q 0,.agg (eIn i)] (({}:St).set q (eP e n l nx fd s o)) (fun d s'=>jumpD e.cs l n 0 i.a s.fr=none∧d= .tup []∧s'=({}:St).set q (eP e n l nx fd {s with cmp:=s.cmp+1} o))
   (fun d _=>∃w,jumpD e.cs l n 0 i.a s.fr=some w∧d=refD i.pos w):=by
 obtain⟨S0,hS0⟩:∃S0,({}:St).set q (eP e n l nx fd s o)=S0:=⟨_,rfl⟩
 have hq:S0.box q=some (eP e n l nx fd s o):=by rw[←hS0,St.set_box,if_pos rfl]
 refine F145.xcall rfl fun T hT=> ?_
 rw[hS0]
 simp -implicitDefEqProofs only[go_sem,c145,hT,hq,forall_eq,bYgdA2]
 intro b3 h3
 have n3:b3≠q:=fun h=>h3 (by rw[h]; exact .inl (by simp[hq]))
 have hbf:S0.buf q=none:=by rw[←hS0]; rfl
 refine callB_boxS (b:=q) (hm:=by first|rfl|(rw[←hS0]; rfl)|(subst hS0; rfl)|(show St.mp S0 q=none; rw[←hS0]; rfl)) (by rw[St.set_box,if_neg (Ne.symm n3)]; exact hq) hbf (entry141 e n l nx fd s o q i.a hl) ?_
 by_cases h1:(n:Int)≤i.a
 ·have hj:jumpD e.cs l n 0 i.a s.fr=some 50:=by unfold jumpD; rw[if_pos h1]
  cases hf:findE l i.a with
  |none=>
   rw[found_none hf]
   simp -implicitDefEqProofs only[go_sem,hT,hq,forall_eq,n3,Ne.symm n3,bYgdA2]
   intro b4 h6 h7 h8
   have h4:b4≠q:=fun h=>h8 (by rw[h]; exact .inl (by simp[hq]))
   have h5:=Ne.symm h4
   simp -implicitDefEqProofs only[go_sem,hT,hq,forall_eq,n3,Ne.symm n3,h4,h5,h6,h7,h1,bYgdA2]
   refine callB_pan (refuse93 i.pos 50) ?_
   simp -implicitDefEqProofs only[go_sem]
   exact⟨_,{},DLe.refl _,St.le.nil _,_,hj,rfl⟩
  |some x=>
   rw[found_some hf]
   simp -implicitDefEqProofs only[go_sem,hT,hq,forall_eq,n3,Ne.symm n3,bYgdA2]
   intro b4 h6 h7 h8
   have h4:b4≠q:=fun h=>h8 (by rw[h]; exact .inl (by simp[hq]))
   have h5:=Ne.symm h4
   simp -implicitDefEqProofs only[go_sem,hT,hq,forall_eq,n3,Ne.symm n3,h4,h5,h6,h7,h1,bYgdA2]
   refine callB_pan (refuse93 i.pos 50) ?_
   simp -implicitDefEqProofs only[go_sem]
   exact⟨_,{},DLe.refl _,St.le.nil _,_,hj,rfl⟩
 cases hf:findE l i.a with
 |none=>
  have hj:jumpD e.cs l n 0 i.a s.fr=some 90:=by unfold jumpD; rw[if_neg h1,hf]
  rw[found_none hf]
  simp -implicitDefEqProofs only[go_sem,hT,hq,forall_eq,n3,Ne.symm n3,bYgdA2]
  intro b4 h6 h7 h8
  have h4:b4≠q:=fun h=>h8 (by rw[h]; exact .inl (by simp[hq]))
  have h5:=Ne.symm h4
  simp -implicitDefEqProofs only[go_sem,hT,hq,forall_eq,n3,Ne.symm n3,h4,h5,h6,h7,h1,bYgdA2]
  refine callB_pan (refuse93 i.pos 90) ?_
  simp -implicitDefEqProofs only[go_sem]
  exact⟨_,{},DLe.refl _,St.le.nil _,_,hj,rfl⟩
 |some x=>
  rw[found_some hf]
  simp -implicitDefEqProofs only[go_sem,hT,hq,forall_eq,n3,Ne.symm n3,bYgdA2]
  intro b4 h6 h7 h8
  have h4:b4≠q:=fun h=>h8 (by rw[h]; exact .inl (by simp[hq]))
  have h5:=Ne.symm h4
  cases hd:x.dead with
  |true=>
   have hj:jumpD e.cs l n 0 i.a s.fr=some 91:=by unfold jumpD; rw[if_neg h1,hf]; simp[hd]
   simp -implicitDefEqProofs only[go_sem,hT,hq,forall_eq,n3,Ne.symm n3,h4,h5,h6,h7,h1,hd,bYgdA2]
   refine callB_pan (refuse93 i.pos 91) ?_
   simp -implicitDefEqProofs only[go_sem]
   exact⟨_,{},DLe.refl _,St.le.nil _,_,hj,rfl⟩
  |false=>
   have hj:jumpD e.cs l n 0 i.a s.fr=if subFr e.cs s.fr x.fr=false then some 92 else none:=by unfold jumpD; rw[if_neg h1,hf]; simp[hd]
   simp -implicitDefEqProofs only[go_sem,hT,hq,forall_eq,n3,Ne.symm n3,h4,h5,h6,h7,h1,hd,bYgdA2]
   refine callB_boxX (b:=q) (hm:=by first|rfl|(rw[←hS0]; rfl)|(subst hS0; rfl)|(show St.mp S0 q=none; rw[←hS0]; rfl)) (cs:=eP e n l nx fd s o) ?_ hbf (hold142 e n l nx fd s o q i.pos s.fr x.fr hw hc) (fun d s' hR=> ?_) fun d s' hR=> ?_
   ·rw[St.set_box,if_neg h5,St.set_box,if_neg (Ne.symm n3),hq]
   ·obtain⟨hs,rfl,rfl⟩:=hR
    refine⟨_,rfl, ?_⟩
    simp -implicitDefEqProofs only[go_sem]
    refine⟨_,S0.set q (eP e n l nx fd {s with cmp:=s.cmp+1} o),DLe.refl _,le_set ((le_add h3).trans (le_add ?_)),by rw[hj,hs]; rfl,rfl,by rw[←hS0,za2]⟩
    rw[set_has]; rintro(h|h)
    ·exact h6 h
    ·exact h8 h
   ·obtain⟨hs,rfl⟩:=hR
    simp -implicitDefEqProofs only[go_sem]
    exact⟨_,{},DLe.refl _,St.le.nil _,92,by rw[hj,hs]; rfl,rfl⟩
open Go.Proofs
def bYgdB0:=aI @e_len (aI @e_0 (aI @e_3 (aI @e_4 (aI @e_5 (aI @e_7 (aI @e_8 (aI @e_35 (aI @e_en (aI @e_fr (aI @e_snx (aI @e_scmp (aI @e_sfr (aI @e_slive (aI @zc2 (aI @gdD (aI @ldD (aI @zb4 (aI @za8 (aI @zb7 (aI @za5 (aI @za4 (aI @zb0 (aI @anD (aI @za2 (aI @za6 (aI @ey_0 (aI @ey_1 (aI @ey_d2 @ey_zero))))))))))))))))))))))))))))
theorem come98 (e:En) (n:Nat) (l:List Ey) (fd:D) (s:PS) (o:Option Nat) (q:Nat) (hw:WideE e) (hl:Ents l) (hn:n≤4096) (hp:s.p<n) (hc:s.cmp≤100000):
  XCall Tryz.prog 98 [.ptr q 0,.int .i64 s.p] (({}:St).set q (eP e n l (cnt l s.p) fd s o))
   (fun d s'=>∃s2 on,comeD e.cs l n s= .ok (s2,on)∧d= .int .i64 s2.p∧s'=({}:St).set q (eP e n l (cnt l ((s.p:Int)+1)) fd s2 o))
   (fun d _=>∃w,comeD e.cs l n s= .no s.p w∧d=refD s.p w):=by
 obtain⟨S0,hS0⟩:∃S0,({}:St).set q (eP e n l (cnt l s.p) fd s o)=S0:=⟨_,rfl⟩
 have hq:S0.box q=some (eP e n l (cnt l s.p) fd s o):=by rw[←hS0,St.set_box,if_pos rfl]
 have hbf:S0.buf q=none:=by rw[←hS0]; rfl
 have hcs:=cnt_succ hl.rise (s.p:Int)
 have hcl:=cnt_le l (s.p:Int)
 have hll:=hl.len
 refine F98.xcall rfl fun T hT=> ?_
 rw[hS0]
 simp -implicitDefEqProofs only[go_sem,c98,hT,hq,forall_eq,bYgdB0]
 refine callB_boxS (b:=q) (hm:=by first|rfl|(rw[←hS0]; rfl)|(subst hS0; rfl)|(show St.mp S0 q=none; rw[←hS0]; rfl)) hq hbf (entry141 e n l (cnt l s.p) fd s o q s.p hl) ?_
 cases hf:findE l s.p with
 |none=>
  rw[hf] at hcs
  simp only[Option.isSome_none,Bool.false_eq_true,if_false,Nat.add_zero] at hcs
  rw[found_none hf]
  simp -implicitDefEqProofs only[go_sem,hT,hq,forall_eq,bYgdB0]
  intro b5 h8
  have h4:b5≠q:=fun h=>h8 (by rw[h]; exact .inl (by simp[hq]))
  have h5:=Ne.symm h4
  cases hlv:s.live with
  |true=>
   have hk:comeD e.cs l n s= .ok (s,true):=by unfold comeD; rw[hf]; simp[hlv]
   simp -implicitDefEqProofs only[go_sem,hT,hq,forall_eq,h4,h5,hlv,bYgdB0]
   exact⟨_,S0,DLe.refl _,le_add h8,s,true,hk,rfl,by rw[hcs]; exact hS0.symm⟩
  |false=>
   have hk:comeD e.cs l n s= .no s.p 90:=by unfold comeD; rw[hf]; simp[hlv]
   simp -implicitDefEqProofs only[go_sem,hT,hq,forall_eq,h4,h5,hlv,bYgdB0]
   refine callB_pan (refuse93 s.p 90) ?_
   simp -implicitDefEqProofs only[go_sem]
   exact⟨_,{},DLe.refl _,St.le.nil _,_,hk,rfl⟩
 |some x=>
  rw[hf] at hcs
  simp only[Option.isSome_some,if_true] at hcs
  rw[found_some hf]
  have hk:comeD e.cs l n s=if s.live=true∧x.dead=true then .no s.p 91
   else if s.live=true∧subFr e.cs s.fr x.fr=false then .no s.p 92
   else if x.dead=true then .ok ({s with p:=nextP l n s.p},false)
   else .ok ({s with fr:=x.fr,live:=true,cmp:=s.cmp+(if s.live=true then 1 else 0)},true):=by unfold comeD; rw[hf]
  have hlt:cnt l s.p<l.length:=by
   have:=findE_cnt hl.rise (s.p:Int)
   rw[hf] at this
   by_cases h:cnt l s.p<l.length
   ·exact h
   ·rw[List.getElem?_eq_none (by omega)] at this; cases this
  have wn:IntKind.wrap .i64 ((cnt l s.p:Int)+1)=((cnt l s.p+1:Nat):Int):=wrapN (by omega) (by omega)
  simp -implicitDefEqProofs only[go_sem,hT,hq,forall_eq,bYgdB0]
  intro b5 h8
  have h4:b5≠q:=fun h=>h8 (by rw[h]; exact .inl (by simp[hq]))
  have h5:=Ne.symm h4
  cases hlv:s.live with
  |true=>
   cases hd:x.dead with
   |true=>
    simp -implicitDefEqProofs only[go_sem,hT,hq,forall_eq,h4,h5,hlv,hd,wn,bYgdB0]
    refine callB_pan (refuse93 s.p 91) ?_
    simp -implicitDefEqProofs only[go_sem]
    exact⟨_,{},DLe.refl _,St.le.nil _,91,by rw[hk]; simp[hlv,hd],rfl⟩
   |false=>
    simp -implicitDefEqProofs only[go_sem,hT,hq,forall_eq,h4,h5,hlv,hd,wn,bYgdB0]
    refine callB_boxX (b:=q) (hm:=by first|rfl|(rw[←hS0]; rfl)|(subst hS0; rfl)|(show St.mp S0 q=none; rw[←hS0]; rfl)) (cs:=eP e n l (cnt l s.p+1) fd s o) (by rw[St.set_box,if_pos rfl]) (by exact hbf) (hold142 e n l (cnt l s.p+1) fd s o q s.p s.fr x.fr hw hc) (fun d s' hR=> ?_) fun d s' hR=> ?_
    ·obtain⟨hs,rfl,rfl⟩:=hR
     refine⟨_,rfl, ?_⟩
     simp -implicitDefEqProofs only[go_sem,hT,hq,forall_eq,h4,h5,hlv,hd,wn,bYgdB0]
     exact⟨_,S0.set q (eP e n l (cnt l s.p+1) fd {s with fr:=x.fr,live:=true,cmp:=s.cmp+1} o),DLe.refl _,le_set (le_add h8),{s with fr:=x.fr,live:=true,cmp:=s.cmp+1},true,by rw[hk]; simp[hlv,hd,hs],rfl,by rw[hcs,←hS0,za2]⟩
    ·obtain⟨hs,rfl⟩:=hR
     simp -implicitDefEqProofs only[go_sem]
     exact⟨_,{},DLe.refl _,St.le.nil _,92,by rw[hk]; simp[hlv,hd,hs],rfl⟩
  |false=>
   cases hd:x.dead with
   |true=>
    simp -implicitDefEqProofs only[go_sem,hT,hq,forall_eq,h4,h5,hlv,hd,wn,bYgdB0]
    have hk2:comeD e.cs l n s= .ok ({s with p:=nextP l n s.p},false):=by rw[hk]; simp[hlv,hd]
    have hle:St.le (S0.set q (eP e n l (cnt l s.p+1) fd s o)) ((S0.set b5 (eEy x)).set q (eP e n l (cnt l s.p+1) fd s o)):=le_set (le_add h8)
    have hfi:({}:St).set q (eP e n l (cnt l ((s.p:Int)+1)) fd {s with p:=nextP l n s.p} o)=S0.set q (eP e n l (cnt l s.p+1) fd s o):=by rw[hcs,←hS0,za2]; rfl
    have hnx:=nextP_cnt hl.rise n s.p
    rw[hcs] at hnx
    by_cases h9:cnt l s.p+1=l.length
    ·have g9:(((cnt l s.p+1:Nat):Int)=l.length)=True:=eq_true (by omega)
     rw[List.getElem?_eq_none (by omega)] at hnx
     simp -implicitDefEqProofs only[go_sem,hT,hq,forall_eq,h4,h5,hlv,hd,wn,g9,bYgdB0]
     exact⟨_,_,DLe.refl _,hle,_,false,hk2,by simp only[hnx],hfi.symm⟩
    ·have h9':cnt l s.p+1<l.length:=by omega
     have g9:(((cnt l s.p+1:Nat):Int)=l.length)=False:=eq_false (by omega)
     have g8:(((cnt l s.p+1:Nat):Int)<l.length)=True:=eq_true (by omega)
     have g7:(0≤((cnt l s.p+1:Nat):Int))=True:=eq_true (by omega)
     have hat:=getEy h9'
     obtain⟨m,hm⟩:∃m:Nat,l[cnt l s.p+1].pos=m:=⟨_,(Int.toNat_of_nonneg (hl.rng _ (List.getElem_mem h9')).1).symm⟩
     rw[List.getElem?_eq_getElem h9'] at hnx
     simp only[hm,Int.toNat_natCast] at hnx
     have hmin:min (n:Int) (m:Int)=((nextP l n s.p:Nat):Int):=by rw[hnx]; split <;> omega
     simp -implicitDefEqProofs only[go_sem,hT,hq,forall_eq,h4,h5,hlv,hd,wn,g9,g8,g7,hat,hm,hmin,bYgdB0]
     exact⟨_,_,DLe.refl _,hle,_,false,hk2,rfl,hfi.symm⟩
   |false=>
    simp -implicitDefEqProofs only[go_sem,hT,hq,forall_eq,h4,h5,hlv,hd,wn,bYgdB0]
    have hk2:comeD e.cs l n s= .ok ({s with fr:=x.fr,live:=true,cmp:=s.cmp+0},true):=by rw[hk]; simp[hlv,hd]
    exact⟨_,S0.set q (eP e n l (cnt l s.p+1) fd {s with fr:=x.fr,live:=true} o),DLe.refl _,le_set (le_add h8),_,true,hk2,rfl,by rw[hcs,←hS0,za2]; rfl⟩
end Go.AL
