import Derived.Test.YtobmoajkfbigkaaGreatSt
import Derived.Test.YtobmoajkfbigkaaGreatSn
import Derived.Test.YtobmoajkfbigkaaGreatSe
import Derived.Shelf.SlIterI.Nil
import Derived.Ground.GgzProg
import Derived.Test.YtobmoajkfbigkaaGreatProg
import Derived.Test.YtobmoajkfbigkaaGreatSg
import Derived.Test.YtobmoajkfbigkaaGreatSi
import Derived.Test.YtobmoajkfbigkaaGreatRows
set_option linter.unusedSimpArgs false
set_option linter.unusedVariables false
set_option maxRecDepth 100000
set_option maxHeartbeats 4000000
set_option linter.defProp false
namespace Go.AL
open Go.Proofs
noncomputable def k92:Code:=Tryz.f92.body.getD .skip
noncomputable def q920:Code:=sL k92
noncomputable def q921:Code:=sL (sR k92)
noncomputable def q922:Code:=sL (sL (sR (sR k92)))
noncomputable def q923:Code:=sR (sL (sR (sR k92)))
noncomputable def q924:Code:=sR (sR (sR k92))
noncomputable def ops0:Array Oper:=opsC q920
noncomputable def ops1:Array Oper:=opsC q921
noncomputable def ops2:Array Oper:=opsC q922
theorem body92:Tryz.f92.body=some (.seq q920 (.seq q921 (.seq (.seq q922 q923) q924))):=by kernel_rfl
theorem q920_is:q920= .region 0 ops0 false:=by kernel_rfl
theorem q921_is:q921= .region 1 ops1 false:=by kernel_rfl
theorem q922_is:q922= .region 2 ops2 false:=by kernel_rfl
noncomputable def oR:Oper:=(ops0[0]?).getD default
noncomputable def oS:Oper:=(ops0[1]?).getD default
theorem ops0_sz:ops0.size=2:=by kernel_rfl
theorem ops0_0:ops0[0]? =some oR:=by kernel_rfl
theorem ops0_1:ops0[1]? =some oS:=by kernel_rfl
theorem oR_op:oR.op= .call {callee:= .builtin .recover,args:= #[],argTypes:= #[]}:=by kernel_rfl
theorem oR_dst:oR.dst=some 5:=by kernel_rfl
theorem oR_g:oR.guard=none:=by kernel_rfl
theorem oS_op:oS.op= .assign (.tmp 5):=by kernel_rfl
theorem oS_dst:oS.dst=some 2:=by kernel_rfl
theorem oS_g:oS.guard=none:=by kernel_rfl
theorem oR_run {P:Program} (a:Act) (w:World):(execOp a.eval oR).run P w= .ok .recover w:=by
 simp[execOp,oR_op,resolve,invoke,builtin]
theorem oS_run {P:Program} (a:Act) (w:World):(execOp a.eval oS).run P w= .ok (.value (a.eval (.tmp 5))) w:=by
 simp[execOp,oS_op]
theorem rec92 {Q:Exit→Act→List Frame→World→Prop} {a:Act} {cs cs':List Frame} {w:World} {v:Value} (hv:recoverD cs=some (v,cs')∨recoverD cs=none∧v= .nilIface∧cs'=cs) (h:Q .normal ((a.put (some 5) v).put (some 2) ((a.put (some 5) v).eval (.tmp 5))) cs' w):q920.wpS Tryz.prog Q a cs w:=by
 rw[q920_is]
 refine wpS_region ?_
 rw[ops0_sz]
 show wpOpsS Tryz.prog ops0 Q [0,1] a cs w
 simp only[wpOpsS,ops0_0,ops0_1,Region.wanted,oR_g,oS_g,if_true,oR_run]
 rcases hv with hv|⟨hv,rfl,rfl⟩
 ·simp only[hv,oR_dst,oS_run,oS_dst,Oper.upon]; exact h
 ·simp only[hv,oR_dst,oS_run,oS_dst,Oper.upon]; exact h
noncomputable def o8:Oper:=(ops1.toList[1]?).getD default
theorem ops1_parts:ops1.toList=ops1.toList.take 1++(o8::ops1.toList.drop 2):=by kernel_rfl
theorem ops1_pre:(ops1.toList.take 1).map (plainO ops1.toList)=[oO 7 (.move (tT 2))]:=by kernel_rfl
theorem ops1_suf:(ops1.toList.drop 2).map (plainO ops1.toList)=[oO 6 (.move (tT 8)),oO 9 (.extract (tT 6) 0),oO 10 (.extract (tT 6) 1),oO 3 (.alloc 161),oN (.store 161 (tT 3) (tT 9)),oO 4 (.assign (tT 10))]:=by kernel_rfl
theorem o8_op:o8.op= .typeAssert (.tmp 7) 20 161 true:=by kernel_rfl
theorem o8_dst:o8.dst=some 8:=by kernel_rfl
theorem o8_g:o8.guard=none:=by kernel_rfl
theorem o8_run (a:Act) (w:World) (u:Value) (h:a.eval (.tmp 7)= .iface 161 u):(execOp a.eval o8).run Tryz.prog w= .ok (.value (.tuple #[u,.bool true])) w:=by
 simp[execOp,o8_op,Instr.typeAssert,h,run_underlying Tryz.underlying161]
theorem o8_nil (a:Act) (w:World) (h:a.eval (.tmp 7)= .nilIface):(execOp a.eval o8).run Tryz.prog w= .ok (.value (.tuple #[.agg #[.int .i64 0,.int .i64 0],.bool false])) w:=by
 simp[execOp,o8_op,Instr.typeAssert,h,run_underlying Tryz.underlying161,Tryz.zeroValue161]
noncomputable def o12:Oper:=(ops2.toList[1]?).getD default
theorem ops2_parts:ops2.toList=ops2.toList.take 1++(o12::ops2.toList.drop 2):=by kernel_rfl
theorem ops2_pre:(ops2.toList.take 1).map (plainO ops2.toList)=[oO 11 (.move (tT 2))]:=by kernel_rfl
theorem ops2_suf:(ops2.toList.drop 2).map (plainO ops2.toList)=[oO 13 (.move (tT 12)),oG 14 (.move (tT 4)) 13 true,oG 15 (.unOp .not 4 (tT 14)) 13 true,oO 16 (.pick (tT 13) (tT 15) (.const (.bool false)))]:=by kernel_rfl
theorem o12_op:o12.op= .binOp .neq 20 (.tmp 11) (.const .nilIface) 20:=by kernel_rfl
theorem o12_dst:o12.dst=some 12:=by kernel_rfl
theorem o12_g:o12.guard=none:=by kernel_rfl
theorem eq_nil (w:World):(Op.equalIn Op.maxDepth 20 .nilIface .nilIface).run Tryz.prog w= .ok true w:=by
 rw[show Op.maxDepth=9999+1 from rfl,Op.equalIn]
 simp[run_underlying Tryz.underlying20]
theorem eq_iface (t:TypeId) (u:Value) (w:World):(Op.equalIn Op.maxDepth 20 (.iface t u) .nilIface).run Tryz.prog w= .ok false w:=by
 rw[show Op.maxDepth=9999+1 from rfl,Op.equalIn]
 simp[run_underlying Tryz.underlying20]
theorem o12_run (a:Act) (w:World) (u:Value) (h:a.eval (.tmp 11)= .iface 161 u):(execOp a.eval o12).run Tryz.prog w= .ok (.value (.bool true)) w:=by
 simp[execOp,o12_op,h,eval_const,eqGuard,binOp,Op.equal,eq_iface]
theorem o12_nil (a:Act) (w:World) (h:a.eval (.tmp 11)= .nilIface):(execOp a.eval o12).run Tryz.prog w= .ok (.value (.bool false)) w:=by
 simp[execOp,o12_op,h,eval_const,eqGuard,binOp,Op.equal,eq_nil]
theorem q923_is:strip q923= .cond (.tmp 16) (rg [oO 17 (.move (tT 2)),oN (.panic (tT 17))]) .skip:=by kernel_rfl
theorem q924_is:strip q924=acR (acR (acR c92)):=by kernel_rfl
section
variable {M : MMap} {T : Env} {σ : St} {a : Act} {w : World} {b2 b3 : Nat} {a0 : Int} {w0 : Int}
theorem rest92 (x:D) (ok:Bool) (a':Int) (w':Nat) (hx:(x= .niliface∧ok=false)∨(x=refD a' w'∧ok=true)) (hi:AInv 23 M T σ a w) (t0:T 0= .ptr b2 0) (t1:T 1= .ptr b3 0) (t2:T 2=x) (h2:σ.box b2=some [.int .i64 a0]) (h3:σ.box b3=some [.int .i64 w0]) (hne:b2≠b3):
  (Code.seq q921 (.seq (.seq q922 q923) q924)).wp Tryz.prog (Post 23 M σ w fun y _ s=>(y= .normal∨y= .ret)∧St.le (if ok=true then(σ.set b2 [.int .i64 a']).set b3 [.int .i64 w'] else σ) s) a w:=by
 have dom:=hi.inv.dom
 refine wp_seq ?_
 rw[q921_is]
 refine wp_region_list ?_
 rw[ops1_parts]
 refine list_cut (Q:=Post 23 M σ w fun y T' s=>y= .normal∧s=σ∧T' 0= .ptr b2 0∧T' 1= .ptr b3 0∧T' 2=x∧T' 7=x) noOut ?_ ?_ _ a w ?_
 ·rintro e a1 w1 hne' ⟨M1,T1,s1,y,hy,_,_,rfl,_⟩
  exact absurd hy hne'
 rotate_left
 ·refine aopsD_plain (M:=M) (by decide) (ops1.toList.take 1) ?_ hi dom (KeepF.refl _ _ _)
  rw[ops1_pre]
  simp -implicitDefEqProofs only[go_sem,t0,t1,t2]
 rintro a1 w1 ⟨M1,T1,s1,y,hy,hi1,hk1,-,hs1,u0,u1,u2,u7⟩
 rw[hs1] at hi1 hk1
 obtain⟨v,dv,hrun,hrv,hdv⟩:∃v dv,(execOp a1.eval o8).run Tryz.prog w1= .ok (.value v) w1∧Rep M1 w1 dv v∧dv=(if ok=true then .tup [.agg [.int .i64 a',.int .i64 w'],.bool true] else .tup [.agg [.int .i64 0,.int .i64 0],.bool false]):=by
  have h7:=hi1.env 7
  rw[u7] at h7
  rcases hx with⟨rfl,rfl⟩|⟨rfl,rfl⟩
  ·refine⟨_,.tup [.agg [.int .i64 0,.int .i64 0],.bool false],o8_nil a1 w1 h7, ?_,rfl⟩
   exact⟨_,rfl,_,_,rfl,⟨_,rfl,⟨_,_,rfl,rfl,_,_,rfl,rfl,rfl⟩,by simp[Value.oneCell']⟩,_,_,rfl,rfl,rfl⟩
  ·obtain⟨u,hu,hr⟩:=h7
   exact⟨_,.tup [.agg [.int .i64 a',.int .i64 w'],.bool true],o8_run a1 w1 u hu,⟨_,rfl,_,_,rfl,hr,_,_,rfl,rfl,rfl⟩,rfl⟩
 refine list_value o8_g hrun ?_
 have hi2:AInv 23 M1 (upd T1 8 dv) σ (a1.put o8.dst v) w1:=by rw[o8_dst]; exact hi1.put (dst:=some 8) (fun t ht=>by cases ht; decide) hrv
 refine list_mono (Q:=Post 23 M σ w fun y T' s=>y= .normal∧∃b,¬σ.has b∧s=σ.set b (if ok=true then [.int .i64 a',.int .i64 w'] else [.int .i64 0,.int .i64 0])∧T' 0= .ptr b2 0∧T' 1= .ptr b3 0∧T' 2=x∧T' 3= .ptr b 0∧T' 4= .bool ok) noOut ?_ _ _ _ ?_
 rotate_left
 ·refine aopsD_plain (M:=M1) (by decide) (ops1.toList.drop 2) ?_ hi2 dom hk1
  rw[ops1_suf,hdv]
  cases ok with
  |true=>
   simp -implicitDefEqProofs only[go_sem,u0,u1,u2,za2]
   intro b hb
   exact⟨b,hb,rfl,rfl⟩
  |false=>
   simp -implicitDefEqProofs only[go_sem,u0,u1,u2,za2]
   intro b hb
   exact⟨b,hb,rfl,rfl⟩
 rintro e a3 w3 ⟨M3,T3,s3,y,hy,hi3,hk3,rfl,b,hb,rfl,v0,v1,v2,v3,v4⟩
 obtain rfl:=hy
 have hb2:b≠b2:=fun h=>hb (by rw[h]; exact .inl (by simp[h2]))
 have hb3:b≠b3:=fun h=>hb (by rw[h]; exact .inl (by simp[h3]))
 show(Code.seq (.seq q922 q923) q924).wp Tryz.prog _ a3 w3
 obtain⟨S3,hS3⟩:∃S3,σ.set b (if ok=true then [.int .i64 a',.int .i64 w'] else [.int .i64 0,.int .i64 0])=S3:=⟨_,rfl⟩
 have hS3b:S3.box b=some (if ok=true then [.int .i64 a',.int .i64 w'] else [.int .i64 0,.int .i64 0]):=by rw[←hS3,St.set_box,if_pos rfl]
 have hS32:S3.box b2=some [.int .i64 a0]:=by rw[←hS3,St.set_box,if_neg (Ne.symm hb2),h2]
 have hS33:S3.box b3=some [.int .i64 w0]:=by rw[←hS3,St.set_box,if_neg (Ne.symm hb3),h3]
 have hSle:St.le σ S3:=hS3▸le_add hb
 rw[hS3] at hi3 hk3
 refine wp_seq (wp_seq ?_)
 rw[q922_is]
 refine wp_region_list ?_
 rw[ops2_parts]
 refine list_cut (Q:=Post 23 M σ w fun y T' s=>y= .normal∧s=S3∧T' 0= .ptr b2 0∧T' 1= .ptr b3 0∧T' 2=x∧T' 3= .ptr b 0∧T' 4= .bool ok∧T' 11=x) noOut ?_ ?_ _ a3 w3 ?_
 ·rintro e a1 w1 hne' ⟨M1,T1,s1,y,hy,_,_,rfl,_⟩
  exact absurd hy hne'
 rotate_left
 ·refine aopsD_plain (M:=M3) (by decide) (ops2.toList.take 1) ?_ hi3 dom hk3
  rw[ops2_pre]
  simp -implicitDefEqProofs only[go_sem,v0,v1,v2,v3,v4]
 rintro a4 w4 ⟨M4,T4,s4,y,hy,hi4,hk4,-,hs4,z0,z1,z2,z3,z4,z11⟩
 rw[hs4] at hi4 hk4
 have hrun:(execOp a4.eval o12).run Tryz.prog w4= .ok (.value (.bool ok)) w4:=by
  have h7:=hi4.env 11
  rw[z11] at h7
  rcases hx with⟨rfl,rfl⟩|⟨rfl,rfl⟩
  ·exact o12_nil a4 w4 h7
  ·obtain⟨u,hu,hr⟩:=h7
   exact o12_run a4 w4 u hu
 refine list_value o12_g hrun ?_
 have hi5:AInv 23 M4 (upd T4 12 (.bool ok)) S3 (a4.put o12.dst (.bool ok)) w4:=by rw[o12_dst]; exact hi4.put (dst:=some 12) (d:= .bool ok) (fun t ht=>by cases ht; decide) rfl
 refine list_mono (Q:=Post 23 M σ w fun y T' s=>y= .normal∧s=S3∧T' 0= .ptr b2 0∧T' 1= .ptr b3 0∧T' 3= .ptr b 0∧T' 4= .bool ok∧T' 16= .bool false) noOut ?_ _ _ _ ?_
 rotate_left
 ·refine aopsD_plain (M:=M4) (by decide) (ops2.toList.drop 2) ?_ hi5 dom hk4
  rw[ops2_suf]
  cases ok with
  |true=>simp -implicitDefEqProofs only[go_sem,z0,z1,z2,z3,z4]
  |false=>simp -implicitDefEqProofs only[go_sem,z0,z1,z2,z3,z4]
 rintro e a6 w6 ⟨M6,T6,s6,y,hy,hi6,hk6,rfl,hs6,y0,y1,y3,y4,y16⟩
 obtain rfl:=hy
 rw[hs6] at hi6 hk6
 show q923.wp Tryz.prog _ a6 w6
 refine Code.wp_mono ?_ (vcA_sound (N:=23) Tryz.follows_mixed (by decide) q923 (Q:=fun y T' s=>y= .normal∧s=S3∧T' 0= .ptr b2 0∧T' 1= .ptr b3 0∧T' 3= .ptr b 0∧T' 4= .bool ok) (by rw[q923_is]; simp -implicitDefEqProofs only[go_sem,y0,y1,y3,y4,y16]) M6 a6 w6 hi6)
 rintro e a7 w7 ⟨M7,T7,s7,y,hy,hi7,hk7,rfl,hs7,x0,x1,x3,x4⟩
 obtain rfl:=hy
 rw[hs7] at hi7 hk7
 show q924.wp Tryz.prog _ a7 w7
 have hk7':=hk6.trans dom hk7
 refine Code.wp_mono ?_ (vcA_sound (N:=23) Tryz.follows_mixed (by decide) q924 (Q:=fun y T' s=>(y= .normal∨y= .ret)∧St.le (if ok=true then(σ.set b2 [.int .i64 a']).set b3 [.int .i64 w'] else σ) s) ?_ M7 a7 w7 hi7)
 ·rintro e a8 w8 hp
  exact Post.trans dom hk7' hp
 rw[q924_is]
 cases ok with
 |false=>
  simp -implicitDefEqProofs only[go_sem,c92,acR,x0,x1,x3,x4]
  exact hSle
 |true=>
  simp only[if_true] at hS3b ⊢
  simp -implicitDefEqProofs only[go_sem,c92,acR,x0,x1,x3,x4,hS3b,hS32,hS33,hne,Ne.symm hne]
  exact⟨fun x hx=>by simp[hx,hS3b],fun h=>hb2 h.symm,le_set (le_set hSle)⟩
end
theorem res92 (tmps:Array Value) (w:World):(results Tryz.f92 tmps).run Tryz.prog w= .ok (.tuple #[]) w:=by
 have h:Tryz.f92.results= #[]:=by kernel_rfl
 simp[results,h]
section
variable {M : MMap} {σ : St} {w : World} {b2 b3 : Nat} {a0 w0 : Int}
theorem act92 (hi:Inv M σ w):∃tms:Array Value,(#[.pointer (some ⟨b2,0,none⟩),.pointer (some ⟨b3,0,none⟩)]++Array.replicate (Tryz.f92.ntmps-2) undef:Array Value)=tms∧AInv 23 M (envOf [.ptr b2 0,.ptr b3 0]) σ {tmps:=tms,defers:=[]} w:=by
 refine⟨_,rfl,hi,by rw[Tryz.ntmps92]; simp,rfl,fun t=> ?_⟩
 have hra:zf8 M w [.ptr b2 0,.ptr b3 0] [.pointer (some ⟨b2,0,none⟩),.pointer (some ⟨b3,0,none⟩)]:=⟨_,_,rfl,rfl,_,_,rfl,rfl,rfl⟩
 exact envOf_rep hra _ t
theorem deferred92 (u u':FrameMode) (ok:Bool) (a':Int) (w':Nat) (hu:(u= .returning∧u'= .returning∧ok=false)∨(ok=true∧∃v,Rep M w (refD a' w') v∧u= .panicking [{v,recovered:=false}]∧u'= .panicking [{v,recovered:=true}]))
  (hi:Inv M σ w) (h2:σ.box b2=some [.int .i64 a0]) (h3:σ.box b3=some [.int .i64 w0]) (hne:b2≠b3):
  CallsD Tryz.prog 92 #[.pointer (some ⟨b2,0,none⟩),.pointer (some ⟨b3,0,none⟩)] u w fun e u₁ w₁=>e= .returned (.tuple #[])∧u₁=u'∧
   ∃M',Inv M' (if ok=true then(σ.set b2 [.int .i64 a']).set b3 [.int .i64 w'] else σ) w₁∧KeepF M σ w M' (if ok=true then(σ.set b2 [.int .i64 a']).set b3 [.int .i64 w'] else σ) w₁:=by
 refine callsD_of_wpS Tryz.func92 body92 fun c₀ cs hm=> ?_
 obtain⟨tms,htms,hi0⟩:=act92 (b2:=b2) (b3:=b3) hi
 show(Code.seq q920 _).wpS Tryz.prog _ {tmps:=(#[.pointer (some ⟨b2,0,none⟩),.pointer (some ⟨b3,0,none⟩)]++Array.replicate (Tryz.f92.ntmps-2) undef:Array Value),defers:=[]} (c₀::cs) w
 rw[htms]
 refine wpS_seq ?_
 obtain⟨x,v,cs',hv,hx,hrv,hcs⟩:∃x v cs',(recoverD (c₀::cs)=some (v,cs')∨recoverD (c₀::cs)=none∧v= .nilIface∧cs'=c₀::cs)∧((x= .niliface∧ok=false)∨(x=refD a' w'∧ok=true))∧Rep M w x v∧cs'={c₀ with mode:=u'}::cs:=by
  rcases hu with⟨rfl,rfl,rfl⟩|⟨rfl,v,hr,rfl,rfl⟩
  ·refine⟨.niliface,.nilIface,c₀::cs,.inr ⟨?_,rfl,rfl⟩,.inl ⟨rfl,rfl⟩,rfl, ?_⟩
   ·simp[recoverD,hm]
   ·cases c₀; simp at hm; subst hm; rfl
  ·refine⟨refD a' w',v,_,.inl ?_,.inr ⟨rfl,rfl⟩,hr,rfl⟩
   simp[recoverD,hm]
 refine rec92 hv ?_
 have hi1:AInv 23 M (upd (envOf [.ptr b2 0,.ptr b3 0]) 5 x) σ (({tmps:=tms,defers:=[]}:Act).put (some 5) v) w:=hi0.put (dst:=some 5) (fun t ht=>by cases ht; decide) hrv
 have hi2:AInv 23 M (upd (upd (envOf [.ptr b2 0,.ptr b3 0]) 5 x) 2 x) σ ((({tmps:=tms,defers:=[]}:Act).put (some 5) v).put (some 2) ((({tmps:=tms,defers:=[]}:Act).put (some 5) v).eval (.tmp 5))) w:=by
  refine hi1.put (dst:=some 2) (d:=x) (fun t ht=>by cases ht; decide) ?_
  have:=hi1.env 5
  rw[show upd (envOf [.ptr b2 0,.ptr b3 0]) 5 x 5=x from rfl] at this
  exact this
 show(Code.seq q921 _).wpS Tryz.prog _ _ cs' w
 refine wpS_of_wp (Code.wp_mono ?_ (rest92 (b2:=b2) (b3:=b3) (a0:=a0) (w0:=w0) x ok a' w' hx hi2 rfl rfl rfl h2 h3 hne))
 rintro e a1 w1 ⟨M1,T1,s1,y,hy,hi3,hk3,hyy,hle⟩
 have hfin:bodyPostS Tryz.prog Tryz.f92 c₀ cs (fun e u₁ w₁=>e= .returned (.tuple #[])∧u₁=u'∧
   ∃M',Inv M' (if ok=true then(σ.set b2 [.int .i64 a']).set b3 [.int .i64 w'] else σ) w₁∧KeepF M σ w M' (if ok=true then(σ.set b2 [.int .i64 a']).set b3 [.int .i64 w'] else σ) w₁) .ret a1 cs' w1:=
  ⟨hi3.defers,u',hcs,_,res92 _ _,rfl,rfl,M1,hi3.inv.less hle,hk3.less hle⟩
 rcases hyy with rfl|rfl
 ·obtain rfl:=hy; exact hfin
 ·obtain rfl:=hy; exact hfin
end
open Go.Proofs
noncomputable def k51:Code:=Tryz.f51.body.getD .skip
noncomputable def p510:Code:=sL k51
noncomputable def p511:Code:=sL (sR k51)
noncomputable def p512:Code:=sL (sR (sR k51))
noncomputable def p513:Code:=sL (sR (sR (sR k51)))
noncomputable def ops511:Array Oper:=opsC p511
noncomputable def ops512:Array Oper:=opsC p512
theorem body51:Tryz.f51.body=some (chainC [p510] (.seq p511 (.seq p512 (chainC [p513] .ret)))):=by kernel_rfl
theorem p510_is:chainA [p510]=acL c51:=by kernel_rfl
theorem p511_is:p511= .region 1 ops511 false:=by kernel_rfl
theorem p512_is:p512= .region 2 ops512 false:=by kernel_rfl
theorem p513_is:chainA [p513]=acL (acR (acR (acR c51))):=by kernel_rfl
noncomputable def oMk:Oper:=(ops511[0]?).getD default
noncomputable def oDf:Oper:=(ops511[1]?).getD default
noncomputable def oMv:Oper:=(ops512[0]?).getD default
noncomputable def oCl:Oper:=(ops512[1]?).getD default
theorem ops511_is:ops511.toList=[oMk]++[oDf]:=by kernel_rfl
theorem ops512_is:ops512.toList=[oMv]++[oCl]:=by kernel_rfl
theorem oMk_pl:[oMk].map (plainO ops511.toList)=[oO 4 (.makeFunc (.func 92) #[] #[tT 2,tT 3])]:=by kernel_rfl
theorem oMv_pl:[oMv].map (plainO ops512.toList)=[oO 5 (.move (tT 0))]:=by kernel_rfl
theorem oDf_op:oDf.op= .defer {callee:= .value (.tmp 4),args:= #[],argTypes:= #[]}:=by kernel_rfl
theorem oDf_dst:oDf.dst=none:=by kernel_rfl
theorem oDf_g:oDf.guard=none:=by kernel_rfl
theorem oCl_op:oCl.op= .call {callee:= .value (.tmp 5),args:= #[],argTypes:= #[]}:=by kernel_rfl
theorem oCl_dst:oCl.dst=some 6:=by kernel_rfl
theorem oCl_g:oCl.guard=none:=by kernel_rfl
theorem rs51:Tryz.f51.results.toList=[.cell 2 3,.cell 3 32]:=by kernel_rfl
theorem res51 {T:Env} {σ:St} {b2 b3:Nat} {x y:Int} (t2:T 2= .ptr b2 0) (t3:T 3= .ptr b3 0) (h2:σ.box b2=some [.int .i64 x]) (h3:σ.box b3=some [.int .i64 y]):resA Tryz.prog T σ Tryz.f51.results.toList=some (.tup [.int .i64 x,.int .i64 y]):=by
 rw[rs51]
 simp -implicitDefEqProofs only[go_sem,t2,t3,h2,h3,za6]
def dfr51 (b2 b3:Nat):Deferred:={target:= .fn (.func 92) #[.pointer (some ⟨b2,0,none⟩),.pointer (some ⟨b3,0,none⟩)],args:= #[]}
theorem leave51 {M M₀:MMap} {σ σ₀ s1:St} {w w₀:World} {T:Env} {a:Act} {b2 b3:Nat} {x y:Int} {u u':FrameMode} (ok:Bool) (a':Int) (w':Nat) {RR:D→St→Prop} (hd₀:∀b,M₀ b≠none→b<w₀.heap.size) [DSt]
  (hi:AInv 7 M T σ a w) (hk:KeepF M₀ σ₀ w₀ M σ w) (hd:a.defers=[dfr51 b2 b3]) (t2:T 2= .ptr b2 0) (t3:T 3= .ptr b3 0) (hσ:σ=(s1.set b2 [.int .i64 x]).set b3 [.int .i64 y]) (hne:b2≠b3) (hs2:¬s1.has b2) (hs3:¬s1.has b3)
  (hu:(u= .returning∧u'= .returning∧ok=false)∨(ok=true∧∃v,Rep M w (refD a' w') v∧u= .panicking [{v,recovered:=false}]∧u'= .panicking [{v,recovered:=true}]))
  (hR:RR (.tup [.int .i64 (if ok=true then a' else x),.int .i64 (if ok=true then(w':Int) else y)]) s1):
  Leaves Tryz.prog Tryz.f51 a.tmps (fun e w'=>∃M' s' z,RepE M' w' z e∧Inv M' s' w'∧KeepF M₀ σ₀ w₀ M' s' w'∧∃d,z= .ret d∧RR d s') a.defers u w:=by
 have h2:σ.box b2=some [.int .i64 x]:=by rw[hσ,St.set_box,if_neg hne,St.set_box,if_pos rfl]
 have h3:σ.box b3=some [.int .i64 y]:=by rw[hσ,St.set_box,if_pos rfl]
 have hur:u≠ .run:=by rcases hu with⟨rfl,_⟩|⟨_,v,_,rfl,_⟩ <;> simp
 have hset:settle u'= .returning:=by rcases hu with⟨_,rfl,_⟩|⟨_,v,_,_,rfl⟩ <;> rfl
 rw[hd]
 refine leaves_cons hur (f:=92) (args:= #[.pointer (some ⟨b2,0,none⟩),.pointer (some ⟨b3,0,none⟩)]) ?_ ?_
 ·exact callFunc_run ⟨Tryz.f92,Tryz.func92,rfl,rfl⟩ _ _
 refine(deferred92 u u' ok a' w' hu hi.inv h2 h3 hne).mono ?_
 rintro e u₁ w₁ ⟨rfl,rfl,M₁,hi1,hk1⟩
 show Leaves Tryz.prog Tryz.f51 a.tmps _ [] (settle u₁) w₁
 rw[hset]
 obtain⟨σf,hσf⟩:∃σf,(if ok=true then(σ.set b2 [.int .i64 a']).set b3 [.int .i64 w'] else σ)=σf:=⟨_,rfl⟩
 rw[hσf] at hi1 hk1
 have hai:AInv 7 M₁ T σf a w₁:=hi.keep hk1.toKeep hi1
 have f2:σf.box b2=some [.int .i64 (if ok=true then a' else x)]:=by
  rw[←hσf]; cases ok
  ·simp[h2]
  ·simp[St.set_box,hne]
 have f3:σf.box b3=some [.int .i64 (if ok=true then(w':Int) else y)]:=by
  rw[←hσf]; cases ok
  ·simp[h3]
  ·simp[St.set_box]
 have hle:St.le s1 σf:=by
  have hb:St.le s1 σ:=by rw[hσ]; exact le_off (le_off (St.le.refl _) hs2) hs3
  rw[←hσf]; cases ok
  ·exact hb
  ·exact le_off (le_off hb hs2) hs3
 obtain⟨v,hv,hrep⟩:=resA_sound (res51 t2 t3 f2 f3) hai
 exact⟨v,hv,M₁,s1,.ret _,⟨v,rfl,hrep⟩,hi1.less hle,(hk.trans hd₀ hk1).less hle,_,rfl,hR⟩
theorem caught51 {g:FuncId} {ca:List D} {s:St} {R Rp:D→St→Prop} (h:XCall Tryz.prog g ca s R Rp) (hp:∀d s',Rp d s'→∃a w,d=refD a w):
  RCall Tryz.prog 51 [.func (.func g) [] ca] s fun d s'=>(∃d0,R d0 s'∧d= .tup [.int .i64 0,.int .i64 0])∨∃a w,Rp (refD a w) s'∧d= .tup [.int .i64 a,.int .i64 (w:Nat)]:=by
 refine⟨⟨Tryz.f51,Tryz.func51,rfl,rfl⟩,fun M w vs hi hv=> ?_⟩
 refine calls_of_wp_defers Tryz.func51 body51 ?_
 obtain⟨tms,htms⟩:∃tms,(vs.toArray++Array.replicate (Tryz.f51.ntmps-vs.toArray.size) undef:Array Value)=tms:=⟨_,rfl⟩
 have hlen:vs.length=1:=by have:=hv.length; simpa using this.symm
 have hsz:tms.size=7:=by rw[←htms,Tryz.ntmps51]; simp[hlen]
 have hi0:AInv 7 M (envOf [.func (.func g) [] ca]) s {tmps:=tms,defers:=[]} w:=⟨hi,hsz,rfl,fun t=>by rw[←htms]; exact envOf_rep hv _ t⟩
 have dom:=hi.dom
 rw[htms]
 refine wp_chain (M₀:=M) (σ₀:=s) (w₀:=w) (Qx:=fun x T' σ'=>x= .normal∧∃b2 b3,¬s.has b2∧¬s.has b3∧b2≠b3∧σ'=(s.set b2 [.int .i64 0]).set b3 [.int .i64 0]∧T' 0= .func (.func g) [] ca∧T' 2= .ptr b2 0∧T' 3= .ptr b3 0) Tryz.follows_mixed (by decide) dom ?hy ?hx [p510] ?hv hi0 (KeepF.refl _ _ _)
 case hx=>
  rintro e a1 w1 hne ⟨M1,T1,s1,x,hx,_,_,rfl,_⟩
  exact absurd hx hne
 case hv=>
  rw[p510_is]
  have e0:envOf [.func (.func g) [] ca] 0= .func (.func g) [] ca:=rfl
  simp -implicitDefEqProofs only[go_sem,c51,acL,e0]
  intro b2 h2 b3 m1 m2 h3
  exact⟨b2,b3,h2,h3,m2,rfl,rfl,rfl⟩
 rintro a1 w1 ⟨M1,T1,s1,x,hx,hi1,hk1,-,-,b2,b3,hb2,hb3,hne,rfl,t0,t2,t3⟩
 refine wp_seq ?_
 rw[p511_is]
 refine wp_region_list ?_
 rw[ops511_is]
 refine list_cut (Q:=Post 7 M s w fun y T' s'=>y= .normal∧s'=(s.set b2 [.int .i64 0]).set b3 [.int .i64 0]∧T' 0= .func (.func g) [] ca∧T' 2= .ptr b2 0∧T' 3= .ptr b3 0∧T' 4= .func (.func 92) [] [.ptr b2 0,.ptr b3 0]) noOut ?_ ?_ _ a1 w1 ?_
 ·rintro e a2 w2 hne' ⟨M2,T2,s2,y,hy,_,_,rfl,_⟩
  exact absurd hy hne'
 rotate_left
 ·refine aopsD_plain (M:=M1) (by decide) [oMk] ?_ hi1 dom hk1
  rw[oMk_pl]
  simp -implicitDefEqProofs only[go_sem,t0,t2,t3]
 rintro a2 w2 ⟨M2,T2,s2,y,hy,hi2,hk2,-,rfl,u0,u2,u3,u4⟩
 have hf4:a2.eval (.tmp 4)= .func (.func 92) #[] #[.pointer (some ⟨b2,0,none⟩),.pointer (some ⟨b3,0,none⟩)]:=by
  have:=hi2.env 4
  rw[u4] at this
  obtain⟨vf,vc,e1,e2,e3⟩:=this
  have e4:vf= #[]:=by simpa[zf8] using e2
  obtain⟨v,vs',e5,e6,v2,vs2,e7,e8,e9⟩:=e3
  obtain rfl:=e6
  obtain rfl:=e8
  obtain rfl:=e9
  subst e7
  have e10:vc= #[.pointer (some ⟨b2,0,none⟩),.pointer (some ⟨b3,0,none⟩)]:=by rw[←Array.toList_inj]; exact e5
  rw[e4,e10] at e1; exact e1
 have hrun:(execOp a2.eval oDf).run Tryz.prog w2= .ok (.defer (dfr51 b2 b3)) w2:=by
  simp[execOp,oDf_op,resolve,hf4,Deferred.ofValue,dfr51]
 refine list_defer oDf_g hrun ?_
 rw[oDf_dst]
 have hz2:=hi2.size
 have hf2:a2.defers=[]:=hi2.defers
 have hinv2:=hi2.inv
 have henv2:=hi2.env
 clear hi1 hi0
 letI:DSt:=⟨[dfr51 b2 b3]⟩
 have hi3:AInv 7 M2 T2 ((s.set b2 [.int .i64 0]).set b3 [.int .i64 0]) {a2 with defers:=dfr51 b2 b3::a2.defers} w2:=⟨hinv2,hz2,by rw[hf2]; rfl,henv2⟩
 show(Code.seq p512 _).wp Tryz.prog _ {a2 with defers:=dfr51 b2 b3::a2.defers} w2
 refine wp_seq ?_
 rw[p512_is]
 refine wp_region_list ?_
 rw[ops512_is]
 refine list_cut (Q:=Post 7 M s w fun y T' s'=>y= .normal∧s'=(s.set b2 [.int .i64 0]).set b3 [.int .i64 0]∧T' 2= .ptr b2 0∧T' 3= .ptr b3 0∧T' 5= .func (.func g) [] ca) noOut ?_ ?_ _ _ w2 ?_
 ·rintro e a3 w3 hne' ⟨M3,T3,s3,y,hy,_,_,rfl,_⟩
  exact absurd hy hne'
 rotate_left
 ·refine aopsD_plain (M:=M2) (by decide) [oMv] ?_ hi3 dom hk2
  rw[oMv_pl]
  simp -implicitDefEqProofs only[go_sem,u0,u2,u3,u4]
 rintro a3 w3 ⟨M3,T3,s3,y,hy,hi4,hk4,-,rfl,v2,v3,v5⟩
 obtain⟨L,hL⟩:∃L:List LI,[.bx b2 [.int .i64 0],.bx b3 [.int .i64 0]]=L:=⟨_,rfl⟩
 have hput:∀s':St,(s'.set b2 [.int .i64 0]).set b3 [.int .i64 0]=putL s' L:=fun s'=>by rw[←hL]; rfl
 have hoff:offL s L:=by rw[←hL]; exact⟨hb2,hb3,trivial⟩
 have hj:=putL_join (l:=L) (apart_nil s) hoff
 rw[show St.join s {}=s by simp[St.join]] at hj
 have hf5:∃vc:Array Value,a3.eval (.tmp 5)= .func (.func g) #[] vc∧zf8 M3 w3 ca vc.toList:=by
  have:=hi4.env 5
  rw[v5] at this
  obtain⟨vf,vc,e1,e2,e3⟩:=this
  have e4:vf= #[]:=by simpa[zf8] using e2
  exact⟨vc,by rw[e4] at e1; exact e1,e3⟩
 obtain⟨vc,hf5,hrc⟩:=hf5
 have hback:∀s1,St.apart s1 (putL {} L)→offL s1 L∧St.join s1 (putL {} L)=putL s1 L:=fun s1 hap=>by
  have ho:offL s1 L:=off_of hap fun x hx=>absurd hx (St.not_has_nil x)
  have h1:=(putL_join (l:=L) (apart_nil s1) ho).1
  rw[show St.join s1 {}=s1 by simp[St.join]] at h1
  exact⟨ho,h1.symm⟩
 refine list_call oCl_g (call_keep (vs:=vc) ⟨(hput s).trans hj.1,hj.2⟩ h hi4 hrc (fun hen=> ?_) ?_ ?_)
 ·simp only[execOp,oCl_op,resolve,hf5,Deferred.ofValue,invoke]
  simpa using callFunc_run hen vc w3
 ·intro d v s1 M4 w4 hRd hap hrep hi5 hk5
  obtain⟨ho,hjn⟩:=hback s1 hap
  rw[hjn] at hi5 hk5
  rw[oCl_dst]
  have hi6:AInv 7 M4 (upd T3 6 d) (putL s1 L) (a3.put (some 6) v) w4:=hi5.put (dst:=some 6) (fun t ht=>by cases ht; decide) hrep
  show(chainC [p513] .ret).wp Tryz.prog _ (a3.put (some 6) v) w4
  have hk6:=hk4.trans dom hk5
  have hs2:¬s1.has b2:=by rw[←hL] at ho; exact ho.1
  have hs3:¬s1.has b3:=by rw[←hL] at ho; exact ho.2.1
  refine wp_chain (M₀:=M) (σ₀:=s) (w₀:=w) (Qx:=fun x T' σ'=>x= .normal∧σ'=(s1.set b2 [.int .i64 0]).set b3 [.int .i64 0]∧T' 2= .ptr b2 0∧T' 3= .ptr b3 0) Tryz.follows_mixed (by decide) dom ?hy2 ?hx2 [p513] ?hv2 hi6 hk6
  case hx2=>
   rintro e a7 w7 hne' ⟨M7,T7,s7,x,hx,_,_,rfl,_⟩
   exact absurd hx hne'
  case hv2=>
   rw[p513_is,←hput]
   simp -implicitDefEqProofs only[go_sem,c51,acL,acR,v2,v3,hne,Ne.symm hne,za2]
   rw[set_comm (Ne.symm hne),za2,za2]
  rintro a7 w7 ⟨M7,T7,s7,x,hx,hi7,hk7,-,-,rfl,x2,x3⟩
  refine wp_ret ?_
  refine leave51 (s1:=s1) (u':= .returning) (a':=0) (w':=0) false dom hi7 hk7 hi7.defers x2 x3 rfl hne hs2 hs3 (.inl ⟨rfl,rfl,rfl⟩) ?_
  exact .inl ⟨d,hRd,rfl⟩
 ·intro d v s1 M4 w4 hRd hap hrep hi5 hk5
  obtain⟨ho,hjn⟩:=hback s1 hap
  rw[hjn] at hi5 hk5
  have hs2:¬s1.has b2:=by rw[←hL] at ho; exact ho.1
  have hs3:¬s1.has b3:=by rw[←hL] at ho; exact ho.2.1
  obtain⟨a',w',rfl⟩:=hp d s1 hRd
  show Leaves Tryz.prog Tryz.f51 a3.tmps _ a3.defers _ w4
  refine leave51 (s1:=s1) (u':= .panicking [{v,recovered:=true}]) (a':=a') (w':=w') true dom hi5 (hk4.trans dom hk5) hi5.defers v2 v3 (by rw[hput]) hne hs2 hs3 (.inr ⟨rfl,v,hrep,rfl,rfl⟩) ?_
  exact .inr ⟨a',w',hRd,rfl⟩
open Go.Proofs
theorem fetch54 (b:List Ty) (o:Own) (b6:Nat):FetchOk 54 [.ptr b6 0] b fun _ sf=>sf=({}:St).set b6 [.slice o (rws eT b)]:=⟨fun asked a sf hs _ ha=>by
 subst hs
 have p1:((a:Int)<b.length)=True:=eq_true (by omega)
 have p0:(0≤(a:Int))=True:=eq_true (by omega)
 have hat:=bt_at (b:=b) (i:=a) ha
 refine F54.xcall rfl fun T hT=> ?_
 simp -implicitDefEqProofs only[go_sem,c54,hT,eT_len,p1,p0,hat]
 exact⟨_,_,DLe.refl _,St.le.refl _,rfl,rfl⟩⟩
theorem e_gh {e:En} {n:Nat} {l:List Ey} {nx:Nat} {fd:D} {s:PS} {o:Option Nat}:((eP e n l nx fd s o).drop 7).take 2=[grD 1 o (rws eN s.fet),.int .i64 s.cmp]:=rfl
def st52 (e:En) (n:Int) (b c:List Ty) (o o2:Own) (b4 b5 b6 b7 b11:Nat):St:=
 (((((({}:St).set b6 [.slice o (rws eT b)]).set b4 (eEn e)).set b5 [.int .i64 n]).set b7 [.slice o2 (rws eT c)]).set b11 [.slice .nil [],.int .i64 0])
def R52 (e:En) (n:Int) (b c:List Ty) (b11:Nat) (d:D) (s':St):Prop:=∃fet cmp o,checkD e n b c=((cmp,fet),0,0)∧s'=({}:St).set b11 [grD 1 o (rws eN fet),.int .i64 cmp]
def P52 (e:En) (n:Int) (b c:List Ty) (b11:Nat) (d:D) (s':St):Prop:=∃a w,checkD e n b c=((0,[]),a,w)∧d=refD a w∧s'=({}:St).set b11 [.slice .nil [],.int .i64 0]
def bYgdI0:=aI @zb1 (aI @za7 (aI @anD (aI @za2 (aI @zc2 (aI @gdD (aI @ldD (aI @e_len (aI @e_sfd @e_gh))))))))
theorem check52 (e:En) (n:Int) (b c:List Ty) (o o2:Own) (b4 b5 b6 b7 b11:Nat) (hw:WideE e) (hb:b.length≤140737488355328) (hc:c.length≤140737488355328)
  (h1:b5≠b4) (h2:b6≠b4) (h3:b6≠b5) (h4:b7≠b4) (h5:b7≠b5) (h6:b7≠b6) (h7:b11≠b4) (h8:b11≠b5) (h9:b11≠b6) (h10:b11≠b7):
  XCall Tryz.prog 52 [.ptr b4 0,.ptr b5 0,.ptr b6 0,.ptr b7 0,.ptr b11 0] (st52 e n b c o o2 b4 b5 b6 b7 b11) (R52 e n b c b11) (P52 e n b c b11):=by
 obtain⟨S0,hS0⟩:∃S0,st52 e n b c o o2 b4 b5 b6 b7 b11=S0:=⟨_,rfl⟩
 have k4:S0.box b4=some (eEn e):=by rw[←hS0]; simp[st52,St.set,h1,h2,h3,h4,h5,h6,h7,h8,h9,h10,Ne.symm h1,Ne.symm h2,Ne.symm h3,Ne.symm h4,Ne.symm h5,Ne.symm h6,Ne.symm h7,Ne.symm h8,Ne.symm h9,Ne.symm h10]
 have k5:S0.box b5=some [.int .i64 n]:=by rw[←hS0]; simp[st52,St.set,h1,h2,h3,h4,h5,h6,h7,h8,h9,h10,Ne.symm h1,Ne.symm h2,Ne.symm h3,Ne.symm h4,Ne.symm h5,Ne.symm h6,Ne.symm h7,Ne.symm h8,Ne.symm h9,Ne.symm h10]
 have k6:S0.box b6=some [.slice o (rws eT b)]:=by rw[←hS0]; simp[st52,St.set,h1,h2,h3,h4,h5,h6,h7,h8,h9,h10,Ne.symm h1,Ne.symm h2,Ne.symm h3,Ne.symm h4,Ne.symm h5,Ne.symm h6,Ne.symm h7,Ne.symm h8,Ne.symm h9,Ne.symm h10]
 have k7:S0.box b7=some [.slice o2 (rws eT c)]:=by rw[←hS0]; simp[st52,St.set,h1,h2,h3,h4,h5,h6,h7,h8,h9,h10,Ne.symm h1,Ne.symm h2,Ne.symm h3,Ne.symm h4,Ne.symm h5,Ne.symm h6,Ne.symm h7,Ne.symm h8,Ne.symm h9,Ne.symm h10]
 have k11:S0.box b11=some [.slice .nil [],.int .i64 0]:=by rw[←hS0]; simp[st52,St.set,h1,h2,h3,h4,h5,h6,h7,h8,h9,h10,Ne.symm h1,Ne.symm h2,Ne.symm h3,Ne.symm h4,Ne.symm h5,Ne.symm h6,Ne.symm h7,Ne.symm h8,Ne.symm h9,Ne.symm h10]
 have hle11:St.le (({}:St).set b11 [.slice .nil [],.int .i64 0]) S0:=by rw[←hS0,st52]; exact le_set (St.le.nil _)
 refine F52.xcall rfl fun T hT=> ?_
 rw[hS0]
 simp -implicitDefEqProofs only[go_sem,c52,hT,k4,k5,k6,k7,k11,forall_eq,bYgdI0]
 obtain⟨L,hL⟩:∃L:List LI,[.bx b6 [.slice o (rws eT b)],.bx b4 (eEn e),.bx b5 [.int .i64 n],.bx b7 [.slice o2 (rws eT c)],.bx b11 [.slice .nil [],.int .i64 0]]=L:=⟨_,rfl⟩
 have hSL:S0=putL {} L:=by rw[←hS0,←hL]; rfl
 rw[hSL]
 have hoff0:offL {} L:=by rw[←hL]; exact⟨St.not_has_nil _,St.not_has_nil _,St.not_has_nil _,St.not_has_nil _,St.not_has_nil _,trivial⟩
 have hle:∀s',St.le (({}:St).set b11 [.slice .nil [],.int .i64 0]) (putL s' L):=fun s'=>by
  rw[←hL]; exact le_set (St.le.nil _)
 refine callB_under (s:={}) L hoff0 (begin53 e n b.length c o2 hw hc (by omega)) (fun d s' hR hoff=> ?_) fun d s' hR=> ?_
 rotate_left
 ·obtain⟨a,w,hbg,rfl,rfl⟩:=hR
  simp -implicitDefEqProofs only[go_sem]
  exact⟨_,_,DLe.refl _,hle _,a,w,checkD_some hbg,rfl,rfl⟩
 obtain⟨hbg,q,rfl,rfl⟩:=hR
 have hq:b6≠q∧b4≠q∧b5≠q∧b7≠q∧b11≠q:=by
  have hx:∀x,¬(({}:St).set q (eP e b.length (decC c).1.es 0 .nilfunc (startS e n) none)).has x→x≠q:=fun x h he=>h (by rw[he,set_has]; exact .inl rfl)
  rw[←hL] at hoff
  obtain⟨o1,o2,o3,o4,o5,-⟩:=hoff
  exact⟨hx _ o1,hx _ o2,hx _ o3,hx _ o4,hx _ o5⟩
 obtain⟨q6,q4,q5,q7,q11⟩:=hq
 have kq:(putL (({}:St).set q (eP e b.length (decC c).1.es 0 .nilfunc (startS e n) none)) L).box q=some (eP e b.length (decC c).1.es 0 .nilfunc (startS e n) none):=by
  rw[←hL]; simp[putL,LI.put,St.set,q6,q4,q5,q7,q11,Ne.symm q6,Ne.symm q4,Ne.symm q5,Ne.symm q7,Ne.symm q11]
 simp -implicitDefEqProofs only[go_sem,hT,kq,forall_eq,q6,q4,q5,q7,q11,Ne.symm q6,Ne.symm q4,Ne.symm q5,Ne.symm q7,Ne.symm q11,bYgdI0]
 obtain⟨L',hL'⟩:∃L':List LI,[.bx b4 (eEn e),.bx b5 [.int .i64 n],.bx b7 [.slice o2 (rws eT c)],.bx b11 [.slice .nil [],.int .i64 0]]=L':=⟨_,rfl⟩
 obtain⟨sf,hsf⟩:∃sf,({}:St).set b6 [.slice o (rws eT b)]=sf:=⟨_,rfl⟩
 have hst:(putL (({}:St).set q (eP e b.length (decC c).1.es 0 .nilfunc (startS e n) none)) L).set q (eP e b.length (decC c).1.es 0 (.func (.func 54) [] [.ptr b6 0]) (startS e n) none)=
   putL (putL sf (L0 e b (decC c).1.es 0 (.func (.func 54) [] [.ptr b6 0]) (startS e n) none q)) L':=by
  rw[←hL,←hL',←hsf]
  show((((((({}:St).set q _).set b6 _).set b4 _).set b5 _).set b7 _).set b11 _).set q _=(((((({}:St).set b6 _).set q _).set b4 _).set b5 _).set b7 _).set b11 _
  rw[set_comm q11,set_comm q7,set_comm q5,set_comm q4,set_comm q6,za2,set_comm (Ne.symm q6)]
 rw[hst]
 obtain⟨r1,r2,r3,r4⟩:=decC_rise c
 have hb2:b.length≤4096:=by
  unfold beginD at hbg
  split at hbg; · cases hbg
  split at hbg; · cases hbg
  omega
 have hoffL0:offL sf (L0 e b (decC c).1.es 0 (.func (.func 54) [] [.ptr b6 0]) (startS e n) none q):=by
  refine⟨fun h=> ?_,fun x hx=>(by cases hx),trivial⟩
  rw[←hsf,set_has] at h
  rcases h with h|h
  ·exact q6 h.symm
  ·exact St.not_has_nil _ h
 have hoffL':offL (putL sf (L0 e b (decC c).1.es 0 (.func (.func 54) [] [.ptr b6 0]) (startS e n) none q)) L':=by
  have hx:∀x,x≠q→x≠b6→¬(putL sf (L0 e b (decC c).1.es 0 (.func (.func 54) [] [.ptr b6 0]) (startS e n) none q)).has x:=fun x h1 h2 h=>by
   have h':(sf.set q (eP e b.length (decC c).1.es 0 (.func (.func 54) [] [.ptr b6 0]) (startS e n) none)).has x:=h
   rw[set_has,←hsf,set_has] at h'
   rcases h' with h|h|h
   ·exact h1 h
   ·exact h2 h
   ·exact St.not_has_nil _ h
  rw[←hL']
  exact⟨hx _ q4 (Ne.symm h2),hx _ q5 (Ne.symm h3),hx _ q7 h6,hx _ q11 h9,trivial⟩
 have hle':∀s',St.le (({}:St).set b11 [.slice .nil [],.int .i64 0]) (putL s' L'):=fun s'=>by
  rw[←hL']; exact le_set (St.le.nil _)
 refine callB_under L' hoffL' (run55 (s0:=startS e n) hw ⟨r1,r2,r3⟩ (fetch54 b o b6) hb2 hsf.symm rfl rfl rfl hoffL0) (fun d s' hR hoff2=> ?_) fun d s' hR=> ?_
 rotate_left
 ·obtain⟨a,w,hno,rfl,az,hfs,hasc⟩:=hR
  simp -implicitDefEqProofs only[go_sem]
  refine⟨_,_,DLe.refl _,hle' _,a,w, ?_,rfl,rfl⟩
  unfold checkD
  rw[hbg]
  simp only
  rcases hno with hno|⟨s2,x,hok,hlate,rfl,rfl⟩
  ·rw[hno]
  ·rw[hok]; simp only; rw[hlate]
 obtain⟨s2,hok,hlate,rfl,nx,o',sf',hfs,hof,rfl⟩:=hR
 have kq2:(putL (putL sf' (L0 e b (decC c).1.es nx (.func (.func 54) [] [.ptr b6 0]) s2 o' q)) L').box q=some (eP e b.length (decC c).1.es nx (.func (.func 54) [] [.ptr b6 0]) s2 o'):=by
  rw[←hL']
  simp[putL,L0,LI.put,grS_boxa,St.set,q6,q4,q5,q7,q11,Ne.symm q6,Ne.symm q4,Ne.symm q5,Ne.symm q7,Ne.symm q11]
 have k11':(putL (putL sf' (L0 e b (decC c).1.es nx (.func (.func 54) [] [.ptr b6 0]) s2 o' q)) L').box b11=some [.slice .nil [],.int .i64 0]:=by
  rw[←hL']; simp[putL,LI.put,St.set]
 have hch:checkD e n b c=((s2.cmp,s2.fet),0,0):=by
  unfold checkD
  rw[hbg]; simp only; rw[hok]; simp only; rw[hlate]
 simp -implicitDefEqProofs only[go_sem,hT,kq2,k11',forall_eq,q6,q4,q5,q7,q11,Ne.symm q6,Ne.symm q4,Ne.symm q5,Ne.symm q7,Ne.symm q11,bYgdI0]
 exact⟨_,({}:St).set b11 [grD 1 o' (rws eN s2.fet),.int .i64 s2.cmp],DLe.refl _,le_set (St.le.nil _),s2.fet,s2.cmp,o',hch,rfl⟩
def bYgdI1:=aI @zb1 (aI @za7 (aI @anD (aI @za2 (aI @zc2 (aI @gdD (aI @ldD @za6))))))
theorem check15 (e:En) (n:Int) (b c:List Ty) (o o2:Own) (hw:WideE e) (hb:b.length≤140737488355328) (hc:c.length≤140737488355328):
  PCall Tryz.prog 15 [.agg (eEn e),.int .i64 n,.slice o (rws eT b),.slice o2 (rws eT c)] (.tup [.agg (eGh (checkD e n b c).1),.int .i64 (checkD e n b c).2.1,.int .i64 (checkD e n b c).2.2]):=by
 refine RCall.pcall ?_
 refine F15.rcall rfl fun T hT=> ?_
 simp -implicitDefEqProofs only[go_sem,c15,hT,forall_eq,bYgdI1]
 intro b4 b5 m1 m1' b6 m2 m2' m3 m3' b7 m4 m4' m5 m5' m6 m6' b8 m7 m7' m8 m8' m9 m9' m10 m10' b11 n1 n1' n2 n2' n3 n3' n4 n4' n5 n5'
 have hcall:=caught51 (check52 e n b c o o2 b4 b5 b6 b7 b11 hw hb hc m1 m3 m2 m6 m5 m4 n5 n4 n3 n2) fun d s' ⟨a,w,_,h,_⟩=>⟨a,w,h⟩
 have hst:((((((({}:St).set b4 (eEn e)).set b5 [.int .i64 n]).set b6 [.slice o (rws eT b)]).set b7 [.slice o2 (rws eT c)]).set b8 [.slice .nil [],.int .i64 0]).set b11 [.slice .nil [],.int .i64 0])=putL (st52 e n b c o o2 b4 b5 b6 b7 b11) [.bx b8 [.slice .nil [],.int .i64 0]]:=by
  show _=(((((({}:St).set b6 _).set b4 _).set b5 _).set b7 _).set b11 _).set b8 _
  rw[set_comm n1',set_comm (σ:=(({}:St).set b4 (eEn e))) m2',set_comm (σ:=({}:St)) m3']
 rw[hst]
 refine callB_under [.bx b8 [.slice .nil [],.int .i64 0]] ⟨?_,trivial⟩ (hcall.xcall (Rp:=fun _ _=>False)) (fun d s' hR hoff=> ?_) fun d s' h=>h.elim
 ·intro h
  rw[st52,set_has,set_has,set_has,set_has,set_has] at h
  rcases h with h|h|h|h|h|h
  ·exact n1' h
  ·exact m7 h
  ·exact m9 h
  ·exact m10 h
  ·exact m8 h
  ·exact St.not_has_nil _ h
 rcases hR with⟨d0,⟨fet,cmp,o',hch,rfl⟩,rfl⟩|⟨a,w,⟨a',w',hch,href,rfl⟩,rfl⟩
 ·rw[hch]
  have hp:putL (({}:St).set b11 [grD 1 o' (rws eN fet),.int .i64 cmp]) [.bx b8 [.slice .nil [],.int .i64 0]]=(({}:St).set b11 [grD 1 o' (rws eN fet),.int .i64 cmp]).set b8 [.slice .nil [],.int .i64 0]:=rfl
  rw[hp]
  simp -implicitDefEqProofs only[go_sem,hT,forall_eq,n1,n1',bYgdI1]
  exact⟨_,{},DLe.tup (.cons (DLe.agg (.cons grD_le (.refl _))) (.refl _)),St.le.nil _,rfl⟩
 ·rw[hch]
  have hp:putL (({}:St).set b11 [.slice .nil [],.int .i64 0]) [.bx b8 [.slice .nil [],.int .i64 0]]=(({}:St).set b11 [.slice .nil [],.int .i64 0]).set b8 [.slice .nil [],.int .i64 0]:=rfl
  rw[hp]
  simp -implicitDefEqProofs only[go_sem,hT,forall_eq,n1,n1',bYgdI1]
  obtain⟨e1,e2⟩:a=a'∧(w:Int)=w':=by simpa[refD] using href
  obtain rfl:w=w':=by omega
  subst e1
  exact⟨_,{},ghz,St.le.nil _,rfl⟩
open Go.Proofs
theorem gh_len (g:Nat×List Nat):(eGh g).length=2:=rfl
end Go.AL
namespace Go.Proofs
open Go.Shelf
end Go.Proofs
namespace Go.AL
open Go.Proofs
open Go.Proofs
theorem clone17p (xs:List Ty) (o:Own) (h0:nilOk o xs.length) (hl:xs.length*1≤140737488355328):PCall Tryz.prog 17 [.slice o (rws eT xs)] (.slice .no (rws eT xs)):=by
 refine F17.pcall' rfl fun T hT=> ?_
 simp -implicitDefEqProofs only[go_sem,c17,hT]
 intro r hr
 refine br_split (fun h=> ?_) fun h=> ?_
 ·exact DLe_nils (nilR_nil hr h fun h=>by simpa[rws_nil] using h0 h)
 ·simp -implicitDefEqProofs only[go_sem,hT,rws_one eT_len,rws_nil,hl]
  rintro rfl
  exact DLe_nils rfl
end Go.AL
namespace Go.AL
open Go.Proofs Go.ChangeShapes Go.WideShapes Go.ChangeAt Go.RowKit
open Go.Proofs.YtobmoajkfbigkaaGreat
theorem rws_of {α:Type} {enc:α→List D}:∀{es:List (List D)},(∀r∈es,∃x,r=enc x)→∃xs,es=rws enc xs
 |[],_=>⟨[],rfl⟩
 |r::es,h=>by
  obtain⟨x,rfl⟩:=h r (by simp)
  obtain⟨xs,rfl⟩:=rws_of (es:=es) (fun r hr=>h r (by simp[hr]))
  exact⟨x::xs,rfl⟩
theorem wt_int {P:Program} {n:Nat} {t:TypeId} {k:IntKind} {ds:List D} (hu:P.underlying t=some (.int k)) (h:WT P n t ds):∃z,ds=[.int k z]∧(Lit.int k z).wf=true:=by
 cases n with
 |zero=>exact h.elim
 |succ n=>unfold WT at h; rw[hu] at h; exact h
theorem wt_slice {P:Program} {n:Nat} {t e:TypeId} {ds:List D} (hu:P.underlying t=some (.slice e)) (h:WT P (n+1) t ds):∃es,ds=[.slice .no es]∧es.length*P.bytesOf e≤reachBytes∧∀r∈es,WT P n e r:=by
 unfold WT at h; rw[hu] at h; exact h
theorem wt_struct {P:Program} {n:Nat} {t:TypeId} {fs:Array Field} {ds:List D} (hu:P.underlying t=some (.struct fs)) (h:WT P (n+1) t ds):WTs (WT P n) (fs.toList.map (·.type)) ds:=by
 unfold WT at h; rw[hu] at h; exact h
theorem wf_u8 {z:Int} (h:(Lit.int .u8 z).wf=true):∃t:Ty,z=t.val:=by
 simp[Lit.wf,IntKind.min,IntKind.max,IntKind.signed,IntKind.bits] at h
 exact⟨⟨z.toNat,by omega⟩,by simp; omega⟩
theorem reach_eq:reachBytes=140737488351232:=rfl
theorem wt22 {n:Nat} {ds:List D} (h:WT Tryz.prog (n+1) 93 ds):∃ts:List Ty,ds=[.slice .no (rws eT ts)]∧ts.length≤140737488351232:=by
 obtain⟨es,rfl,hl,hr⟩:=wt_slice Tryz.underlying93 h
 obtain⟨ts,rfl⟩:=rws_of (enc:=eT) (fun r hr'=>by
  obtain⟨z,rfl,hz⟩:=wt_int Tryz.underlying81 (hr r hr')
  obtain⟨t,rfl⟩:=wf_u8 hz
  exact⟨t,rfl⟩)
 have hb:Tryz.prog.bytesOf 81=1:=by kernel_rfl
 rw[hb,za0] at hl
 exact⟨ts,rfl,by rw[reach_eq] at hl; omega⟩
theorem wt25 {n:Nat} {ds:List D} (h:WT Tryz.prog (n+2) 95 ds):∃s:Sg,ds=eSg s∧s.ps.length≤140737488351232:=by
 obtain⟨d1,d2,rfl,h1,d3,d4,rfl,h2,h3⟩:=wt_struct Tryz.underlying95 h
 obtain⟨ts,rfl,hl⟩:=wt22 h1
 obtain⟨z,rfl,hz⟩:=wt_int Tryz.underlying81 h2
 obtain⟨t,rfl⟩:=wf_u8 hz
 obtain rfl:d4=[]:=h3
 exact⟨⟨ts,t⟩,rfl,hl⟩
theorem wt_str {P:Program} {n:Nat} {t:TypeId} {ds:List D} (hu:P.underlying t=some .string) (h:WT P n t ds):∃s:ByteArray,ds=[.str s]:=by
 cases n with
 |zero=>exact h.elim
 |succ n=>unfold WT at h; rw[hu] at h; obtain⟨s,hs,_⟩:=h; exact⟨s,hs⟩
theorem rws_of' {α:Type} {enc:α→List D} {p:α→Prop}:∀{es:List (List D)},(∀r∈es,∃x,r=enc x∧p x)→∃xs,es=rws enc xs∧∀x∈xs,p x
 |[],_=>⟨[],rfl,by simp⟩
 |r::es,h=>by
  obtain⟨x,rfl,hx⟩:=h r (by simp)
  obtain⟨xs,rfl,hxs⟩:=rws_of' (es:=es) (fun r hr=>h r (by simp[hr]))
  exact⟨x::xs,rfl,by simpa using ⟨hx,hxs⟩⟩
theorem wt110 {n:Nat} {ds:List D} (h:WT Tryz.prog (n+2) 157 ds):∃f:Fd,ds=eF f:=by
 obtain⟨d1,d2,rfl,h1,d3,d4,rfl,h2,h3⟩:=wt_struct Tryz.underlying157 h
 obtain⟨s,rfl⟩:=wt_str Tryz.underlying9 h1
 obtain⟨z,rfl,hz⟩:=wt_int Tryz.underlying81 h2
 obtain⟨t,rfl⟩:=wf_u8 hz
 obtain rfl:d4=[]:=h3
 exact⟨⟨s,t⟩,rfl⟩
theorem wt105 {n:Nat} {ds:List D} (h:WT Tryz.prog (n+3) 152 ds):∃fs:List Fd,ds=[.slice .no (rws eF fs)]∧fs.length*24≤140737488351232:=by
 obtain⟨es,rfl,hl,hr⟩:=wt_slice Tryz.underlying152 h
 obtain⟨ts,rfl⟩:=rws_of (enc:=eF) (fun r hr'=>wt110 (hr r hr'))
 have hb:Tryz.prog.bytesOf 157=24:=by kernel_rfl
 rw[hb,za0] at hl
 exact⟨ts,rfl,by rw[reach_eq] at hl; omega⟩
theorem wt107 {n:Nat} {ds:List D} (h:WT Tryz.prog (n+4) 154 ds):∃c:Cl,ds=eC c∧c.fields.length*24≤140737488351232:=by
 obtain⟨d1,d2,rfl,h1,d3,d4,rfl,h2,d5,d6,rfl,h3,h4⟩:=wt_struct Tryz.underlying154 h
 obtain⟨s,rfl⟩:=wt_str Tryz.underlying9 h1
 obtain⟨z,rfl,hz⟩:=wt_int Tryz.underlying3 h2
 obtain⟨fs,rfl,hl⟩:=wt105 h3
 obtain rfl:d6=[]:=h4
 exact⟨⟨s,z,fs⟩,rfl,hl⟩
theorem wt52 {n:Nat} {ds:List D} (h:WT Tryz.prog (n+5) 22 ds):∃l:List Cl,ds=[.slice .no (rws eC l)]∧Wide l:=by
 obtain⟨es,rfl,hl,hr⟩:=wt_slice Tryz.underlying22 h
 obtain⟨l,rfl,hw⟩:=rws_of' (enc:=eC) (fun r hr'=>wt107 (hr r hr'))
 have hb:Tryz.prog.bytesOf 154=48:=by kernel_rfl
 rw[hb,za0] at hl
 exact⟨l,rfl,by rw[reach_eq] at hl; omega,hw⟩
theorem wt49 {n:Nat} {ds:List D} (h:WT Tryz.prog (n+3) 23 ds):∃l:List Sg,ds=[.slice .no (rws eSg l)]∧l.length*32≤140737488351232∧∀s∈l,s.ps.length≤140737488351232:=by
 obtain⟨es,rfl,hl,hr⟩:=wt_slice Tryz.underlying23 h
 obtain⟨l,rfl,hw⟩:=rws_of' (enc:=eSg) (p:=fun s=>s.ps.length≤140737488351232) (fun r hr'=>wt25 (hr r hr'))
 have hb:Tryz.prog.bytesOf 95=32:=by kernel_rfl
 rw[hb,za0] at hl
 exact⟨l,rfl,by rw[reach_eq] at hl; omega,hw⟩
theorem wt57 {n:Nat} {ds:List D} (h:WT Tryz.prog (n+6) 25 ds):∃e:En,ds=eEn e∧WideE e:=by
 obtain⟨d1,d2,rfl,h1,d3,d4,rfl,h2,d5,d6,rfl,h3,h4⟩:=wt_struct Tryz.underlying25 h
 obtain⟨l,rfl,hl⟩:=wt52 h1
 obtain⟨s,rfl,hs⟩:=wt49 h2
 obtain⟨z,rfl,hz⟩:=wt_int Tryz.underlying3 h3
 obtain rfl:d6=[]:=h4
 exact⟨⟨l,s,z⟩,rfl,hl,hs⟩
end Go.AL
namespace Go.AL
open Go.Proofs Go.ChangeShapes Go.WideShapes Go.ChangeAt Go.RowKit
theorem wt26b {n:Nat} {ds:List D} (h:WT Tryz.prog (n+1) 26 ds):∃ts:List Ty,ds=[.slice .no (rws eT ts)]∧ts.length≤140737488351232:=by
 obtain⟨es,rfl,hl,hr⟩:=wt_slice Tryz.underlying26 h
 obtain⟨ts,rfl⟩:=rws_of (enc:=eT) (fun r hr'=>by
  obtain⟨z,rfl,hz⟩:=wt_int Tryz.underlying5 (hr r hr')
  obtain⟨t,rfl⟩:=wf_u8 hz
  exact⟨t,rfl⟩)
 have hb:Tryz.prog.bytesOf 5=1:=by kernel_rfl
 rw[hb,za0] at hl
 exact⟨ts,rfl,by rw[reach_eq] at hl; omega⟩
end Go.AL
