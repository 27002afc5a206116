import Derived.Test.YtjffaachihpjbaaGreatFk
set_option linter.unusedSimpArgs false
set_option linter.unusedVariables false
set_option maxRecDepth 100000
set_option maxHeartbeats 400000
set_option linter.defProp false
set_option maxHeartbeats 4000000
namespace Go.AL
open Go.Proofs
def popN:Nat→Fr→Fr
 |0,f=>f
 |k+1,f=>popF (popN k f)
theorem pop_loc {f:Fr}:(popF f).loc=f.loc:=by unfold popF; exact bare_loc _
theorem pop_h {f:Fr}:(popF f).h=f.h-1:=by unfold popF; exact bare_h _
theorem popN_loc:∀{k:Nat} {f:Fr},(popN k f).loc=f.loc
 |0,f=>rfl
 |k+1,f=>by rw[popN,pop_loc,popN_loc]
theorem popN_h:∀{k:Nat} {f:Fr},(popN k f).h=f.h-k
 |0,f=>by simp[popN]
 |k+1,f=>by rw[popN,pop_h,popN_h]; omega
theorem popN_shape {f:Fr} (hs:shapedB f=true) {k:Nat} (hk:(k:Int)≤f.h):shapedB (popN k f)=true:=by
 have:=shaped_of hs
 simp only[shapedB,decide_eq_true_eq,popN_loc,popN_h]; omega
theorem popN_bare {f:Fr} (hb:bareF f=f):∀k,bareF (popN k f)=popN k f
 |0=>hb
 |k+1=>by rw[popN,popF,bare_bare]
def pushAll:List Ty→Fr→Fr×Nat
 |[],f=>(f,0)
 |t::ts,f=>if(pushF f t).2≠0 then(fr0 0,(pushF f t).2) else pushAll ts (pushF f t).1
theorem push_shape {f:Fr} (hs:shapedB f=true) {t:Ty} (h:(pushF f t).2=0):shapedB (pushF f t).1=true:=by
 have:=shaped_of hs
 unfold pushF at h ⊢
 split
 ·rename_i h1; rw[if_pos h1] at h; cases h
 ·simp only[shapedB,decide_eq_true_eq]; omega
theorem setF_shape {f:Fr} {a:Int} {t:Ty}:shapedB (setF f a t)=shapedB f:=by simp only[shapedB,setF_loc,setF_h]
def behindF (i:Ins) (f:Fr) (had gs:List Ty):Fr×Nat:=
 if i.op.val=22∧0<(popN had.length f).h then(fr0 0,73)
 else pushAll gs (if i.op.val=5 then setF (bareF (popN had.length f)) i.a (had.headD 0) else popN had.length f)
theorem set3 {σ:St} {a b c:Nat} {x y z w:List D} (h1:b≠a) (h2:c≠a):(((σ.set a x).set b y).set c z).set a w=((σ.set a w).set b y).set c z:=by
 rw[Go.AL.set_comm (σ:=(σ.set a x).set b y) h2,Go.AL.set_comm (σ:=σ.set a x) h1,za4]
theorem behind85 (i:Ins) (f:Fr) (had gs:List Ty) (o o2:Own) (hs:shapedB f=true) (hh:(had.length:Int)≤f.h) (hgl:gs.length≤1000) (h5:i.op.val=5→0<had.length∧0≤i.a∧i.a<f.loc):
  PCall Tryz.prog 121 [.agg (eFr f),.agg (eIn i),.slice o (rws eT had),.slice o2 (rws eT gs)] (.tup [.agg (eFr (behindF i f had gs).1),.int .i64 (behindF i f had gs).2]):=by
 obtain⟨s1,s2,s3,s4⟩:=shaped_of hs
 refine F121.pcall' rfl fun T hT=> ?_
 simp -implicitDefEqProofs only[go_sem,zb4,c121,hT,za6,zb3]
 intro b4 b5 n1 n2 b8 n3 n4 n5 n6
 have ne1:b5≠b4:=fun e=>by simp_all
 have ne2:b8≠b4:=fun e=>by simp_all
 refine loopL F121 (fun k:Nat=>[(2,.slice o (rws eT had)),(3,.slice o2 (rws eT gs)),(4,.ptr b4 0),(5,.ptr b5 0),(8,.ptr b8 0),(9,.int .i64 0),(15,.int .i64 had.length),(16,.int .i64 k)])
  (fun k=>((({}:St).set b4 (eFr (popN k f))).set b5 (eIn i)).set b8 zFr) (fun k=>k≤had.length) (fun k=>had.length-k) 0 (Nat.zero_le _) ?_ (St.le.refl _) ?_
 ·simp -implicitDefEqProofs only[go_sem,hT,Int.ofNat_zero]
 clear hT T
 rintro k hk T hT
 by_cases h:k<had.length
 ·have h1:((k:Int)<had.length)=True:=by simp; omega
  have hp:=pop129 (popN k f) (popN_shape hs (by omega)) (by rw[popN_h]; omega)
  simp -implicitDefEqProofs only[go_sem,hT,h1,za6,za5,n1,n2,n3,n4,n5,n6]
  refine za3 hp ?_
  simp -implicitDefEqProofs only[go_sem,hT,za6,za5,n1,n2,n3,n4,n5,n6,ze7,anD]
  refine⟨k+1,by omega,by omega, ?_, ?_⟩
  ·rw[zb7 (by omega) (by omega)]; simp
  ·rw[set3 ne1 ne2]; exact St.le.refl _
 ·obtain rfl:k=had.length:=by omega
  have h1:((had.length:Int)<had.length)=False:=by simp
  have i1:(eIn i)[1]? =some (.int .u8 i.op.val):=rfl
  have i2:(eIn i)[2]? =some (.int .i64 i.a):=rfl
  have gsh:=popN_shape hs (k:=had.length) hh
  have gl:(popN had.length f).loc=f.loc:=popN_loc
  obtain⟨X,hX⟩:∃X,behindF i f had gs=X:=⟨_,rfl⟩
  rw[hX]
  rw[behindF] at hX
  generalize popN had.length f=g at gsh gl hX ⊢
  have rest:∀(g:Fr) (T:Env),shapedB g=true→pushAll gs g=X→envOk [(4,.ptr b4 0),(5,.ptr b5 0),(8,.ptr b8 0),(9,.int .i64 0),(47,.slice o2 (rws eT gs)),(48,.int .i64 gs.length),(49,.int .i64 0)] T→vcA Tryz.prog 66 (.loop ?c) ?Q T (((({}:St).set b4 (eFr g)).set b5 (eIn i)).set b8 zFr):= ?rest
  ·by_cases o22:(i.op.val:Int)=22
   ·by_cases hg:0<g.h
    ·have hg':(0<g.h)=True:=by simp[hg]
     rw[if_pos ⟨by omega,hg⟩] at hX
     rw[←hX,fr_fr0]
     simp -implicitDefEqProofs only[go_sem,zb4,za9,zb5,za8,hT,h1,za6,za5,zb3,fr_1,gdD,i1,o22,hg',n1,n2,n3,n4,n5,n6,zb0,za4]
     exact DLe.refl _
    have hg':(0<g.h)=False:=by simp; omega
    rw[if_neg (by omega),if_neg (by omega)] at hX
    simp -implicitDefEqProofs only[go_sem,zb4,hT,h1,za6,za5,zb3,fr_1,gdD,i1,o22,hg',n1,n2,n3,n4,n5,n6]
    refine rest g _ gsh hX ?_
    simp -implicitDefEqProofs only[go_sem,hT]
   rw[if_neg (by omega)] at hX
   by_cases o5:(i.op.val:Int)=5
   ·obtain⟨k1,k2,k3⟩:=h5 (by omega)
    rw[if_pos (by omega)] at hX
    have hh0:had.headD 0=had[0]:=by cases had with
     |nil=>simp at k1
     |cons a b=>rfl
    have r0:(rws eT had)[0]?.getD []=eT had[0]:=rws_at k1
    have hst:=store130 g gsh i.a had[0] k2 (by omega)
    simp -implicitDefEqProofs only[go_sem,zb4,hT,h1,za6,za5,zb3,fr_1,gdD,i1,i2,o22,o5,r0,eT,eT_len,n1,n2,n3,n4,n5,n6]
    refine⟨by omega,za3 hst ?_⟩
    simp -implicitDefEqProofs only[go_sem,zb4,hT,za6,za5,ze7,anD,n1,n2,n3,n4,n5,n6,set3 ne1 ne2]
    rw[←hh0]
    refine rest _ _ (by rw[setF_shape,bare_shape]; exact gsh) hX ?_
    simp -implicitDefEqProofs only[go_sem,hT]
   ·rw[if_neg (by omega)] at hX
    simp -implicitDefEqProofs only[go_sem,zb4,hT,h1,za6,za5,zb3,fr_1,gdD,i1,i2,o22,o5,n1,n2,n3,n4,n5,n6]
    refine rest g _ gsh hX ?_
    simp -implicitDefEqProofs only[go_sem,hT]
  clear hT T hX gsh gl g
  intro g T gsh hX hE
  refine loopL F121 (fun x:Nat×Fr=>[(4,.ptr b4 0),(5,.ptr b5 0),(8,.ptr b8 0),(9,.int .i64 0),(47,.slice o2 (rws eT gs)),(48,.int .i64 gs.length),(49,.int .i64 x.1)])
   (fun x=>((({}:St).set b4 (eFr x.2)).set b5 (eIn i)).set b8 zFr) (fun x=>x.1≤gs.length∧shapedB x.2=true∧pushAll (gs.drop x.1) x.2=X) (fun x=>gs.length-x.1) (0,g) ⟨Nat.zero_le _,gsh,hX⟩ hE (St.le.refl _) ?_
  clear hE T hX gsh g
  rintro⟨k,g⟩ ⟨hk,gsh,hX⟩ T hT
  simp only at hk gsh hX hT ⊢
  by_cases h:k<gs.length
  ·have h1:((k:Int)<gs.length)=True:=by simp; omega
   have r0:(rws eT gs)[k]?.getD []=eT gs[k]:=rws_at h
   rw[List.drop_eq_getElem_cons h,pushAll] at hX
   simp -implicitDefEqProofs only[go_sem,hT,h1,za6,za5,r0,eT,eT_len,n1,n2,n3,n4,n5,n6]
   generalize gs[k]=t at hX ⊢
   refine⟨by omega,za3 (push131 g gsh t) ?_⟩
   have psh:=push_shape gsh (t:=t)
   obtain⟨⟨g',z⟩,hP⟩:∃P,pushF g t=P:=⟨_,rfl⟩
   rw[hP] at hX psh ⊢
   simp only at hX psh ⊢
   simp -implicitDefEqProofs only[go_sem,hT,zb4,zb5,za8,n1,n2,n3,n4,n5,n6]
   intro b12 m1 m2 m3 m4 m5 m6
   by_cases hz:(z:Int)=0
   ·have hz0:z=0:=by omega
    rw[if_neg (by simp[hz0])] at hX
    simp -implicitDefEqProofs only[go_sem,hT,hz,za6,za5,ze7,zb5,za8,anD,n1,n2,n3,n4,n5,n6,m1,m2,m3,m4,m5,m6,za4]
    refine⟨(k+1,g'),⟨by simp only; omega,psh hz0,hX⟩,by simp only; omega, ?_, ?_⟩
    ·rw[zb7 (by omega) (by omega)]; simp
    ·rw[Go.AL.set_comm (b:=b4) (a:=b12) (σ:=((({}:St).set b4 (eFr g)).set b5 (eIn i)).set b8 zFr) m5,set3 ne1 ne2]
     exact le_add (by simp[has_set,m1,m2,m3,m4,m5,m6,St.not_has_nil])
   ·rw[if_pos (by omega)] at hX
    rw[←hX,fr_fr0]
    simp -implicitDefEqProofs only[go_sem,hT,hz,zb4,za6,za5,ze7,zb5,za9,za8,anD,n1,n2,n3,n4,n5,n6,m1,m2,m3,m4,m5,m6,za4,zb0]
  ·have h1:((k:Int)<gs.length)=False:=by simp; omega
   rw[List.drop_eq_nil_of_le (by omega),pushAll] at hX
   rw[←hX]
   simp -implicitDefEqProofs only[go_sem,hT,h1,za6,za5,ze7,za8,anD,zb5,n1,n2,n3,n4,n5,n6,zb0,za4]
   exact DLe.refl _
open Go.Proofs
def givesV (g:Gv) (had:List Ty):List Ty:=
 match g with
 | .no=>[]
 | .const l=>l
 | .dup=>[had.headD 0,had.headD 0]
 | .swap=>[(had[1]?).getD 0,had.headD 0]
theorem callK_gv {N:Nat} {d:Option Nat} {st:Bool} {K:Env→St→Prop} {Q:XA→Env→St→Prop} {T:Env} {σ:St} {B:List Nat} {f:Ef} (hf:okEf f) (l:List Ty) (hl:l.length=f.takes.length) (o:Own)
  (hk:putK N d (.slice .no (rws eT (givesV f.gives l))) K T σ):callK Tryz.prog N B st d (eG f.gives) [.slice o (rws eT l)] K Q T σ:=by
 obtain⟨ws,g⟩:=f
 cases g with
 |no=>exact hf.elim
 |const c=>exact za3 (gives184 _ _) hk
 |dup=>
  have h0:0<l.length:=by rw[hl]; exact hf
  refine za3 (dup156 l o h0) ?_
  simp only[givesV] at hk
  rw[show l.headD 0=l[0] by cases l with|nil=>simp at h0|cons a b=>rfl] at hk
  exact hk
 |swap=>
  have h0:1<l.length:=by rw[hl]; exact hf
  refine za3 (swap157 l o h0) ?_
  simp only[givesV] at hk
  rw[show l.headD 0=l[0] by cases l with|nil=>simp at h0|cons a b=>rfl,List.getElem?_eq_getElem h0] at hk
  exact hk
def locOp (i:Ins):Prop:=i.op.val=4∨i.op.val=5
instance (i:Ins):Decidable (locOp i):=by unfold locOp; infer_instance
def applyF (e:En) (f:Fr) (i:Ins):Fr×Nat:=
 if canB e=false then(fr0 0,1)
 else if checkF e.cs.length f≠0 then(fr0 0,checkF e.cs.length f)
 else if(toldF e i).2≠0 then(fr0 0,(toldF e i).2)
 else if locOp i∧¬(0≤i.a∧i.a<f.loc) then(fr0 0,33)
 else if(takenF e.cs f (toldF e i).1.takes).2≠0 then(fr0 0,(takenF e.cs f (toldF e i).1.takes).2)
 else if i.op.val=4 then(if slAt f i.a.toNat=0 then(fr0 0,70) else behindF i f (takenF e.cs f (toldF e i).1.takes).1 [slAt f i.a.toNat])
 else behindF i f (takenF e.cs f (toldF e i).1.takes).1 (givesV (toldF e i).1.gives (takenF e.cs f (toldF e i).1.takes).1)
theorem checkF_shape {n:Nat} {f:Fr} (h:checkF n f=0):shapedB f=true:=by
 unfold checkF at h
 split at h
 ·cases h
 ·rename_i h1; cases hs:shapedB f
  ·exact absurd (.inl hs) h1
  ·rfl
theorem takenF_ok {l:List Cl} {f:Fr} {ws:List Wn} (h:(takenF l f ws).2=0):(takenF l f ws).1=hadL f ws.length∧(ws.length:Int)≤f.h:=by
 unfold takenF at h ⊢
 split at h
 ·cases h
 ·rename_i h1
  rw[if_neg h1]
  split at h
  ·cases h
  ·rename_i h2; rw[if_neg h2]; exact⟨rfl,by omega⟩
theorem told_lt {e:En} {i:Ins} (h:(toldF e i).2=0):i.op.val<34:=by
 by_cases h1:34≤i.op.val
 ·rw[toldF,if_pos h1] at h; cases h
 ·omega
theorem told_store {e:En} {i:Ins} (h:i.op.val=5):(toldF e i).1.takes.length=1:=by
 rw[toldF,if_neg (by omega),h]; rfl
theorem givesV_len {g:Gv} {had:List Ty}:(givesV g had).length=givesN g:=by cases g <;> rfl
theorem tellF_gives (e:En) (i:Ins) (op:Nat) (h:op<34):givesN (tellF e i (tlOf op)).1.gives≤2:=by
 have gv:∀g:Gv,(∀l,g= .const l→l.length≤2)→givesN g≤2:=fun g hg=>by cases g <;> simp[givesN] <;> exact hg _ rfl
 have fixedOk:∀ws g,tlOf op= .fixed ws g→givesN g≤2→givesN (tellF e i (tlOf op)).1.gives≤2:=fun ws g he hk=>by rw[he]; exact hk
 have hcall:tlOf op= .call→givesN (tellF e i (tlOf op)).1.gives≤2:=fun he=>by
  rw[he]; simp only[tellF]; split
  ·simp only[givesN]; split <;> simp
  ·simp[ef0,givesN]
 have hret:tlOf op= .ret→givesN (tellF e i (tlOf op)).1.gives≤2:=fun he=>by
  rw[he]; simp only[tellF]; split <;> simp[ef0,givesN]
 have hcls:∀ws c,tlOf op= .classed ws c→givesN (tellF e i (tlOf op)).1.gives≤2:=fun ws c he=>by
  rw[he]; simp only[tellF]; split <;> simp[ef0,givesN]
 have hfld:∀p,tlOf op= .field p→givesN (tellF e i (tlOf op)).1.gives≤2:=fun p he=>by
  rw[he]; simp only[tellF]; split
  ·split <;> simp[givesN]
  ·simp[ef0,givesN]
 have:op=0∨op=1∨op=2∨op=3∨op=4∨op=5∨op=6∨op=7∨op=8∨op=9∨op=10∨op=11∨op=12∨op=13∨op=14∨op=15∨op=16∨op=17∨op=18∨op=19∨op=20∨op=21∨op=22∨op=23∨op=24∨op=25∨op=26∨op=27∨op=28∨op=29∨op=30∨op=31∨op=32∨op=33:=by omega
 rcases this with h|h|h|h|h|h|h|h|h|h|h|h|h|h|h|h|h|h|h|h|h|h|h|h|h|h|h|h|h|h|h|h|h|h <;> subst h <;> first
  |exact fixedOk _ _ rfl (by simp[givesN])
  |exact hcall rfl
  |exact hret rfl
  |exact hcls _ _ rfl
  |exact hfld _ rfl
theorem ef_0 (f:Ef):(eEf f)[0]? =some (.slice .no (rws eW f.takes)):=rfl
theorem ef_1 (f:Ef):(eEf f)[1]? =some (eG f.gives):=rfl
def bXdaZ0:=aI @zb4 (aI @zb5 (aI @za9 (aI @za8 (aI @zb8 (aI @zb3 (aI @za6 (aI @zb2 (aI @za7 (aI @za5 (aI @ze7 @anD))))))))))
def bXdaZ1:=aI @zb4 (aI @zb5 (aI @za9 (aI @za8 (aI @zb8 (aI @zb3 (aI @za6 (aI @zb2 (aI @za7 (aI @za5 (aI @ze7 (aI @anD (aI @za4 @zb0))))))))))))
def bXdaZ2:=aI @zb4 (aI @zb5 (aI @za9 (aI @za8 (aI @zb8 (aI @zb3 (aI @za6 (aI @zb2 (aI @za7 (aI @za5 (aI @ze7 (aI @anD (aI @ef_0 (aI @ef_1 (aI @fr_0 (aI @gdD (aI @za4 (aI @zb0 @eEf_len)))))))))))))))))
theorem apply39 (e:En) (f:Fr) (i:Ins) (hw:WideE e):PCall Tryz.prog 88 [.agg (eEn e),.agg (eFr f),.agg (eIn i)] (.tup [.agg (eFr (applyF e f i).1),.int .i64 (applyF e f i).2]):=by
 have i1:(eIn i)[1]? =some (.int .u8 i.op.val):=rfl
 have i2:(eIn i)[2]? =some (.int .i64 i.a):=rfl
 have e0:(eEn e)[0]? =some (.slice .no (rws eC e.cs)):=rfl
 refine F88.pcall' rfl fun T hT=> ?_
 simp -implicitDefEqProofs only[go_sem,c88,hT,bXdaZ0]
 intro b3 b4 n1 n2 b5 n3 n4 n5 n6 b6 n7 n8 n9 n10 n11 n12
 simp -implicitDefEqProofs only[go_sem,hT,n1,n2,n3,n4,n5,n6,n7,n8,n9,n10,n11,n12,bXdaZ0]
 refine za3 (environment80 e hw) ?_
 cases hcan:canB e
 ·simp -implicitDefEqProofs only[go_sem,hT,n1,n2,n3,n4,n5,n6,n7,n8,n9,n10,n11,n12,bXdaZ1]
  rw[applyF,if_pos hcan,fr_fr0]
  exact DLe.refl _
 have hc:=canB_can hw hcan
 simp -implicitDefEqProofs only[go_sem,hT,zb4,zb5,za9,za8,zb8,zb3,za6,zb2,za7,za5,ze7,anD,n1,n2,n3,n4,n5,n6,n7,n8,n9,n10,n11,n12,e0,gdD]
 refine za3 (check81 e.cs .no f) ?_
 by_cases hck:checkF e.cs.length f=0
 case neg=>
  have hck':((checkF e.cs.length f:Int)=0)=False:=by simp; omega
  simp -implicitDefEqProofs only[go_sem,hT,n1,n2,n3,n4,n5,n6,n7,n8,n9,n10,n11,n12,hck',bXdaZ1]
  rw[applyF,if_neg (by simp[hcan]),if_pos hck,fr_fr0]
  exact DLe.refl _
 have hck':((checkF e.cs.length f:Int)=0)=True:=by simp; omega
 have hs:=checkF_shape hck
 have ha:applyF e f i=if(toldF e i).2≠0 then(fr0 0,(toldF e i).2)
   else if locOp i∧¬(0≤i.a∧i.a<f.loc) then(fr0 0,33)
   else if(takenF e.cs f (toldF e i).1.takes).2≠0 then(fr0 0,(takenF e.cs f (toldF e i).1.takes).2)
   else if i.op.val=4 then(if slAt f i.a.toNat=0 then(fr0 0,70) else behindF i f (takenF e.cs f (toldF e i).1.takes).1 [slAt f i.a.toNat])
   else behindF i f (takenF e.cs f (toldF e i).1.takes).1 (givesV (toldF e i).1.gives (takenF e.cs f (toldF e i).1.takes).1):=by
  rw[applyF,if_neg (by simp[hcan]),if_neg (by simp[hck])]
 rw[ha]
 simp -implicitDefEqProofs only[go_sem,hT,n1,n2,n3,n4,n5,n6,n7,n8,n9,n10,n11,n12,hck',bXdaZ0]
 refine za3 (told82 e i hc) ?_
 have hst:(toldF e i).2=0→i.op.val=5→(toldF e i).1.takes.length=1:=fun _ h=>told_store h
 have hok:(toldF e i).2=0→okEf (toldF e i).1∧(toldF e i).1.takes.length≤8:=fun h0=>by
  have h34:=told_lt h0
  rw[toldF,if_neg (by omega)] at h0 ⊢
  exact tellF_ok e i hc i.op.val h34 h0
 have hlt:=told_lt (e:=e) (i:=i)
 have hgl:(toldF e i).2=0→∀had,(givesV (toldF e i).1.gives had).length≤1000:=fun h0 had=>by
  have h34:=told_lt h0
  have:=tellF_gives e i i.op.val h34
  rw[givesV_len,toldF,if_neg (by omega)]; omega
 generalize toldF e i=F at *
 clear ha hlt
 simp -implicitDefEqProofs only[go_sem,hT,zb4,zb5,za9,za8,zb8,zb3,za6,zb2,za7,za5,ze7,anD,n1,n2,n3,n4,n5,n6,n7,n8,n9,n10,n11,n12,eEf_len]
 intro b9 m1 m2 m3 m4 m5 m6 m7 m8
 by_cases h0:F.2=0
 case neg=>
  have h0':((F.2:Int)=0)=False:=by simp; omega
  rw[if_pos h0,fr_fr0]
  simp -implicitDefEqProofs only[go_sem,mmB,hT,n1,n2,n3,n4,n5,n6,n7,n8,n9,n10,n11,n12,m1,m2,m3,m4,m5,m6,m7,m8,i1,i2,e0,h0',bXdaZ2]
 have h0':((F.2:Int)=0)=True:=by simp; omega
 replace hok:=hok h0
 replace hgl:=hgl h0
 replace hst:=hst h0
 rw[if_neg (show ¬F.2≠0 by simp[h0])]
 by_cases hl:locOp i∧¬(0≤i.a∧i.a<f.loc)
 ·have hq:((decide ((i.op.val:Int)=4)||decide ((i.op.val:Int)=5))&&(decide (i.a<0)||decide (f.loc≤i.a)))=true:=by
   simp only[Bool.and_eq_true,Bool.or_eq_true,decide_eq_true_eq]; unfold locOp at hl; omega
  rw[if_pos hl,fr_fr0]
  simp -implicitDefEqProofs only[go_sem,mmB,hT,n1,n2,n3,n4,n5,n6,n7,n8,n9,n10,n11,n12,m1,m2,m3,m4,m5,m6,m7,m8,i1,i2,e0,h0',hq,bXdaZ2]
  exact DLe.refl _
 have hq:((decide ((i.op.val:Int)=4)||decide ((i.op.val:Int)=5))&&(decide (i.a<0)||decide (f.loc≤i.a)))=false:=by
  rw[←Bool.not_eq_true]
  simp only[Bool.and_eq_true,Bool.or_eq_true,decide_eq_true_eq]; unfold locOp at hl; omega
 rw[if_neg hl]
 simp -implicitDefEqProofs only[go_sem,mmB,hT,n1,n2,n3,n4,n5,n6,n7,n8,n9,n10,n11,n12,m1,m2,m3,m4,m5,m6,m7,m8,i1,i2,e0,h0',hq,bXdaZ2]
 refine za3 (taken83 e.cs .no .no f F.1.takes hs (by have:=hc.wide.1.1; omega)) ?_
 have htk:=takenF_ok (l:=e.cs) (f:=f) (ws:=F.1.takes)
 generalize takenF e.cs f F.1.takes=H at *
 by_cases h1:H.2=0
 case neg=>
  have h1':((H.2:Int)=0)=False:=by simp; omega
  rw[if_pos h1,fr_fr0]
  simp -implicitDefEqProofs only[go_sem,hT,n1,n2,n3,n4,n5,n6,n7,n8,n9,n10,n11,n12,m1,m2,m3,m4,m5,m6,m7,m8,i1,i2,e0,h1',bXdaZ2]
 have h1':((H.2:Int)=0)=True:=by simp; omega
 obtain⟨hH,hle⟩:=htk h1
 have hHl:H.1.length=F.1.takes.length:=by rw[hH,hadL_len]
 rw[if_neg (show ¬H.2≠0 by simp[h1])]
 simp -implicitDefEqProofs only[go_sem,hT,n1,n2,n3,n4,n5,n6,n7,n8,n9,n10,n11,n12,m1,m2,m3,m4,m5,m6,m7,m8,i1,i2,e0,h1',bXdaZ2]
 refine callK_gv hok.1 H.1 hHl _ ?_
 by_cases o4:i.op.val=4
 ·have o4':(i.op.val:Int)=4:=by omega
  have hla:0≤i.a∧i.a<f.loc:=by unfold locOp at hl; omega
  rw[if_pos o4]
  simp -implicitDefEqProofs only[go_sem,hT,n1,n2,n3,n4,n5,n6,n7,n8,n9,n10,n11,n12,m1,m2,m3,m4,m5,m6,m7,m8,i1,i2,e0,o4',bXdaZ2]
  refine za3 (load84 f hs i.a hla.1 hla.2) ?_
  by_cases hz:slAt f i.a.toNat=0
  ·have hz':(((slAt f i.a.toNat).val:Int)=0)=True:=by simp[hz]
   rw[if_pos hz,fr_fr0]
   simp -implicitDefEqProofs only[go_sem,hT,n1,n2,n3,n4,n5,n6,n7,n8,n9,n10,n11,n12,m1,m2,m3,m4,m5,m6,m7,m8,i1,i2,e0,o4',hz',bXdaZ2]
   exact DLe.refl _
  have hz':(((slAt f i.a.toNat).val:Int)=0)=False:=by simp; rw[Fin.ext_iff] at hz; simpa using hz
  rw[if_neg hz]
  simp -implicitDefEqProofs only[go_sem,hT,n1,n2,n3,n4,n5,n6,n7,n8,n9,n10,n11,n12,m1,m2,m3,m4,m5,m6,m7,m8,i1,i2,e0,o4',hz',frz,bXdaZ2]
  refine za3 (behind85 i f H.1 [slAt f i.a.toNat] _ _ hs (by rw[hHl]; exact hle) (by simp) (by omega)) ?_
  simp -implicitDefEqProofs only[go_sem,hT,n1,n2,n3,n4,n5,n6,n7,n8,n9,n10,n11,n12,m1,m2,m3,m4,m5,m6,m7,m8,i1,i2,e0,bXdaZ2]
 have o4':((i.op.val:Int)=4)=False:=by simp; omega
 rw[if_neg o4]
 simp -implicitDefEqProofs only[go_sem,hT,n1,n2,n3,n4,n5,n6,n7,n8,n9,n10,n11,n12,m1,m2,m3,m4,m5,m6,m7,m8,i1,i2,e0,o4',bXdaZ2]
 refine za3 (behind85 i f H.1 (givesV F.1.gives H.1) _ _ hs (by rw[hHl]; exact hle) (hgl _) (fun h5=> ?_)) ?_
 ·have:=hst h5
  unfold locOp at hl; omega
 simp -implicitDefEqProofs only[go_sem,hT,n1,n2,n3,n4,n5,n6,n7,n8,n9,n10,n11,n12,m1,m2,m3,m4,m5,m6,m7,m8,i1,i2,e0,bXdaZ2]
open Go.Proofs
def givesR (e:En) (f:Fr) (i:Ins) (had:List Ty):List Ty:=
 if i.op.val=4 then [slAt f i.a.toNat] else if i.op.val=7 then [had.headD 0,had.headD 0] else if i.op.val=8 then [(had[1]?).getD 0,had.headD 0] else givesO e i i.op.val
def sameB (had:List Ty):Bool:=decide ((had[0]?).getD 0=(had[1]?).getD 0∧(((had[0]?).getD 0).val=1∨((had[0]?).getD 0).val=2))
def applyIn (e:En) (f:Fr) (i:Ins):Fr×Nat:=
 if f.h<(zg0 e i i.op.val).length then(fr0 0,30)
 else if wantedAll e.cs (zg0 e i i.op.val) (hadL f (zg0 e i i.op.val).length)=false then(fr0 0,70)
 else if i.op.val=16∧sameB (hadL f 2)=false then(fr0 0,70)
 else if i.op.val=4∧slAt f i.a.toNat=0 then(fr0 0,70)
 else behindF i f (hadL f (zg0 e i i.op.val).length) (givesR e f i (hadL f (zg0 e i i.op.val).length))
theorem checkF_bare {n:Nat} {f:Fr} (h:checkF n f=0):bareF f=f:=by
 unfold checkF at h
 split at h
 ·cases h
 ·rename_i h1; exact Classical.byContradiction fun hb=>h1 (.inr hb)
theorem takesO_len (e:En) (i:Ins) (hc:Can e) (h34:i.op.val<34):(zg0 e i i.op.val).length≤8:=by
 have:i.op.val=0∨i.op.val=1∨i.op.val=2∨i.op.val=3∨i.op.val=4∨i.op.val=5∨i.op.val=6∨i.op.val=7∨i.op.val=8∨i.op.val=9∨i.op.val=10∨i.op.val=11∨i.op.val=12∨i.op.val=13∨i.op.val=14∨i.op.val=15∨i.op.val=16∨i.op.val=17∨i.op.val=18∨i.op.val=19∨i.op.val=20∨i.op.val=21∨i.op.val=22∨i.op.val=23∨i.op.val=24∨i.op.val=25∨i.op.val=26∨i.op.val=27∨i.op.val=28∨i.op.val=29∨i.op.val=30∨i.op.val=31∨i.op.val=32∨i.op.val=33:=by omega
 have sg:∀k:Nat,(((e.sgs[k]?).map Sg.ps).getD []).length≤8:=fun k=>by
  cases hk:e.sgs[k]? with
  |none=>simp
  |some s=>simpa using hc.sigs s (List.mem_of_getElem? hk)
 have rg:∀k:Nat,(((e.sgs[k]?).map fun s=>someR s.r).getD []).length≤8:=fun k=>by
  cases hk:e.sgs[k]? with
  |none=>simp
  |some s=>simp only[Option.map_some,Option.getD_some,someR]; split <;> simp
 rcases this with h|h|h|h|h|h|h|h|h|h|h|h|h|h|h|h|h|h|h|h|h|h|h|h|h|h|h|h|h|h|h|h|h|h <;> rw[h] <;> first
  |exact sg _
  |exact rg _
  |simp[zg0]
theorem givesO_len (e:En) (i:Ins) (h34:i.op.val<34):(givesO e i i.op.val).length≤2:=by
 have:i.op.val=0∨i.op.val=1∨i.op.val=2∨i.op.val=3∨i.op.val=4∨i.op.val=5∨i.op.val=6∨i.op.val=7∨i.op.val=8∨i.op.val=9∨i.op.val=10∨i.op.val=11∨i.op.val=12∨i.op.val=13∨i.op.val=14∨i.op.val=15∨i.op.val=16∨i.op.val=17∨i.op.val=18∨i.op.val=19∨i.op.val=20∨i.op.val=21∨i.op.val=22∨i.op.val=23∨i.op.val=24∨i.op.val=25∨i.op.val=26∨i.op.val=27∨i.op.val=28∨i.op.val=29∨i.op.val=30∨i.op.val=31∨i.op.val=32∨i.op.val=33:=by omega
 have sR:∀t:Ty,(someR t).length≤2:=fun t=>by unfold someR; split <;> simp
 have rg:∀k:Nat,(((e.sgs[k]?).map fun s=>someR s.r).getD []).length≤2:=fun k=>by
  cases hk:e.sgs[k]? with
  |none=>simp
  |some s=>exact sR _
 have fg:∀k:Nat,((((flds e i)[k]?).map fun f=>someR f.ty).getD []).length≤2:=fun k=>by
  cases hk:(flds e i)[k]? with
  |none=>simp
  |some s=>exact sR _
 rcases this with h|h|h|h|h|h|h|h|h|h|h|h|h|h|h|h|h|h|h|h|h|h|h|h|h|h|h|h|h|h|h|h|h|h <;> rw[h] <;> first
  |exact rg _
  |exact fg _
  |simp[givesO]
theorem set4 {σ:St} {a b c d:Nat} {x y z w u:List D} (h1:b≠a) (h2:c≠a) (h3:d≠a):((((σ.set a x).set b y).set c z).set d w).set a u=(((σ.set a u).set b y).set c z).set d w:=by
 rw[Go.AL.set_comm (σ:=((σ.set a x).set b y).set c z) h3,set3 h1 h2]
theorem same_cond (a b:Ty):(!decide ((a.val:Int)=b.val)|| !decide ((a.val:Int)=1)&& !decide ((a.val:Int)=2))= !sameB [a,b]:=by
 rw[Bool.eq_iff_iff]
 simp only[sameB,Bool.or_eq_true,Bool.and_eq_true,Bool.not_eq_true',decide_eq_false_iff_not,decide_eq_true_eq,List.getElem?_cons_zero,List.getElem?_cons_succ,Option.getD_some,Fin.ext_iff]
 omega
def bXebA0:=aI @zb4 (aI @zb5 (aI @za9 (aI @za8 (aI @zb8 (aI @zb3 (aI @za6 (aI @zb2 (aI @za7 (aI @za5 (aI @ze7 (aI @anD (aI @fr_0 (aI @fr_1 (aI @gdD (aI @za4 @zb0)))))))))))))))
def bXebA1:=aI @zb4 (aI @zb5 (aI @za9 (aI @za8 (aI @zb8 (aI @zb3 (aI @za6 (aI @zb2 (aI @za7 (aI @za5 (aI @ze7 (aI @anD (aI @fr_0 (aI @fr_1 (aI @gdD (aI @za4 (aI @zb0 @grS_boxa))))))))))))))))
def bXebA2:=aI @zb4 (aI @zb5 (aI @za9 (aI @za8 (aI @zb8 (aI @zb3 (aI @za6 (aI @zb2 (aI @za7 (aI @za5 (aI @ze7 (aI @anD (aI @fr_0 (aI @fr_1 (aI @gdD (aI @za4 (aI @zb0 @eT_len))))))))))))))))
theorem refApply78 (e:En) (f:Fr) (i:Ins) (hc:Can e) (hck:checkF e.cs.length f=0) (ho:opndF e i=0) (h34:i.op.val<34) (hl:¬(locOp i∧¬(0≤i.a∧i.a<f.loc))):
  PCall Tryz.prog 67 [.agg (eEn e),.agg (eFr f),.agg (eIn i)] (.tup [.agg (eFr (applyIn e f i).1),.int .i64 (applyIn e f i).2]):=by
 have i1:(eIn i)[1]? =some (.int .u8 i.op.val):=rfl
 have i2:(eIn i)[2]? =some (.int .i64 i.a):=rfl
 have e0:(eEn e)[0]? =some (.slice .no (rws eC e.cs)):=rfl
 have hs:=checkF_shape hck
 have hb:=checkF_bare hck
 obtain⟨s1,s2,s3,s4⟩:=shaped_of hs
 have h8:=takesO_len e i hc h34
 have hla:i.op.val=4∨i.op.val=5→(0≤i.a∧i.a<24)∧i.a.toNat<24:=fun h=>by unfold locOp at hl; omega
 have ot:∀{n:Nat},i.op.val=n→((i.op.val:Int)=n)=True:=fun h=>by simp[h]
 have of:∀{n:Nat},¬i.op.val=n→((i.op.val:Int)=n)=False:=fun h=>by simp; omega
 clear hl
 refine F67.pcall' rfl fun T hT=> ?_
 simp -implicitDefEqProofs only[go_sem,c67,hT,zb4,zb5,za9,za8,zb8,zb3,za6,zb2,za7,za5,ze7,anD]
 intro b3 b4 n1 n2 b5 n3 n4 n5 n6 b6 n7 n8 n9 n10 n11 n12
 simp -implicitDefEqProofs only[go_sem,hT,zb4,zb5,za9,za8,zb8,zb3,za6,zb2,za7,za5,ze7,anD,n1,n2,n3,n4,n5,n6,n7,n8,n9,n10,n11,n12]
 intro b8 m1 m2 m3 m4 m5 m6 m7 m8
 simp -implicitDefEqProofs only[go_sem,hT,n1,n2,n3,n4,n5,n6,n7,n8,n9,n10,n11,n12,m1,m2,m3,m4,m5,m6,m7,m8,i1,i2,e0,bXebA0]
 refine za3 (refTakes76 e i hc ho h34) ?_
 have hai:applyIn e f i=if f.h<(zg0 e i i.op.val).length then(fr0 0,30)
   else if wantedAll e.cs (zg0 e i i.op.val) (hadL f (zg0 e i i.op.val).length)=false then(fr0 0,70)
   else if i.op.val=16∧sameB (hadL f 2)=false then(fr0 0,70)
   else if i.op.val=4∧slAt f i.a.toNat=0 then(fr0 0,70)
   else behindF i f (hadL f (zg0 e i i.op.val).length) (givesR e f i (hadL f (zg0 e i i.op.val).length)):=rfl
 rw[hai]
 have htS:i.op.val=16→zg0 e i i.op.val=[255,255]:=fun h=>by rw[h]; rfl
 have htD:i.op.val=7→(zg0 e i i.op.val).length=1:=fun h=>by rw[h]; rfl
 have htW:i.op.val=8→(zg0 e i i.op.val).length=2:=fun h=>by rw[h]; rfl
 have htT:i.op.val=5→(zg0 e i i.op.val).length=1:=fun h=>by rw[h]; rfl
 generalize zg0 e i i.op.val=tk at *
 clear hai
 simp -implicitDefEqProofs only[go_sem,hT,n1,n2,n3,n4,n5,n6,n7,n8,n9,n10,n11,n12,m1,m2,m3,m4,m5,m6,m7,m8,i1,i2,e0,bXebA0]
 by_cases hh:f.h<tk.length
 ·have hh':(f.h<(tk.length:Int))=True:=by simp[hh]
  rw[if_pos hh,fr_fr0]
  simp -implicitDefEqProofs only[go_sem,hT,n1,n2,n3,n4,n5,n6,n7,n8,n9,n10,n11,n12,m1,m2,m3,m4,m5,m6,m7,m8,i1,i2,e0,hh',bXebA0]
  all_goals exact DLe.refl _
 have hh':(f.h<(tk.length:Int))=False:=by simp; omega
 rw[if_neg hh]
 obtain⟨n,hn⟩:∃n,tk.length=n:=⟨_,rfl⟩
 have w1:IntKind.wrap .i64 (f.loc+f.h)=f.loc+f.h:=zb7 (by omega) (by omega)
 obtain⟨k0,hk0⟩:∃k0:Nat,f.loc+f.h-n=k0:=⟨_,(Int.toNat_of_nonneg (by omega)).symm⟩
 have w2:IntKind.wrap .i64 (f.loc+f.h-n)=k0:=by rw[zb7 (by omega) (by omega),hk0]
 rw[hn] at hh hh' ⊢
 obtain⟨H,hH⟩:∃H,hadL f n=H:=⟨_,rfl⟩
 rw[hH]
 have hHl:H.length=n:=by rw[←hH,hadL_len]
 simp -implicitDefEqProofs only[go_sem,hT,n1,n2,n3,n4,n5,n6,n7,n8,n9,n10,n11,n12,m1,m2,m3,m4,m5,m6,m7,m8,i1,i2,e0,hh',hn,w1,w2,grD_none (s:=1),bXebA0]
 obtain⟨σ0,hσ0⟩:∃σ0:St,(((((({}:St).set b3 (eEn e)).set b4 (eFr f)).set b5 (eIn i)).set b6 zFr).set b8 zFr)=σ0:=⟨_,rfl⟩
 refine loopL F67 (fun x:Nat×Option Nat=>[(3,.ptr b3 0),(4,.ptr b4 0),(5,.ptr b5 0),(6,.ptr b6 0),(7,.int .i64 0),(8,.ptr b8 0),(9,.slice .no (rws eT tk)),(10,.int .i64 k0),(11,grD 1 x.2 (rws eT (H.take x.1))),(38,.slice .no (rws eT tk)),(39,.int .i64 n),(40,.int .i64 x.1)])
  (fun x=>grS 1 x.1 x.2 (((((({}:St).set b3 (eEn e)).set b4 (eFr f)).set b5 (eIn i)).set b6 zFr).set b8 zFr)) (fun x=>x.1≤n∧(x.2=none→x.1=0)∧grN x.2 (((((({}:St).set b3 (eEn e)).set b4 (eFr f)).set b5 (eIn i)).set b6 zFr).set b8 zFr)∧(((tk.zip H).take x.1).all fun p=>wantedB e.cs p.2 p.1)=true) (fun x=>n-x.1) (0,none) ⟨Nat.zero_le _,fun _=>rfl,grN_none,rfl⟩ ?_ (St.le.refl _) ?_
 ·simp -implicitDefEqProofs only[go_sem,hT,Int.ofNat_zero,List.take_zero,rws_mt]
 clear hT T hh'
 rintro⟨k,ob⟩ ⟨hk,hok,hgr,hall⟩ T hT
 simp only at hk hok hgr hall hT ⊢
 have hz:(tk.zip H).length=n:=by simp[hn,hHl]
 by_cases h:k<n
 ·have h1:((k:Int)<n)=True:=by simp; omega
  have hkt:k<tk.length:=by omega
  have r1:(rws eT tk)[k]?.getD []=eT tk[k]:=rws_at hkt
  have w3:IntKind.wrap .i64 ((k0:Int)+k)=((k0+k:Nat):Int):=by rw[zb7 (by omega) (by omega)]; omega
  have hx:=fr_slAt f (show k0+k<24 by omega)
  have hHk:H[k]? =some (slAt f (k0+k)):=by rw[←hH,hadL_at h,show(f.loc+f.h-n).toNat=k0 by omega]
  have htake:H.take (k+1)=H.take k++[slAt f (k0+k)]:=by rw[List.take_add_one,hHk]; rfl
  have hzk:(tk.zip H)[k]? =some (tk[k],slAt f (k0+k)):=by
   rw[List.getElem?_zip_eq_some]; exact⟨by simp[hkt],hHk⟩
  have htk:(tk.zip H).take (k+1)=(tk.zip H).take k++[(tk[k],slAt f (k0+k))]:=by rw[List.take_add_one,hzk]; rfl
  have hin:(tk[k],slAt f (k0+k))∈tk.zip H:=List.mem_of_getElem? hzk
  generalize tk[k]=w at *
  generalize slAt f (k0+k)=t at *
  simp -implicitDefEqProofs only[go_sem,hT,h1,zb4,zb5,za9,za8,zb8,zb3,za6,zb2,za7,za5,ze7,anD,n1,n2,n3,n4,n5,n6,n7,n8,n9,n10,n11,n12,m1,m2,m3,m4,m5,m6,m7,m8,i1,i2,e0,fr_0,fr_1,gdD,za4,zb0,hn,r1,eT,eT_len,grS_boxa,w3,hx,Nat.mul_one]
  refine⟨by omega,⟨by omega,by omega⟩,za3 (wanted117 e.cs .no t w hc.right.falls (by have:=hc.cls; omega)) ?_⟩
  cases hv:wantedB e.cs t w
  ·rw[if_pos (show wantedAll e.cs tk H=false by rw[wantedAll,List.all_eq_false]; exact⟨_,hin,by simp[hv]⟩),fr_fr0]
   simp -implicitDefEqProofs only[go_sem,hT,n1,n2,n3,n4,n5,n6,n7,n8,n9,n10,n11,n12,m1,m2,m3,m4,m5,m6,m7,m8,i1,i2,e0,bXebA1]
   all_goals exact DLe.refl _
  simp -implicitDefEqProofs only[go_sem,hT,n1,n2,n3,n4,n5,n6,n7,n8,n9,n10,n11,n12,m1,m2,m3,m4,m5,m6,m7,m8,i1,i2,e0,frz,bXebA1]
  refine app_gr' Tryz.sli44 Tryz.sz35 Tryz.by35 Tryz.zero35 rfl (n:=k) (m:=1) (base:=(((((({}:St).set b3 (eEn e)).set b4 (eFr f)).set b5 (eIn i)).set b6 zFr).set b8 zFr)) (by rw[za1,List.length_take]; omega) rfl (St.le.refl _) hgr hok (by simp) (by omega) fun o' σ' hbox hle hgn hno=> ?_
  simp -implicitDefEqProofs only[go_sem,hT,hbox]
  refine⟨(k+1,o'),⟨by omega,by simpa using hno,hgn,by rw[htk,List.all_append,hall]; simp[hv]⟩,by simp only; omega,⟨?_, ?_⟩,hle⟩
  ·rw[htake]; simp[rws,eT]
  ·rw[zb7 (by omega) (by omega)]; simp
 obtain rfl:k=n:=by omega
 have h1:((k:Int)<k)=False:=by simp
 rw[List.take_of_length_le (by omega)] at hT hall
 have hwA:wantedAll e.cs tk H=true:=hall
 rw[if_neg (by rw[hwA]; simp)]
 have hgl:(grD 1 ob (rws eT H)).cellQ=true:=grD_cellQ
 have hgv:=refGives77 e i hc ho h34
 have hgR:∀had,givesR e f i had=if i.op.val=4 then [slAt f i.a.toNat] else if i.op.val=7 then [had.headD 0,had.headD 0] else if i.op.val=8 then [(had[1]?).getD 0,had.headD 0] else givesO e i i.op.val:=fun _=>rfl
 rw[hgR]
 have hgl8:(givesO e i i.op.val).length≤1000:=Nat.le_trans (givesO_len e i h34) (by simp)
 generalize givesO e i i.op.val=gs at *
 obtain⟨X,hX⟩:∃X,(if i.op.val=16∧sameB (hadL f 2)=false then(fr0 0,70)
   else if i.op.val=4∧slAt f i.a.toNat=0 then(fr0 0,70)
   else behindF i f H (if i.op.val=4 then [slAt f i.a.toNat] else if i.op.val=7 then [H.headD 0,H.headD 0] else if i.op.val=8 then [(H[1]?).getD 0,H.headD 0] else gs))=X:=⟨_,rfl⟩
 rw[hX]
 have rest:∀(o2:Own) (gs':List Ty) (T:Env) (σ:St),St.le ((((({}:St).set b4 (eFr f)).set b5 (eIn i)).set b6 zFr).set b8 zFr) σ→gs'.length≤1000→behindF i f H gs'=X→envOk [(4,.ptr b4 0),(5,.ptr b5 0),(6,.ptr b6 0),(7,.int .i64 0),(8,.ptr b8 0),(9,.slice .no (rws eT tk)),(11,grD 1 ob (rws eT H)),(15,.slice o2 (rws eT gs'))] T→vcA Tryz.prog 175 c67_10 (bodyP Tryz.prog [.cell 6 38,.tmp 7] (.tup [.agg (eFr X.1),.int .i64 X.2])) T σ:= ?rest
 ·
  have le0:St.le ((((({}:St).set b4 (eFr f)).set b5 (eIn i)).set b6 zFr).set b8 zFr) (grS 1 k ob (((((({}:St).set b3 (eEn e)).set b4 (eFr f)).set b5 (eIn i)).set b6 zFr).set b8 zFr)):=by
   cases ob with
   |none=>exact le_set (le_set (le_set (le_set (St.le.nil _))))
   |some b=>
    have hnb:=hgr b rfl
    refine St.le.trans (le_set (le_set (le_set (le_set (St.le.nil (({}:St).set b3 (eEn e))))))) (le_addBuf hnb)
  by_cases o16:i.op.val=16
  ·have htk2:=htS o16
   have hk2:k=2:=by rw[←hn,htk2]; rfl
   subst hk2
   obtain⟨a,b,rfl⟩:∃a b,H=[a,b]:=by
    match H,hHl with
    |[a,b],_=>exact⟨a,b,rfl⟩
   have o16':((i.op.val:Int)=16)=True:=ot o16
   have o4:¬i.op.val=4:=by rw[o16]; simp
   have o7:¬i.op.val=7:=by rw[o16]; simp
   have o8:¬i.op.val=8:=by rw[o16]; simp
   have o4':((i.op.val:Int)=4)=False:=of o4
   have o7':((i.op.val:Int)=7)=False:=of o7
   have o8':((i.op.val:Int)=8)=False:=of o8
   rw[hH] at hX
   simp only[o16,o4,o7,o8,true_and,false_and,if_false] at hX
   have hq:=same_cond a b
   cases hsm:sameB [a,b]
   ·rw[hsm] at hq
    rw[if_pos hsm] at hX
    rw[←hX,fr_fr0]
    simp -implicitDefEqProofs only[go_sem,mmB,hT,h1,n1,n2,n3,n4,n5,n6,n7,n8,n9,n10,n11,n12,m1,m2,m3,m4,m5,m6,m7,m8,i1,i2,e0,o16',rws,eT,hq,Bool.not_false,bXebA1]
    exact⟨by simp,by simp,by simp,by simp,DLe.refl _⟩
   ·rw[hsm] at hq
    rw[if_neg (by simp[hsm])] at hX
    simp -implicitDefEqProofs only[go_sem,mmB,hT,h1,n1,n2,n3,n4,n5,n6,n7,n8,n9,n10,n11,n12,m1,m2,m3,m4,m5,m6,m7,m8,i1,i2,e0,o16',rws,eT,hq,Bool.not_true,bXebA1]
    refine⟨by simp,by simp,by simp,by simp,za3 hgv ?_⟩
    simp -implicitDefEqProofs only[go_sem,hT,n1,n2,n3,n4,n5,n6,n7,n8,n9,n10,n11,n12,m1,m2,m3,m4,m5,m6,m7,m8,i1,i2,e0,o4',o7',o8',bXebA1]
    refine rest .no gs _ _ le0 hgl8 hX ?_
    simp -implicitDefEqProofs only[go_sem,hT]
  rw[if_neg (fun h=>o16 h.1)] at hX
  have o16':((i.op.val:Int)=16)=False:=of o16
  simp -implicitDefEqProofs only[go_sem,hT,h1,n1,n2,n3,n4,n5,n6,n7,n8,n9,n10,n11,n12,m1,m2,m3,m4,m5,m6,m7,m8,i1,i2,e0,o16',bXebA1]
  refine za3 hgv ?_
  by_cases o4:i.op.val=4
  ·have o4':((i.op.val:Int)=4)=True:=ot o4
   have hx:=fr_slAt f (hla (.inl o4)).2
   by_cases hz0:slAt f i.a.toNat=0
   ·have hz':(((slAt f i.a.toNat).val:Int)=0)=True:=by simp[hz0]
    rw[if_pos ⟨o4,hz0⟩] at hX
    rw[←hX,fr_fr0]
    simp -implicitDefEqProofs only[go_sem,hT,n1,n2,n3,n4,n5,n6,n7,n8,n9,n10,n11,n12,m1,m2,m3,m4,m5,m6,m7,m8,i1,i2,e0,o4',hx,hz',Nat.mul_one,bXebA1]
    exact⟨(hla (.inl o4)).1,DLe.refl _⟩
   have hz':(((slAt f i.a.toNat).val:Int)=0)=False:=by simp; rw[Fin.ext_iff] at hz0; simpa using hz0
   rw[if_neg (by simp[hz0]),if_pos o4] at hX
   simp -implicitDefEqProofs only[go_sem,hT,n1,n2,n3,n4,n5,n6,n7,n8,n9,n10,n11,n12,m1,m2,m3,m4,m5,m6,m7,m8,i1,i2,e0,o4',hx,hz',Nat.mul_one,frz,bXebA1]
   refine⟨(hla (.inl o4)).1,(hla (.inl o4)).1,rest .exact [slAt f i.a.toNat] _ _ le0 (by simp) hX ?_⟩
   simp -implicitDefEqProofs only[go_sem,hT,rws,eT,List.map_cons,List.map_nil]
  have o4':((i.op.val:Int)=4)=False:=of o4
  rw[if_neg (fun h=>o4 h.1),if_neg o4] at hX
  by_cases o7:i.op.val=7
  ·have o7':((i.op.val:Int)=7)=True:=ot o7
   have hk1:k=1:=by rw[←hn]; exact htD o7
   subst hk1
   obtain⟨a,rfl⟩:∃a,H=[a]:=by
    match H,hHl with
    |[a],_=>exact⟨a,rfl⟩
   rw[if_pos o7] at hX
   simp -implicitDefEqProofs only[go_sem,hT,n1,n2,n3,n4,n5,n6,n7,n8,n9,n10,n11,n12,m1,m2,m3,m4,m5,m6,m7,m8,i1,i2,e0,o4',o7',rws,eT,frz,bXebA1]
   refine⟨by simp,by simp,rest .exact [a,a] _ _ le0 (by simp) hX ?_⟩
   simp -implicitDefEqProofs only[go_sem,hT,rws,eT,List.map_cons,List.map_nil]
  have o7':((i.op.val:Int)=7)=False:=of o7
  rw[if_neg o7] at hX
  by_cases o8:i.op.val=8
  ·have o8':((i.op.val:Int)=8)=True:=ot o8
   have hk2:k=2:=by rw[←hn]; exact htW o8
   subst hk2
   obtain⟨a,b,rfl⟩:∃a b,H=[a,b]:=by
    match H,hHl with
    |[a,b],_=>exact⟨a,b,rfl⟩
   rw[if_pos o8] at hX
   simp -implicitDefEqProofs only[go_sem,hT,n1,n2,n3,n4,n5,n6,n7,n8,n9,n10,n11,n12,m1,m2,m3,m4,m5,m6,m7,m8,i1,i2,e0,o4',o7',o8',rws,eT,frz,bXebA1]
   refine⟨by simp,by simp,rest .exact [b,a] _ _ le0 (by simp) hX ?_⟩
   simp -implicitDefEqProofs only[go_sem,hT,rws,eT,List.map_cons,List.map_nil]
  have o8':((i.op.val:Int)=8)=False:=of o8
  rw[if_neg o8] at hX
  simp -implicitDefEqProofs only[go_sem,hT,n1,n2,n3,n4,n5,n6,n7,n8,n9,n10,n11,n12,m1,m2,m3,m4,m5,m6,m7,m8,i1,i2,e0,o4',o7',o8',bXebA1]
  refine rest .no gs _ _ le0 hgl8 hX ?_
  simp -implicitDefEqProofs only[go_sem,hT]
 intro o2 gs' T σ hle hgl' hX' hE
 simp only[envOk_nil,envOk_cons] at hE
 obtain⟨h4,h5,h6,h7,h8',h9,h11,h15,_⟩:=hE
 simp -implicitDefEqProofs only[go_sem,c67_10,h4,h5,h6,h7,h8',h9,h11,h15,hn]
 have ne1:b5≠b4:=fun e=>n3 e
 refine loopL F67 (fun j:Nat=>[(4,.ptr b4 0),(5,.ptr b5 0),(6,.ptr b6 0),(7,.int .i64 0),(8,.ptr b8 0),(11,grD 1 ob (rws eT H)),(15,.slice o2 (rws eT gs')),(127,.int .i64 k),(128,.int .i64 j)])
  (fun j=>(((({}:St).set b4 (eFr (popN j f))).set b5 (eIn i)).set b6 zFr).set b8 zFr) (fun j=>j≤k) (fun j=>k-j) 0 (Nat.zero_le _) ?_ hle ?_
 ·simp -implicitDefEqProofs only[go_sem,h4,h5,h6,h7,h8',h9,h11,h15,Int.ofNat_zero]
 clear h4 h5 h6 h7 h8' h9 h11 h15 hT hle T σ
 have hkh:(k:Int)≤f.h:=Int.not_lt.1 hh
 clear hX hwA hall hgr hok hgv hgR hgl hh hgl8 htS htD htW
 have h50:i.op.val=5→0<H.length∧0≤i.a∧i.a<24:=fun h=>⟨by rw[hHl,←hn,htT h]; exact Nat.one_pos,(hla (.inr h)).1⟩
 have popS:∀j:Nat,j≤k→shapedB (popN j f)=true:=fun j hj=>popN_shape hs (by omega)
 have popH:∀j:Nat,j<k→0<(popN j f).h:=fun j hj=>by rw[popN_h]; omega
 have popB:bareF (popN k f)=popN k f:=popN_bare hb k
 rintro j hj T hT
 by_cases hjk:j<k
 ·have hj1:((j:Int)<k)=True:=by simp[hjk]
  have hp:=refPop118 (popN j f) (popS j hj) (popH j hjk)
  simp -implicitDefEqProofs only[go_sem,hT,hj1,n1,n2,n3,n4,n5,n6,n7,n8,n9,n10,n11,n12,m1,m2,m3,m4,m5,m6,m7,m8,i1,i2,e0,bXebA0]
  refine za3 hp ?_
  simp -implicitDefEqProofs only[go_sem,hT,n1,n2,n3,n4,n5,n6,n7,n8,n9,n10,n11,n12,m1,m2,m3,m4,m5,m6,m7,m8,i1,i2,e0,bXebA0]
  refine⟨j+1,hjk,Nat.sub_lt_sub_left hjk (Nat.lt_succ_self j), ?_, ?_⟩
  ·rw[zb7 (by omega) (by omega)]; simp
  ·rw[show popF (popN j f)=popN (j+1) f from rfl]
   rw[set4 n3 n9 m5]; exact St.le.refl _
 obtain rfl:j=k:=Nat.le_antisymm hj (Nat.not_lt.1 hjk)
 have hj1:((j:Int)<j)=False:=by simp
 have gsh:=popS j (Nat.le_refl _)
 have gl:(popN j f).loc=f.loc:=popN_loc
 rw[behindF,hHl] at hX'
 rw[popB] at hX'
 clear popS popH
 generalize popN j f=g at gsh gl popB hX' ⊢
 have fin:∀(g:Fr) (T:Env),shapedB g=true→pushAll gs' g=X→envOk [(4,.ptr b4 0),(5,.ptr b5 0),(6,.ptr b6 0),(7,.int .i64 0),(8,.ptr b8 0),(156,.slice o2 (rws eT gs')),(157,.int .i64 gs'.length),(158,.int .i64 0)] T→vcA Tryz.prog 175 (.loop ?c) ?Q T ((((({}:St).set b4 (eFr g)).set b5 (eIn i)).set b6 zFr).set b8 zFr):= ?fin
 ·by_cases o22:i.op.val=22
  ·have o22':((i.op.val:Int)=22)=True:=ot o22
   have o5':((i.op.val:Int)=5)=False:=of (by rw[o22]; simp)
   by_cases hg:0<g.h
   ·have hg':(0<g.h)=True:=by simp[hg]
    rw[if_pos ⟨o22,hg⟩] at hX'
    rw[←hX',fr_fr0]
    simp -implicitDefEqProofs only[go_sem,hT,hj1,n1,n2,n3,n4,n5,n6,n7,n8,n9,n10,n11,n12,m1,m2,m3,m4,m5,m6,m7,m8,i1,i2,e0,o22',hg',bXebA0]
    all_goals exact DLe.refl _
   have hg':(0<g.h)=False:=by simp[hg]
   rw[if_neg (fun h=>hg h.2),if_neg (by rw[o22]; simp)] at hX'
   simp -implicitDefEqProofs only[go_sem,hT,hj1,n1,n2,n3,n4,n5,n6,n7,n8,n9,n10,n11,n12,m1,m2,m3,m4,m5,m6,m7,m8,i1,i2,e0,o22',hg',o5',bXebA0]
   refine fin g _ gsh hX' ?_
   simp -implicitDefEqProofs only[go_sem,hT]
  have o22':((i.op.val:Int)=22)=False:=of o22
  rw[if_neg (fun h=>o22 h.1)] at hX'
  by_cases o5:i.op.val=5
  ·have o5':((i.op.val:Int)=5)=True:=ot o5
   obtain⟨k1,k2,k3⟩:=h50 o5
   rw[if_pos o5] at hX'
   have hh0:H.headD 0=H[0]:=by cases H with
    |nil=>simp at k1
    |cons a b=>rfl
   have r0:(rws eT H)[0]?.getD []=eT H[0]:=rws_at k1
   have hst:=fr_setF (f:=g) (t:=H[0]) k2 k3
   rw[hh0] at hX'
   simp -implicitDefEqProofs only[go_sem,hT,hj1,n1,n2,n3,n4,n5,n6,n7,n8,n9,n10,n11,n12,m1,m2,m3,m4,m5,m6,m7,m8,i1,i2,e0,o22',o5',r0,eT,Nat.mul_one,hst,bXebA2]
   refine⟨Int.ofNat_lt.2 k1,⟨k2,k3⟩,(by omega), ?_⟩
   rw[set4 n3 n9 m5]
   refine fin _ _ (by rw[setF_shape]; exact gsh) hX' ?_
   simp -implicitDefEqProofs only[go_sem,hT]
  have o5':((i.op.val:Int)=5)=False:=of o5
  rw[if_neg o5] at hX'
  simp -implicitDefEqProofs only[go_sem,hT,hj1,n1,n2,n3,n4,n5,n6,n7,n8,n9,n10,n11,n12,m1,m2,m3,m4,m5,m6,m7,m8,i1,i2,e0,o22',o5',bXebA0]
  refine fin g _ gsh hX' ?_
  simp -implicitDefEqProofs only[go_sem,hT]
 clear hT T hX' gsh gl popB g
 intro g T gsh hX hE
 refine loopL F67 (fun x:Nat×Fr=>[(4,.ptr b4 0),(5,.ptr b5 0),(6,.ptr b6 0),(7,.int .i64 0),(8,.ptr b8 0),(156,.slice o2 (rws eT gs')),(157,.int .i64 gs'.length),(158,.int .i64 x.1)])
  (fun x=>(((({}:St).set b4 (eFr x.2)).set b5 (eIn i)).set b6 zFr).set b8 zFr) (fun x=>x.1≤gs'.length∧shapedB x.2=true∧pushAll (gs'.drop x.1) x.2=X) (fun x=>gs'.length-x.1) (0,g) ⟨Nat.zero_le _,gsh,hX⟩ hE (St.le.refl _) ?_
 clear hE T hX gsh g
 rintro⟨k,g⟩ ⟨hk,gsh,hX⟩ T hT
 simp only at hk gsh hX hT ⊢
 by_cases h:k<gs'.length
 ·have h1:((k:Int)<gs'.length)=True:=by simp[h]
  have r0:(rws eT gs')[k]?.getD []=eT gs'[k]:=rws_at h
  rw[List.drop_eq_getElem_cons h,pushAll] at hX
  simp -implicitDefEqProofs only[go_sem,hT,h1,n1,n2,n3,n4,n5,n6,n7,n8,n9,n10,n11,n12,m1,m2,m3,m4,m5,m6,m7,m8,i1,i2,e0,r0,eT,bXebA2]
  generalize gs'[k]=t at hX ⊢
  refine⟨Int.natCast_nonneg _,za3 (refPush119 g gsh t) ?_⟩
  have psh:=push_shape gsh (t:=t)
  obtain⟨⟨g',z⟩,hP⟩:∃P,pushF g t=P:=⟨_,rfl⟩
  rw[hP] at hX psh ⊢
  simp only at hX psh ⊢
  simp -implicitDefEqProofs only[go_sem,hT,n1,n2,n3,n4,n5,n6,n7,n8,n9,n10,n11,n12,m1,m2,m3,m4,m5,m6,m7,m8,i1,i2,e0,bXebA0]
  intro b12 q1 q2 q3 q4 q5 q6 q7 q8
  by_cases hz:z=0
  ·subst hz
   rw[if_neg (by simp)] at hX
   simp -implicitDefEqProofs only[go_sem,hT,zb4,zb5,za9,za8,zb8,zb3,za6,zb2,za7,za5,ze7,anD,n1,n2,n3,n4,n5,n6,n7,n8,n9,n10,n11,n12,m1,m2,m3,m4,m5,m6,m7,m8,q1,q2,q3,q4,q5,q6,q7,q8,i1,i2,e0,fr_0,fr_1,gdD,za4,zb0,Int.ofNat_zero]
   refine⟨(k+1,g'),⟨h,psh rfl,hX⟩,Nat.sub_lt_sub_left h (Nat.lt_succ_self k), ?_, ?_⟩
   ·rw[zb7 (by omega) (by omega)]; simp
   ·rw[Go.AL.set_comm (b:=b4) (a:=b12) (σ:=(((({}:St).set b4 (eFr g)).set b5 (eIn i)).set b6 zFr).set b8 zFr) q7,set4 n3 n9 m5]
    exact le_add (by simp[has_set,St.not_has_nil,n1,n2,n3,n4,n5,n6,n7,n8,n9,n10,n11,n12,m1,m2,m3,m4,m5,m6,m7,m8,q1,q2,q3,q4,q5,q6,q7,q8])
  ·have hz':((z:Int)=0)=False:=by simp[hz]
   rw[if_pos hz] at hX
   rw[←hX,fr_fr0]
   simp -implicitDefEqProofs only[go_sem,hT,n1,n2,n3,n4,n5,n6,n7,n8,n9,n10,n11,n12,m1,m2,m3,m4,m5,m6,m7,m8,q1,q2,q3,q4,q5,q6,q7,q8,i1,i2,e0,hz',bXebA0]
 ·have h1:((k:Int)<gs'.length)=False:=by simp[h]
  rw[List.drop_eq_nil_of_le (by omega),pushAll] at hX
  rw[←hX]
  simp -implicitDefEqProofs only[go_sem,hT,h1,n1,n2,n3,n4,n5,n6,n7,n8,n9,n10,n11,n12,m1,m2,m3,m4,m5,m6,m7,m8,i1,i2,e0,bXebA0]
  all_goals exact DLe.refl _
open Go.Proofs
def applyR (e:En) (f:Fr) (i:Ins):Fr×Nat:=
 if canB e=false then(fr0 0,1)
 else if checkF e.cs.length f≠0 then(fr0 0,checkF e.cs.length f)
 else if 34≤i.op.val then(fr0 0,40)
 else if locOp i∧¬(0≤i.a∧i.a<f.loc) then(fr0 0,33)
 else if opndF e i≠0 then(fr0 0,opndF e i)
 else applyIn e f i
def bXebB0:=aI @zb4 (aI @zb5 (aI @za9 (aI @za8 (aI @zb8 (aI @zb3 (aI @za6 (aI @zb2 (aI @za7 (aI @za5 (aI @ze7 (aI @anD (aI @fr_0 (aI @fr_1 (aI @gdD (aI @za4 @zb0)))))))))))))))
theorem refApply37 (e:En) (f:Fr) (i:Ins) (hw:WideE e):PCall Tryz.prog 36 [.agg (eEn e),.agg (eFr f),.agg (eIn i)] (.tup [.agg (eFr (applyR e f i).1),.int .i64 (applyR e f i).2]):=by
 have i1:(eIn i)[1]? =some (.int .u8 i.op.val):=rfl
 have i2:(eIn i)[2]? =some (.int .i64 i.a):=rfl
 have e0:(eEn e)[0]? =some (.slice .no (rws eC e.cs)):=rfl
 refine F36.pcall' rfl fun T hT=> ?_
 simp -implicitDefEqProofs only[go_sem,c36,hT,zb4,zb5,za9,za8,zb8,zb3,za6,zb2,za7,za5,ze7,anD]
 intro b3 b4 n1 n2 b5 n3 n4 n5 n6 b6 n7 n8 n9 n10 n11 n12
 simp -implicitDefEqProofs only[go_sem,hT,zb4,zb5,za9,za8,zb8,zb3,za6,zb2,za7,za5,ze7,anD,n1,n2,n3,n4,n5,n6,n7,n8,n9,n10,n11,n12]
 intro b8 m1 m2 m3 m4 m5 m6 m7 m8
 simp -implicitDefEqProofs only[go_sem,hT,n1,n2,n3,n4,n5,n6,n7,n8,n9,n10,n11,n12,m1,m2,m3,m4,m5,m6,m7,m8,i1,i2,e0,bXebB0]
 refine za3 (can73 e hw) ?_
 cases hcan:canB e
 ·simp -implicitDefEqProofs only[go_sem,hT,n1,n2,n3,n4,n5,n6,n7,n8,n9,n10,n11,n12,m1,m2,m3,m4,m5,m6,m7,m8,i1,i2,e0,bXebB0]
  rw[applyR,if_pos hcan,fr_fr0]
  exact DLe.refl _
 have hc:=canB_can hw hcan
 simp -implicitDefEqProofs only[go_sem,hT,n1,n2,n3,n4,n5,n6,n7,n8,n9,n10,n11,n12,m1,m2,m3,m4,m5,m6,m7,m8,i1,i2,e0,bXebB0]
 refine za3 (refCheck40 e.cs .no f) ?_
 by_cases hck:checkF e.cs.length f=0
 case neg=>
  have hck':((checkF e.cs.length f:Int)=0)=False:=by simp; omega
  simp -implicitDefEqProofs only[go_sem,hT,n1,n2,n3,n4,n5,n6,n7,n8,n9,n10,n11,n12,m1,m2,m3,m4,m5,m6,m7,m8,i1,i2,e0,hck',bXebB0]
  rw[applyR,if_neg (by simp[hcan]),if_pos hck,fr_fr0]
  exact DLe.refl _
 have hck':((checkF e.cs.length f:Int)=0)=True:=by simp; omega
 have hR:applyR e f i=if 34≤i.op.val then(fr0 0,40) else if locOp i∧¬(0≤i.a∧i.a<f.loc) then(fr0 0,33) else if opndF e i≠0 then(fr0 0,opndF e i) else applyIn e f i:=by
  rw[applyR,if_neg (by simp[hcan]),if_neg (by simp[hck])]
 simp -implicitDefEqProofs only[go_sem,hT,n1,n2,n3,n4,n5,n6,n7,n8,n9,n10,n11,n12,m1,m2,m3,m4,m5,m6,m7,m8,i1,i2,e0,hck',bXebB0]
 refine za3 (refSize74 i.op) ?_
 by_cases h34:34≤i.op.val
 ·have hs:ze8 i.op.val=0:=by rw[ze8,if_pos h34]
  simp -implicitDefEqProofs only[go_sem,hT,zb4,zb5,za9,za8,zb8,zb3,za6,zb2,za7,za5,ze7,anD,n1,n2,n3,n4,n5,n6,n7,n8,n9,n10,n11,n12,m1,m2,m3,m4,m5,m6,m7,m8,i1,i2,e0,fr_0,fr_1,gdD,za4,zb0,hs,Int.ofNat_zero]
  rw[hR,if_pos h34,fr_fr0]
  exact DLe.refl _
 have hs:((ze8 i.op.val:Int)=0)=False:=by
  simp only[eq_iff_iff,iff_false]
  rw[ze8,if_neg h34]; omega
 rw[if_neg h34] at hR
 by_cases hl:locOp i∧¬(0≤i.a∧i.a<f.loc)
 ·have hq:((decide ((i.op.val:Int)=4)||decide ((i.op.val:Int)=5))&&(decide (i.a<0)||decide (f.loc≤i.a)))=true:=by
   simp only[Bool.and_eq_true,Bool.or_eq_true,decide_eq_true_eq]; unfold locOp at hl; omega
  rw[hR,if_pos hl,fr_fr0]
  simp -implicitDefEqProofs only[go_sem,hT,n1,n2,n3,n4,n5,n6,n7,n8,n9,n10,n11,n12,m1,m2,m3,m4,m5,m6,m7,m8,i1,i2,e0,hs,bXebB0]
  simp -implicitDefEqProofs only[go_sem,mmB,hT,n1,n2,n3,n4,n5,n6,n7,n8,n9,n10,n11,n12,m1,m2,m3,m4,m5,m6,m7,m8,i1,i2,e0,hs,hq,bXebB0]
  exact DLe.refl _
 have hq:((decide ((i.op.val:Int)=4)||decide ((i.op.val:Int)=5))&&(decide (i.a<0)||decide (f.loc≤i.a)))=false:=by
  rw[←Bool.not_eq_true]
  simp only[Bool.and_eq_true,Bool.or_eq_true,decide_eq_true_eq]; unfold locOp at hl; omega
 rw[if_neg hl] at hR
 simp -implicitDefEqProofs only[go_sem,mmB,hT,n1,n2,n3,n4,n5,n6,n7,n8,n9,n10,n11,n12,m1,m2,m3,m4,m5,m6,m7,m8,i1,i2,e0,hs,hq,bXebB0]
 refine za3 (operands75 e i hc) ?_
 by_cases h0:opndF e i=0
 case neg=>
  have h0':((opndF e i:Int)=0)=False:=by simp; omega
  rw[hR,if_pos h0,fr_fr0]
  simp -implicitDefEqProofs only[go_sem,hT,n1,n2,n3,n4,n5,n6,n7,n8,n9,n10,n11,n12,m1,m2,m3,m4,m5,m6,m7,m8,i1,i2,e0,h0',bXebB0]
  all_goals exact DLe.refl _
 have h0':((opndF e i:Int)=0)=True:=by simp; omega
 rw[if_neg (by simp[h0])] at hR
 rw[hR]
 simp -implicitDefEqProofs only[go_sem,hT,n1,n2,n3,n4,n5,n6,n7,n8,n9,n10,n11,n12,m1,m2,m3,m4,m5,m6,m7,m8,i1,i2,e0,h0',bXebB0]
 refine za3 (refApply78 e f i hc hck h0 (by omega) hl) ?_
 simp -implicitDefEqProofs only[go_sem,hT,n1,n2,n3,n4,n5,n6,n7,n8,n9,n10,n11,n12,m1,m2,m3,m4,m5,m6,m7,m8,i1,i2,e0,bXebB0]
 all_goals exact DLe.refl _
end Go.AL
