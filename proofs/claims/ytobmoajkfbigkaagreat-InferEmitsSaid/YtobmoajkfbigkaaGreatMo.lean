import Derived.Test.YtobmoajkfbigkaaGreatMn
set_option linter.defProp false
set_option linter.unusedSimpArgs false
set_option linter.unusedVariables false
set_option maxRecDepth 100000
set_option maxHeartbeats 4000000
namespace Go.AL
open Go.Proofs
def c220:AC:=
.seq (rg [oO 3 (.box 22 (tT 0)),oO 6 (.assign (kB 0))])
 (.seq (.block 0 (.seq (rg [oO 11 (.load 22 (tT 3)),oO 12 (.move (tT 1)),oO 13 (cF (.func 139) #[tT 11,tT 12] #[22,81]),oO 14 (.unOp .not 4 (tT 13)),oO 15 (.move (tT 14)),oG 16 (.load 22 (tT 3)) 15 false,oG 17 (.move (tT 2)) 15 false,oG 18 (cF (.func 139) #[tT 16,tT 17] #[22,81]) 15 false,oG 19 (.unOp .not 4 (tT 18)) 15 false,oO 20 (.pick (tT 15) (.const (.bool true)) (tT 19)),oO 10 (.assign (tT 20))])
 (.cond (tT 10) (.seq (rg [oO 6 (.assign (kB 0))])
 (.ret))
 (.seq (rg [oO 22 (.load 22 (tT 3)),oO 23 (.move (tT 1)),oO 24 (.move (tT 2)),oO 25 (cF (.func 207) #[tT 22,tT 23,tT 24] #[22,81,81]),oO 21 (.assign (tT 25))])
 (.cond (tT 21) (.seq (rg [oO 26 (.move (tT 2)),oO 6 (.assign (tT 26))])
 (.ret))
 (.seq (rg [oO 28 (.load 22 (tT 3)),oO 29 (.move (tT 2)),oO 30 (.move (tT 1)),oO 31 (cF (.func 207) #[tT 28,tT 29,tT 30] #[22,81,81]),oO 27 (.assign (tT 31))])
 (.cond (tT 27) (.seq (rg [oO 32 (.move (tT 1)),oO 6 (.assign (tT 32))])
 (.ret))
 (.seq (rg [oO 34 (.move (tT 1)),oO 35 (cF (.func 227) #[tT 34] #[81]),oO 36 (.unOp .not 4 (tT 35)),oO 37 (.move (tT 36)),oG 38 (.move (tT 2)) 37 false,oG 39 (cF (.func 227) #[tT 38] #[81]) 37 false,oG 40 (.unOp .not 4 (tT 39)) 37 false,oO 41 (.pick (tT 37) (.const (.bool true)) (tT 40)),oO 33 (.assign (tT 41))])
 (.cond (tT 33) (.seq (rg [oO 6 (.assign (kB 0))])
 (.ret))
 (.skip))))))))))
 (.seq (rg [oO 7 (.alloc 81),oN (.store 81 (tT 7) (kB 5))])
 (.seq (.seq (.reg true [3] [⟨⟨some 42,.load 22 (tT 3),none⟩,false,true⟩,⟨⟨some 43,.move (tT 1),none⟩,false,true⟩,⟨⟨some 44,cF (.func 170) #[tT 42,tT 43] #[22,81],none⟩,false,true⟩,⟨⟨some 45,.load 22 (tT 3),none⟩,true,true⟩,⟨⟨some 46,.move (tT 2),none⟩,true,true⟩,⟨⟨some 47,cF (.func 170) #[tT 45,tT 46] #[22,81],none⟩,false,true⟩,⟨⟨some 9,.alloc 3,none⟩,true,false⟩])
 (rg [oO 8 (.assign (tT 44)),oN (.store 3 (tT 9) (tT 47))]))
 (.seq (.seq (rg [oO 48 (.move (tT 8)),oO 49 (.binOp .geq 3 (tT 48) (kI 0) 3),oO 50 (.move (tT 49)),oG 51 (.load 3 (tT 9)) 50 true,oG 52 (.binOp .geq 3 (tT 51) (kI 0) 3) 50 true,oO 53 (.pick (tT 50) (tT 52) (.const (.bool false)))])
 (.cond (tT 53) (rg [oO 54 (.load 22 (tT 3)),oO 55 (.move (tT 8)),oO 56 (.makeFunc (.func 239) #[] #[tT 3,tT 9,tT 7]),oO 57 (cF (.func 189) #[tT 54,tT 55,tT 56] #[22,3,188])])
 (.skip)))
 (.seq (rg [oO 58 (.load 81 (tT 7)),oO 6 (.assign (tT 58))])
 .ret)))))
theorem F220:Fun1 Tryz.prog 220 59 c220 [.tmp 6]:=mkT Tryz.func220 rfl (by decide +kernel) Tryz.ntmps220 rfl (by kernel_rfl) rfl
def c239:CT (Tryz.f239.body.getD .skip):=⟨_,by conv=>lhs; cbv⟩
theorem F239:Fun1 Tryz.prog 239 13 c239.1 [.tmp 5]:=mkT Tryz.func239 rfl (by decide +kernel) Tryz.ntmps239 rfl c239.2 rfl
def c186:CT (Tryz.f186.body.getD .skip):=⟨_,by conv=>lhs; cbv⟩
theorem F186:Fun1 Tryz.prog 186 41 c186.1 [.tmp 6]:=mkT Tryz.func186 rfl (by decide +kernel) Tryz.ntmps186 rfl c186.2 rfl
def c219:CT (Tryz.f219.body.getD .skip):=⟨_,by conv=>lhs; cbv⟩
theorem F219:Fun1 Tryz.prog 219 19 c219.1 [.tmp 2]:=mkT Tryz.func219 rfl (by decide +kernel) Tryz.ntmps219 rfl c219.2 rfl
def c192:CT (Tryz.f192.body.getD .skip):=⟨_,by conv=>lhs; cbv⟩
theorem F192:Fun1 Tryz.prog 192 41 c192.1 [.cell 6 84,.tmp 7]:=mkT Tryz.func192 rfl (by decide +kernel) Tryz.ntmps192 rfl c192.2 rfl
def c151:CT (Tryz.f151.body.getD .skip):=⟨_,by conv=>lhs; cbv⟩
theorem F151:Fun1 Tryz.prog 151 61 c151.1 [.cell 6 84,.tmp 7]:=mkT Tryz.func151 rfl (by decide +kernel) Tryz.ntmps151 rfl c151.2 rfl
open Go.Proofs
def mergeT (l:List Cl) (a b:Ty):Ty:=
 if validN l.length a=false∨validN l.length b=false then 0
 else if subB l a b=true then b
 else if subB l b a=true then a
 else if isRefB a=false∨isRefB b=false then 0
 else match (upI l (clsOf l.length a)).find? fun k:Nat=>(upI l (clsOf l.length b)).any fun j=>decide ((j:Int)=(k:Int)) with
  |some k=>ofClass k
  |none=>5
theorem up_le {l:List Cl}:∀(n:Nat) (c:Int),c<n→∀k∈upI l c,(k:Int)≤c∧k<l.length
 |0,c,h,k,hk=>by rw[upI_neg (by omega)] at hk; cases hk
 |n+1,c,h,k,hk=>by
  by_cases h0:c<0
  ·rw[upI_neg h0] at hk; cases hk
  by_cases h1:(l.length:Int)≤c
  ·rw[upI_out h1] at hk; cases hk
  obtain⟨c,rfl⟩:∃c':Nat,c=c':=⟨c.toNat,by omega⟩
  have hc:c<l.length:=by omega
  rw[upI_step hc] at hk
  rcases List.mem_cons.1 hk with rfl|hk
  ·exact⟨by omega,hc⟩
  ·split at hk
   ·rename_i hp
    obtain⟨h2,h3⟩:=up_le n l[c].parent (by omega) k hk
    exact⟨by omega,h3⟩
   ·cases hk
theorem up_mem {l:List Cl} {c:Int} {k:Nat} (hk:k∈upI l c):(k:Int)≤c∧k<l.length:=up_le (c.toNat+1) c (by omega) k hk
theorem up_self {l:List Cl} {c:Nat} (h:c<l.length):c∈upI l (c:Int):=by rw[upI_step h]; exact List.mem_cons_self
theorem up_chain {l:List Cl}:∀(n:Nat) (c:Int),c<n→(upI l c).Pairwise fun x y:Nat=>y∈upI l (x:Int)
 |0,c,h=>by rw[upI_neg (by omega)]; exact List.Pairwise.nil
 |n+1,c,h=>by
  by_cases h0:c<0
  ·rw[upI_neg h0]; exact List.Pairwise.nil
  by_cases h1:(l.length:Int)≤c
  ·rw[upI_out h1]; exact List.Pairwise.nil
  obtain⟨c,rfl⟩:∃c':Nat,c=c':=⟨c.toNat,by omega⟩
  have hc:c<l.length:=by omega
  rw[upI_step hc]
  split
  ·rename_i hp
   refine List.pairwise_cons.2 ⟨fun y hy=> ?_,up_chain n l[c].parent (by omega)⟩
   rw[upI_step hc,if_pos hp]; exact List.mem_cons_of_mem _ hy
  ·exact List.pairwise_cons.2 ⟨fun y hy=>(by cases hy),List.Pairwise.nil⟩
theorem find_up {l:List Cl} {c:Int} {p:Nat→Bool} {k:Nat} (h:(upI l c).find? p=some k):k∈upI l c∧p k=true∧∀j∈upI l c,p j=true→j∈upI l (k:Int):=by
 refine⟨List.mem_of_find?_eq_some h,List.find?_some h,fun j hj hp=> ?_⟩
 have hch:=up_chain (l:=l) (c.toNat+1) c (by omega)
 have hk:=up_mem (List.mem_of_find?_eq_some h)
 generalize upI l c=L at *
 induction L with
 |nil=>cases hj
 |cons x L ih=>
  rw[List.find?_cons] at h
  obtain⟨h1,h2⟩:=List.pairwise_cons.1 hch
  cases hx:p x
  ·rw[hx] at h
   rcases List.mem_cons.1 hj with rfl|hj
   ·rw[hx] at hp; cases hp
   ·exact ih h hj h2
  ·rw[hx] at h
   cases h
   rcases List.mem_cons.1 hj with rfl|hj
   ·exact up_self hk.2
   ·exact h1 j hj
theorem subB_antisymm {l:List Cl} {a b:Ty} (h1:subB l a b=true) (h2:subB l b a=true):a=b:=by
 obtain⟨ha,hb⟩:=subB_valid h1
 rw[subB_iff ha hb] at h1
 rw[subB_iff hb ha] at h2
 simp only[SubP,isRef_iff] at h1 h2
 rcases h1 with h1|h1|⟨h1,h3,h4⟩|⟨h1,h3,h4⟩
 ·exact h1
 ·rcases h2 with h2|h2|⟨h2,h5,h6⟩|⟨h2,h5,h6⟩
  ·exact h2.symm
  ·exact Fin.ext (by omega)
  ·omega
  ·omega
 ·rcases h2 with h2|h2|⟨h2,h5,h6⟩|⟨h2,h5,h6⟩
  ·exact h2.symm
  ·omega
  ·exact Fin.ext (by omega)
  ·have:=(up_mem h6).1; omega
 ·rcases h2 with h2|h2|⟨h2,h5,h6⟩|⟨h2,h5,h6⟩
  ·exact h2.symm
  ·omega
  ·omega
  ·have:=(up_mem h4).1
   have:=(up_mem h6).1
   exact Fin.ext (by omega)
theorem ofClass_val {k:Nat} (h:k<240):(ofClass (k:Int)).val=16+k:=by
 show(16+((k:Int)).toNat)%256=_
 rw[Int.toNat_natCast]; omega
theorem valid_0 (n:Nat):validN n 0=true:=by simp[validN]
theorem valid_5 (n:Nat):validN n 5=true:=decide_eq_true (.inl (by decide))
theorem sub_top {l:List Cl} {a:Ty} (h:validN l.length a=true):subB l a 0=true:=(subB_iff h (valid_0 _)).2 (.inr (.inl rfl))
theorem merge_up {l:List Cl} {a b:Ty} (ha:validN l.length a=true) (hb:validN l.length b=true):subB l a (mergeT l a b)=true∧subB l b (mergeT l a b)=true∧∀t,subB l a t=true→subB l b t=true→subB l (mergeT l a b) t=true:=by
 unfold mergeT
 rw[if_neg (by simp[ha,hb])]
 by_cases h1:subB l a b=true
 ·rw[if_pos h1]; exact⟨h1,subB_refl hb,fun t _ h=>h⟩
 rw[if_neg h1]
 by_cases h2:subB l b a=true
 ·rw[if_pos h2]; exact⟨subB_refl ha,h2,fun t h _=>h⟩
 rw[if_neg h2]
 have n1:¬SubP l a b:=fun h=>h1 ((subB_iff ha hb).2 h)
 have n2:¬SubP l b a:=fun h=>h2 ((subB_iff hb ha).2 h)
 by_cases h3:isRefB a=false∨isRefB b=false
 ·rw[if_pos h3]
  refine⟨sub_top ha,sub_top hb,fun t h4 h5=> ?_⟩
  have ht:=(subB_valid h4).2
  rw[subB_iff ha ht] at h4
  rw[subB_iff hb ht] at h5
  have h3':¬(isRefB a=true∧isRefB b=true):=by rcases h3 with h|h <;> simp[h]
  have:t=0:=by
   simp only[SubP] at h4 h5 n1 n2
   simp only[isRef_iff] at h3' h4 h5 n1 n2
   rcases h4 with rfl|h4|⟨h4,h6,h7⟩|⟨h4,h6,h7⟩
   ·exact absurd h5 n2
   ·exact Fin.ext h4
   ·rcases h5 with rfl|h5|⟨h5,h8,h9⟩|⟨h5,h8,h9⟩
    ·exact absurd (.inr (.inr (.inl ⟨h4,h6,h7⟩))) n1
    ·exact Fin.ext h5
    ·omega
    ·omega
   ·rcases h5 with rfl|h5|⟨h5,h8,h9⟩|⟨h5,h8,h9⟩
    ·exact absurd (.inr (.inr (.inr ⟨h4,h6,h7⟩))) n1
    ·exact Fin.ext h5
    ·omega
    ·omega
  rw[this]; exact sub_top (valid_0 _)
 rw[if_neg h3]
 have hra:isRefB a=true:=by simp only[not_or,Bool.not_eq_false] at h3; exact h3.1
 have hrb:isRefB b=true:=by simp only[not_or,Bool.not_eq_false] at h3; exact h3.2
 have v5:=valid_5 l.length
 have hany:isRefB 5=true:=rfl
 have top5:∀t:Ty,t.val=0→subB l 5 t=true:=fun t ht=>(subB_iff v5 (by simp[validN,ht])).2 (.inr (.inl ht))
 have any5:∀t:Ty,t.val=5→subB l 5 t=true:=fun t ht=>by
  have:t=5:=Fin.ext ht
  rw[this]; exact subB_refl v5
 have nb:a.val≠3∧b.val≠3∧a≠b:=by
  refine⟨fun h=>n1 (.inr (.inr (.inl ⟨.inl h,hra,hrb⟩))),fun h=>n2 (.inr (.inr (.inl ⟨.inl h,hrb,hra⟩))),fun h=>n1 (.inl h)⟩
 have both:∀t,subB l a t=true→subB l b t=true→t.val=0∨t.val=5∨(16≤a.val∧16≤b.val∧16≤t.val∧(t.val-16)∈upI l ((a.val:Int)-16)∧(t.val-16)∈upI l ((b.val:Int)-16)):=fun t h4 h5=>by
  have ht:=(subB_valid h4).2
  rw[subB_iff ha ht] at h4
  rw[subB_iff hb ht] at h5
  rcases h4 with rfl|h4|⟨h4,h6,h7⟩|⟨h4,h6,h7⟩
  ·exact absurd h5 n2
  ·exact .inl h4
  ·have:=nb.1
   exact .inr (.inl (by omega))
  ·rcases h5 with rfl|h5|⟨h5,h8,h9⟩|⟨h5,h8,h9⟩
   ·exact absurd (.inr (.inr (.inr ⟨h4,h6,h7⟩))) n1
   ·exact .inl h5
   ·have:=nb.2.1
    exact .inr (.inl (by omega))
   ·exact .inr (.inr ⟨h4,h5,h6,h7,h9⟩)
 cases hf:(upI l (clsOf l.length a)).find? fun k:Nat=>(upI l (clsOf l.length b)).any fun j=>decide ((j:Int)=(k:Int)) with
 |none=>
  simp only
  refine⟨(subB_iff ha v5).2 (.inr (.inr (.inl ⟨.inr rfl,hra,hany⟩))),(subB_iff hb v5).2 (.inr (.inr (.inl ⟨.inr rfl,hrb,hany⟩))),fun t h4 h5=> ?_⟩
  rcases both t h4 h5 with h|h|⟨h6,h7,h8,h9,h10⟩
  ·exact top5 t h
  ·exact any5 t h
  ·exfalso
   have:=List.find?_eq_none.1 hf (t.val-16) (by rw[clsOf_val ha h6]; exact h9)
   apply this
   rw[List.any_eq_true]
   exact⟨t.val-16,by rw[clsOf_val hb h7]; exact h10,by simp⟩
 |some k=>
  simp only
  obtain⟨m1,m2,m3⟩:=find_up hf
  have h16:16≤a.val:=by
   by_cases h:16≤a.val
   ·exact h
   ·rw[clsOf_no h,upI_neg (by omega)] at m1; cases m1
  rw[clsOf_val ha h16] at m1 m3
  rw[List.any_eq_true] at m2
  obtain⟨j,hj,hd⟩:=m2
  have hjk:j=k:=by simp at hd; omega
  subst hjk
  have h16b:16≤b.val:=by
   by_cases h:16≤b.val
   ·exact h
   ·rw[clsOf_no h,upI_neg (by omega)] at hj; cases hj
  have hk:=up_mem m1
  have hlt:j<240:=by have:=a.isLt; omega
  have hv:=ofClass_val hlt
  have hvalid:validN l.length (ofClass (j:Int))=true:=by simp only[validN,decide_eq_true_eq,hv]; omega
  rw[clsOf_val hb h16b] at hj
  refine⟨(subB_iff ha hvalid).2 (.inr (.inr (.inr ⟨h16,by omega,by rw[hv,show 16+j-16=j by omega]; exact m1⟩))),(subB_iff hb hvalid).2 (.inr (.inr (.inr ⟨h16b,by omega,by rw[hv,show 16+j-16=j by omega]; exact hj⟩))),fun t h4 h5=> ?_⟩
  have ht:=(subB_valid h4).2
  rcases both t h4 h5 with h|h|⟨h6,h7,h8,h9,h10⟩
  ·exact(subB_iff hvalid ht).2 (.inr (.inl h))
  ·exact(subB_iff hvalid ht).2 (.inr (.inr (.inl ⟨.inr h,by rw[isRef_iff]; omega,by rw[isRef_iff]; omega⟩)))
  ·refine(subB_iff hvalid ht).2 (.inr (.inr (.inr ⟨by omega,h8, ?_⟩)))
   rw[hv,show((16+j:Nat):Int)-16=(j:Int) by omega]
   refine m3 _ h9 ?_
   rw[List.any_eq_true]
   exact⟨t.val-16,by rw[clsOf_val hb h16b]; exact h10,by simp⟩
theorem merge_valid {l:List Cl} (a b:Ty):validN l.length (mergeT l a b)=true:=by
 by_cases h:validN l.length a=true∧validN l.length b=true
 ·exact(subB_valid (merge_up h.1 h.2).1).2
 ·unfold mergeT
  rw[if_pos (by cases ha:validN l.length a <;> cases hb:validN l.length b <;> simp_all)]
  exact valid_0 _
open Go.Proofs
def mgB (b3 b9 b7:Nat) (o:Own) (l:List Cl) (y:Int) (out:Ty):St:=((({}:St).set b3 [.slice o (rws eC l)]).set b7 [.int .u8 out.val]).set b9 [.int .i64 y]
def mgStep (l:List Cl) (y:Int) (a:Ty) (c:Nat) (b:Bool) (a':Ty):Prop:=
 if((upI l y).any fun j=>decide ((j:Int)=(c:Int)))=true then b=false∧a'=ofClass c else b=true∧a'=a
theorem mg_runs {l:List Cl} {y:Int}:∀{L:List Nat} {a a':Ty},Runs (mgStep l y) L a a'→a'=match L.find? fun k:Nat=>(upI l y).any fun j=>decide ((j:Int)=(k:Int)) with|some k=>ofClass k|none=>a
 |[],a,a',h=>by simp only[Runs] at h; simp[h]
 |c::L,a,a'',⟨b,a',h1,h⟩=>by
  rw[List.find?_cons]
  unfold mgStep at h1
  split at h1
  ·rename_i hc
   obtain⟨rfl,rfl⟩:=h1
   rw[hc]
   simpa using h
  ·rename_i hc
   obtain⟨rfl,rfl⟩:=h1
   rw[Bool.not_eq_true] at hc
   rw[hc]
   exact mg_runs h
theorem wrap_class {c:Nat} (h:c<240):IntKind.wrap .u8 (16+IntKind.wrap .u8 (c:Int))=((ofClass (c:Int)).val:Int):=by
 rw[ofClass_val h]
 simp only[IntKind.wrap,IntKind.bits,IntKind.signed]
 simp; omega
theorem merge239 {b3 b9 b7:Nat} (h1:b9≠b3) (h2:b7≠b3) (h3:b7≠b9) (o:Own) (l:List Cl) (y:Int) (out:Ty) (c:Nat) (hl:l.length≤140737488355328) (hc:c<240):
  RCall Tryz.prog 239 [.int .i64 c,.ptr b3 0,.ptr b9 0,.ptr b7 0] (mgB b3 b9 b7 o l y out) fun d s'=>∃b a',d= .bool b∧s'=mgB b3 b9 b7 o l y a'∧mgStep l y out c b a':=by
 have k3:(mgB b3 b9 b7 o l y out).box b3=some [.slice o (rws eC l)]:=by simp[mgB,St.set_box,h1,h2,h3,Ne.symm h1,Ne.symm h2,Ne.symm h3]
 have k9:(mgB b3 b9 b7 o l y out).box b9=some [.int .i64 y]:=by simp[mgB,St.set_box,h1,h2,h3,Ne.symm h1,Ne.symm h2,Ne.symm h3]
 have k7:(mgB b3 b9 b7 o l y out).box b7=some [.int .u8 out.val]:=by simp[mgB,St.set_box,h1,h2,h3,Ne.symm h1,Ne.symm h2,Ne.symm h3]
 have hw:=wrap_class hc
 refine F239.rcall rfl fun T hT=> ?_
 simp -implicitDefEqProofs only[go_sem,c239,hT,k3,k9,k7]
 refine za3 (above190 l o y c hl) ?_
 cases hb:(upI l y).any fun j=>decide ((j:Int)=(c:Int))
 ·simp -implicitDefEqProofs only[go_sem,hT,k3,k9,k7]
  exact⟨_,_,DLe.refl _,St.le.refl _,true,out,rfl,rfl,by unfold mgStep; rw[hb]; exact⟨rfl,rfl⟩⟩
 ·simp -implicitDefEqProofs only[go_sem,hT,k3,k9,k7,hw]
  refine⟨_,_,DLe.refl _,St.le.refl _,false,ofClass c,rfl, ?_,by unfold mgStep; rw[hb]; exact⟨rfl,rfl⟩⟩
  unfold mgB
  rw[set_comm (Ne.symm h3),za2]
theorem up_240 {l:List Cl} {a:Ty} {c:Nat} (h:c∈upI l (clsOf l.length a)):c<240:=by
 have h1:=(up_mem h).1
 have h2:=a.isLt
 unfold clsOf at h1
 split at h1 <;> omega
theorem merge220 (l:List Cl) (o:Own) (a b:Ty) (hl:l.length≤140737488355328):PCall Tryz.prog 220 [.slice o (rws eC l),.int .u8 a.val,.int .u8 b.val] (.int .u8 (mergeT l a b).val):=by
 refine F220.pcall' rfl fun T hT=> ?_
 simp -implicitDefEqProofs only[go_sem,c220,hT]
 intro b3
 refine za3 (valid105 l o a) ?_
 cases hva:validN l.length a
 ·simp -implicitDefEqProofs only[go_sem,hT]
  rw[show mergeT l a b=0 by unfold mergeT; rw[if_pos (.inl hva)]]
  exact DLe.refl _
 simp -implicitDefEqProofs only[go_sem,hT]
 refine za3 (valid105 l o b) ?_
 cases hvb:validN l.length b
 ·simp -implicitDefEqProofs only[go_sem,hT]
  rw[show mergeT l a b=0 by unfold mergeT; rw[if_pos (.inr hvb)]]
  exact DLe.refl _
 simp -implicitDefEqProofs only[go_sem,hT]
 have hm0:mergeT l a b=(if subB l a b=true then b else if subB l b a=true then a else if isRefB a=false∨isRefB b=false then 0
   else match (upI l (clsOf l.length a)).find? fun k:Nat=>(upI l (clsOf l.length b)).any fun j=>decide ((j:Int)=(k:Int)) with|some k=>ofClass k|none=>5):=by
  unfold mergeT; rw[if_neg (by simp[hva,hvb])] <;> rfl
 refine za3 (sub164 l o a b hl) ?_
 cases h1:subB l a b
 rotate_left
 ·simp -implicitDefEqProofs only[go_sem,hT]
  rw[hm0,h1]; exact DLe.refl _
 simp -implicitDefEqProofs only[go_sem,hT]
 refine za3 (sub164 l o b a hl) ?_
 cases h2:subB l b a
 rotate_left
 ·simp -implicitDefEqProofs only[go_sem,hT]
  rw[hm0,h1,h2]; exact DLe.refl _
 simp -implicitDefEqProofs only[go_sem,hT]
 refine za3 (isRef163 a) ?_
 cases h3:isRefB a
 ·simp -implicitDefEqProofs only[go_sem,hT]
  rw[hm0,h1,h2,h3]; exact DLe.refl _
 simp -implicitDefEqProofs only[go_sem,hT]
 refine za3 (isRef163 b) ?_
 cases h4:isRefB b
 ·simp -implicitDefEqProofs only[go_sem,hT]
  rw[hm0,h1,h2,h3,h4]; exact DLe.refl _
 rw[h1,h2,h3,h4] at hm0
 simp -implicitDefEqProofs only[go_sem,hT]
 intro b7 n1 n2
 simp -implicitDefEqProofs only[go_sem,hT,n1,n2,za2]
 refine⟨by rintro b rfl; simp[n1,n2], ?_⟩
 refine za3 (class147 l o a) ?_
 simp -implicitDefEqProofs only[go_sem,hT,n1,n2]
 refine za3 (class147 l o b) ?_
 simp -implicitDefEqProofs only[go_sem,hT,n1,n2]
 intro b9 m1 m2 m3 m4
 simp -implicitDefEqProofs only[go_sem,hT,n1,n2,m1,m2,m3,m4,za2]
 have hfind:(match (upI l (clsOf l.length a)).find? fun k:Nat=>(upI l (clsOf l.length b)).any fun j=>decide ((j:Int)=(k:Int)) with|some k=>ofClass k|none=>5)=mergeT l a b:=by rw[hm0]; rfl
 by_cases hx:0≤clsOf l.length a
 rotate_left
 ·have g1:(0≤clsOf l.length a)=False:=eq_false hx
  simp -implicitDefEqProofs only[go_sem,mmB,hT,n1,n2,m1,m2,m3,m4,g1,za2]
  rw[upI_neg (c:=clsOf l.length a) (by omega)] at hfind
  rw[←hfind]
  exact DLe.refl (.int .u8 5)
 have g1:(0≤clsOf l.length a)=True:=eq_true hx
 by_cases hy:0≤clsOf l.length b
 rotate_left
 ·have g2:(0≤clsOf l.length b)=False:=eq_false hy
  simp -implicitDefEqProofs only[go_sem,mmB,hT,n1,n2,m1,m2,m3,m4,g1,g2,za2]
  have hno:(upI l (clsOf l.length a)).find? (fun k:Nat=>(upI l (clsOf l.length b)).any fun j=>decide ((j:Int)=(k:Int)))=none:=by
   rw[List.find?_eq_none]
   intro x _
   rw[upI_neg (by omega)]; simp
  rw[hno] at hfind
  rw[←hfind]
  exact DLe.refl (.int .u8 5)
 have g2:(0≤clsOf l.length b)=True:=eq_true hy
 simp -implicitDefEqProofs only[go_sem,mmB,hT,n1,n2,m1,m2,m3,m4,g1,g2,za2]
 have hst:((({}:St).set b3 [.slice o (rws eC l)]).set b7 [.int .u8 5]).set b9 [.int .i64 (clsOf l.length b)]=mgB b3 b9 b7 o l (clsOf l.length b) 5:=rfl
 rw[hst]
 refine callB_all (climb144' l o 239 [] [.ptr b3 0,.ptr b9 0,.ptr b7 0] (mgB b3 b9 b7 o l (clsOf l.length b)) (mgStep l (clsOf l.length b)) (fun _ L=>∀c∈L,c<240) hl (fun out c rest hc hok=>(merge239 m3 n1 (fun h=>m2 h) o l _ out c hl (hok c (by simp))).mono ?_) 5 (clsOf l.length a) fun c hc=>up_240 hc) ?_
 ·rintro d s' ⟨b',a',rfl,rfl,hs⟩
  exact⟨b',a',rfl,rfl,hs,fun c hc=>hok c (by simp[hc])⟩
 rintro d s' ⟨rfl,a',r,rfl,hruns,_⟩
 have hr:=mg_runs hruns
 rw[hfind] at hr
 subst hr
 simp -implicitDefEqProofs only[go_sem,hT,mgB,n1,n2,m1,m2,m3,m4]
open Go.Proofs
def tyN (i:Nat):Ty:=Fin.ofNat 256 i
theorem tyN_val {i:Nat} (h:i<256):(tyN i).val=i:=Nat.mod_eq_of_lt h
def allT (n i:Nat):List Ty:=((List.range i).map tyN).filter (validN n)
theorem allT_succ (n i:Nat):allT n (i+1)=allT n i++(if validN n (tyN i)=true then [tyN i] else []):=by
 unfold allT
 rw[List.range_succ,List.map_append,List.filter_append]
 congr 1
 simp only[List.map_cons,List.map_nil,List.filter_cons,List.filter_nil]
theorem allT_len (n i:Nat):(allT n i).length≤i:=by
 unfold allT
 refine Nat.le_trans (List.length_filter_le _ _) ?_
 simp
theorem all219 (l:List Cl) (o:Own):PCall Tryz.prog 219 [.slice o (rws eC l)] (.slice .no (rws eT (allT l.length 256))):=by
 refine F219.pcall' rfl fun T hT=> ?_
 simp -implicitDefEqProofs only[go_sem,c219,hT]
 refine loopL F219 (fun x:Nat×Option Nat=>[(0,.slice o (rws eC l)),(4,.int .i64 x.1),(3,grD 1 x.2 (rws eT (allT l.length x.1)))]) (fun x=>grS 1 (allT l.length x.1).length x.2 {}) (fun x=>x.1≤256∧(x.2=none→(allT l.length x.1).length=0)) (fun x=>256-x.1) (0,none)
  ⟨Nat.zero_le _,fun _=>rfl⟩ ?_ (St.le.refl _) ?_
 ·simp -implicitDefEqProofs only[go_sem,hT,Int.ofNat_zero]
  rfl
 clear hT T
 rintro⟨i,ob⟩ ⟨hi,hok⟩ T hT
 simp only at hi hok hT ⊢
 by_cases h:i<256
 ·have h1:((i:Int)<256)=True:=by simp; omega
  have hv:=tyN_val h
  have hw:IntKind.wrap .u8 (i:Int)=((tyN i).val:Int):=by
   rw[hv]; simp only[IntKind.wrap,IntKind.bits,IntKind.signed]; simp; omega
  have hlen:=allT_len l.length i
  have hnext:IntKind.wrap .i64 ((i:Int)+1)=((i+1:Nat):Int):=by rw[zc2 (by omega) (by omega)]; simp
  simp -implicitDefEqProofs only[go_sem,hT,h1,hw]
  refine za3 (refValid87 l o (tyN i)) ?_
  cases hva:validN l.length (tyN i)
  ·simp -implicitDefEqProofs only[go_sem,hT,hnext]
   have hs:allT l.length (i+1)=allT l.length i:=by rw[allT_succ,hva]; simp
   exact⟨(i+1,ob),⟨by omega,by rw[hs]; exact hok⟩,by omega,⟨rfl,by rw[hs]⟩,by simp only; rw[hs]; exact St.le.refl _⟩
  ·simp -implicitDefEqProofs only[go_sem,hT,hw,frz]
   refine app_gr' Tryz.sli93 Tryz.sz81 Tryz.by81 Tryz.zero81 rfl (n:=(allT l.length i).length) (m:=1) (base:={}) (by rw[za0]) rfl (St.le.refl _) grN_nil hok (by simp) (by omega) fun o' σ' hbox hle _ hno=> ?_
   have hs:allT l.length (i+1)=allT l.length i++[tyN i]:=by rw[allT_succ,hva]; simp
   have hl2:(allT l.length (i+1)).length=(allT l.length i).length+1:=by rw[hs]; simp
   simp -implicitDefEqProofs only[go_sem,hT,hnext]
   refine⟨(i+1,o'),⟨by omega,fun h=>absurd (hno h) (by omega)⟩,by omega,⟨rfl, ?_⟩,by simp only; rw[hl2]; exact hle⟩
   rw[hs]; simp[rws,eT]
 ·have h1:((i:Int)<256)=False:=by simp; omega
  obtain rfl:i=256:=by omega
  simp -implicitDefEqProofs only[go_sem,hT,h1]
  exact grD_le
def bestT (l:List Cl) (a b:Ty) (L:List Ty):Ty:=L.foldl (fun best t=>if subB l a t=true∧subB l b t=true∧subB l t best=true then t else best) 0
theorem best_snoc (l:List Cl) (a b t:Ty) (L:List Ty):bestT l a b (L++[t])=if subB l a t=true∧subB l b t=true∧subB l t (bestT l a b L)=true then t else bestT l a b L:=by
 unfold bestT; rw[List.foldl_append]; rfl
theorem best_both {l:List Cl} {a b:Ty} (ha:validN l.length a=true) (hb:validN l.length b=true):∀n:Nat,∀L:List Ty,L.length=n→subB l a (bestT l a b L)=true∧subB l b (bestT l a b L)=true
 |0,L,h=>by obtain rfl:=List.eq_nil_of_length_eq_zero h; exact⟨sub_top ha,sub_top hb⟩
 |n+1,L,h=>by
  have hne:L≠[]:=fun h0=>by rw[h0] at h; cases h
  obtain⟨L',t,rfl⟩:∃L' t,L=L'++[t]:=⟨_,_,(List.dropLast_concat_getLast hne).symm⟩
  have ih:=best_both ha hb n L' (by simpa using h)
  rw[best_snoc]
  split
  ·rename_i hc; exact⟨hc.1,hc.2.1⟩
  ·exact ih
theorem best_merge {l:List Cl} {a b:Ty} (ha:validN l.length a=true) (hb:validN l.length b=true):∀n:Nat,∀L:List Ty,L.length=n→mergeT l a b∈L→bestT l a b L=mergeT l a b
 |0,L,h,hm=>by obtain rfl:=List.eq_nil_of_length_eq_zero h; cases hm
 |n+1,L,h,hm=>by
  have hne:L≠[]:=fun h0=>by rw[h0] at h; cases h
  obtain⟨L',t,rfl⟩:∃L' t,L=L'++[t]:=⟨_,_,(List.dropLast_concat_getLast hne).symm⟩
  obtain⟨m1,m2,m3⟩:=merge_up (l:=l) ha hb
  have hl:L'.length=n:=by simpa using h
  obtain⟨b1,b2⟩:=best_both ha hb n L' hl
  rw[best_snoc]
  split
  ·rename_i hc
   have h1:=m3 t hc.1 hc.2.1
   by_cases hin:mergeT l a b∈L'
   ·rw[best_merge ha hb n L' hl hin] at hc
    exact subB_antisymm hc.2.2 h1
   ·rcases List.mem_append.1 hm with h2|h2
    ·exact absurd h2 hin
    ·simp at h2; exact h2.symm
  ·rename_i hc
   by_cases hin:mergeT l a b∈L'
   ·exact best_merge ha hb n L' hl hin
   ·rcases List.mem_append.1 hm with h2|h2
    ·exact absurd h2 hin
    ·simp at h2
     exfalso; apply hc
     rw[←h2]
     exact⟨m1,m2,m3 _ b1 b2⟩
theorem best_none {l:List Cl} {a b:Ty} (h:validN l.length a=false∨validN l.length b=false) (L:List Ty):bestT l a b L=0:=by
 unfold bestT
 have hs:∀t,¬(subB l a t=true∧subB l b t=true):=fun t ⟨h1,h2⟩=>by
  rcases h with h|h
  ·rw[(subB_valid h1).1] at h; cases h
  ·rw[(subB_valid h2).1] at h; cases h
 induction L with
 |nil=>rfl
 |cons t L ih=>
  rw[List.foldl_cons,if_neg (fun hc=>hs t ⟨hc.1,hc.2.1⟩)]
  exact ih
theorem tyN_self (t:Ty):tyN t.val=t:=Fin.ext (tyN_val t.isLt)
theorem best_all (l:List Cl) (a b:Ty):bestT l a b (allT l.length 256)=mergeT l a b:=by
 by_cases h:validN l.length a=true∧validN l.length b=true
 ·refine best_merge h.1 h.2 _ _ rfl ?_
  unfold allT
  rw[List.mem_filter]
  exact⟨List.mem_map.2 ⟨(mergeT l a b).val,List.mem_range.2 (mergeT l a b).isLt,tyN_self _⟩,merge_valid a b⟩
 ·have h':validN l.length a=false∨validN l.length b=false:=by cases ha:validN l.length a <;> cases hb:validN l.length b <;> simp_all
  rw[best_none h']
  unfold mergeT; rw[if_pos h']
theorem refMerge186 (l:List Cl) (o:Own) (a b:Ty) (hf:Falls l l.length) (hl:l.length*48≤140737488355328):PCall Tryz.prog 186 [.slice o (rws eC l),.int .u8 a.val,.int .u8 b.val] (.int .u8 (mergeT l a b).val):=by
 refine F186.pcall' rfl fun T hT=> ?_
 simp -implicitDefEqProofs only[go_sem,c186,hT]
 refine za3 (all219 l o) ?_
 rw[←best_all]
 have hlen:=allT_len l.length 256
 generalize allT l.length 256=A at *
 simp -implicitDefEqProofs only[go_sem,hT]
 refine loopL F186 (fun i:Nat=>[(0,.slice o (rws eC l)),(1,.int .u8 a.val),(2,.int .u8 b.val),(7,.int .u8 (bestT l a b (A.take i)).val),(8,.slice .no (rws eT A)),(9,.int .i64 i)]) (fun _=>{}) (fun i=>i≤A.length) (fun i=>A.length-i) 0 (Nat.zero_le _) ?_ (St.le.nil _) ?_
 ·simp -implicitDefEqProofs only[go_sem,hT,Int.ofNat_zero]
  rfl
 clear hT T
 intro i hi T hT
 by_cases h:i<A.length
 ·have h1:((i:Int)<A.length)=True:=eq_true (by omega)
  have hR:(rws eT A)[i]?.getD []=eT A[i]:=rws_at h
  have htake:A.take (i+1)=A.take i++[A[i]]:=List.take_succ_eq_append_getElem h
  have hnext:IntKind.wrap .i64 ((i:Int)+1)=((i+1:Nat):Int):=by rw[zc2 (by omega) (by omega)]; simp
  generalize A[i]=t at *
  have hbest:bestT l a b (A.take (i+1))=if subB l a t=true∧subB l b t=true∧subB l t (bestT l a b (A.take i))=true then t else bestT l a b (A.take i):=by rw[htake,best_snoc]
  simp -implicitDefEqProofs only[go_sem,hT,h1,hR,eT,eT_len]
  refine⟨by omega, ?_⟩
  refine za3 (refSub79 l o a t hf hl) ?_
  cases s1:subB l a t
  ·simp -implicitDefEqProofs only[go_sem,hT,hnext]
   exact⟨i+1,by omega,by omega,by rw[hbest,s1]; simp,St.le.refl _⟩
  simp -implicitDefEqProofs only[go_sem,hT]
  refine za3 (refSub79 l o b t hf hl) ?_
  cases s2:subB l b t
  ·simp -implicitDefEqProofs only[go_sem,hT,hnext]
   exact⟨i+1,by omega,by omega,by rw[hbest,s2]; simp,St.le.refl _⟩
  simp -implicitDefEqProofs only[go_sem,hT]
  refine za3 (refSub79 l o t _ hf hl) ?_
  cases s3:subB l t (bestT l a b (A.take i))
  ·simp -implicitDefEqProofs only[go_sem,hT,hnext]
   exact⟨i+1,by omega,by omega,by rw[hbest,s3]; simp,St.le.refl _⟩
  simp -implicitDefEqProofs only[go_sem,hT,hnext]
  exact⟨i+1,by omega,by omega,by rw[hbest,s1,s2,s3]; simp,St.le.refl _⟩
 ·have h1:((i:Int)<A.length)=False:=eq_false (by omega)
  simp -implicitDefEqProofs only[go_sem,hT,h1]
  rw[List.take_of_length_le (by omega)]
  exact DLe.refl _
open Go.Proofs
def endsB (op:Nat):Bool:=decide (op=19∨op=22∨op=32)
theorem refEnds41 (t:Ty):PCall Tryz.prog 21 [.int .u8 t.val] (.bool (endsB t.val)):=by
 refine F21.pcall' rfl fun T hT=> ?_
 simp -implicitDefEqProofs only[go_sem,mmB,c21,hT]
 exact zf3 (by rw[Bool.eq_iff_iff]; simp[endsB]; omega)
theorem ends88 (t:Ty):PCall Tryz.prog 85 [.int .u8 t.val] (.bool (endsB t.val)):=by
 refine F85.pcall' rfl fun T hT=> ?_
 simp -implicitDefEqProofs only[go_sem,mmB,c85,hT]
 exact zf3 (by rw[Bool.eq_iff_iff]; simp[endsB]; omega)
open Go.Proofs
theorem eIn_1 (i:Ins):(eIn i)[1]? =some (.int .u8 i.op.val):=rfl
open Go.Proofs
open Go.Proofs
def alikeF (n:Nat) (a b:Fr):Nat:=if checkF n a≠0 then checkF n a else if checkF n b≠0 then checkF n b else if a.loc=b.loc∧a.h=b.h then 0 else 32
def bYfaA0:=aI @za5 (aI @za4 (aI @fr_0 (aI @fr_1 @gdD)))
theorem alike206 (l:List Cl) (o:Own) (a b:Fr):PCall Tryz.prog 206 [.slice o (rws eC l),.agg (eFr a),.agg (eFr b)] (.int .i64 (alikeF l.length a b)):=by
 refine F206.pcall' rfl fun T hT=> ?_
 simp -implicitDefEqProofs only[go_sem,c206,hT,bYfaA0]
 intro b4 b5 n1 n2
 simp -implicitDefEqProofs only[go_sem,hT,n1,n2,bYfaA0]
 refine za3 (check81 l o a) ?_
 by_cases h1:checkF l.length a=0
 case neg=>
  have h1':((checkF l.length a:Int)=0)=False:=by simp; omega
  rw[show alikeF l.length a b=checkF l.length a by rw[alikeF,if_pos h1]]
  simp -implicitDefEqProofs only[go_sem,mmB,hT,n1,n2,h1',bYfaA0]
  all_goals exact DLe.refl _
 have h1':((checkF l.length a:Int)=0)=True:=by simp; omega
 simp -implicitDefEqProofs only[go_sem,hT,n1,n2,h1',bYfaA0]
 refine za3 (check81 l o b) ?_
 by_cases h2:checkF l.length b=0
 case neg=>
  have h2':((checkF l.length b:Int)=0)=False:=by simp; omega
  rw[show alikeF l.length a b=checkF l.length b by rw[alikeF,if_neg (by simp[h1]),if_pos h2]]
  simp -implicitDefEqProofs only[go_sem,mmB,hT,n1,n2,h2',bYfaA0]
  all_goals exact DLe.refl _
 have h2':((checkF l.length b:Int)=0)=True:=by simp; omega
 have ha:alikeF l.length a b=if a.loc=b.loc∧a.h=b.h then 0 else 32:=by rw[alikeF,if_neg (by simp[h1]),if_neg (by simp[h2])]
 rw[ha,h2]
 by_cases h3:a.loc=b.loc∧a.h=b.h
 ·have hq:(!decide (a.loc=b.loc)|| !decide (a.h=b.h))=false:=by simp[h3]
  rw[if_pos h3]
  simp -implicitDefEqProofs only[go_sem,mmB,hT,za5,za4,fr_0,fr_1,gdD,n1,n2,h2',hq,Int.ofNat_zero]
  all_goals exact DLe.refl _
 ·have hq:(!decide (a.loc=b.loc)|| !decide (a.h=b.h))=true:=by
   by_cases h4:a.loc=b.loc
   ·have:¬a.h=b.h:=fun h=>h3 ⟨h4,h⟩
    simp[h4,this]
   ·simp[h4]
  rw[if_neg h3]
  simp -implicitDefEqProofs only[go_sem,mmB,hT,za5,za4,fr_0,fr_1,gdD,n1,n2,h2',hq,Int.ofNat_zero]
  all_goals exact DLe.refl _
open Go.Proofs
def mgAt (l:List Cl) (a b:Fr):Nat→Fr
 |0=>a
 |i+1=>setF (mgAt l a b i) i (mergeT l (slAt (mgAt l a b i) i) (slAt b i))
theorem mgAt_loc {l:List Cl} {a b:Fr}:∀n,(mgAt l a b n).loc=a.loc∧(mgAt l a b n).h=a.h
 |0=>⟨rfl,rfl⟩
 |n+1=>by rw[mgAt,setF_loc,setF_h]; exact mgAt_loc n
theorem mgAt_sl {l:List Cl} {a b:Fr}:∀n,n≤24→∀i,i<24→slAt (mgAt l a b n) i=if i<n then mergeT l (slAt a i) (slAt b i) else slAt a i
 |0,_,i,_=>by rw[if_neg (by omega)]; rfl
 |n+1,hn,i,hi=>by
  have ih:=mgAt_sl (l:=l) (a:=a) (b:=b) n (by omega)
  rw[mgAt,slAt_set _ hi (by simp; omega),Int.toNat_natCast]
  by_cases h:i=n
  ·subst h; rw[if_pos rfl,if_pos (by omega),ih i hi,if_neg (by omega)]
  ·rw[if_neg h,ih i hi]
   by_cases h2:i<n
   ·rw[if_pos h2,if_pos (by omega)]
   ·rw[if_neg h2,if_neg (by omega)]
def mergeF (l:List Cl) (a b:Fr):Fr×Nat:=if alikeF l.length a b≠0 then(fr0 0,alikeF l.length a b) else(mgAt l a b (a.loc+a.h).toNat,0)
theorem alike_zero {n:Nat} {a b:Fr} (h:alikeF n a b=0):checkF n a=0∧checkF n b=0∧a.loc=b.loc∧a.h=b.h:=by
 unfold alikeF at h
 split at h
 ·omega
 split at h
 ·omega
 split at h
 ·rename_i h1 h2 h3
  exact⟨by omega,by omega,h3⟩
 ·cases h
theorem alike_of {n:Nat} {a b:Fr} (h1:checkF n a=0) (h2:checkF n b=0) (h3:a.loc=b.loc) (h4:a.h=b.h):alikeF n a b=0:=by
 unfold alikeF
 rw[if_neg (by omega),if_neg (by omega),if_pos ⟨h3,h4⟩]
theorem mgAt_store (l:List Cl) (a b:Fr) {i:Nat} (h:i<24):(eFr (mgAt l a b i)).take (2+i)++[D.int .u8 ((mergeT l (slAt (mgAt l a b i) i) (slAt b i)).val:Int)]++(eFr (mgAt l a b i)).drop (2+i+1)=eFr (mgAt l a b (i+1)):=by
 have:=fr_setF (f:=mgAt l a b i) (a:=(i:Int)) (t:=mergeT l (slAt (mgAt l a b i) i) (slAt b i)) (by omega) (by omega)
 rw[Int.toNat_natCast] at this
 rw[mgAt]; exact this
def bYhaD0:=aI @zb8 (aI @zc0 (aI @zb2 (aI @zb1 (aI @za5 (aI @za4 (aI @fr_0 (aI @fr_1 @gdD)))))))
def bYhaD1:=aI @zb8 (aI @zc0 (aI @zb2 (aI @zb1 (aI @za5 (aI @za4 (aI @fr_0 (aI @fr_1 (aI @gdD (aI @za2 (aI @za6 @fr_fr0))))))))))
theorem merge192 (l:List Cl) (o:Own) (a b:Fr) (hl:l.length≤140737488355328):PCall Tryz.prog 192 [.slice o (rws eC l),.agg (eFr a),.agg (eFr b)] (.tup [.agg (eFr (mergeF l a b).1),.int .i64 (mergeF l a b).2]):=by
 refine F192.pcall' rfl fun T hT=> ?_
 simp -implicitDefEqProofs only[go_sem,c192,hT,bYhaD0]
 intro b4 b5 n1 n2 b6 n3 n4 n5 n6
 simp -implicitDefEqProofs only[go_sem,hT,n1,n2,n3,n4,n5,n6,bYhaD0]
 refine za3 (alike206 l o a b) ?_
 by_cases h0:alikeF l.length a b=0
 case neg=>
  have h0':((alikeF l.length a b:Int)=0)=False:=by simp; omega
  rw[show mergeF l a b=(fr0 0,alikeF l.length a b) by rw[mergeF,if_pos h0]]
  simp -implicitDefEqProofs only[go_sem,hT,n1,n2,n3,n4,n5,n6,h0',bYhaD1]
 have h0':((alikeF l.length a b:Int)=0)=True:=by simp; omega
 obtain⟨ca,cb,hloc,hh⟩:=alike_zero h0
 obtain⟨s1,s2,s3,s4⟩:=shaped_of (checkF_iff.1 ca).1
 obtain⟨n,hn⟩:∃n:Nat,a.loc+a.h=n:=⟨(a.loc+a.h).toNat,by omega⟩
 have w1:IntKind.wrap .i64 (a.loc+a.h)=(n:Int):=by rw[zc2 (by omega) (by omega),hn]
 have hm:mergeF l a b=(mgAt l a b n,0):=by rw[mergeF,if_neg (by omega),hn,Int.toNat_natCast]
 have h24:n≤24:=by omega
 simp -implicitDefEqProofs only[go_sem,hT,n1,n2,n3,n4,n5,n6,h0',w1,bYhaD0]
 refine loopL F192 (fun i:Nat=>[(0,.slice o (rws eC l)),(4,.ptr b4 0),(5,.ptr b5 0),(6,.ptr b6 0),(22,.int .i64 n),(23,.int .i64 i)]) (fun i=>((({}:St).set b4 (eFr (mgAt l a b i))).set b5 (eFr b)).set b6 zFr) (fun i=>i≤n) (fun i=>n-i) 0 (by omega) ?_ (St.le.refl _) ?_
 ·simp -implicitDefEqProofs only[go_sem,hT,Int.ofNat_zero]
 clear hT T
 intro i hi T hT
 by_cases h:i<n
 ·have h1:((i:Int)<n)=True:=eq_true (by omega)
  have hx:=fr_slAt (mgAt l a b i) (show i<24 by omega)
  have hy:=fr_slAt b (show i<24 by omega)
  have hst:=mgAt_store l a b (show i<24 by omega)
  have hnext:IntKind.wrap .i64 ((i:Int)+1)=((i+1:Nat):Int):=by rw[zc2 (by omega) (by omega)]; simp
  simp -implicitDefEqProofs only[go_sem,hT,h1,n1,n2,n3,n4,n5,n6,hx,hy,Nat.mul_one,bYhaD0]
  refine⟨⟨by omega,by omega⟩,⟨by omega,by omega⟩, ?_⟩
  refine za3 (merge220 l o _ _ hl) ?_
  simp -implicitDefEqProofs only[go_sem,hT,h1,zb8,zc0,zb2,zb1,za5,za4,fr_0,fr_1,gdD,n1,n2,n3,n4,n5,n6,hx,hy,hnext,Nat.mul_one,hst,za2]
  refine⟨⟨by omega,by omega⟩,by omega,i+1,by omega,by omega,rfl, ?_⟩
  rw[set_comm n5,set_comm n1,za2]
  exact St.le.refl _
 ·have h1:((i:Int)<n)=False:=eq_false (by omega)
  obtain rfl:i=n:=by omega
  simp -implicitDefEqProofs only[go_sem,hT,h1,zb8,zc0,zb2,zb1,za5,za4,fr_0,fr_1,gdD,n1,n2,n3,n4,n5,n6,hm,za6,za2,Int.ofNat_zero]
theorem refMergeF151 (l:List Cl) (o:Own) (a b:Fr) (hf:Falls l l.length) (hl:l.length*48≤140737488355328):PCall Tryz.prog 151 [.slice o (rws eC l),.agg (eFr a),.agg (eFr b)] (.tup [.agg (eFr (mergeF l a b).1),.int .i64 (mergeF l a b).2]):=by
 refine F151.pcall' rfl fun T hT=> ?_
 simp -implicitDefEqProofs only[go_sem,c151,hT,bYhaD0]
 intro b4 b5 n1 n2 b6 n3 n4 n5 n6
 simp -implicitDefEqProofs only[go_sem,hT,n1,n2,n3,n4,n5,n6,bYhaD0]
 refine za3 (refCheck40 l o a) ?_
 by_cases h1:checkF l.length a=0
 case neg=>
  have h1':((checkF l.length a:Int)=0)=False:=by simp; omega
  have ha:alikeF l.length a b=checkF l.length a:=by rw[alikeF,if_pos h1]
  rw[show mergeF l a b=(fr0 0,checkF l.length a) by rw[mergeF,ha,if_pos h1]]
  simp -implicitDefEqProofs only[go_sem,hT,n1,n2,n3,n4,n5,n6,h1',bYhaD1]
 have h1':((checkF l.length a:Int)=0)=True:=by simp; omega
 simp -implicitDefEqProofs only[go_sem,hT,n1,n2,n3,n4,n5,n6,h1',bYhaD0]
 refine za3 (refCheck40 l o b) ?_
 by_cases h2:checkF l.length b=0
 case neg=>
  have h2':((checkF l.length b:Int)=0)=False:=by simp; omega
  have ha:alikeF l.length a b=checkF l.length b:=by rw[alikeF,if_neg (by omega),if_pos h2]
  rw[show mergeF l a b=(fr0 0,checkF l.length b) by rw[mergeF,ha,if_pos h2]]
  simp -implicitDefEqProofs only[go_sem,hT,n1,n2,n3,n4,n5,n6,h2',bYhaD1]
 have h2':((checkF l.length b:Int)=0)=True:=by simp; omega
 by_cases h3:a.loc=b.loc∧a.h=b.h
 case neg=>
  have ha:alikeF l.length a b=32:=by rw[alikeF,if_neg (by omega),if_neg (by omega),if_neg h3]
  rw[show mergeF l a b=(fr0 0,32) by rw[mergeF,ha,if_pos (by omega)]]
  have hq:(!decide (a.loc=b.loc)|| !decide (a.h=b.h))=true:=by
   by_cases h4:a.loc=b.loc
   ·have:¬a.h=b.h:=fun h=>h3 ⟨h4,h⟩
    simp[h4,this]
   ·simp[h4]
  simp -implicitDefEqProofs only[go_sem,mmB,hT,n1,n2,n3,n4,n5,n6,h2',hq,bYhaD1]
  exact DLe.refl _
 have hq:(!decide (a.loc=b.loc)|| !decide (a.h=b.h))=false:=by simp[h3]
 have h0:=alike_of h1 h2 h3.1 h3.2
 obtain⟨s1,s2,s3,s4⟩:=shaped_of (checkF_iff.1 h1).1
 obtain⟨n,hn⟩:∃n:Nat,a.loc+a.h=n:=⟨(a.loc+a.h).toNat,by omega⟩
 have w1:IntKind.wrap .i64 (a.loc+a.h)=(n:Int):=by rw[zc2 (by omega) (by omega),hn]
 have hm:mergeF l a b=(mgAt l a b n,0):=by rw[mergeF,if_neg (by omega),hn,Int.toNat_natCast]
 have h24:n≤24:=by omega
 simp -implicitDefEqProofs only[go_sem,mmB,hT,n1,n2,n3,n4,n5,n6,h2',hq,bYhaD0]
 refine loopL F151 (fun i:Nat=>[(0,.slice o (rws eC l)),(4,.ptr b4 0),(5,.ptr b5 0),(6,.ptr b6 0),(10,.int .i64 i)]) (fun i=>((({}:St).set b4 (eFr (mgAt l a b i))).set b5 (eFr b)).set b6 zFr) (fun i=>i≤n) (fun i=>n-i) 0 (by omega) ?_ (St.le.refl _) ?_
 ·simp -implicitDefEqProofs only[go_sem,hT,Int.ofNat_zero]
 clear hT T
 intro i hi T hT
 obtain⟨e1,e2⟩:=mgAt_loc (l:=l) (a:=a) (b:=b) i
 by_cases h:i<n
 ·have h1:((i:Int)<n)=True:=eq_true (by omega)
  have hx:=fr_slAt (mgAt l a b i) (show i<24 by omega)
  have hy:=fr_slAt b (show i<24 by omega)
  have hst:=mgAt_store l a b (show i<24 by omega)
  have hnext:IntKind.wrap .i64 ((i:Int)+1)=((i+1:Nat):Int):=by rw[zc2 (by omega) (by omega)]; simp
  simp -implicitDefEqProofs only[go_sem,hT,n1,n2,n3,n4,n5,n6,hx,hy,e1,e2,w1,h1,Nat.mul_one,bYhaD0]
  refine⟨⟨by omega,by omega⟩,⟨by omega,by omega⟩, ?_⟩
  refine za3 (refMerge186 l o _ _ hf hl) ?_
  simp -implicitDefEqProofs only[go_sem,hT,h1,zb8,zc0,zb2,zb1,za5,za4,fr_0,fr_1,gdD,n1,n2,n3,n4,n5,n6,hx,hy,hnext,Nat.mul_one,hst,za2]
  refine⟨⟨by omega,by omega⟩,by omega,i+1,by omega,by omega,rfl, ?_⟩
  rw[set_comm n5,set_comm n1,za2]
  exact St.le.refl _
 ·have h1:((i:Int)<n)=False:=eq_false (by omega)
  obtain rfl:i=n:=by omega
  simp -implicitDefEqProofs only[go_sem,hT,zb8,zc0,zb2,zb1,za5,za4,fr_0,fr_1,gdD,n1,n2,n3,n4,n5,n6,e1,e2,w1,h1,hm,za6,za2,Int.ofNat_zero]
open Go.Proofs
def jumpsB (op:Nat):Bool:=decide (op=19∨op=20)
theorem jumps83 (t:Ty):PCall Tryz.prog 83 [.int .u8 t.val] (.bool (jumpsB t.val)):=by
 refine F83.pcall' rfl fun T hT=> ?_
 simp -implicitDefEqProofs only[go_sem,mmB,c83,hT]
 exact zf3 (by rw[Bool.eq_iff_iff]; simp[jumpsB]; omega)
theorem refJumps22 (t:Ty):PCall Tryz.prog 22 [.int .u8 t.val] (.bool (jumpsB t.val)):=by
 refine F22.pcall' rfl fun T hT=> ?_
 simp -implicitDefEqProofs only[go_sem,mmB,c22,hT]
 exact zf3 (by rw[Bool.eq_iff_iff]; simp[jumpsB]; omega)
def numB:List Ty→Nat→Nat
 |[],n=>n
 |b::r,n=>numB r (256*n+b.val)
theorem numB_lt:∀(l:List Ty) (n:Nat),numB l n<256^l.length*(n+1)
 |[],n=>by simp[numB]
 |b::r,n=>by
  have:=numB_lt r (256*n+b.val)
  have hb:=b.isLt
  rw[numB,List.length_cons,Nat.pow_succ]
  have h2:256^r.length*(256*n+b.val+1)≤256^r.length*(256*(n+1)):=Nat.mul_le_mul_left _ (by omega)
  rw[Nat.mul_assoc]
  omega
theorem numB_snoc:∀(l:List Ty) (b:Ty) (n:Nat),numB (l++[b]) n=256*numB l n+b.val
 |[],b,n=>rfl
 |a::r,b,n=>by rw[List.cons_append,numB,numB_snoc r b]; rfl
def opdB (l:List Ty):Int:=if l.length=4∧2147483647<numB l 0 then(numB l 0:Int)-4294967296 else numB l 0
theorem refTake64 (l:List Ty) (o:Own) (k:Nat) (hk:k≤4) (hl:k≤l.length):PCall Tryz.prog 64 [.slice o (rws eT l),.int .i64 k] (.int .i64 (opdB (l.take k))):=by
 refine F64.pcall' rfl fun T hT=> ?_
 simp -implicitDefEqProofs only[go_sem,c64,hT]
 have hp:∀i:Nat,i≤4→(256:Nat)^i≤4294967296:=fun i hi=>by
  have:i=0∨i=1∨i=2∨i=3∨i=4:=by omega
  rcases this with rfl|rfl|rfl|rfl|rfl <;> decide
 refine loopL F64 (fun i:Nat=>[(0,.slice o (rws eT l)),(1,.int .i64 k),(5,.int .i64 (numB (l.take i) 0)),(6,.int .i64 i)]) (fun _=>{}) (fun i=>i≤k) (fun i=>k-i) 0 (Nat.zero_le _) ?_ (St.le.nil _) ?_
 ·simp -implicitDefEqProofs only[go_sem,hT,Int.ofNat_zero]
  all_goals rfl
 clear hT T
 rintro i hi T hT
 by_cases h:i<k
 ·have h1:((i:Int)<k)=True:=by simp; omega
  have hil:i<l.length:=by omega
  have hR:(rws eT l)[i]?.getD []=eT l[i]:=rws_at hil
  have htk:l.take (i+1)=l.take i++[l[i]]:=List.take_succ_eq_append_getElem hil
  have hlt:=numB_lt (l.take i) 0
  have hpi:=hp i (by omega)
  rw[List.length_take,Nat.min_eq_left (by omega)] at hlt
  have hlt2:numB (l.take i) 0<4294967296:=by omega
  have hns:=numB_snoc (l.take i) l[i] 0
  rw[←htk] at hns
  have hb:=l[i].isLt
  generalize l[i]=b at *
  have w1:IntKind.wrap .i64 (256*(numB (l.take i) 0:Int))=256*(numB (l.take i) 0:Int):=zc2 (by omega) (by omega)
  have w2:IntKind.wrap .i64 (b.val:Int)=b.val:=zc2 (by omega) (by omega)
  have w3:IntKind.wrap .i64 (256*(numB (l.take i) 0:Int)+b.val)=(numB (l.take (i+1)) 0:Int):=by rw[zc2 (by omega) (by omega),hns]; simp
  have w4:IntKind.wrap .i64 ((i:Int)+1)=((i+1:Nat):Int):=by rw[zc2 (by omega) (by omega)]; simp
  have hm:k-(i+1)<k-i:=by omega
  simp -implicitDefEqProofs only[go_sem,hT,h1,hR,eT,eT_len,w1,w2,w3]
  refine⟨by omega,i+1,h,hm,⟨rfl, ?_⟩,St.le.refl _⟩
  rw[w4]
 ·obtain rfl:i=k:=by omega
  have h1:((i:Int)<i)=False:=by simp
  have hlt:=numB_lt (l.take i) 0
  have hpi:=hp i hk
  have hlen:(l.take i).length=i:=by rw[List.length_take,Nat.min_eq_left hl]
  rw[hlen] at hlt
  obtain⟨n,hn⟩:∃n,numB (l.take i) 0=n:=⟨_,rfl⟩
  have hod:opdB (l.take i)=if i=4∧2147483647<n then(n:Int)-4294967296 else n:=by rw[opdB,hlen,hn]
  rw[hn] at hlt hT
  rw[hod]
  by_cases h4:i=4
  ·subst h4
   have c4:(((4:Nat):Int)=4)=True:=by simp
   by_cases hbig:2147483647<n
   ·have hq:((2147483647:Int)<n)=True:=by simp; omega
    have w5:IntKind.wrap .i64 ((n:Int)-4294967296)=(n:Int)-4294967296:=zc2 (by omega) (by omega)
    rw[if_pos ⟨rfl,hbig⟩]
    simp -implicitDefEqProofs only[go_sem,hT,h1,hq,w5,c4]
   ·have hq:((2147483647:Int)<n)=False:=by simp; omega
    rw[if_neg (fun h=>hbig h.2)]
    simp -implicitDefEqProofs only[go_sem,hT,h1,hq,c4]
  ·have hq:((i:Int)=4)=False:=by simp; omega
   rw[if_neg (fun h=>h4 h.1)]
   simp -implicitDefEqProofs only[go_sem,hT,h1,hq]
theorem or_byte (n b:Nat) (hn:n<16777216) (hb:b<256):IntKind.wrap .i64 ((BitVec.ofInt 64 (256*(n:Int))|||BitVec.ofInt 64 (b:Int)).toNat:Int)=((256*n+b:Nat):Int):=by
 have e1:BitVec.ofInt 64 (256*(n:Int))=BitVec.ofNat 64 (256*n):=by
  rw[show(256*(n:Int))=((256*n:Nat):Int) by simp]; exact BitVec.ofInt_natCast _ _
 have e2:BitVec.ofInt 64 (b:Int)=BitVec.ofNat 64 b:=BitVec.ofInt_natCast _ _
 rw[e1,e2,BitVec.toNat_or,BitVec.toNat_ofNat,BitVec.toNat_ofNat]
 rw[Nat.mod_eq_of_lt (show 256*n<2^64 by omega),Nat.mod_eq_of_lt (show b<2^64 by omega)]
 have:256*n|||b=256*n+b:=by
  have:=Nat.two_pow_add_eq_or_of_lt (i:=8) (b:=b) (show b<2^8 by omega) n
  rw[show(2:Nat)^8=256 from rfl] at this
  exact this.symm
 rw[this,zc2 (by omega) (by omega)]
theorem wrap_i32n (n:Nat) (h:n<4294967296):IntKind.wrap .i32 (n:Int)=if 2147483647<n then(n:Int)-4294967296 else n:=by
 have e:IntKind.wrap .i32 (n:Int)=if 2147483648≤(n:Int)%4294967296 then(n:Int)%4294967296-4294967296 else(n:Int)%4294967296:=by simp[IntKind.wrap,IntKind.bits,IntKind.signed]
 rw[e]; split <;> split <;> omega
theorem rws_drop {α:Type} {enc:α→List D} {l:List α} {k:Nat}:(rws enc l).drop k=rws enc (l.drop k):=by simp[rws]
theorem rows_len {α:Type} {enc:α→List D} {n:Nat} (h:∀a,(enc a).length=n) (l:List α):∀e∈rws enc l,e.length=n:=fun e he=>by
 simp only[rws,List.mem_map] at he
 obtain⟨a,_,rfl⟩:=he; exact h a
theorem take127 (l:List Ty) (o:Own) (k b:Nat) (hk:k=0∨k=1∨k=2∨k=4) (hl:k≤l.length):
  RCall Tryz.prog 127 [.int .i64 k,.ptr b 0] (({}:St).set b [.slice o (rws eT l)]) fun d s'=>d= .int .i64 (opdB (l.take k))∧s'=(({}:St).set b [.slice .no (rws eT (l.drop k))]):=by
 refine F127.rcall rfl fun T hT=> ?_
 simp -implicitDefEqProofs only[go_sem,c127,hT]
 refine⟨⟨by omega,rows_len eT_len l⟩, ?_⟩
 have hlen:(l.take k).length=k:=by rw[List.length_take,Nat.min_eq_left hl]
 have hp:∀i:Nat,i≤4→(256:Nat)^i≤4294967296:=fun i hi=>by
  have:i=0∨i=1∨i=2∨i=3∨i=4:=by omega
  rcases this with rfl|rfl|rfl|rfl|rfl <;> decide
 have hp3:∀i:Nat,i≤3→(256:Nat)^i≤16777216:=fun i hi=>by
  have:i=0∨i=1∨i=2∨i=3:=by omega
  rcases this with rfl|rfl|rfl|rfl <;> decide
 have hk4:k≤4:=by omega
 refine loopL F127 (fun i:Nat=>[(0,.int .i64 k),(1,.ptr b 0),(4,.int .i64 (numB (l.take i) 0)),(9,.slice .no (rws eT (l.take k))),(10,.int .i64 k),(11,.int .i64 i)]) (fun _=>({}:St).set b [.slice o (rws eT l)]) (fun i=>i≤k) (fun i=>k-i) 0 (Nat.zero_le _) ?_ (St.le.refl _) ?_
 ·simp -implicitDefEqProofs only[go_sem,hT,Int.ofNat_zero,rws_take,rws_drop,List.drop_zero,hlen]
  all_goals rfl
 clear hT T
 rintro i hi T hT
 by_cases h:i<k
 ·have h1:((i:Int)<k)=True:=by simp; omega
  have hil:i<l.length:=by omega
  have hik:i<(l.take k).length:=by omega
  have hR:(rws eT (l.take k))[i]?.getD []=eT l[i]:=by rw[rws_at hik]; simp
  have htk:l.take (i+1)=l.take i++[l[i]]:=List.take_succ_eq_append_getElem hil
  have hlt:=numB_lt (l.take i) 0
  have hpi:=hp3 i (by omega)
  rw[List.length_take,Nat.min_eq_left (by omega)] at hlt
  have hns:=numB_snoc (l.take i) l[i] 0
  rw[←htk] at hns
  have hb:=l[i].isLt
  have hor:=or_byte (numB (l.take i) 0) l[i].val (by omega) hb
  generalize l[i]=x at *
  have w0:IntKind.wrap .i64 ((numB (l.take i) 0:Int)*256)=256*(numB (l.take i) 0:Int):=by rw[zc2 (by omega) (by omega)]; omega
  have w2:IntKind.wrap .i64 (x.val:Int)=x.val:=zc2 (by omega) (by omega)
  have w4:IntKind.wrap .i64 ((i:Int)+1)=((i+1:Nat):Int):=by rw[zc2 (by omega) (by omega)]; simp
  have hm:k-(i+1)<k-i:=by omega
  have h28:(2:Int)^min 8 64=256:=by decide
  rw[←hns] at hor
  simp -implicitDefEqProofs only[go_sem,hT,h1,hR,eT,eT_len,hlen,h28,w0,w2,hor]
  refine⟨by omega,i+1,h,hm, ?_,St.le.refl _⟩
  exact⟨congrArg (D.int .i64) hor,by rw[w4]⟩
 ·obtain rfl:i=k:=by omega
  have h1:((i:Int)<i)=False:=by simp
  have hlt:=numB_lt (l.take i) 0
  have hpi:=hp i hk4
  rw[hlen] at hlt
  obtain⟨n,hn⟩:∃n,numB (l.take i) 0=n:=⟨_,rfl⟩
  have hod:opdB (l.take i)=if i=4∧2147483647<n then(n:Int)-4294967296 else n:=by rw[opdB,hlen,hn]
  rw[hn] at hlt hT
  rw[hod]
  have hdl:((i:Int)).toNat=i:=by simp
  by_cases h4:i=4
  ·subst h4
   have c4:(((4:Nat):Int)=4)=True:=by simp
   have hw32:=wrap_i32n n (by omega)
   have hw64:IntKind.wrap .i64 (if 2147483647<n then(n:Int)-4294967296 else n)=if 2147483647<n then(n:Int)-4294967296 else n:=by
    refine zc2 ?_ ?_ <;> split <;> omega
   simp -implicitDefEqProofs only[go_sem,hT,h1,c4,rws_take,rws_drop,hw32,hw64,za2]
   refine⟨⟨by omega,rows_len eT_len l⟩,_,_,DLe.refl _,St.le.refl _, ?_, ?_⟩
   ·simp
   ·simp[rws_take,rws_drop,za0]
  ·have hq:((i:Int)=4)=False:=by simp; omega
   rw[if_neg (fun h=>h4 h.1)]
   simp -implicitDefEqProofs only[go_sem,hT,h1,hq,rws_take,rws_drop,za2]
   refine⟨⟨by omega,rows_len eT_len l⟩,_,_,DLe.refl _,St.le.refl _,rfl, ?_⟩
   simp[rws_take,rws_drop,za0]
end Go.AL
