import Derived.Test.YtobmoajkfbigkaaGreatLn
import Derived.Test.YtobmoajkfbigkaaGreatLe
set_option linter.unusedSimpArgs false
set_option linter.unusedVariables false
set_option maxRecDepth 100000
set_option maxHeartbeats 4000000
set_option linter.defProp false
namespace Go.AL
open Go.Proofs
def mgB (b3 b9 b7:Nat) (o:Own) (l:List Cl) (y:Int) (out:Ty):St:=((({}:St).set b3 [.slice o (rws eC l)]).set b7 [.int .u8 out.val]).set b9 [.int .i64 y]
def mgStep (l:List Cl) (y:Int) (a:Ty) (c:Nat) (b:Bool) (a':Ty):Prop:=
 if((upI l y).any fun j=>decide ((j:Int)=(c:Int)))=true then b=false∧a'=ofClass c else b=true∧a'=a
theorem mg_runs {l:List Cl} {y:Int}:∀{L:List Nat} {a a':Ty},Runs (mgStep l y) L a a'→a'=match L.find? fun k:Nat=>(upI l y).any fun j=>decide ((j:Int)=(k:Int)) with|some k=>ofClass k|none=>a
 |[],a,a',h=>by simp only[Runs] at h; simp[h]
 |c::L,a,a'',⟨b,a',h1,h⟩=>by
  rw[List.find?_cons]
  unfold mgStep at h1
  split at h1
  ·rename_i hc
   obtain⟨rfl,rfl⟩:=h1
   rw[hc]
   simpa using h
  ·rename_i hc
   obtain⟨rfl,rfl⟩:=h1
   rw[Bool.not_eq_true] at hc
   rw[hc]
   exact mg_runs h
theorem wrap_class {c:Nat} (h:c<240):IntKind.wrap .u8 (16+IntKind.wrap .u8 (c:Int))=((ofClass (c:Int)).val:Int):=by
 rw[ofClass_val h]
 simp only[IntKind.wrap,IntKind.bits,IntKind.signed]
 simp; omega
theorem merge239 {b3 b9 b7:Nat} (h1:b9≠b3) (h2:b7≠b3) (h3:b7≠b9) (o:Own) (l:List Cl) (y:Int) (out:Ty) (c:Nat) (hl:l.length≤140737488355328) (hc:c<240):
  RCall Tryz.prog 239 [.int .i64 c,.ptr b3 0,.ptr b9 0,.ptr b7 0] (mgB b3 b9 b7 o l y out) fun d s'=>∃b a',d= .bool b∧s'=mgB b3 b9 b7 o l y a'∧mgStep l y out c b a':=by
 have k3:(mgB b3 b9 b7 o l y out).box b3=some [.slice o (rws eC l)]:=by simp[mgB,St.set_box,h1,h2,h3,Ne.symm h1,Ne.symm h2,Ne.symm h3]
 have k9:(mgB b3 b9 b7 o l y out).box b9=some [.int .i64 y]:=by simp[mgB,St.set_box,h1,h2,h3,Ne.symm h1,Ne.symm h2,Ne.symm h3]
 have k7:(mgB b3 b9 b7 o l y out).box b7=some [.int .u8 out.val]:=by simp[mgB,St.set_box,h1,h2,h3,Ne.symm h1,Ne.symm h2,Ne.symm h3]
 have hw:=wrap_class hc
 refine F239.rcall rfl fun T hT=> ?_
 simp -implicitDefEqProofs only[go_sem,c239,hT,k3,k9,k7]
 refine za3 (above190 l o y c hl) ?_
 cases hb:(upI l y).any fun j=>decide ((j:Int)=(c:Int))
 ·simp -implicitDefEqProofs only[go_sem,hT,k3,k9,k7]
  exact⟨_,_,DLe.refl _,St.le.refl _,true,out,rfl,rfl,by unfold mgStep; rw[hb]; exact⟨rfl,rfl⟩⟩
 ·simp -implicitDefEqProofs only[go_sem,hT,k3,k9,k7,hw]
  refine⟨_,_,DLe.refl _,St.le.refl _,false,ofClass c,rfl, ?_,by unfold mgStep; rw[hb]; exact⟨rfl,rfl⟩⟩
  unfold mgB
  rw[set_comm (Ne.symm h3),za2]
theorem up_240 {l:List Cl} {a:Ty} {c:Nat} (h:c∈upI l (clsOf l.length a)):c<240:=by
 have h1:=(up_mem h).1
 have h2:=a.isLt
 unfold clsOf at h1
 split at h1 <;> omega
theorem merge220 (l:List Cl) (o:Own) (a b:Ty) (hl:l.length≤140737488355328):PCall Tryz.prog 220 [.slice o (rws eC l),.int .u8 a.val,.int .u8 b.val] (.int .u8 (mergeT l a b).val):=by
 refine F220.pcall' rfl fun T hT=> ?_
 simp -implicitDefEqProofs only[go_sem,c220,hT]
 intro b3
 refine za3 (valid105 l o a) ?_
 cases hva:validN l.length a
 ·simp -implicitDefEqProofs only[go_sem,hT]
  rw[show mergeT l a b=0 by unfold mergeT; rw[if_pos (.inl hva)]]
  exact DLe.refl _
 simp -implicitDefEqProofs only[go_sem,hT]
 refine za3 (valid105 l o b) ?_
 cases hvb:validN l.length b
 ·simp -implicitDefEqProofs only[go_sem,hT]
  rw[show mergeT l a b=0 by unfold mergeT; rw[if_pos (.inr hvb)]]
  exact DLe.refl _
 simp -implicitDefEqProofs only[go_sem,hT]
 have hm0:mergeT l a b=(if subB l a b=true then b else if subB l b a=true then a else if isRefB a=false∨isRefB b=false then 0
   else match (upI l (clsOf l.length a)).find? fun k:Nat=>(upI l (clsOf l.length b)).any fun j=>decide ((j:Int)=(k:Int)) with|some k=>ofClass k|none=>5):=by
  unfold mergeT; rw[if_neg (by simp[hva,hvb])]; rfl
 refine za3 (sub164 l o a b hl) ?_
 cases h1:subB l a b
 rotate_left
 ·simp -implicitDefEqProofs only[go_sem,hT]
  rw[hm0,h1]; exact DLe.refl _
 simp -implicitDefEqProofs only[go_sem,hT]
 refine za3 (sub164 l o b a hl) ?_
 cases h2:subB l b a
 rotate_left
 ·simp -implicitDefEqProofs only[go_sem,hT]
  rw[hm0,h1,h2]; exact DLe.refl _
 simp -implicitDefEqProofs only[go_sem,hT]
 refine za3 (isRef163 a) ?_
 cases h3:isRefB a
 ·simp -implicitDefEqProofs only[go_sem,hT]
  rw[hm0,h1,h2,h3]; exact DLe.refl _
 simp -implicitDefEqProofs only[go_sem,hT]
 refine za3 (isRef163 b) ?_
 cases h4:isRefB b
 ·simp -implicitDefEqProofs only[go_sem,hT]
  rw[hm0,h1,h2,h3,h4]; exact DLe.refl _
 rw[h1,h2,h3,h4] at hm0
 simp -implicitDefEqProofs only[go_sem,hT]
 intro b7 n1 n2
 simp -implicitDefEqProofs only[go_sem,hT,n1,n2,za2]
 refine⟨by rintro b rfl; simp[n1,n2], ?_⟩
 refine za3 (class147 l o a) ?_
 simp -implicitDefEqProofs only[go_sem,hT,n1,n2]
 refine za3 (class147 l o b) ?_
 simp -implicitDefEqProofs only[go_sem,hT,n1,n2]
 intro b9 m1 m2 m3 m4
 simp -implicitDefEqProofs only[go_sem,hT,n1,n2,m1,m2,m3,m4,za2]
 have hfind:(match (upI l (clsOf l.length a)).find? fun k:Nat=>(upI l (clsOf l.length b)).any fun j=>decide ((j:Int)=(k:Int)) with|some k=>ofClass k|none=>5)=mergeT l a b:=by rw[hm0]; rfl
 by_cases hx:0≤clsOf l.length a
 rotate_left
 ·have g1:(0≤clsOf l.length a)=False:=eq_false hx
  simp -implicitDefEqProofs only[go_sem,mmB,hT,n1,n2,m1,m2,m3,m4,g1,za2]
  rw[upI_neg (c:=clsOf l.length a) (by omega)] at hfind
  rw[←hfind]
  exact DLe.refl (.int .u8 5)
 have g1:(0≤clsOf l.length a)=True:=eq_true hx
 by_cases hy:0≤clsOf l.length b
 rotate_left
 ·have g2:(0≤clsOf l.length b)=False:=eq_false hy
  simp -implicitDefEqProofs only[go_sem,mmB,hT,n1,n2,m1,m2,m3,m4,g1,g2,za2]
  have hno:(upI l (clsOf l.length a)).find? (fun k:Nat=>(upI l (clsOf l.length b)).any fun j=>decide ((j:Int)=(k:Int)))=none:=by
   rw[List.find?_eq_none]
   intro x _
   rw[upI_neg (by omega)]; simp
  rw[hno] at hfind
  rw[←hfind]
  exact DLe.refl (.int .u8 5)
 have g2:(0≤clsOf l.length b)=True:=eq_true hy
 simp -implicitDefEqProofs only[go_sem,mmB,hT,n1,n2,m1,m2,m3,m4,g1,g2,za2]
 have hst:((({}:St).set b3 [.slice o (rws eC l)]).set b7 [.int .u8 5]).set b9 [.int .i64 (clsOf l.length b)]=mgB b3 b9 b7 o l (clsOf l.length b) 5:=rfl
 rw[hst]
 refine callB_all (climb144' l o 239 [] [.ptr b3 0,.ptr b9 0,.ptr b7 0] (mgB b3 b9 b7 o l (clsOf l.length b)) (mgStep l (clsOf l.length b)) (fun _ L=>∀c∈L,c<240) hl (fun out c rest hc hok=>(merge239 m3 n1 (fun h=>m2 h) o l _ out c hl (hok c (by simp))).mono ?_) 5 (clsOf l.length a) fun c hc=>up_240 hc) ?_
 ·rintro d s' ⟨b',a',rfl,rfl,hs⟩
  exact⟨b',a',rfl,rfl,hs,fun c hc=>hok c (by simp[hc])⟩
 rintro d s' ⟨rfl,a',r,rfl,hruns,_⟩
 have hr:=mg_runs hruns
 rw[hfind] at hr
 subst hr
 simp -implicitDefEqProofs only[go_sem,hT,mgB,n1,n2,m1,m2,m3,m4]
open Go.Proofs
def tyN (i:Nat):Ty:=Fin.ofNat 256 i
theorem tyN_val {i:Nat} (h:i<256):(tyN i).val=i:=Nat.mod_eq_of_lt h
def allT (n i:Nat):List Ty:=((List.range i).map tyN).filter (validN n)
theorem allT_succ (n i:Nat):allT n (i+1)=allT n i++(if validN n (tyN i)=true then [tyN i] else []):=by
 unfold allT
 rw[List.range_succ,List.map_append,List.filter_append]
 congr 1
 simp only[List.map_cons,List.map_nil,List.filter_cons,List.filter_nil]
theorem allT_len (n i:Nat):(allT n i).length≤i:=by
 unfold allT
 refine Nat.le_trans (List.length_filter_le _ _) ?_
 simp
theorem all219 (l:List Cl) (o:Own):PCall Tryz.prog 219 [.slice o (rws eC l)] (.slice .no (rws eT (allT l.length 256))):=by
 refine F219.pcall' rfl fun T hT=> ?_
 simp -implicitDefEqProofs only[go_sem,c219,hT]
 refine loopL F219 (fun x:Nat×Option Nat=>[(0,.slice o (rws eC l)),(4,.int .i64 x.1),(3,grD 1 x.2 (rws eT (allT l.length x.1)))]) (fun x=>grS 1 (allT l.length x.1).length x.2 {}) (fun x=>x.1≤256∧(x.2=none→(allT l.length x.1).length=0)) (fun x=>256-x.1) (0,none)
  ⟨Nat.zero_le _,fun _=>rfl⟩ ?_ (St.le.refl _) ?_
 ·simp -implicitDefEqProofs only[go_sem,hT,Int.ofNat_zero]
  rfl
 clear hT T
 rintro⟨i,ob⟩ ⟨hi,hok⟩ T hT
 simp only at hi hok hT ⊢
 by_cases h:i<256
 ·have h1:((i:Int)<256)=True:=by simp; omega
  have hv:=tyN_val h
  have hw:IntKind.wrap .u8 (i:Int)=((tyN i).val:Int):=by
   rw[hv]; simp only[IntKind.wrap,IntKind.bits,IntKind.signed]; simp; omega
  have hlen:=allT_len l.length i
  have hnext:IntKind.wrap .i64 ((i:Int)+1)=((i+1:Nat):Int):=by rw[zc3 (by omega) (by omega)]; simp
  simp -implicitDefEqProofs only[go_sem,hT,h1,hw]
  refine za3 (refValid87 l o (tyN i)) ?_
  cases hva:validN l.length (tyN i)
  ·simp -implicitDefEqProofs only[go_sem,hT,hnext]
   have hs:allT l.length (i+1)=allT l.length i:=by rw[allT_succ,hva]; simp
   exact⟨(i+1,ob),⟨by omega,by rw[hs]; exact hok⟩,by omega,⟨rfl,by rw[hs]⟩,by simp only; rw[hs]; exact St.le.refl _⟩
  ·simp -implicitDefEqProofs only[go_sem,hT,hw,frz]
   refine app_gr' Tryz.sli93 Tryz.sz81 Tryz.by81 Tryz.zero81 rfl (n:=(allT l.length i).length) (m:=1) (base:={}) (by rw[za0]) rfl (St.le.refl _) grN_nil hok (by simp) (by omega) fun o' σ' hbox hle _ hno=> ?_
   have hs:allT l.length (i+1)=allT l.length i++[tyN i]:=by rw[allT_succ,hva]; simp
   have hl2:(allT l.length (i+1)).length=(allT l.length i).length+1:=by rw[hs]; simp
   simp -implicitDefEqProofs only[go_sem,hT,hnext]
   refine⟨(i+1,o'),⟨by omega,fun h=>absurd (hno h) (by omega)⟩,by omega,⟨rfl, ?_⟩,by simp only; rw[hl2]; exact hle⟩
   rw[hs]; simp[rws,eT]
 ·have h1:((i:Int)<256)=False:=by simp; omega
  obtain rfl:i=256:=by omega
  simp -implicitDefEqProofs only[go_sem,hT,h1]
  exact grD_le
def bestT (l:List Cl) (a b:Ty) (L:List Ty):Ty:=L.foldl (fun best t=>if subB l a t=true∧subB l b t=true∧subB l t best=true then t else best) 0
theorem best_snoc (l:List Cl) (a b t:Ty) (L:List Ty):bestT l a b (L++[t])=if subB l a t=true∧subB l b t=true∧subB l t (bestT l a b L)=true then t else bestT l a b L:=by
 unfold bestT; rw[List.foldl_append]; rfl
theorem best_both {l:List Cl} {a b:Ty} (ha:validN l.length a=true) (hb:validN l.length b=true):∀n:Nat,∀L:List Ty,L.length=n→subB l a (bestT l a b L)=true∧subB l b (bestT l a b L)=true
 |0,L,h=>by obtain rfl:=List.eq_nil_of_length_eq_zero h; exact⟨sub_top ha,sub_top hb⟩
 |n+1,L,h=>by
  have hne:L≠[]:=fun h0=>by rw[h0] at h; cases h
  obtain⟨L',t,rfl⟩:∃L' t,L=L'++[t]:=⟨_,_,(List.dropLast_concat_getLast hne).symm⟩
  have ih:=best_both ha hb n L' (by simpa using h)
  rw[best_snoc]
  split
  ·rename_i hc; exact⟨hc.1,hc.2.1⟩
  ·exact ih
theorem best_merge {l:List Cl} {a b:Ty} (ha:validN l.length a=true) (hb:validN l.length b=true):∀n:Nat,∀L:List Ty,L.length=n→mergeT l a b∈L→bestT l a b L=mergeT l a b
 |0,L,h,hm=>by obtain rfl:=List.eq_nil_of_length_eq_zero h; cases hm
 |n+1,L,h,hm=>by
  have hne:L≠[]:=fun h0=>by rw[h0] at h; cases h
  obtain⟨L',t,rfl⟩:∃L' t,L=L'++[t]:=⟨_,_,(List.dropLast_concat_getLast hne).symm⟩
  obtain⟨m1,m2,m3⟩:=merge_up (l:=l) ha hb
  have hl:L'.length=n:=by simpa using h
  obtain⟨b1,b2⟩:=best_both ha hb n L' hl
  rw[best_snoc]
  split
  ·rename_i hc
   have h1:=m3 t hc.1 hc.2.1
   by_cases hin:mergeT l a b∈L'
   ·rw[best_merge ha hb n L' hl hin] at hc
    exact subB_antisymm hc.2.2 h1
   ·rcases List.mem_append.1 hm with h2|h2
    ·exact absurd h2 hin
    ·simp at h2; exact h2.symm
  ·rename_i hc
   by_cases hin:mergeT l a b∈L'
   ·exact best_merge ha hb n L' hl hin
   ·rcases List.mem_append.1 hm with h2|h2
    ·exact absurd h2 hin
    ·simp at h2
     exfalso; apply hc
     rw[←h2]
     exact⟨m1,m2,m3 _ b1 b2⟩
theorem best_none {l:List Cl} {a b:Ty} (h:validN l.length a=false∨validN l.length b=false) (L:List Ty):bestT l a b L=0:=by
 unfold bestT
 have hs:∀t,¬(subB l a t=true∧subB l b t=true):=fun t ⟨h1,h2⟩=>by
  rcases h with h|h
  ·rw[(subB_valid h1).1] at h; cases h
  ·rw[(subB_valid h2).1] at h; cases h
 induction L with
 |nil=>rfl
 |cons t L ih=>
  rw[List.foldl_cons,if_neg (fun hc=>hs t ⟨hc.1,hc.2.1⟩)]
  exact ih
theorem tyN_self (t:Ty):tyN t.val=t:=Fin.ext (tyN_val t.isLt)
theorem best_all (l:List Cl) (a b:Ty):bestT l a b (allT l.length 256)=mergeT l a b:=by
 by_cases h:validN l.length a=true∧validN l.length b=true
 ·refine best_merge h.1 h.2 _ _ rfl ?_
  unfold allT
  rw[List.mem_filter]
  exact⟨List.mem_map.2 ⟨(mergeT l a b).val,List.mem_range.2 (mergeT l a b).isLt,tyN_self _⟩,merge_valid a b⟩
 ·have h':validN l.length a=false∨validN l.length b=false:=by cases ha:validN l.length a <;> cases hb:validN l.length b <;> simp_all
  rw[best_none h']
  unfold mergeT; rw[if_pos h']
theorem refMerge186 (l:List Cl) (o:Own) (a b:Ty) (hf:Falls l l.length) (hl:l.length*48≤140737488355328):PCall Tryz.prog 186 [.slice o (rws eC l),.int .u8 a.val,.int .u8 b.val] (.int .u8 (mergeT l a b).val):=by
 refine F186.pcall' rfl fun T hT=> ?_
 simp -implicitDefEqProofs only[go_sem,c186,hT]
 refine za3 (all219 l o) ?_
 rw[←best_all]
 have hlen:=allT_len l.length 256
 generalize allT l.length 256=A at *
 simp -implicitDefEqProofs only[go_sem,hT]
 refine loopL F186 (fun i:Nat=>[(0,.slice o (rws eC l)),(1,.int .u8 a.val),(2,.int .u8 b.val),(7,.int .u8 (bestT l a b (A.take i)).val),(8,.slice .no (rws eT A)),(9,.int .i64 i)]) (fun _=>{}) (fun i=>i≤A.length) (fun i=>A.length-i) 0 (Nat.zero_le _) ?_ (St.le.nil _) ?_
 ·simp -implicitDefEqProofs only[go_sem,hT,Int.ofNat_zero]
  rfl
 clear hT T
 intro i hi T hT
 by_cases h:i<A.length
 ·have h1:((i:Int)<A.length)=True:=eq_true (by omega)
  have hR:(rws eT A)[i]?.getD []=eT A[i]:=rws_at h
  have htake:A.take (i+1)=A.take i++[A[i]]:=List.take_succ_eq_append_getElem h
  have hnext:IntKind.wrap .i64 ((i:Int)+1)=((i+1:Nat):Int):=by rw[zc3 (by omega) (by omega)]; simp
  generalize A[i]=t at *
  have hbest:bestT l a b (A.take (i+1))=if subB l a t=true∧subB l b t=true∧subB l t (bestT l a b (A.take i))=true then t else bestT l a b (A.take i):=by rw[htake,best_snoc]
  simp -implicitDefEqProofs only[go_sem,hT,h1,hR,eT,eT_len]
  refine⟨by omega, ?_⟩
  refine za3 (refSub79 l o a t hf hl) ?_
  cases s1:subB l a t
  ·simp -implicitDefEqProofs only[go_sem,hT,hnext]
   exact⟨i+1,by omega,by omega,by rw[hbest,s1]; simp,St.le.refl _⟩
  simp -implicitDefEqProofs only[go_sem,hT]
  refine za3 (refSub79 l o b t hf hl) ?_
  cases s2:subB l b t
  ·simp -implicitDefEqProofs only[go_sem,hT,hnext]
   exact⟨i+1,by omega,by omega,by rw[hbest,s2]; simp,St.le.refl _⟩
  simp -implicitDefEqProofs only[go_sem,hT]
  refine za3 (refSub79 l o t _ hf hl) ?_
  cases s3:subB l t (bestT l a b (A.take i))
  ·simp -implicitDefEqProofs only[go_sem,hT,hnext]
   exact⟨i+1,by omega,by omega,by rw[hbest,s3]; simp,St.le.refl _⟩
  simp -implicitDefEqProofs only[go_sem,hT,hnext]
  exact⟨i+1,by omega,by omega,by rw[hbest,s1,s2,s3]; simp,St.le.refl _⟩
 ·have h1:((i:Int)<A.length)=False:=eq_false (by omega)
  simp -implicitDefEqProofs only[go_sem,hT,h1]
  rw[List.take_of_length_le (by omega)]
  exact DLe.refl _
open Go.Proofs
def endsB (op:Nat):Bool:=decide (op=19∨op=22∨op=32)
theorem refEnds41 (t:Ty):PCall Tryz.prog 21 [.int .u8 t.val] (.bool (endsB t.val)):=by
 refine F21.pcall' rfl fun T hT=> ?_
 simp -implicitDefEqProofs only[go_sem,mmB,c21,hT]
 exact zf1 (by rw[Bool.eq_iff_iff]; simp[endsB]; omega)
theorem ends88 (t:Ty):PCall Tryz.prog 85 [.int .u8 t.val] (.bool (endsB t.val)):=by
 refine F85.pcall' rfl fun T hT=> ?_
 simp -implicitDefEqProofs only[go_sem,mmB,c85,hT]
 exact zf1 (by rw[Bool.eq_iff_iff]; simp[endsB]; omega)
open Go.Proofs
open Go.Proofs
open Go.Proofs
def alikeF (n:Nat) (a b:Fr):Nat:=if checkF n a≠0 then checkF n a else if checkF n b≠0 then checkF n b else if a.loc=b.loc∧a.h=b.h then 0 else 32
def bYfaA0:=aI @za6 (aI @za4 (aI @fr_0 (aI @fr_1 @gdD)))
theorem alike206 (l:List Cl) (o:Own) (a b:Fr):PCall Tryz.prog 206 [.slice o (rws eC l),.agg (eFr a),.agg (eFr b)] (.int .i64 (alikeF l.length a b)):=by
 refine F206.pcall' rfl fun T hT=> ?_
 simp -implicitDefEqProofs only[go_sem,c206,hT,bYfaA0]
 intro b4 b5 n1 n2
 simp -implicitDefEqProofs only[go_sem,hT,n1,n2,bYfaA0]
 refine za3 (check81 l o a) ?_
 by_cases h1:checkF l.length a=0
 case neg=>
  have h1':((checkF l.length a:Int)=0)=False:=by simp; omega
  rw[show alikeF l.length a b=checkF l.length a by rw[alikeF,if_pos h1]]
  simp -implicitDefEqProofs only[go_sem,mmB,hT,n1,n2,h1',bYfaA0]
  all_goals exact DLe.refl _
 have h1':((checkF l.length a:Int)=0)=True:=by simp; omega
 simp -implicitDefEqProofs only[go_sem,hT,n1,n2,h1',bYfaA0]
 refine za3 (check81 l o b) ?_
 by_cases h2:checkF l.length b=0
 case neg=>
  have h2':((checkF l.length b:Int)=0)=False:=by simp; omega
  rw[show alikeF l.length a b=checkF l.length b by rw[alikeF,if_neg (by simp[h1]),if_pos h2]]
  simp -implicitDefEqProofs only[go_sem,mmB,hT,n1,n2,h2',bYfaA0]
  all_goals exact DLe.refl _
 have h2':((checkF l.length b:Int)=0)=True:=by simp; omega
 have ha:alikeF l.length a b=if a.loc=b.loc∧a.h=b.h then 0 else 32:=by rw[alikeF,if_neg (by simp[h1]),if_neg (by simp[h2])]
 rw[ha,h2]
 by_cases h3:a.loc=b.loc∧a.h=b.h
 ·have hq:(!decide (a.loc=b.loc)|| !decide (a.h=b.h))=false:=by simp[h3]
  rw[if_pos h3]
  simp -implicitDefEqProofs only[go_sem,mmB,hT,za6,za4,fr_0,fr_1,gdD,n1,n2,h2',hq,Int.ofNat_zero]
  all_goals exact DLe.refl _
 ·have hq:(!decide (a.loc=b.loc)|| !decide (a.h=b.h))=true:=by
   by_cases h4:a.loc=b.loc
   ·have:¬a.h=b.h:=fun h=>h3 ⟨h4,h⟩
    simp[h4,this]
   ·simp[h4]
  rw[if_neg h3]
  simp -implicitDefEqProofs only[go_sem,mmB,hT,za6,za4,fr_0,fr_1,gdD,n1,n2,h2',hq,Int.ofNat_zero]
  all_goals exact DLe.refl _
open Go.Proofs
def mgAt (l:List Cl) (a b:Fr):Nat→Fr
 |0=>a
 |i+1=>setF (mgAt l a b i) i (mergeT l (slAt (mgAt l a b i) i) (slAt b i))
theorem mgAt_loc {l:List Cl} {a b:Fr}:∀n,(mgAt l a b n).loc=a.loc∧(mgAt l a b n).h=a.h
 |0=>⟨rfl,rfl⟩
 |n+1=>by rw[mgAt,setF_loc,setF_h]; exact mgAt_loc n
theorem mgAt_sl {l:List Cl} {a b:Fr}:∀n,n≤24→∀i,i<24→slAt (mgAt l a b n) i=if i<n then mergeT l (slAt a i) (slAt b i) else slAt a i
 |0,_,i,_=>by rw[if_neg (by omega)]; rfl
 |n+1,hn,i,hi=>by
  have ih:=mgAt_sl (l:=l) (a:=a) (b:=b) n (by omega)
  rw[mgAt,slAt_set _ hi (by simp; omega),Int.toNat_natCast]
  by_cases h:i=n
  ·subst h; rw[if_pos rfl,if_pos (by omega),ih i hi,if_neg (by omega)]
  ·rw[if_neg h,ih i hi]
   by_cases h2:i<n
   ·rw[if_pos h2,if_pos (by omega)]
   ·rw[if_neg h2,if_neg (by omega)]
def mergeF (l:List Cl) (a b:Fr):Fr×Nat:=if alikeF l.length a b≠0 then(fr0 0,alikeF l.length a b) else(mgAt l a b (a.loc+a.h).toNat,0)
theorem alike_zero {n:Nat} {a b:Fr} (h:alikeF n a b=0):checkF n a=0∧checkF n b=0∧a.loc=b.loc∧a.h=b.h:=by
 unfold alikeF at h
 split at h
 ·omega
 split at h
 ·omega
 split at h
 ·rename_i h1 h2 h3
  exact⟨by omega,by omega,h3⟩
 ·cases h
theorem alike_of {n:Nat} {a b:Fr} (h1:checkF n a=0) (h2:checkF n b=0) (h3:a.loc=b.loc) (h4:a.h=b.h):alikeF n a b=0:=by
 unfold alikeF
 rw[if_neg (by omega),if_neg (by omega),if_pos ⟨h3,h4⟩]
theorem mgAt_store (l:List Cl) (a b:Fr) {i:Nat} (h:i<24):(eFr (mgAt l a b i)).take (2+i)++[D.int .u8 ((mergeT l (slAt (mgAt l a b i) i) (slAt b i)).val:Int)]++(eFr (mgAt l a b i)).drop (2+i+1)=eFr (mgAt l a b (i+1)):=by
 have:=fr_setF (f:=mgAt l a b i) (a:=(i:Int)) (t:=mergeT l (slAt (mgAt l a b i) i) (slAt b i)) (by omega) (by omega)
 rw[Int.toNat_natCast] at this
 rw[mgAt]; exact this
def bYhaD0:=aI @zc1 (aI @zc2 (aI @zb4 (aI @zb3 (aI @za6 (aI @za4 (aI @fr_0 (aI @fr_1 @gdD)))))))
def bYhaD1:=aI @zc1 (aI @zc2 (aI @zb4 (aI @zb3 (aI @za6 (aI @za4 (aI @fr_0 (aI @fr_1 (aI @gdD (aI @za2 (aI @za5 @fr_fr0))))))))))
theorem merge192 (l:List Cl) (o:Own) (a b:Fr) (hl:l.length≤140737488355328):PCall Tryz.prog 192 [.slice o (rws eC l),.agg (eFr a),.agg (eFr b)] (.tup [.agg (eFr (mergeF l a b).1),.int .i64 (mergeF l a b).2]):=by
 refine F192.pcall' rfl fun T hT=> ?_
 simp -implicitDefEqProofs only[go_sem,c192,hT,bYhaD0]
 intro b4 b5 n1 n2 b6 n3 n4 n5 n6
 simp -implicitDefEqProofs only[go_sem,hT,n1,n2,n3,n4,n5,n6,bYhaD0]
 refine za3 (alike206 l o a b) ?_
 by_cases h0:alikeF l.length a b=0
 case neg=>
  have h0':((alikeF l.length a b:Int)=0)=False:=by simp; omega
  rw[show mergeF l a b=(fr0 0,alikeF l.length a b) by rw[mergeF,if_pos h0]]
  simp -implicitDefEqProofs only[go_sem,hT,n1,n2,n3,n4,n5,n6,h0',bYhaD1]
 have h0':((alikeF l.length a b:Int)=0)=True:=by simp; omega
 obtain⟨ca,cb,hloc,hh⟩:=alike_zero h0
 obtain⟨s1,s2,s3,s4⟩:=shaped_of (checkF_iff.1 ca).1
 obtain⟨n,hn⟩:∃n:Nat,a.loc+a.h=n:=⟨(a.loc+a.h).toNat,by omega⟩
 have w1:IntKind.wrap .i64 (a.loc+a.h)=(n:Int):=by rw[zc3 (by omega) (by omega),hn]
 have hm:mergeF l a b=(mgAt l a b n,0):=by rw[mergeF,if_neg (by omega),hn,Int.toNat_natCast]
 have h24:n≤24:=by omega
 simp -implicitDefEqProofs only[go_sem,hT,n1,n2,n3,n4,n5,n6,h0',w1,bYhaD0]
 refine loopL F192 (fun i:Nat=>[(0,.slice o (rws eC l)),(4,.ptr b4 0),(5,.ptr b5 0),(6,.ptr b6 0),(22,.int .i64 n),(23,.int .i64 i)]) (fun i=>((({}:St).set b4 (eFr (mgAt l a b i))).set b5 (eFr b)).set b6 zFr) (fun i=>i≤n) (fun i=>n-i) 0 (by omega) ?_ (St.le.refl _) ?_
 ·simp -implicitDefEqProofs only[go_sem,hT,Int.ofNat_zero]
 clear hT T
 intro i hi T hT
 by_cases h:i<n
 ·have h1:((i:Int)<n)=True:=eq_true (by omega)
  have hx:=fr_slAt (mgAt l a b i) (show i<24 by omega)
  have hy:=fr_slAt b (show i<24 by omega)
  have hst:=mgAt_store l a b (show i<24 by omega)
  have hnext:IntKind.wrap .i64 ((i:Int)+1)=((i+1:Nat):Int):=by rw[zc3 (by omega) (by omega)]; simp
  simp -implicitDefEqProofs only[go_sem,hT,h1,n1,n2,n3,n4,n5,n6,hx,hy,Nat.mul_one,bYhaD0]
  refine⟨⟨by omega,by omega⟩,⟨by omega,by omega⟩, ?_⟩
  refine za3 (merge220 l o _ _ hl) ?_
  simp -implicitDefEqProofs only[go_sem,hT,h1,zc1,zc2,zb4,zb3,za6,za4,fr_0,fr_1,gdD,n1,n2,n3,n4,n5,n6,hx,hy,hnext,Nat.mul_one,hst,za2]
  refine⟨⟨by omega,by omega⟩,by omega,i+1,by omega,by omega,rfl, ?_⟩
  rw[set_comm n5,set_comm n1,za2]
  exact St.le.refl _
 ·have h1:((i:Int)<n)=False:=eq_false (by omega)
  obtain rfl:i=n:=by omega
  simp -implicitDefEqProofs only[go_sem,hT,h1,zc1,zc2,zb4,zb3,za6,za4,fr_0,fr_1,gdD,n1,n2,n3,n4,n5,n6,hm,za5,za2,Int.ofNat_zero]
theorem refMergeF151 (l:List Cl) (o:Own) (a b:Fr) (hf:Falls l l.length) (hl:l.length*48≤140737488355328):PCall Tryz.prog 151 [.slice o (rws eC l),.agg (eFr a),.agg (eFr b)] (.tup [.agg (eFr (mergeF l a b).1),.int .i64 (mergeF l a b).2]):=by
 refine F151.pcall' rfl fun T hT=> ?_
 simp -implicitDefEqProofs only[go_sem,c151,hT,bYhaD0]
 intro b4 b5 n1 n2 b6 n3 n4 n5 n6
 simp -implicitDefEqProofs only[go_sem,hT,n1,n2,n3,n4,n5,n6,bYhaD0]
 refine za3 (refCheck40 l o a) ?_
 by_cases h1:checkF l.length a=0
 case neg=>
  have h1':((checkF l.length a:Int)=0)=False:=by simp; omega
  have ha:alikeF l.length a b=checkF l.length a:=by rw[alikeF,if_pos h1]
  rw[show mergeF l a b=(fr0 0,checkF l.length a) by rw[mergeF,ha,if_pos h1]]
  simp -implicitDefEqProofs only[go_sem,hT,n1,n2,n3,n4,n5,n6,h1',bYhaD1]
 have h1':((checkF l.length a:Int)=0)=True:=by simp; omega
 simp -implicitDefEqProofs only[go_sem,hT,n1,n2,n3,n4,n5,n6,h1',bYhaD0]
 refine za3 (refCheck40 l o b) ?_
 by_cases h2:checkF l.length b=0
 case neg=>
  have h2':((checkF l.length b:Int)=0)=False:=by simp; omega
  have ha:alikeF l.length a b=checkF l.length b:=by rw[alikeF,if_neg (by omega),if_pos h2]
  rw[show mergeF l a b=(fr0 0,checkF l.length b) by rw[mergeF,ha,if_pos h2]]
  simp -implicitDefEqProofs only[go_sem,hT,n1,n2,n3,n4,n5,n6,h2',bYhaD1]
 have h2':((checkF l.length b:Int)=0)=True:=by simp; omega
 by_cases h3:a.loc=b.loc∧a.h=b.h
 case neg=>
  have ha:alikeF l.length a b=32:=by rw[alikeF,if_neg (by omega),if_neg (by omega),if_neg h3]
  rw[show mergeF l a b=(fr0 0,32) by rw[mergeF,ha,if_pos (by omega)]]
  have hq:(!decide (a.loc=b.loc)|| !decide (a.h=b.h))=true:=by
   by_cases h4:a.loc=b.loc
   ·have:¬a.h=b.h:=fun h=>h3 ⟨h4,h⟩
    simp[h4,this]
   ·simp[h4]
  simp -implicitDefEqProofs only[go_sem,mmB,hT,n1,n2,n3,n4,n5,n6,h2',hq,bYhaD1]
  exact DLe.refl _
 have hq:(!decide (a.loc=b.loc)|| !decide (a.h=b.h))=false:=by simp[h3]
 have h0:=alike_of h1 h2 h3.1 h3.2
 obtain⟨s1,s2,s3,s4⟩:=shaped_of (checkF_iff.1 h1).1
 obtain⟨n,hn⟩:∃n:Nat,a.loc+a.h=n:=⟨(a.loc+a.h).toNat,by omega⟩
 have w1:IntKind.wrap .i64 (a.loc+a.h)=(n:Int):=by rw[zc3 (by omega) (by omega),hn]
 have hm:mergeF l a b=(mgAt l a b n,0):=by rw[mergeF,if_neg (by omega),hn,Int.toNat_natCast]
 have h24:n≤24:=by omega
 simp -implicitDefEqProofs only[go_sem,mmB,hT,n1,n2,n3,n4,n5,n6,h2',hq,bYhaD0]
 refine loopL F151 (fun i:Nat=>[(0,.slice o (rws eC l)),(4,.ptr b4 0),(5,.ptr b5 0),(6,.ptr b6 0),(10,.int .i64 i)]) (fun i=>((({}:St).set b4 (eFr (mgAt l a b i))).set b5 (eFr b)).set b6 zFr) (fun i=>i≤n) (fun i=>n-i) 0 (by omega) ?_ (St.le.refl _) ?_
 ·simp -implicitDefEqProofs only[go_sem,hT,Int.ofNat_zero]
 clear hT T
 intro i hi T hT
 obtain⟨e1,e2⟩:=mgAt_loc (l:=l) (a:=a) (b:=b) i
 by_cases h:i<n
 ·have h1:((i:Int)<n)=True:=eq_true (by omega)
  have hx:=fr_slAt (mgAt l a b i) (show i<24 by omega)
  have hy:=fr_slAt b (show i<24 by omega)
  have hst:=mgAt_store l a b (show i<24 by omega)
  have hnext:IntKind.wrap .i64 ((i:Int)+1)=((i+1:Nat):Int):=by rw[zc3 (by omega) (by omega)]; simp
  simp -implicitDefEqProofs only[go_sem,hT,n1,n2,n3,n4,n5,n6,hx,hy,e1,e2,w1,h1,Nat.mul_one,bYhaD0]
  refine⟨⟨by omega,by omega⟩,⟨by omega,by omega⟩, ?_⟩
  refine za3 (refMerge186 l o _ _ hf hl) ?_
  simp -implicitDefEqProofs only[go_sem,hT,h1,zc1,zc2,zb4,zb3,za6,za4,fr_0,fr_1,gdD,n1,n2,n3,n4,n5,n6,hx,hy,hnext,Nat.mul_one,hst,za2]
  refine⟨⟨by omega,by omega⟩,by omega,i+1,by omega,by omega,rfl, ?_⟩
  rw[set_comm n5,set_comm n1,za2]
  exact St.le.refl _
 ·have h1:((i:Int)<n)=False:=eq_false (by omega)
  obtain rfl:i=n:=by omega
  simp -implicitDefEqProofs only[go_sem,hT,zc1,zc2,zb4,zb3,za6,za4,fr_0,fr_1,gdD,n1,n2,n3,n4,n5,n6,e1,e2,w1,h1,hm,za5,za2,Int.ofNat_zero]
open Go.Proofs
def jumpsB (op:Nat):Bool:=decide (op=19∨op=20)
theorem jumps83 (t:Ty):PCall Tryz.prog 83 [.int .u8 t.val] (.bool (jumpsB t.val)):=by
 refine F83.pcall' rfl fun T hT=> ?_
 simp -implicitDefEqProofs only[go_sem,mmB,c83,hT]
 exact zf1 (by rw[Bool.eq_iff_iff]; simp[jumpsB]; omega)
theorem refJumps22 (t:Ty):PCall Tryz.prog 22 [.int .u8 t.val] (.bool (jumpsB t.val)):=by
 refine F22.pcall' rfl fun T hT=> ?_
 simp -implicitDefEqProofs only[go_sem,mmB,c22,hT]
 exact zf1 (by rw[Bool.eq_iff_iff]; simp[jumpsB]; omega)
def numB:List Ty→Nat→Nat
 |[],n=>n
 |b::r,n=>numB r (256*n+b.val)
theorem numB_lt:∀(l:List Ty) (n:Nat),numB l n<256^l.length*(n+1)
 |[],n=>by simp[numB]
 |b::r,n=>by
  have:=numB_lt r (256*n+b.val)
  have hb:=b.isLt
  rw[numB,List.length_cons,Nat.pow_succ]
  have h2:256^r.length*(256*n+b.val+1)≤256^r.length*(256*(n+1)):=Nat.mul_le_mul_left _ (by omega)
  rw[Nat.mul_assoc]
  omega
theorem numB_snoc:∀(l:List Ty) (b:Ty) (n:Nat),numB (l++[b]) n=256*numB l n+b.val
 |[],b,n=>rfl
 |a::r,b,n=>by rw[List.cons_append,numB,numB_snoc r b]; rfl
def opdB (l:List Ty):Int:=if l.length=4∧2147483647<numB l 0 then(numB l 0:Int)-4294967296 else numB l 0
theorem refTake64 (l:List Ty) (o:Own) (k:Nat) (hk:k≤4) (hl:k≤l.length):PCall Tryz.prog 64 [.slice o (rws eT l),.int .i64 k] (.int .i64 (opdB (l.take k))):=by
 refine F64.pcall' rfl fun T hT=> ?_
 simp -implicitDefEqProofs only[go_sem,c64,hT]
 have hp:∀i:Nat,i≤4→(256:Nat)^i≤4294967296:=fun i hi=>by
  have:i=0∨i=1∨i=2∨i=3∨i=4:=by omega
  rcases this with rfl|rfl|rfl|rfl|rfl <;> decide
 refine loopL F64 (fun i:Nat=>[(0,.slice o (rws eT l)),(1,.int .i64 k),(5,.int .i64 (numB (l.take i) 0)),(6,.int .i64 i)]) (fun _=>{}) (fun i=>i≤k) (fun i=>k-i) 0 (Nat.zero_le _) ?_ (St.le.nil _) ?_
 ·simp -implicitDefEqProofs only[go_sem,hT,Int.ofNat_zero]
  all_goals rfl
 clear hT T
 rintro i hi T hT
 by_cases h:i<k
 ·have h1:((i:Int)<k)=True:=by simp; omega
  have hil:i<l.length:=by omega
  have hR:(rws eT l)[i]?.getD []=eT l[i]:=rws_at hil
  have htk:l.take (i+1)=l.take i++[l[i]]:=List.take_succ_eq_append_getElem hil
  have hlt:=numB_lt (l.take i) 0
  have hpi:=hp i (by omega)
  rw[List.length_take,Nat.min_eq_left (by omega)] at hlt
  have hlt2:numB (l.take i) 0<4294967296:=by omega
  have hns:=numB_snoc (l.take i) l[i] 0
  rw[←htk] at hns
  have hb:=l[i].isLt
  generalize l[i]=b at *
  have w1:IntKind.wrap .i64 (256*(numB (l.take i) 0:Int))=256*(numB (l.take i) 0:Int):=zc3 (by omega) (by omega)
  have w2:IntKind.wrap .i64 (b.val:Int)=b.val:=zc3 (by omega) (by omega)
  have w3:IntKind.wrap .i64 (256*(numB (l.take i) 0:Int)+b.val)=(numB (l.take (i+1)) 0:Int):=by rw[zc3 (by omega) (by omega),hns]; simp
  have w4:IntKind.wrap .i64 ((i:Int)+1)=((i+1:Nat):Int):=by rw[zc3 (by omega) (by omega)]; simp
  have hm:k-(i+1)<k-i:=by omega
  simp -implicitDefEqProofs only[go_sem,hT,h1,hR,eT,eT_len,w1,w2,w3]
  refine⟨by omega,i+1,h,hm,⟨rfl, ?_⟩,St.le.refl _⟩
  rw[w4]
 ·obtain rfl:i=k:=by omega
  have h1:((i:Int)<i)=False:=by simp
  have hlt:=numB_lt (l.take i) 0
  have hpi:=hp i hk
  have hlen:(l.take i).length=i:=by rw[List.length_take,Nat.min_eq_left hl]
  rw[hlen] at hlt
  obtain⟨n,hn⟩:∃n,numB (l.take i) 0=n:=⟨_,rfl⟩
  have hod:opdB (l.take i)=if i=4∧2147483647<n then(n:Int)-4294967296 else n:=by rw[opdB,hlen,hn]
  rw[hn] at hlt hT
  rw[hod]
  by_cases h4:i=4
  ·subst h4
   have c4:(((4:Nat):Int)=4)=True:=by simp
   by_cases hbig:2147483647<n
   ·have hq:((2147483647:Int)<n)=True:=by simp; omega
    have w5:IntKind.wrap .i64 ((n:Int)-4294967296)=(n:Int)-4294967296:=zc3 (by omega) (by omega)
    rw[if_pos ⟨rfl,hbig⟩]
    simp -implicitDefEqProofs only[go_sem,hT,h1,hq,w5,c4]
   ·have hq:((2147483647:Int)<n)=False:=by simp; omega
    rw[if_neg (fun h=>hbig h.2)]
    simp -implicitDefEqProofs only[go_sem,hT,h1,hq,c4]
  ·have hq:((i:Int)=4)=False:=by simp; omega
   rw[if_neg (fun h=>h4 h.1)]
   simp -implicitDefEqProofs only[go_sem,hT,h1,hq]
theorem or_byte (n b:Nat) (hn:n<16777216) (hb:b<256):IntKind.wrap .i64 ((BitVec.ofInt 64 (256*(n:Int))|||BitVec.ofInt 64 (b:Int)).toNat:Int)=((256*n+b:Nat):Int):=by
 have e1:BitVec.ofInt 64 (256*(n:Int))=BitVec.ofNat 64 (256*n):=by
  rw[show(256*(n:Int))=((256*n:Nat):Int) by simp]; exact BitVec.ofInt_natCast _ _
 have e2:BitVec.ofInt 64 (b:Int)=BitVec.ofNat 64 b:=BitVec.ofInt_natCast _ _
 rw[e1,e2,BitVec.toNat_or,BitVec.toNat_ofNat,BitVec.toNat_ofNat]
 rw[Nat.mod_eq_of_lt (show 256*n<2^64 by omega),Nat.mod_eq_of_lt (show b<2^64 by omega)]
 have:256*n|||b=256*n+b:=by
  have:=Nat.two_pow_add_eq_or_of_lt (i:=8) (b:=b) (show b<2^8 by omega) n
  rw[show(2:Nat)^8=256 from rfl] at this
  exact this.symm
 rw[this,zc3 (by omega) (by omega)]
theorem wrap_i32n (n:Nat) (h:n<4294967296):IntKind.wrap .i32 (n:Int)=if 2147483647<n then(n:Int)-4294967296 else n:=by
 have e:IntKind.wrap .i32 (n:Int)=if 2147483648≤(n:Int)%4294967296 then(n:Int)%4294967296-4294967296 else(n:Int)%4294967296:=by simp[IntKind.wrap,IntKind.bits,IntKind.signed]
 rw[e]; split <;> split <;> omega
theorem rws_drop {α:Type} {enc:α→List D} {l:List α} {k:Nat}:(rws enc l).drop k=rws enc (l.drop k):=by simp[rws]
theorem rows_len {α:Type} {enc:α→List D} {n:Nat} (h:∀a,(enc a).length=n) (l:List α):∀e∈rws enc l,e.length=n:=fun e he=>by
 simp only[rws,List.mem_map] at he
 obtain⟨a,_,rfl⟩:=he; exact h a
theorem take127 (l:List Ty) (o:Own) (k b:Nat) (hk:k=0∨k=1∨k=2∨k=4) (hl:k≤l.length):
  RCall Tryz.prog 127 [.int .i64 k,.ptr b 0] (({}:St).set b [.slice o (rws eT l)]) fun d s'=>d= .int .i64 (opdB (l.take k))∧s'=(({}:St).set b [.slice .no (rws eT (l.drop k))]):=by
 refine F127.rcall rfl fun T hT=> ?_
 simp -implicitDefEqProofs only[go_sem,c127,hT]
 refine⟨⟨by omega,rows_len eT_len l⟩, ?_⟩
 have hlen:(l.take k).length=k:=by rw[List.length_take,Nat.min_eq_left hl]
 have hp:∀i:Nat,i≤4→(256:Nat)^i≤4294967296:=fun i hi=>by
  have:i=0∨i=1∨i=2∨i=3∨i=4:=by omega
  rcases this with rfl|rfl|rfl|rfl|rfl <;> decide
 have hp3:∀i:Nat,i≤3→(256:Nat)^i≤16777216:=fun i hi=>by
  have:i=0∨i=1∨i=2∨i=3:=by omega
  rcases this with rfl|rfl|rfl|rfl <;> decide
 have hk4:k≤4:=by omega
 refine loopL F127 (fun i:Nat=>[(0,.int .i64 k),(1,.ptr b 0),(4,.int .i64 (numB (l.take i) 0)),(9,.slice .no (rws eT (l.take k))),(10,.int .i64 k),(11,.int .i64 i)]) (fun _=>({}:St).set b [.slice o (rws eT l)]) (fun i=>i≤k) (fun i=>k-i) 0 (Nat.zero_le _) ?_ (St.le.refl _) ?_
 ·simp -implicitDefEqProofs only[go_sem,hT,Int.ofNat_zero,rws_take,rws_drop,List.drop_zero,hlen]
  all_goals rfl
 clear hT T
 rintro i hi T hT
 by_cases h:i<k
 ·have h1:((i:Int)<k)=True:=by simp; omega
  have hil:i<l.length:=by omega
  have hik:i<(l.take k).length:=by omega
  have hR:(rws eT (l.take k))[i]?.getD []=eT l[i]:=by rw[rws_at hik]; simp
  have htk:l.take (i+1)=l.take i++[l[i]]:=List.take_succ_eq_append_getElem hil
  have hlt:=numB_lt (l.take i) 0
  have hpi:=hp3 i (by omega)
  rw[List.length_take,Nat.min_eq_left (by omega)] at hlt
  have hns:=numB_snoc (l.take i) l[i] 0
  rw[←htk] at hns
  have hb:=l[i].isLt
  have hor:=or_byte (numB (l.take i) 0) l[i].val (by omega) hb
  generalize l[i]=x at *
  have w0:IntKind.wrap .i64 ((numB (l.take i) 0:Int)*256)=256*(numB (l.take i) 0:Int):=by rw[zc3 (by omega) (by omega)]; omega
  have w2:IntKind.wrap .i64 (x.val:Int)=x.val:=zc3 (by omega) (by omega)
  have w4:IntKind.wrap .i64 ((i:Int)+1)=((i+1:Nat):Int):=by rw[zc3 (by omega) (by omega)]; simp
  have hm:k-(i+1)<k-i:=by omega
  have h28:(2:Int)^min 8 64=256:=by decide
  rw[←hns] at hor
  simp -implicitDefEqProofs only[go_sem,hT,h1,hR,eT,eT_len,hlen,h28,w0,w2,hor]
  refine⟨by omega,i+1,h,hm, ?_,St.le.refl _⟩
  exact⟨congrArg (D.int .i64) hor,by rw[w4]⟩
 ·obtain rfl:i=k:=by omega
  have h1:((i:Int)<i)=False:=by simp
  have hlt:=numB_lt (l.take i) 0
  have hpi:=hp i hk4
  rw[hlen] at hlt
  obtain⟨n,hn⟩:∃n,numB (l.take i) 0=n:=⟨_,rfl⟩
  have hod:opdB (l.take i)=if i=4∧2147483647<n then(n:Int)-4294967296 else n:=by rw[opdB,hlen,hn]
  rw[hn] at hlt hT
  rw[hod]
  have hdl:((i:Int)).toNat=i:=by simp
  by_cases h4:i=4
  ·subst h4
   have c4:(((4:Nat):Int)=4)=True:=by simp
   have hw32:=wrap_i32n n (by omega)
   have hw64:IntKind.wrap .i64 (if 2147483647<n then(n:Int)-4294967296 else n)=if 2147483647<n then(n:Int)-4294967296 else n:=by
    refine zc3 ?_ ?_ <;> split <;> omega
   simp -implicitDefEqProofs only[go_sem,hT,h1,c4,rws_take,rws_drop,hw32,hw64,za2]
   refine⟨⟨by omega,rows_len eT_len l⟩,_,_,DLe.refl _,St.le.refl _, ?_, ?_⟩
   ·simp
   ·simp[rws_take,rws_drop,za0]
  ·have hq:((i:Int)=4)=False:=by simp; omega
   rw[if_neg (fun h=>h4 h.1)]
   simp -implicitDefEqProofs only[go_sem,hT,h1,hq,rws_take,rws_drop,za2]
   refine⟨⟨by omega,rows_len eT_len l⟩,_,_,DLe.refl _,St.le.refl _,rfl, ?_⟩
   simp[rws_take,rws_drop,za0]
open Go.Proofs
def ins0:Ins:=⟨0,0,0,0⟩
def decIn (b:List Ty) (at':Nat) (op:Ty):Ins:=⟨at',op,opdB ((b.drop (at'+1)).take (wid op.val).1),opdB ((b.drop (at'+1+(wid op.val).1)).take (wid op.val).2)⟩
def decF (b:List Ty) (at':Nat):Ins×Nat:=
 if b.length<at' then(ins0,1)
 else if b.length=at' then(ins0,2)
 else if zf4 ((b[at']?).getD 0).val=0 then(ins0,40)
 else if b.length-at'<zf4 ((b[at']?).getD 0).val then(ins0,2)
 else if((b[at']?).getD 0).val=2∧1<(decIn b at' ((b[at']?).getD 0)).a then(ins0,5)
 else(decIn b at' ((b[at']?).getD 0),0)
theorem zf6:[D.int .i64 0,D.int .u8 0,D.int .i64 0,D.int .i64 0]=eIn ins0:=rfl
theorem sizeOp_le (n:Nat):zf4 n≤6:=by
 have:=wid_le n
 unfold zf4; split <;> omega
theorem wid_vals (n:Nat):((wid n).1=0∨(wid n).1=1∨(wid n).1=2∨(wid n).1=4)∧((wid n).2=0∨(wid n).2=1):=by
 unfold wid; repeat' split
 all_goals simp
def bYfaD0:=aI @zb7 (aI @zb1 (aI @za2 (aI @za5 @zf6)))
def bYfaD1:=aI @zb7 (aI @zb1 (aI @za2 (aI @za5 @gdD)))
theorem refDecode19 (b:List Ty) (o:Own) (at':Nat) (hl:b.length≤140737488355328) (ha:at'≤140737488355328):PCall Tryz.prog 19 [.slice o (rws eT b),.int .i64 at'] (.tup [.agg (eIn (decF b at').1),.int .i64 (decF b at').2]):=by
 have g0:((at':Int)<0)=False:=by simp
 refine F19.pcall' rfl fun T hT=> ?_
 simp -implicitDefEqProofs only[go_sem,c19,hT,bYfaD0]
 intro b4 b6 n1 n2
 by_cases h1:b.length<at'
 ·have q1:((b.length:Int)<at')=True:=by simp; omega
  rw[decF,if_pos h1]
  simp -implicitDefEqProofs only[go_sem,hT,n1,n2,g0,q1,bYfaD0]
  all_goals exact DLe.refl _
 have q1:((b.length:Int)<at')=False:=by simp; omega
 by_cases h2:b.length=at'
 ·have q2:((at':Int)=b.length)=True:=by simp; omega
  rw[decF,if_neg h1,if_pos h2]
  simp -implicitDefEqProofs only[go_sem,hT,n1,n2,g0,q1,q2,bYfaD0]
  all_goals exact DLe.refl _
 have q2:((at':Int)=b.length)=False:=by simp; omega
 have hlt:at'<b.length:=by omega
 have hR:(rws eT b)[at']?.getD []=eT b[at']:=rws_at hlt
 have hget:(b[at']?).getD 0=b[at']:=by rw[List.getElem?_eq_getElem hlt]; rfl
 have hd:decF b at'=if zf4 b[at'].val=0 then(ins0,40) else if b.length-at'<zf4 b[at'].val then(ins0,2) else if b[at'].val=2∧1<(decIn b at' b[at']).a then(ins0,5) else(decIn b at' b[at'],0):=by
  rw[decF,if_neg h1,if_neg h2,hget]
 rw[hd]
 clear hd hget
 generalize b[at']=op at *
 have hsz:=sizeOp_le op.val
 have hso:zf4 op.val≠0→zf4 op.val=1+(wid op.val).1+(wid op.val).2:=fun h=>by
  unfold zf4 at h ⊢; split
  ·rename_i h'; rw[if_pos h'] at h; exact absurd rfl h
  ·rfl
 have hwl:=wid_le op.val
 have wS:IntKind.wrap .i64 ((b.length:Int)-at')=(b.length:Int)-at':=zc3 (by omega) (by omega)
 have b0:(0:Int)≤at'∧(at':Int)<b.length:=by omega
 simp -implicitDefEqProofs only[go_sem,hT,zb7,zb1,za2,za5,n1,n2,g0,q1,q2,hR,eT,eT_len]
 refine⟨b0, ?_⟩
 refine za3 (refSize74 op) ?_
 by_cases h3:zf4 op.val=0
 ·have q3:((zf4 op.val:Int)=0)=True:=by simp; omega
  rw[if_pos h3]
  simp -implicitDefEqProofs only[go_sem,hT,n1,n2,q3,bYfaD0]
  all_goals exact DLe.refl _
 have q3:((zf4 op.val:Int)=0)=False:=by simp; omega
 rw[if_neg h3]
 by_cases h4:b.length-at'<zf4 op.val
 ·have q4:((b.length:Int)-at'<zf4 op.val)=True:=by simp; omega
  rw[if_pos h4]
  simp -implicitDefEqProofs only[go_sem,hT,n1,n2,q3,wS,q4,bYfaD0]
  all_goals exact DLe.refl _
 have q4:((b.length:Int)-at'<zf4 op.val)=False:=by simp; omega
 rw[if_neg h4]
 have hs:=hso h3
 have w1:IntKind.wrap .i64 ((at':Int)+1)=((at'+1:Nat):Int):=by rw[zc3 (by omega) (by omega)]; simp
 have w2:IntKind.wrap .i64 (((at'+1:Nat):Int)+(wid op.val).1)=((at'+1+(wid op.val).1:Nat):Int):=by rw[zc3 (by omega) (by omega)]; simp
 have t1:=refTake64 (b.drop (at'+1)) .no (wid op.val).1 hwl.1 (by rw[List.length_drop]; omega)
 have t2:=refTake64 (b.drop (at'+1+(wid op.val).1)) .no (wid op.val).2 (by omega) (by rw[List.length_drop]; omega)
 have b1:(0:Int)≤((at'+1:Nat):Int)∧((at'+1:Nat):Int)≤b.length:=by omega
 have b2:(0:Int)≤((at'+1+(wid op.val).1:Nat):Int)∧((at'+1+(wid op.val).1:Nat):Int)≤b.length:=by omega
 obtain⟨A,hA⟩:∃A,opdB ((b.drop (at'+1)).take (wid op.val).1)=A:=⟨_,rfl⟩
 obtain⟨B,hB⟩:∃B,opdB ((b.drop (at'+1+(wid op.val).1)).take (wid op.val).2)=B:=⟨_,rfl⟩
 have hdi:decIn b at' op=⟨at',op,A,B⟩:=by rw[decIn,hA,hB]
 rw[hdi]
 rw[hA] at t1
 rw[hB] at t2
 simp -implicitDefEqProofs only[go_sem,hT,zb7,zb1,za2,za5,n1,n2,q3,wS,q4]
 refine za3 (wide113 op) ?_
 simp -implicitDefEqProofs only[go_sem,hT,zb7,zb1,za2,za5,n1,n2,w1,w2,rws_take,rws_drop,List.take_length]
 refine⟨⟨by omega,rows_len eT_len b⟩,za3 t1 ?_⟩
 simp -implicitDefEqProofs only[go_sem,hT,zb7,zb1,za2,za5,n1,n2,w1,w2,rws_take,rws_drop,List.take_length]
 refine⟨⟨by omega,rows_len eT_len b⟩,za3 t2 ?_⟩
 have j2:(eIn ⟨at',op,A,B⟩)[2]? =some (.int .i64 A):=rfl
 simp -implicitDefEqProofs only[go_sem,hT,zb7,zb1,za2,za5,n1,n2]
 intro b11 m1 m2 m3 m4
 have hfold:[D.int .i64 at',D.int .u8 op.val,D.int .i64 A,D.int .i64 B]=eIn ⟨at',op,A,B⟩:=rfl
 by_cases h5:op.val=2
 ·have q5:((op.val:Int)=2)=True:=by simp; omega
  by_cases h6:1<A
  ·have q6:(1<A)=True:=by simp[h6]
   rw[if_pos ⟨h5,h6⟩]
   simp -implicitDefEqProofs only[go_sem,hT,n1,n2,m1,m2,m3,m4,q5,q6,hfold,j2,bYfaD1]
   all_goals exact DLe.refl _
  ·have q6:(1<A)=False:=by simp; omega
   rw[if_neg (fun h=>h6 h.2)]
   simp -implicitDefEqProofs only[go_sem,hT,n1,n2,m1,m2,m3,m4,q5,q6,hfold,j2,bYfaD1]
   all_goals exact DLe.refl _
 ·have q5:((op.val:Int)=2)=False:=by simp; omega
  rw[if_neg (fun h=>h5 h.1)]
  simp -implicitDefEqProofs only[go_sem,hT,n1,n2,m1,m2,m3,m4,q5,hfold,j2,bYfaD1]
  all_goals exact DLe.refl _
open Go.Proofs
theorem zf2 (i:Ins):(eIn i).drop 4=[]:=rfl
def bYfaE0:=aI @zb7 (aI @zb1 (aI @zf2 (aI @anD (aI @za2 (aI @za5 @zf6)))))
def bYfaE1:=aI @zb7 (aI @zb1 (aI @zf2 (aI @anD (aI @za2 (aI @za5 @eT_len)))))
def bYfaE2:=aI @zb7 (aI @zb1 (aI @zf2 (aI @anD (aI @za2 (aI @za5 @gdD)))))
theorem decode82 (b:List Ty) (o:Own) (at':Nat) (hl:b.length≤140737488355328) (ha:at'≤140737488355328):PCall Tryz.prog 82 [.slice o (rws eT b),.int .i64 at'] (.tup [.agg (eIn (decF b at').1),.int .i64 (decF b at').2]):=by
 have g0:((at':Int)<0)=False:=by simp
 refine F82.pcall' rfl fun T hT=> ?_
 simp -implicitDefEqProofs only[go_sem,c82,hT,bYfaE0]
 intro b4 b6 n1 n2
 by_cases h1:b.length<at'
 ·have q1:((b.length:Int)<at')=True:=by simp; omega
  rw[decF,if_pos h1]
  simp -implicitDefEqProofs only[go_sem,hT,n1,n2,g0,q1,bYfaE0]
  all_goals exact DLe.refl _
 have q1:((b.length:Int)<at')=False:=by simp; omega
 by_cases h2:b.length=at'
 ·have q2:((at':Int)=b.length)=True:=by simp; omega
  rw[decF,if_neg h1,if_pos h2]
  simp -implicitDefEqProofs only[go_sem,hT,n1,n2,g0,q1,q2,bYfaE0]
  all_goals exact DLe.refl _
 have q2:((at':Int)=b.length)=False:=by simp; omega
 have hlt:at'<b.length:=by omega
 have hR:(rws eT b)[at']?.getD []=eT b[at']:=rws_at hlt
 have hget:(b[at']?).getD 0=b[at']:=by rw[List.getElem?_eq_getElem hlt]; rfl
 have hd:decF b at'=if zf4 b[at'].val=0 then(ins0,40) else if b.length-at'<zf4 b[at'].val then(ins0,2) else if b[at'].val=2∧1<(decIn b at' b[at']).a then(ins0,5) else(decIn b at' b[at'],0):=by
  rw[decF,if_neg h1,if_neg h2,hget]
 rw[hd]
 clear hd hget
 generalize b[at']=op at *
 have hsz:=sizeOp_le op.val
 have hso:zf4 op.val≠0→zf4 op.val=1+(wid op.val).1+(wid op.val).2:=fun h=>by
  unfold zf4 at h ⊢; split
  ·rename_i h'; rw[if_pos h'] at h; exact absurd rfl h
  ·rfl
 have hwl:=wid_le op.val
 have wS:IntKind.wrap .i64 ((b.length:Int)-at')=(b.length:Int)-at':=zc3 (by omega) (by omega)
 have b0:(0:Int)≤at'∧(at':Int)<b.length:=by omega
 simp -implicitDefEqProofs only[go_sem,hT,n1,n2,g0,q1,q2,hR,eT,bYfaE1]
 refine⟨b0, ?_⟩
 refine za3 (size125 op) ?_
 by_cases h3:zf4 op.val=0
 ·have q3:((zf4 op.val:Int)=0)=True:=by simp; omega
  rw[if_pos h3]
  simp -implicitDefEqProofs only[go_sem,hT,n1,n2,q3,bYfaE0]
  all_goals exact DLe.refl _
 have q3:((zf4 op.val:Int)=0)=False:=by simp; omega
 rw[if_neg h3]
 by_cases h4:b.length-at'<zf4 op.val
 ·have q4:((b.length:Int)-at'<zf4 op.val)=True:=by simp; omega
  rw[if_pos h4]
  simp -implicitDefEqProofs only[go_sem,hT,n1,n2,q3,wS,hR,eT,bYfaE1]
  refine⟨b0,za3 (size125 op) ?_⟩
  simp -implicitDefEqProofs only[go_sem,hT,n1,n2,q4,bYfaE0]
  all_goals exact DLe.refl _
 have q4:((b.length:Int)-at'<zf4 op.val)=False:=by simp; omega
 rw[if_neg h4]
 have hs:=hso h3
 have w1:IntKind.wrap .i64 ((at':Int)+1)=((at'+1:Nat):Int):=by rw[zc3 (by omega) (by omega)]; simp
 have b1:(0:Int)≤((at'+1:Nat):Int)∧((at'+1:Nat):Int)≤b.length:=by omega
 obtain⟨A,hA⟩:∃A,opdB ((b.drop (at'+1)).take (wid op.val).1)=A:=⟨_,rfl⟩
 obtain⟨B,hB⟩:∃B,opdB ((b.drop (at'+1+(wid op.val).1)).take (wid op.val).2)=B:=⟨_,rfl⟩
 have hdi:decIn b at' op=⟨at',op,A,B⟩:=by rw[decIn,hA,hB]
 rw[hdi]
 have t1:=fun bb o=>take127 (b.drop (at'+1)) o (wid op.val).1 bb (wid_vals op.val).1 (by rw[List.length_drop]; omega)
 have t2:=fun bb o=>take127 (b.drop (at'+1+(wid op.val).1)) o (wid op.val).2 bb (by have:=(wid_vals op.val).2; omega) (by rw[List.length_drop]; omega)
 rw[List.drop_drop] at t1
 rw[hA] at t1
 rw[hB] at t2
 simp -implicitDefEqProofs only[go_sem,hT,n1,n2,q3,wS,hR,eT,bYfaE1]
 refine⟨b0,za3 (size125 op) ?_⟩
 simp -implicitDefEqProofs only[go_sem,hT,n1,n2,q4,hR,eT,bYfaE1]
 refine⟨b0,fun b7 m1 m2 m3 m4=> ?_⟩
 simp -implicitDefEqProofs only[go_sem,hT,zb7,zb1,zf2,anD,za2,za5,n1,n2,m1,m2,m3,m4,w1,rws_take,rws_drop,List.take_length]
 refine⟨⟨by omega,rows_len eT_len b⟩,fun b8 k1 k2 k3 k4 k5 k6=> ?_⟩
 simp -implicitDefEqProofs only[go_sem,hT,n1,n2,m1,m2,m3,m4,k1,k2,k3,k4,k5,k6,bYfaE2]
 refine za3 (widths152 op) ?_
 simp -implicitDefEqProofs only[go_sem,hT,zb7,zb1,zf2,anD,za2,za5,n1,n2,m1,m2,m3,m4,k1,k2,k3,k4,k5,k6]
 refine callB_box (b:=b8) (by simp[St.set]) rfl (t1 b8 .no) ?_
 simp -implicitDefEqProofs only[go_sem,hT,n1,n2,m1,m2,m3,m4,k1,k2,k3,k4,k5,k6,bYfaE2]
 refine callB_box (b:=b8) (by simp[St.set,k1]) rfl (t2 b8 .no) ?_
 simp -implicitDefEqProofs only[go_sem,hT,n1,n2,m1,m2,m3,m4,k1,k2,k3,k4,k5,k6,bYfaE2]
 by_cases h5:op.val=2
 ·have q5:((op.val:Int)=2)=True:=by simp; omega
  by_cases h6:1<A
  ·have q6:(1<A)=True:=by simp[h6]
   rw[if_pos ⟨h5,h6⟩]
   simp -implicitDefEqProofs only[go_sem,hT,n1,n2,m1,m2,m3,m4,k1,k2,k3,k4,k5,k6,q5,q6,bYfaE2]
   all_goals exact DLe.refl _
  ·have q6:(1<A)=False:=by simp; omega
   rw[if_neg (fun h=>h6 h.2)]
   simp -implicitDefEqProofs only[go_sem,hT,n1,n2,m1,m2,m3,m4,k1,k2,k3,k4,k5,k6,q5,q6,bYfaE2]
   all_goals exact DLe.refl _
 ·have q5:((op.val:Int)=2)=False:=by simp; omega
  rw[if_neg (fun h=>h5 h.1)]
  simp -implicitDefEqProofs only[go_sem,hT,n1,n2,m1,m2,m3,m4,k1,k2,k3,k4,k5,k6,q5,bYfaE2]
  all_goals exact DLe.refl _
open Go.Proofs
structure Ey where
 pos:Int
 dead:Bool
 fr:Fr
def eEy (e:Ey):List D:= .int .i64 e.pos:: .bool e.dead::eFr e.fr
theorem zb5 (e:Ey):(eEy e).length=28:=by simp[eEy,za6]
theorem za9 (e:Ey):(eEy e).take 28=eEy e:=List.take_of_length_le (by rw[zb5]; exact Nat.le_refl _)
theorem ey_0 (e:Ey):(eEy e)[0]? =some (.int .i64 e.pos):=rfl
theorem ey_1 (e:Ey):(eEy e)[1]? =some (.bool e.dead):=rfl
def bt (b:List Ty) (i:Nat):Nat:=((b[i]?).getD 0).val
open Go.Proofs
open Go.Proofs
open Go.Proofs
open Go.Proofs
theorem zb8 {r o:Nat}:nilcD (.ptr r o)=some (.ptr r o):=rfl
open Go.Proofs
open Go.Proofs
end Go.AL
namespace Go.AL
def psOf (e:En):List Ty:=((e.sgs[e.fn.toNat]?).map (·.ps)).getD []
end Go.AL
namespace Go.AL
theorem decF_ok {b:List Ty} {p:Nat} (h:(decF b p).2=0):p<b.length∧(decF b p).1=decIn b p ((b[p]?).getD 0)∧1≤zf4 (decF b p).1.op.val∧p+zf4 (decF b p).1.op.val≤b.length:=by
 unfold decF at h ⊢
 split; · rename_i h1; rw[if_pos h1] at h; simp at h
 rename_i h1; rw[if_neg h1] at h
 split; · rename_i h2; rw[if_pos h2] at h; simp at h
 rename_i h2; rw[if_neg h2] at h
 split; · rename_i h3; rw[if_pos h3] at h; simp at h
 rename_i h3; rw[if_neg h3] at h
 split; · rename_i h4; rw[if_pos h4] at h; simp at h
 rename_i h4; rw[if_neg h4] at h
 split; · rename_i h5; rw[if_pos h5] at h; simp at h
 refine⟨by omega,rfl, ?_, ?_⟩
 ·show 1≤zf4 ((b[p]?).getD 0).val; omega
 ·show p+zf4 ((b[p]?).getD 0).val≤b.length; omega
end Go.AL
