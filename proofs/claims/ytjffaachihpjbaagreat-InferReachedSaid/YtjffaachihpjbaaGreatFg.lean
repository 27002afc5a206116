import Derived.Test.YtjffaachihpjbaaGreatFf
set_option linter.unusedSimpArgs false
set_option linter.unusedVariables false
set_option maxRecDepth 100000
set_option linter.defProp false
namespace Go.AL
open Go.Proofs
theorem lineF_lt {l:List Cl}:∀{k:Nat} {c:Int} {n:Nat},n∈lineF l k c→n<l.length
 |0,c,n,h=>by simp[lineF] at h
 |k+1,c,n,h=>by
  unfold lineF at h
  split at h
  ·rename_i hc
   rcases List.mem_cons.1 h with rfl|h
   ·exact hc.2
   ·exact lineF_lt h
  ·cases h
theorem fieldsOn_snoc {l:List Cl} {L:List Nat} {n:Nat} (h:n<l.length):zf8 l (L++[n])=zf8 l L++l[n].fields:=by
 simp[zf8,fieldsAt,h]
theorem fieldsOn_drop_le {l:List Cl} {L:List Nat} (k:Nat):(zf8 l (L.drop k).reverse).length≤(zf8 l L.reverse).length:=by
 rw[fieldsOn_len,fieldsOn_len]
 conv=>rhs; rw[←List.take_append_drop k L]
 simp only[zf8,List.flatMap_append,List.length_append]; omega
theorem toI_at {L:List Nat} {i:Nat} (h:i<L.length):(rws eI (toI L))[i]? =some [.int .i64 (L[i]:Int)]:=by
 simp[toI,rws,eI,h]
theorem refFields114 (l:List Cl) (o:Own) (c:Int) (hl:l.length*48≤140737488355328) (hf:(zf8 l (lineR l c).reverse).length*24≤140737488355328):
  PCall Tryz.prog 95 [.slice o (rws eC l),.int .i64 c] (.slice .no (rws eF (zf8 l (lineR l c).reverse))):=by
 refine F95.pcall' rfl fun T hT=> ?_
 simp -implicitDefEqProofs only[go_sem,mmB,c95,hT]
 refine za3 (line121 l o c hl) ?_
 obtain⟨L,hL⟩:∃L,lineR l c=L:=⟨_,rfl⟩
 have hlt:∀n∈L,n<l.length:=fun n hn=>lineF_lt (by rw[←hL] at hn; exact hn)
 have hLl:L.length≤l.length+1:=by rw[←hL]; exact lineF_len
 rw[hL] at hf ⊢
 have hlen:(toI L).length=L.length:=by simp[toI]
 simp -implicitDefEqProofs only[go_sem,mmB,hT,hlen]
 refine loopL F95 (fun x:Nat×Option Nat=>[(0,.slice o (rws eC l)),(5,.slice .no (rws eI (toI L))),(7,.int .i64 ((x.1:Int)-1)),(6,grD 2 x.2 (rws eF (zf8 l (L.drop x.1).reverse)))]) (fun x=>grS 2 (zf8 l (L.drop x.1).reverse).length x.2 {})
  (fun x=>x.1≤L.length∧(x.2=none→(zf8 l (L.drop x.1).reverse).length=0)) (fun x=>x.1) (L.length,none)
  ⟨Nat.le_refl _,fun _=>by simp[zf8]⟩ ?_ (St.le.refl _) ?_
 ·simp -implicitDefEqProofs only[go_sem,mmB,hT,hlen]
  refine⟨?_, ?_⟩
  ·rw[zb7 (by omega) (by omega)]
  ·simp[zf8,rws,grD]
 rintro⟨k,ob⟩ ⟨hk,hn⟩ T hT
 simp only at hk hn hT ⊢
 by_cases h:k=0
 ·subst h
  have h1:((0:Int)≤(0:Nat)-1)=False:=by simp
  simp -implicitDefEqProofs only[go_sem,mmB,hT,h1]
  exact grD_le
 ·obtain⟨i,rfl⟩:∃i,k=i+1:=⟨k-1,by omega⟩
  have h1:((i+1:Nat):Int)-1=i:=by omega
  have h2:((0:Int)≤i)=True:=by simp
  have hi:i<L.length:=by omega
  have hn':L[i]<l.length:=hlt _ (by simp)
  rw[h1] at hT
  simp -implicitDefEqProofs only[go_sem,mmB,hT,h2,toI_at hi,hlen,rws_at hn',eC,eC_len]
  refine⟨by omega,by omega, ?_⟩
  have hsnoc:zf8 l (L.drop i).reverse=zf8 l (L.drop (i+1)).reverse++l[L[i]].fields:=by
   rw[List.drop_eq_getElem_cons hi,List.reverse_cons,fieldsOn_snoc hn']
  have hle:=fieldsOn_drop_le (l:=l) (L:=L) i
  have hsl:=congrArg List.length hsnoc
  rw[List.length_append] at hsl
  refine app_gr' Tryz.sli126 Tryz.sz189 Tryz.by189 Tryz.zero189 rfl (n:=(zf8 l (L.drop (i+1)).reverse).length) (m:=l[L[i]].fields.length) (by rw[za1]) (by rw[za1]) (St.le.refl _) grN_nil hn (by simp[rws,eF_len]) (by omega) fun o' σ' hbox hle' _ hno=> ?_
  simp -implicitDefEqProofs only[go_sem,mmB,hT]
  refine⟨(i,o'),⟨by omega,by rw[hsl]; exact hno⟩,by simp,⟨?_, ?_⟩,by rw[hsl]; exact hle'⟩
  ·rw[zb7 (by omega) (by omega)]
  ·rw[hsnoc]; simp[rws]
open Go.Proofs
def Wide (l:List Cl):Prop:=l.length*48≤140737488351232∧∀x∈l,x.fields.length*24≤140737488351232
theorem any_take {l:List Cl} {s:ByteArray} {i:Nat} (h:i<l.length):((l.take (i+1)).any fun y=>decide (y.name=s))=(((l.take i).any fun y=>decide (y.name=s))||decide (l[i].name=s)):=by
 rw[List.take_succ_eq_append_getElem h,List.any_append]; simp
theorem rws_take {α:Type} {enc:α→List D} {l:List α} {j:Nat}:(rws enc l).take j=rws enc (l.take j):=by simp[rws]
theorem refFault108 (l:List Cl) (o:Own) (c:Nat) (hc:c<l.length) (hw:Wide l) (hr:Right isWordB l c):
  PCall Tryz.prog 105 [.slice o (rws eC l),.int .i64 c] (.int .i64 (classErr isWordB l c l[c])):=by
 refine F105.pcall' rfl fun T hT=> ?_
 have hwc:=hw.2 l[c] (by simp)
 have hw1:=hw.1
 generalize hx:l[c]=x at hwc
 have hR:(rws eC l)[c]?.getD []=eC x:=by rw[rws_at hc,hx]
 simp -implicitDefEqProofs only[go_sem,c105,hT,hR,eC,eC_len]
 refine⟨by omega,fun b=> ?_⟩
 simp -implicitDefEqProofs only[go_sem,hT,hR,eC,za4]
 refine br_split (fun h=> ?_) fun h=> ?_
 ·have h:32≤c:=by simp at h; omega
  exact DLe.of_eq (by simp[classErr,h])
 have h32:¬32≤c:=by simp at h; omega
 refine za3 (isName148 x.name) ?_
 cases hN:isNameB x.name
 ·simp -implicitDefEqProofs only[go_sem,hT,hR,eC,za4]
  exact DLe.of_eq (by simp[classErr,h32,hN])
 simp -implicitDefEqProofs only[go_sem,hT,hR,eC,za4]
 refine za3 (isWord149 x.name) ?_
 cases hW:isWordB x.name
 case true=>
  simp -implicitDefEqProofs only[go_sem,hT,hR,eC,za4]
  exact DLe.of_eq (by simp[classErr,h32,hW])
 simp -implicitDefEqProofs only[go_sem,hT,hR,eC,za4]
 refine loopL F105 (fun i:Nat=>[(0,.slice o (rws eC l)),(1,.int .i64 c),(5,.ptr b 0),(6,.int .i64 i)]) (fun _=>({}:St).set b (eC x)) (fun i=>i≤c∧((l.take i).any fun y=>decide (y.name=x.name))=false) (fun i=>c-i) 0
  ⟨Nat.zero_le _,rfl⟩ ?_ (St.le.refl _) ?_
 ·simp -implicitDefEqProofs only[go_sem,hT,Int.ofNat_zero]
 rintro i ⟨hi,hok⟩ T hT
 by_cases h:i<c
 ·have h1:((i:Int)<c)=True:=by simp; omega
  have hil:i<l.length:=by omega
  simp -implicitDefEqProofs only[go_sem,hT,h1,rws_at hil,eC,eC_len]
  refine⟨by omega, ?_⟩
  refine br_split (fun h'=> ?_) fun h'=> ?_
  ·have h':l[i].name=x.name:=of_decide_eq_true h'
   have hany:((l.take c).any fun y=>decide (y.name=x.name))=true:=by
    rw[List.any_eq_true]; exact⟨l[i],List.mem_take_iff_getElem.2 ⟨i,by omega,rfl⟩,by simpa using h'⟩
   exact DLe.of_eq (by simp[classErr,h32,hN,hW,hany])
  ·refine⟨i+1,⟨by omega,by rw[any_take hil,hok,h']; rfl⟩,by omega, ?_,St.le.refl _⟩
   rw[zb7 (by omega) (by omega)]; simp
 have h1:((i:Int)<c)=False:=by simp; omega
 obtain rfl:i=c:=by omega
 have pre:∀e:Nat,(if x.parent < -1∨(i:Int)≤x.parent then 21 else fieldsErr l.length (namesUp l x.parent) [] x.fields)=e→classErr isWordB l i x=e:=fun e he=>by
  rw[classErr,if_neg h32,if_neg (by simp[hN,hW]),if_neg (by simp[hok]),he]
 by_cases hp:x.parent < -1∨(i:Int)≤x.parent
 ·have hp':(decide (x.parent < -1)||decide ((i:Int)≤x.parent))=true:=by simpa using hp
  simp -implicitDefEqProofs only[go_sem,mmB,hT,h1,eC,hp']
  refine DLe.of_eq ?_
  rw[pre 21 (if_pos hp)]; rfl
 have hp':(decide (x.parent < -1)||decide ((i:Int)≤x.parent))=false:=by simpa using hp
 replace pre:=fun e he=>pre e ((if_neg hp).trans he)
 simp -implicitDefEqProofs only[go_sem,mmB,hT,h1,eC,hp']
 have hpi:x.parent<(i:Int):=by omega
 obtain⟨all,hall⟩:∃all,zf8 l (lineR l x.parent).reverse=all:=⟨_,rfl⟩
 have hA:namesRef l x.parent=all.map Fd.name:=by rw[namesRef,hall]
 have hlen32:all.length≤32:=by
  have:=namesUp_len hr x.parent hpi
  rw[←hall,fieldsOn_len,lineR_up hr.falls (by omega) hpi]
  simpa[namesUp] using this
 replace pre:∀e:Nat,fieldsErr l.length (all.map Fd.name) [] x.fields=e→classErr isWordB l i x=e:=fun e he=>pre e (by rw[←namesRef_eq hr (by omega) hpi,hA]; exact he)
 refine za3 (refFields114 l o x.parent (by omega) (by rw[hall]; omega)) ?_
 rw[hall]
 simp -implicitDefEqProofs only[go_sem,mmB,hT,h1,eC,hp']
 refine loopL F105 (fun j:Nat=>[(0,.slice o (rws eC l)),(1,.int .i64 i),(5,.ptr b 0),(7,.slice .no (rws eF all)),(8,.int .i64 j)]) (fun _=>({}:St).set b (eC x))
  (fun j=>j≤x.fields.length∧fieldsErr l.length (all.map Fd.name) [] x.fields=fieldsErr l.length (all.map Fd.name) ((x.fields.take j).map Fd.name) (x.fields.drop j)) (fun j=>x.fields.length-j) 0
  ⟨Nat.zero_le _,rfl⟩ ?_ (St.le.refl _) ?_
 ·simp -implicitDefEqProofs only[go_sem,hT,Int.ofNat_zero]
 clear hT T
 rintro j ⟨hj,heq⟩ T hT
 by_cases h2:j<x.fields.length
 ·have h3:((j:Int)<x.fields.length)=True:=by simp; omega
  generalize hf:x.fields[j]=f
  have hRf:(rws eF x.fields)[j]?.getD []=eF f:=by rw[rws_at h2,hf]
  have hstep:∀e,(if isNameB f.name=false then 6 else if hasN (all.map Fd.name) f.name||hasN ((x.fields.take j).map Fd.name) f.name then 20 else if storedN l.length f.ty=false then 22 else fieldsErr l.length (all.map Fd.name) ((x.fields.take j).map Fd.name++[f.name]) (x.fields.drop (j+1)))=e→
    fieldsErr l.length (all.map Fd.name) [] x.fields=e:=fun e he=>by
   rw[heq,List.drop_eq_getElem_cons h2,hf,fieldsErr,he]
  simp -implicitDefEqProofs only[go_sem,hT,h3,eC,eC_len,hRf,eF,eF_len]
  refine⟨by omega,fun b2 hb2 hb3=> ?_⟩
  simp -implicitDefEqProofs only[go_sem,hT,hb2,hb3,eC,eF,za4]
  refine za3 (isName148 f.name) ?_
  cases hN2:isNameB f.name
  ·simp -implicitDefEqProofs only[go_sem,hT,hb2,hb3,eC,eF,za4]
   refine DLe.of_eq ?_
   rw[pre 6 (hstep 6 (by rw[hN2]; rfl))]; rfl
  rw[hN2] at hstep
  simp -implicitDefEqProofs only[go_sem,hT,hb2,hb3,eC,eF,za4]
  refine za3 (has150 all .no f.name (by omega)) ?_
  cases hH:hasN (all.map Fd.name) f.name
  case true=>
   simp -implicitDefEqProofs only[go_sem,hT,hb2,hb3,eC,eF,za4]
   refine DLe.of_eq ?_
   rw[pre 20 (hstep 20 (by rw[hH]; rfl))]; rfl
  rw[hH] at hstep
  simp -implicitDefEqProofs only[go_sem,hT,hb2,hb3,eC,eF,za4,rws_take]
  refine⟨⟨⟨by omega,by omega⟩,by simp[rws,eF_len]⟩, ?_⟩
  refine za3 (has150 (x.fields.take j) .no f.name (by simp; omega)) ?_
  cases hH2:hasN ((x.fields.take j).map Fd.name) f.name
  case true=>
   simp -implicitDefEqProofs only[go_sem,hT,hb2,hb3,eC,eF,za4]
   refine DLe.of_eq ?_
   rw[pre 20 (hstep 20 (by rw[hH2]; rfl))]; rfl
  rw[hH2] at hstep
  simp -implicitDefEqProofs only[go_sem,hT,hb2,hb3,eC,eF,za4]
  refine za3 (refStored109 l o f.ty) ?_
  cases hS:storedN l.length f.ty
  ·simp -implicitDefEqProofs only[go_sem,hT,hb2,hb3,eC,eF,za4]
   refine DLe.of_eq ?_
   rw[pre 22 (hstep 22 (by rw[hS]; rfl))]; rfl
  rw[hS] at hstep
  simp -implicitDefEqProofs only[go_sem,hT,hb2,hb3,eC,eF,za4]
  refine⟨j+1,⟨by omega, ?_⟩,by omega, ?_, ?_⟩
  ·rw[hstep _ rfl,List.take_succ_eq_append_getElem h2,hf]
   simp
  ·rw[zb7 (by omega) (by omega)]; simp
  ·exact le_add (by simp[has_set,has_nil]; omega)
 ·have h3:((j:Int)<x.fields.length)=False:=by simp; omega
  have hj':j=x.fields.length:=by omega
  subst hj'
  rw[List.drop_length,List.take_length] at heq
  simp -implicitDefEqProofs only[go_sem,hT,h3,eC,eC_len]
  refine br_split (fun h=> ?_) fun h=> ?_
  ·rw[zb7 (by omega) (by omega)] at h
   refine DLe.of_eq ?_
   rw[pre 4 (by rw[heq,fieldsErr,if_pos]; simp at h ⊢; omega)]; rfl
  ·rw[zb7 (by omega) (by omega)] at h
   refine DLe.of_eq ?_
   rw[pre 0 (by rw[heq,fieldsErr,if_neg]; simp at h ⊢; omega)]; rfl
open Go.Proofs
theorem refCheck69 (l:List Cl) (o:Own) (hw:Wide l):PCall Tryz.prog 76 [.slice o (rws eC l)] (.tup [.int .i64 (checkL isWordB l).1,.int .i64 (checkL isWordB l).2]):=by
 have hw1:=hw.1
 refine F76.pcall' rfl fun T hT=> ?_
 simp -implicitDefEqProofs only[go_sem,c76,hT]
 refine loopL F76 (fun i:Nat=>[(0,.slice o (rws eC l)),(4,.int .i64 i)]) (fun _=>{}) (fun i=>i≤l.length∧Right isWordB l i∧checkL isWordB l=checkFrom isWordB l (l.length-i) i) (fun i=>l.length-i) 0
  ⟨Nat.zero_le _,fun i h h'=>by omega,rfl⟩ ?_ (St.le.refl _) ?_
 ·simp -implicitDefEqProofs only[go_sem,hT,Int.ofNat_zero]
 rintro i ⟨hi,hr,heq⟩ T hT
 by_cases h:i<l.length
 ·have h1:((i:Int)<l.length)=True:=by simp; omega
  simp -implicitDefEqProofs only[go_sem,hT,h1]
  refine za3 (refFault108 l o i h hw hr) ?_
  rw[show l.length-i=(l.length-(i+1))+1 by omega,checkFrom,dif_pos h] at heq
  by_cases he:classErr isWordB l i l[i]=0
  ·rw[if_pos he] at heq
   simp -implicitDefEqProofs only[go_sem,hT,h1,he]
   refine⟨i+1,⟨by omega,fun j hj hj'=> ?_,heq⟩,by omega, ?_,St.le.refl _⟩
   ·rcases Nat.lt_or_eq_of_le (Nat.le_of_lt_succ hj') with hj'|rfl
    ·exact hr j hj hj'
    ·exact he
   ·rw[zb7 (by omega) (by omega)]; simp
  ·rw[if_neg he] at heq
   have h2:(((classErr isWordB l i l[i]:Nat):Int)=0)=False:=by simp; omega
   simp -implicitDefEqProofs only[go_sem,hT,h1,h2]
   rw[heq]
   exact DLe.refl _
 ·have h1:((i:Int)<l.length)=False:=by simp; omega
  rw[show l.length-i=0 by omega,checkFrom] at heq
  simp -implicitDefEqProofs only[go_sem,hT,h1]
  rw[heq]
  exact DLe.refl _
theorem idxFunc143 (xs:List Cl) (o:Own) (g:FuncId) (fi ca:List D) (p:Cl→Bool) (σ:St) (hl:xs.length≤140737488355328) (hp:Tests g fi ca (fun t:Cl=>D.agg (eC t)) p xs σ):
  RCall Tryz.prog 143 [.slice o (rws eC xs),.func (.func g) fi ca] σ fun d s'=>d= .int .i64 (idxOf p xs)∧s'=σ:=by
 refine F143.rcall rfl fun T hT=> ?_
 simp -implicitDefEqProofs only[go_sem,c143,hT]
 refine loopL F143 (fun i:Nat=>[(0,.slice o (rws eC xs)),(1,.func (.func g) fi ca),(7,.int .i64 xs.length),(8,.int .i64 i)]) (fun _=>σ) (fun i=>i≤xs.length∧idxFrom p xs 0=idxFrom p (xs.drop i) i) (fun i=>xs.length-i) 0
  ⟨Nat.zero_le _,rfl⟩ ?_ (St.le.refl _) ?_
 ·simp -implicitDefEqProofs only[go_sem,hT,Int.ofNat_zero]
 rintro i ⟨hi,heq⟩ T hT
 simp -implicitDefEqProofs only[go_sem,hT]
 refine br_split (fun h=> ?_) fun h=> ?_
 ·have h:i<xs.length:=by simpa using h
  simp -implicitDefEqProofs only[go_sem,hT,rws_at h,eC_len]
  refine⟨⟨by omega,by omega⟩, ?_⟩
  have ht:(eC xs[i]).take 3=eC xs[i]:=rfl
  rw[ht]
  refine callB_all (hp xs[i] (by simp)) ?_
  rintro d s' ⟨rfl,rfl⟩
  rw[idxFrom_drop h] at heq
  simp -implicitDefEqProofs only[go_sem,hT]
  refine br_split (fun h'=> ?_) fun h'=> ?_
  ·exact⟨_,_,DLe.refl _,St.le.refl _,by simp[idxOf,heq,h'],rfl⟩
  ·refine⟨i+1,⟨by omega,by simpa[h'] using heq⟩,by omega, ?_,St.le.refl _⟩
   rw[zb7 (by omega) (by omega)]
   simp
 ·have h:¬i<xs.length:=by simpa using h
  refine⟨_,_,DLe.refl _,St.le.refl _, ?_,rfl⟩
  rw[idxOf,heq,List.drop_of_length_le (by omega)]
  rfl
theorem contFunc102 (xs:List Cl) (o:Own) (g:FuncId) (fi ca:List D) (p:Cl→Bool) (σ:St) (hl:xs.length≤140737488355328) (hp:Tests g fi ca (fun t:Cl=>D.agg (eC t)) p xs σ):
  RCall Tryz.prog 111 [.slice o (rws eC xs),.func (.func g) fi ca] σ fun d s'=>d= .bool (xs.any p)∧s'=σ:=by
 refine F111.rcall rfl fun T hT=> ?_
 simp -implicitDefEqProofs only[go_sem,c111,hT]
 refine callB_all (idxFunc143 xs o g fi ca p σ hl hp) ?_
 rintro d s' ⟨rfl,rfl⟩
 simp -implicitDefEqProofs only[go_sem,hT,idxOf,idxFrom_ge]
 exact⟨_,_,DLe.refl _,St.le.refl _,by rw[D.bool.injEq,Bool.eq_iff_iff]; simp,rfl⟩
theorem same103 (x c:Cl) (b:Nat) (σ:St) (hb:σ.box b=some (eC c)):
  RCall Tryz.prog 112 [.agg (eC x),.ptr b 0] σ fun d s'=>d= .bool (decide (x.name=c.name))∧s'=σ:=by
 refine F112.rcall rfl fun T hT=> ?_
 simp -implicitDefEqProofs only[go_sem,c112,hT,eC]
 intro b' hb'
 have hne:¬b=b':=fun he=>by subst he; exact hb' (.inl (by rw[hb]; simp))
 simp -implicitDefEqProofs only[go_sem,hT,hb,hne,eC]
 exact⟨_,σ,DLe.refl _,le_add hb',rfl,rfl⟩
theorem climb144' (l:List Cl) (o:Own) (g:FuncId) (fi ca:List D) {α:Type} (I:α→St) (Step:α→Nat→Bool→α→Prop) (ok:α→List Nat→Prop)
  (hl:l.length≤140737488355328)
  (hdo:∀a (c:Nat) rest,c<l.length→ok a (c::rest)→RCall Tryz.prog g (fi++[.int .i64 c]++ca) (I a) fun d s'=>∃b a',d= .bool b∧s'=I a'∧Step a c b a'∧ok a' rest) (a₀:α) (c₀:Int) (h₀:ok a₀ (upI l c₀)):
  RCall Tryz.prog 144 [.slice o (rws eC l),.int .i64 c₀,.func (.func g) fi ca] (I a₀) fun d s'=>d= .tup []∧∃a' r,s'=I a'∧Runs Step (upI l c₀) a₀ a'∧ok a' r:=by
 refine F144.rcall rfl fun T hT=> ?_
 simp -implicitDefEqProofs only[go_sem,c144,hT]
 refine loopL F144 (fun x:α×Int=>[(0,.slice o (rws eC l)),(1,.int .i64 x.2),(2,.func (.func g) fi ca)]) (fun x=>I x.1) (fun x=>ok x.1 (upI l x.2)∧∀a'',Runs Step (upI l x.2) x.1 a''→Runs Step (upI l c₀) a₀ a'') (fun x=>(x.2+1).toNat) (a₀,c₀)
  ⟨h₀,fun _ h=>h⟩ ?_ (St.le.refl _) ?_
 ·simp -implicitDefEqProofs only[go_sem,hT]
 rintro⟨a,c⟩ ⟨ho,hok⟩ T hT
 simp only at ho hok hT ⊢
 by_cases h0:0≤c
 ·by_cases h1:c<(l.length:Int)
  ·obtain⟨n,rfl⟩:∃n:Nat,c=n:=⟨c.toNat,by omega⟩
   have hn:n<l.length:=by omega
   simp -implicitDefEqProofs only[go_sem,hT,h0,h1]
   rw[upI_step hn] at hok ho
   refine callB_all (hdo a n _ hn ho) ?_
   rintro d s' ⟨b,a',rfl,rfl,hs,ho'⟩
   cases b
   ·simp -implicitDefEqProofs only[go_sem,hT]
    exact⟨_,_,DLe.refl _,St.le.refl _,rfl,a',_,rfl,hok a' ⟨false,a',hs,rfl⟩,ho'⟩
   ·simp -implicitDefEqProofs only[go_sem,hT,rws_at hn,eC_len,eC]
    refine⟨⟨by omega,by omega⟩, ?_⟩
    refine br_split (fun h=> ?_) fun h=> ?_
    ·have:¬l[n].parent<(n:Int):=by simpa using h
     rw[if_neg this] at hok ho'
     exact⟨_,_,DLe.refl _,St.le.refl _,rfl,a',_,rfl,hok a' ⟨true,a',hs,by simp[Runs]⟩,ho'⟩
    ·have:l[n].parent<(n:Int):=by simpa using h
     rw[if_pos this] at hok ho'
     refine⟨(a',l[n].parent),⟨ho',fun a'' hr=>hok a'' ⟨true,a',hs,by simpa using hr⟩⟩,by simp only; omega,rfl,St.le.refl _⟩
  ·simp -implicitDefEqProofs only[go_sem,hT,h0,h1]
   refine⟨_,_,DLe.refl _,St.le.refl _,rfl,a,_,rfl,hok a ?_,ho⟩
   rw[upI_out (by omega)]; rfl
 ·simp -implicitDefEqProofs only[go_sem,hT,h0]
  refine⟨_,_,DLe.refl _,St.le.refl _,rfl,a,_,rfl,hok a ?_,ho⟩
  rw[upI_neg (by omega)]; rfl
open Go.Proofs
def metB (b2 b5:Nat) (o:Own) (l:List Cl) (a:List ByteArray×Option Nat):St:=(({}:St).set b2 [.slice o (rws eC l)]).set b5 [grD 1 a.2 (rws eY a.1)]
def metS (b2 b5:Nat) (o:Own) (l:List Cl) (a:List ByteArray×Option Nat):St:=grS 1 a.1.length a.2 (metB b2 b5 o l a)
def metOk (b2 b5:Nat) (a:List ByteArray×Option Nat):Prop:=(a.2=none→a.1.length=0)∧∀b,a.2=some b→b≠b2∧b≠b5
section
variable {b2 b5 : Nat} {o : Own} {l : List Cl} {a : List ByteArray × Option Nat}
theorem metS_5:(metS b2 b5 o l a).box b5=some [grD 1 a.2 (rws eY a.1)]:=by simp[metS,metB,grS_boxa,St.set_box]
theorem metS_2 (h:b2≠b5):(metS b2 b5 o l a).box b2=some [.slice o (rws eC l)]:=by simp[metS,metB,grS_boxa,St.set_box,h]
theorem metS_fresh (h:b2≠b5) {x:Nat} (hx:¬(metS b2 b5 o l a).has x):¬b2=x∧¬b5=x:=
 ⟨fun e=>by subst e; exact hx (.inl (by rw[metS_2 h]; simp)),fun e=>by subst e; exact hx (.inl (by rw[metS_5]; simp))⟩
theorem metB_n (h:metOk b2 b5 a):grN a.2 (metB b2 b5 o l a):=fun b hb hin=>by
 obtain⟨h1,h2⟩:=h.2 b hb
 simp only[metB,has_set,has_nil,or_false] at hin
 omega
theorem metB_of {ob:Option Nat} (h:grN ob (metB b2 b5 o l a)) {names:List ByteArray} (h':ob=none→names.length=0):metOk b2 b5 (names,ob):=
 ⟨h',fun b hb=>⟨fun e=>h b hb (by simp[metB,has_set,e]),fun e=>h b hb (by simp[metB,has_set,e])⟩⟩
theorem metS_more {σ σ':St} {ob:Option Nat} {x:ByteArray} (hle:St.le (grS 1 (a.1.length+1) ob (metB b2 b5 o l a)) σ'):St.le (metS b2 b5 o l (a.1++[x],ob)) (σ'.set b5 [grD 1 ob (rws eY a.1++[[.str x]])]):=by
 have h:=le_set (b:=b5) (cs:=[grD 1 ob (rws eY (a.1++[x]))]) hle
 rw[grS_set,metB,za4] at h
 simp only[metS,metB,List.length_append,List.length_cons,List.length_nil,Nat.zero_add]
 rw[show rws eY a.1++[[D.str x]]=rws eY (a.1++[x]) by simp[rws,eY]]
 exact h
end
theorem names145 (l:List Cl) (o:Own) (b2 b5:Nat) (hne:b2≠b5) (c:Nat) (hc:c<l.length) (hw:Wide l) (a:List ByteArray×Option Nat) (ha:metOk b2 b5 a) (hl:a.1.length+l[c].fields.length≤32):
  RCall Tryz.prog 145 [.int .i64 c,.ptr b2 0,.ptr b5 0] (metS b2 b5 o l a) fun d s'=>d= .bool true∧∃ob,s'=metS b2 b5 o l (a.1++l[c].fields.map Fd.name,ob)∧metOk b2 b5 (a.1++l[c].fields.map Fd.name,ob):=by
 have hne':¬b5=b2:=fun e=>hne e.symm
 have hw1:=hw.1
 refine F145.rcall rfl fun T hT=> ?_
 simp -implicitDefEqProofs only[go_sem,c145,hT,metS_5,metS_2 hne,rws_at hc,eC,eC_len]
 refine⟨by omega, ?_⟩
 generalize hF:l[c].fields=F at hl
 refine loopL F145 (fun x:Nat×Option Nat=>[(1,.ptr b2 0),(2,.ptr b5 0),(11,.slice .no (rws eF F)),(12,.int .i64 F.length),(13,.int .i64 x.1)]) (fun x=>metS b2 b5 o l (a.1++(F.take x.1).map Fd.name,x.2))
  (fun x=>x.1≤F.length∧metOk b2 b5 (a.1++(F.take x.1).map Fd.name,x.2)) (fun x=>F.length-x.1) (0,a.2)
  ⟨Nat.zero_le _,by simpa using ha⟩ ?_ ?_ ?_
 ·simp -implicitDefEqProofs only[go_sem,hT,Int.ofNat_zero]
 ·simp only[List.take_zero,List.map_nil,List.append_nil]; exact St.le.refl _
 rintro⟨i,ob⟩ ⟨hi,hok⟩ T hT
 simp only at hi hok hT ⊢
 by_cases h:i<F.length
 ·have h1:((i:Int)<F.length)=True:=by simp; omega
  have hlen:(a.1++(F.take i).map Fd.name).length≤32:=by simp; omega
  generalize hN:a.1++(F.take i).map Fd.name=names at *
  simp -implicitDefEqProofs only[go_sem,hT,h1,rws_at h,eF,eF_len]
  refine⟨by omega,fun b6 hb6=> ?_⟩
  obtain⟨f1,f2⟩:=metS_fresh hne hb6
  simp -implicitDefEqProofs only[go_sem,hT,f1,f2,metS_5,metS_2 hne,frz]
  refine app_gr' Tryz.sli158 Tryz.sz9 Tryz.by9 Tryz.zero9 rfl (n:=names.length) (m:=1) (base:=metB b2 b5 o l (names,ob)) (by rw[za1]) rfl ?_ (metB_n hok) hok.1 (by simp) (by omega) fun o' σ' hbox hle hn hno=> ?_
  ·rw[za4]; exact le_add hb6
  simp -implicitDefEqProofs only[go_sem,hT,hbox,f1,f2,metS_5,metS_2 hne]
  refine⟨(i+1,o'),⟨by omega, ?_⟩,by omega, ?_, ?_⟩
  ·rw[List.take_succ_eq_append_getElem h,List.map_append,←List.append_assoc,hN]
   exact metB_of hn (by simpa using hno)
  ·rw[zb7 (by omega) (by omega)]; simp
  ·rw[List.take_succ_eq_append_getElem h,List.map_append,←List.append_assoc,hN]
   exact metS_more (a:=(names,ob)) (σ:=σ') hle
 ·have h1:((i:Int)<F.length)=False:=by simp; omega
  simp -implicitDefEqProofs only[go_sem,hT,h1]
  refine⟨_,_,DLe.refl _,St.le.refl _,rfl,ob, ?_, ?_⟩
  ·rw[List.take_of_length_le (by omega)]
  ·rw[List.take_of_length_le (by omega)] at hok; exact hok
open Go.Proofs
def metStep (l:List Cl) (a:List ByteArray×Option Nat) (c:Nat) (b:Bool) (a':List ByteArray×Option Nat):Prop:=b=true∧a'.1=a.1++(fieldsAt l c).map Fd.name
theorem met_runs {l:List Cl}:∀{L:List Nat} {a a':List ByteArray×Option Nat},Runs (metStep l) L a a'→a'.1=a.1++(zf8 l L).map Fd.name
 |[],a,a',h=>by simp only[Runs] at h; subst h; simp[zf8]
 |c::L,a,a'',⟨b,a',⟨hb,hs⟩,h⟩=>by
  rw[if_pos hb] at h
  rw[met_runs h,hs]
  simp[zf8]
theorem hasN_app {a b:List ByteArray} {x:ByteArray}:hasN (a++b) x=(hasN a x||hasN b x):=by simp[hasN]
theorem fields104 (l:List Cl) (o:Own) (c:Nat) (hc:c<l.length) (hw:Wide l) (hr:Right isWordB l c) (hp:l[c].parent<c):
  PCall Tryz.prog 113 [.slice o (rws eC l),.int .i64 c] (.int .i64 (fieldsErr l.length (namesUp l l[c].parent) [] l[c].fields)):=by
 have hw1:=hw.1
 have hwc:=hw.2 l[c] (by simp)
 refine F113.pcall' rfl fun T hT=> ?_
 simp -implicitDefEqProofs only[go_sem,c113,hT]
 intro b2 b5 h1 h2
 have hne:b2≠b5:=fun e=>by simp[e] at h1 h2
 have hne':¬b5=b2:=fun e=>hne e.symm
 have hne'':¬b2=b5:=hne
 simp -implicitDefEqProofs only[go_sem,hT,h1,h2,hne',hne'',rws_at hc,eC,eC_len]
 refine⟨by omega, ?_⟩
 have h0:namesUp l l[c].parent=(zf8 l (upI l l[c].parent)).map Fd.name:=rfl
 have h32:=namesUp_len hr l[c].parent hp
 refine callB_all (σ:=metS b2 b5 o l ([],none)) (climb144' l o 145 [] [.ptr b2 0,.ptr b5 0] (metS b2 b5 o l) (metStep l) (fun a L=>metOk b2 b5 a∧a.1.length+(zf8 l L).length≤32) (by omega) ?_ ([],none) l[c].parent ?_) ?_
 ·rintro a n rest hn ⟨ha,hlen⟩
  have hfa:zf8 l (n::rest)=l[n].fields++zf8 l rest:=by simp[zf8,fieldsAt,hn]
  rw[hfa,List.length_append] at hlen
  refine(names145 l o b2 b5 hne n hn hw a ha (by omega)).mono ?_
  rintro d s' ⟨rfl,ob,rfl,hok⟩
  exact⟨true,_,rfl,rfl,⟨rfl,by simp[fieldsAt,hn]⟩,hok,by simp; omega⟩
 ·refine⟨⟨fun _=>rfl,fun b hb=>by cases hb⟩, ?_⟩
  rw[h0,List.length_map] at h32
  simpa using h32
 rintro d s' ⟨rfl,⟨names,ob⟩,r,rfl,hruns,hok,_⟩
 have hnames:names=namesUp l l[c].parent:=by simpa[h0] using met_runs hruns
 rw[←hnames] at h32 ⊢
 clear hruns h0 hnames
 simp -implicitDefEqProofs only[go_sem,hT,metS_5,metS_2 hne,rws_at hc,eC,eC_len]
 refine⟨by omega, ?_⟩
 generalize hF:l[c].fields=F at hwc
 refine loopL F113 (fun x:Nat×Option Nat=>[(2,.ptr b2 0),(5,.ptr b5 0),(20,.slice .no (rws eF F)),(21,.int .i64 F.length),(22,.int .i64 x.1)]) (fun x=>metS b2 b5 o l (names++(F.take x.1).map Fd.name,x.2))
  (fun x=>x.1≤F.length∧metOk b2 b5 (names++(F.take x.1).map Fd.name,x.2)∧fieldsErr l.length names [] F=fieldsErr l.length names ((F.take x.1).map Fd.name) (F.drop x.1)) (fun x=>F.length-x.1) (0,ob)
  ⟨Nat.zero_le _,by simpa using hok,rfl⟩ ?_ ?_ ?_
 ·simp -implicitDefEqProofs only[go_sem,hT,Int.ofNat_zero]
 ·simp only[List.take_zero,List.map_nil,List.append_nil]; exact St.le.refl _
 clear hT T hok
 rintro⟨i,ob⟩ ⟨hi,hok,heq⟩ T hT
 simp only at hi hok heq hT ⊢
 by_cases h:i<F.length
 ·have h1:((i:Int)<F.length)=True:=by simp; omega
  generalize hf:F[i]=f
  have hRf:(rws eF F)[i]?.getD []=eF f:=by rw[rws_at h,hf]
  rw[List.drop_eq_getElem_cons h,hf,fieldsErr] at heq
  have hlen:(names++(F.take i).map Fd.name).length≤32+F.length:=by simp; omega
  have htake:names++(F.take (i+1)).map Fd.name=(names++(F.take i).map Fd.name)++[f.name]:=by
   rw[List.take_succ_eq_append_getElem h,hf]; simp
  have hown:(F.take (i+1)).map Fd.name=(F.take i).map Fd.name++[f.name]:=by
   rw[List.take_succ_eq_append_getElem h,hf]; simp
  have happ:hasN (names++(F.take i).map Fd.name) f.name=(hasN names f.name||hasN ((F.take i).map Fd.name) f.name):=hasN_app
  generalize hN:names++(F.take i).map Fd.name=met at *
  simp -implicitDefEqProofs only[go_sem,hT,h1,hRf,eF,eF_len]
  refine⟨by omega,fun b6 hb6=> ?_⟩
  obtain⟨f1,f2⟩:=metS_fresh hne hb6
  refine za3 (isName99 f.name) ?_
  cases hN2:isNameB f.name
  ·simp -implicitDefEqProofs only[go_sem,hT,f1,f2,metS_5,metS_2 hne]
   exact DLe.of_eq (by rw[heq,hN2]; rfl)
  rw[hN2] at heq
  simp -implicitDefEqProofs only[go_sem,hT,f1,f2,metS_5,metS_2 hne]
  refine za3 ((contains100 met .no f.name (by omega)).args (.cons grD_le (.cons (.refl _) .nil))) ?_
  cases hH:hasN met f.name
  case true=>
   simp -implicitDefEqProofs only[go_sem,hT,f1,f2,metS_5,metS_2 hne]
   rw[hH] at happ
   exact DLe.of_eq (by rw[heq,←happ]; rfl)
  rw[hH] at happ
  rw[←happ] at heq
  simp -implicitDefEqProofs only[go_sem,hT,f1,f2,metS_5,metS_2 hne]
  refine za3 (stored146 l o f.ty) ?_
  cases hS:storedN l.length f.ty
  ·simp -implicitDefEqProofs only[go_sem,hT,f1,f2,metS_5,metS_2 hne]
   exact DLe.of_eq (by rw[heq,hS]; rfl)
  rw[hS] at heq
  simp -implicitDefEqProofs only[go_sem,hT,f1,f2,metS_5,metS_2 hne,frz]
  refine app_gr' Tryz.sli158 Tryz.sz9 Tryz.by9 Tryz.zero9 rfl (n:=met.length) (m:=1) (base:=metB b2 b5 o l (met,ob)) (by rw[za1]) rfl ?_ (metB_n hok) hok.1 (by simp) (by omega) fun o' σ' hbox hle hn hno=> ?_
  ·rw[za4]; exact le_add hb6
  simp -implicitDefEqProofs only[go_sem,hT,hbox,f1,f2,metS_5,metS_2 hne]
  refine⟨(i+1,o'),⟨by omega, ?_, ?_⟩,by omega, ?_, ?_⟩
  ·rw[htake]
   exact metB_of hn (by simpa using hno)
  ·rw[heq,hown]; rfl
  ·rw[zb7 (by omega) (by omega)]; simp
  ·rw[htake]
   exact metS_more (a:=(met,ob)) (σ:=σ') hle
 ·have h1:((i:Int)<F.length)=False:=by simp; omega
  have hi':i=F.length:=by omega
  subst hi'
  rw[List.drop_length,List.take_length,fieldsErr] at heq
  rw[List.take_length] at hok ⊢
  simp -implicitDefEqProofs only[go_sem,hT,h1,metS_5,metS_2 hne]
  have hl:(names++F.map Fd.name).length=names.length+(F.map Fd.name).length:=by simp
  refine br_split (fun h=> ?_) fun h=> ?_
  ·exact DLe.of_eq (by rw[heq,if_pos (by simp at h ⊢; omega)]; rfl)
  ·exact DLe.of_eq (by rw[heq,if_neg (by simp at h ⊢; omega)]; rfl)
open Go.Proofs
set_option maxHeartbeats 2000000 in
theorem check64 (l:List Cl) (o:Own) (hw:Wide l):PCall Tryz.prog 81 [.slice o (rws eC l)] (.tup [.int .i64 (checkL isWordB l).1,.int .i64 (checkL isWordB l).2]):=by
 have hw1:=hw.1
 refine F81.pcall' rfl fun T hT=> ?_
 simp -implicitDefEqProofs only[go_sem,c81,hT]
 refine loopL F81 (fun i:Nat=>[(0,.slice o (rws eC l)),(7,.slice o (rws eC l)),(8,.int .i64 l.length),(9,.int .i64 i)]) (fun _=>{}) (fun i=>i≤l.length∧Right isWordB l i∧checkL isWordB l=checkFrom isWordB l (l.length-i) i) (fun i=>l.length-i) 0
  ⟨Nat.zero_le _,fun i h h'=>by omega,rfl⟩ ?_ (St.le.refl _) ?_
 ·simp -implicitDefEqProofs only[go_sem,hT,Int.ofNat_zero]
 clear hT T
 rintro i ⟨hi,hr,heq⟩ T hT
 by_cases h:i<l.length
 ·have h1:((i:Int)<l.length)=True:=by simp; omega
  have hwc:=hw.2 l[i] (by simp)
  rw[show l.length-i=(l.length-(i+1))+1 by omega,checkFrom,dif_pos h] at heq
  have hf:=fields104 l o i h hw hr
  have next:classErr isWordB l i l[i]=0→∃y:Nat,(y≤l.length∧Right isWordB l y∧checkL isWordB l=checkFrom isWordB l (l.length-y) y)∧l.length-y<l.length-i∧D.int .i64 (IntKind.wrap .i64 ((i:Int)+1))=D.int .i64 (y:Int):=fun he=>
   ⟨i+1,⟨by omega,fun j hj hj'=>by
    rcases Nat.lt_or_eq_of_le (Nat.le_of_lt_succ hj') with hj'|rfl
    ·exact hr j hj hj'
    ·exact he,by rw[if_pos he] at heq; exact heq⟩,by omega,by rw[zb7 (by omega) (by omega)]; simp⟩
  have stop:∀e:Nat,e≠0→classErr isWordB l i l[i]=e→DLe (.tup [.int .i64 i,.int .i64 e]) (.tup [.int .i64 (checkL isWordB l).1,.int .i64 (checkL isWordB l).2]):=fun e h0 he=>by
   rw[if_neg (by rw[he]; exact h0),he] at heq
   rw[heq]; exact DLe.refl _
  generalize hx:l[i]=x at *
  have hR:(rws eC l)[i]?.getD []=eC x:=by rw[rws_at h,hx]
  simp -implicitDefEqProofs only[go_sem,hT,h1,hR,eC,eC_len]
  refine⟨by omega,fun b5=> ?_⟩
  by_cases h32:32≤i
  ·have h2:((32:Int)≤i)=True:=by simp; omega
   simp -implicitDefEqProofs only[go_sem,hT,h1,hR,eC,h2,za4]
   exact stop 4 (by decide) (by simp[classErr,h32])
  have h2:((32:Int)≤i)=False:=by simp; omega
  simp -implicitDefEqProofs only[go_sem,hT,h1,hR,eC,h2,za4]
  refine⟨fun _ h=>h,za3 (isName99 x.name) ?_⟩
  cases hN:isNameB x.name
  ·simp -implicitDefEqProofs only[go_sem,hT,h1,eC,h2,za4]
   exact stop 6 (by decide) (by simp[classErr,h32,hN])
  simp -implicitDefEqProofs only[go_sem,hT,h1,eC,h2,za4]
  refine za3 words101 ?_
  simp -implicitDefEqProofs only[go_sem,hT,h1,eC,h2,za4]
  refine za3 (contains100 wordsL .no x.name (by decide)) ?_
  have hWe:hasN wordsL x.name=isWordB x.name:=rfl
  rw[hWe]
  cases hW:isWordB x.name
  case true=>
   simp -implicitDefEqProofs only[go_sem,hT,h1,eC,h2,za4]
   exact stop 6 (by decide) (by simp[classErr,h32,hW])
  simp -implicitDefEqProofs only[go_sem,hT,h1,eC,h2,za4,rws_take]
  refine⟨⟨by omega,by simp[rws,eC_len]⟩, ?_⟩
  have hpre:(l.take i).map (fun t:Cl=>eC t)=rws eC (l.take i):=rfl
  refine callB_all (contFunc102 (l.take i) .no 112 [] [.ptr b5 0] (fun t=>decide (t.name=x.name)) _ (by simp; omega) fun t _=>same103 t x b5 _ (by simp[St.set_box,eC])) ?_
  rintro d s' ⟨rfl,rfl⟩
  cases hA:(l.take i).any fun t=>decide (t.name=x.name)
  case true=>
   simp -implicitDefEqProofs only[go_sem,hT,h1,eC,h2,za4]
   exact stop 20 (by decide) (by simp[classErr,h32,hN,hW,hA])
  have pre:∀e:Nat,(if x.parent < -1∨(i:Int)≤x.parent then 21 else fieldsErr l.length (namesUp l x.parent) [] x.fields)=e→classErr isWordB l i x=e:=fun e he=>by
   rw[classErr,if_neg h32,if_neg (by simp[hN,hW]),if_neg (by simp[hA]),he]
  by_cases hp:x.parent < -1∨(i:Int)≤x.parent
  ·have hp':(decide (x.parent < -1)||decide ((i:Int)≤x.parent))=true:=by simpa using hp
   simp -implicitDefEqProofs only[go_sem,mmB,hT,h1,eC,h2,za4,hp']
   exact stop 21 (by decide) (pre 21 (if_pos hp))
  have hp':(decide (x.parent < -1)||decide ((i:Int)≤x.parent))=false:=by simpa using hp
  replace pre:=fun e he=>pre e ((if_neg hp).trans he)
  simp -implicitDefEqProofs only[go_sem,mmB,hT,h1,eC,h2,za4,hp']
  refine za3 (hf (by omega)) ?_
  by_cases he:fieldsErr l.length (namesUp l x.parent) [] x.fields=0
  ·simp -implicitDefEqProofs only[go_sem,mmB,hT,h1,he]
   obtain⟨y,h1,h2,h3⟩:=next (pre 0 he)
   exact⟨y,h1,h2,h3,St.le.nil _⟩
  ·have h3:(((fieldsErr l.length (namesUp l x.parent) [] x.fields:Nat):Int)=0)=False:=by simp; omega
   simp -implicitDefEqProofs only[go_sem,mmB,hT,h1,h3]
   exact stop _ he (pre _ rfl)
 ·have h1:((i:Int)<l.length)=False:=by simp; omega
  rw[show l.length-i=0 by omega,checkFrom] at heq
  simp -implicitDefEqProofs only[go_sem,hT,h1]
  rw[heq]
  exact DLe.refl _
open Go.Proofs
open Go.Proofs
open Go.Proofs
structure En where
 cs:List Cl
 sgs:List Sg
 fn:Int
 deriving DecidableEq
def eEn (e:En):List D:=[.slice .no (rws eC e.cs),.slice .no (rws eSg e.sgs),.int .i64 e.fn]
theorem zb8 (e:En):(eEn e).length=3:=rfl
def WideE (e:En):Prop:=Wide e.cs∧e.sgs.length*32≤140737488351232∧∀s∈e.sgs,s.ps.length≤140737488351232
open Go.Proofs
theorem zb0 {P:Program} {T:Env} {σ:St} {a:Nat} {t:TypeId} {rs:List ResultVar}:resMany P T σ (.cell a t::rs)=(match resC P t σ (T a) with|some d=>(resMany P T σ rs).map (d:: ·)|none=>none):=by
 simp only[resMany,resOne,resC]
 cases T a <;> simp
 rename_i b off
 cases σ.box b <;> simp
 rename_i cs
 cases partD P t (cs.drop off) 0 <;> simp
 cases resMany P T σ rs <;> rfl
structure Fr where
 loc:Int
 h:Int
 sl:Vector Ty 24
 deriving DecidableEq
def eFr (f:Fr):List D:= .int .i64 f.loc:: .int .i64 f.h::f.sl.toList.map fun t=> .int .u8 (t.val:Int)
theorem za6 (f:Fr):(eFr f).length=26:=by simp[eFr]
def fr0 (n:Int):Fr:=⟨n,0,Vector.replicate 24 0⟩
def slOf (ts:List Ty):Vector Ty 24:=Vector.ofFn fun i=>(ts[i.val]?).getD 0
theorem za5 (f:Fr):(eFr f).take 26=eFr f:=List.take_of_length_le (by rw[za6]; exact Nat.le_refl _)
theorem ze7 (f:Fr):(eFr f).drop 26=[]:=List.drop_eq_nil_of_le (by rw[za6]; exact Nat.le_refl _)
theorem fr_set {f:Fr} {i:Nat} (h:i<24) {t:Ty}:(eFr f).take (2+i)++[D.int .u8 (t.val:Int)]++(eFr f).drop (2+i+1)=eFr ⟨f.loc,f.h,f.sl.set i t⟩:=by
 simp only[eFr]
 rw[show 2+i=i+1+1 by omega]
 simp only[List.take_succ_cons,List.drop_succ_cons,List.cons_append]
 congr 2
 simp only[Vector.toList_set,List.map_set]
 rw[List.set_eq_take_append_cons_drop,if_pos (by simpa using h)]
 simp
theorem slOf_set {ts:List Ty} {i:Nat} (hi:i<ts.length) (h:i<24):(slOf (ts.take i)).set i ts[i]=slOf (ts.take (i+1)):=by
 apply Vector.ext
 intro j hj
 simp only[slOf,Vector.getElem_set,Vector.getElem_ofFn]
 split
 ·rename_i he; subst he; simp[List.getElem?_take,hi]
 ·rename_i he
  by_cases hlt:j<i
  ·simp[List.getElem?_take,hlt,show j<i+1 by omega]
  ·simp[List.getElem?_take,hlt,show ¬j<i+1 by omega]
theorem slOf_nil:slOf []=Vector.replicate 24 0:=by
 apply Vector.ext
 intro j hj
 simp[slOf]
def emptyF (n:Int):Fr×Nat:=if n<0∨16<n then(fr0 0,1) else(fr0 n,0)
theorem empty107 (n:Int):PCall Tryz.prog 85 [.int .i64 n] (.tup [.agg (eFr (emptyF n).1),.int .i64 (emptyF n).2]):=by
 refine F85.pcall' rfl fun T hT=> ?_
 by_cases h:n<0∨16<n
 ·have hc:(decide (n<0)||decide (16<n))=true:=by simpa using h
  simp -implicitDefEqProofs only[go_sem,mmB,c85,hT,hc,za4,zb0]
  rw[emptyF,if_pos h]
  exact DLe.of_eq rfl
 ·have hc:(decide (n<0)||decide (16<n))=false:=by simpa using h
  simp -implicitDefEqProofs only[go_sem,mmB,c85,hT,hc,za4,zb0]
  rw[emptyF,if_neg h]
  exact DLe.of_eq rfl
theorem refEmpty110 (n:Int):PCall Tryz.prog 63 [.int .i64 n] (.tup [.agg (eFr (emptyF n).1),.int .i64 (emptyF n).2]):=by
 refine F63.pcall' rfl fun T hT=> ?_
 by_cases h:n<0∨16<n
 ·have hc:(decide (n<0)||decide (16<n))=true:=by simpa using h
  simp -implicitDefEqProofs only[go_sem,mmB,c63,hT,hc,za4,zb0]
  rw[emptyF,if_pos h]
  exact DLe.of_eq rfl
 ·have hc:(decide (n<0)||decide (16<n))=false:=by simpa using h
  simp -implicitDefEqProofs only[go_sem,mmB,c63,hT,hc,za4,zb0]
  rw[emptyF,if_neg h]
  exact DLe.of_eq rfl
def startF (c:Nat) (ts:List Ty) (n:Int):Fr×Nat:=if n<0∨16<n∨8<ts.length∨n<ts.length∨(ts.any fun t=> !storedN c t)=true then(fr0 0,1) else(⟨n,0,slOf ts⟩,0)
def bXcaY0:=aI @za4 (aI @zb0 (aI @za6 (aI @ze7 @Int.ofNat_zero)))
def bXcaY1:=aI @za4 (aI @zb0 (aI @za6 (aI @ze7 @za5)))
theorem start68 (l:List Cl) (o o2:Own) (ts:List Ty) (n:Int) (hl:ts.length≤140737488355328):PCall Tryz.prog 58 [.slice o (rws eC l),.slice o2 (rws eT ts),.int .i64 n] (.tup [.agg (eFr (startF l.length ts n).1),.int .i64 (startF l.length ts n).2]):=by
 refine F58.pcall' rfl fun T hT=> ?_
 simp -implicitDefEqProofs only[go_sem,c58,hT]
 intro b6
 refine za3 (empty107 n) ?_
 by_cases h:n<0∨16<n
 ·rw[startF,if_pos (h.elim (fun h=> .inl h) fun h=> .inr (.inl h)),emptyF,if_pos h]
  simp -implicitDefEqProofs only[go_sem,hT,za6]
  intro b8 n1 n2
  simp -implicitDefEqProofs only[go_sem,hT,za4,n1,n2,zb0,za6,ze7,Int.ofNat_one]
  exact DLe.of_eq rfl
 rw[emptyF,if_neg h]
 simp -implicitDefEqProofs only[go_sem,hT,za6]
 intro b8 n1 n2
 by_cases h8:(8:Int)<ts.length
 ·rw[startF,if_pos (.inr (.inr (.inl (by omega))))]
  simp -implicitDefEqProofs only[go_sem,hT,n1,n2,h8,bXcaY0]
  exact DLe.of_eq rfl
 by_cases hn:n<ts.length
 ·rw[startF,if_pos (.inr (.inr (.inr (.inl (by omega)))))]
  simp -implicitDefEqProofs only[go_sem,hT,n1,n2,h8,hn,bXcaY0]
  exact DLe.of_eq rfl
 have hs:startF l.length ts n=if(ts.any fun t=> !storedN l.length t)=true then(fr0 0,1) else(⟨n,0,slOf ts⟩,0):=by
  cases ha:ts.any fun t=> !storedN l.length t
  ·rw[startF,ha,if_neg (by simp; omega)]; rfl
  ·rw[startF,ha,if_pos (.inr (.inr (.inr (.inr rfl))))]; rfl
 simp -implicitDefEqProofs only[go_sem,hT,n1,n2,h8,hn,bXcaY0]
 generalize hz:(D.int .i64 0::D.int .i64 0::_:List D)=z0
 refine loopL F58 (fun i:Nat=>[(0,.slice o (rws eC l)),(6,.ptr b6 0),(8,.ptr b8 0),(31,.slice o2 (rws eT ts)),(32,.int .i64 ts.length),(33,.int .i64 i)]) (fun i=>(({}:St).set b6 z0).set b8 (eFr ⟨n,0,slOf (ts.take i)⟩))
  (fun i=>i≤ts.length∧(ts.take i).any (fun t=> !storedN l.length t)=false) (fun i=>ts.length-i) 0 ⟨Nat.zero_le _,rfl⟩ ?_ ?_ ?_
 ·simp -implicitDefEqProofs only[go_sem,hT,Int.ofNat_zero]
 ·rw[List.take_zero,slOf_nil]; exact St.le.refl _
 clear hT T
 rintro i ⟨hi,hok⟩ T hT
 have hz26:z0.length=26:=by rw[←hz]; rfl
 have hzd:z0.drop 26=[]:=List.drop_eq_nil_of_le (by omega)
 by_cases h2:i<ts.length
 ·have h3:((i:Int)<ts.length)=True:=by simp; omega
  have htake:ts.take (i+1)=ts.take i++[ts[i]]:=List.take_succ_eq_append_getElem h2
  have hR:(rws eT ts)[i]?.getD []=eT ts[i]:=rws_at h2
  have hset:=slOf_set h2 (show i<24 by omega)
  have hin:ts[i]∈ts:=by simp
  generalize ts[i]=t at *
  simp -implicitDefEqProofs only[go_sem,hT,h3,hR,eT,eT_len,za4,n1,n2,zb0,za6,ze7,za5,hz26,hzd]
  refine⟨by omega, ?_⟩
  refine za3 (valid105 l o t) ?_
  have hsv:storedN l.length t=(validN l.length t&&decide (t.val≠0∧t.val≠3)):=rfl
  cases hv:validN l.length t
  ·have hst:storedN l.length t=false:=by rw[hsv,hv]; rfl
   simp -implicitDefEqProofs only[go_sem,hT,n1,n2,hz26,hzd,bXcaY1]
   rw[hs,if_pos (List.any_eq_true.2 ⟨t,hin,by simp[hst]⟩)]
   exact DLe.of_eq rfl
  by_cases h0:(t.val:Int)=0
  ·have hst:storedN l.length t=false:=by rw[hsv,hv]; simp; omega
   simp -implicitDefEqProofs only[go_sem,hT,h0,n1,n2,hz26,hzd,bXcaY1]
   rw[hs,if_pos (List.any_eq_true.2 ⟨t,hin,by simp[hst]⟩)]
   exact DLe.of_eq rfl
  by_cases h1:(t.val:Int)=3
  ·have hst:storedN l.length t=false:=by rw[hsv,hv]; simp; omega
   simp -implicitDefEqProofs only[go_sem,hT,h0,h1,n1,n2,hz26,hzd,bXcaY1]
   rw[hs,if_pos (List.any_eq_true.2 ⟨t,hin,by simp[hst]⟩)]
   exact DLe.of_eq rfl
  ·have hst:storedN l.length t=true:=by rw[hsv,hv]; simp; omega
   simp -implicitDefEqProofs only[go_sem,hT,h0,h1,n1,n2,hz26,hzd,Nat.mul_one,fr_set (f:=⟨n,0,slOf (ts.take i)⟩) (i:=i) (by omega),bXcaY1]
   refine⟨by omega,by omega, ?_⟩
   refine⟨i+1,⟨by omega, ?_⟩,by omega, ?_, ?_⟩
   ·rw[htake,List.any_append,hok]; simp[hst]
   ·rw[zb7 (by omega) (by omega)]; simp
   ·rw[hset]; exact St.le.refl _
 ·have h3:((i:Int)<ts.length)=False:=by simp; omega
  rw[List.take_of_length_le (by omega)] at hok
  simp -implicitDefEqProofs only[go_sem,hT,h3,za4,n1,n2,zb0,za6,ze7,za5,hz26,hzd,Int.ofNat_zero,List.take_of_length_le (show ts.length≤i by omega)]
  rw[hs,hok]
  exact DLe.of_eq rfl
theorem refStart71 (l:List Cl) (o o2:Own) (ts:List Ty) (n:Int) (hl:ts.length≤140737488355328):PCall Tryz.prog 35 [.slice o (rws eC l),.slice o2 (rws eT ts),.int .i64 n] (.tup [.agg (eFr (startF l.length ts n).1),.int .i64 (startF l.length ts n).2]):=by
 refine F35.pcall' rfl fun T hT=> ?_
 simp -implicitDefEqProofs only[go_sem,c35,hT]
 intro b6
 refine za3 (refEmpty110 n) ?_
 by_cases h:n<0∨16<n
 ·rw[startF,if_pos (h.elim (fun h=> .inl h) fun h=> .inr (.inl h)),emptyF,if_pos h]
  simp -implicitDefEqProofs only[go_sem,hT,za6]
  intro b8 n1 n2
  simp -implicitDefEqProofs only[go_sem,hT,za4,n1,n2,zb0,za6,ze7,Int.ofNat_one]
  exact DLe.of_eq rfl
 rw[emptyF,if_neg h]
 simp -implicitDefEqProofs only[go_sem,hT,za6]
 intro b8 n1 n2
 by_cases h8:(8:Int)<ts.length
 ·rw[startF,if_pos (.inr (.inr (.inl (by omega))))]
  simp -implicitDefEqProofs only[go_sem,hT,n1,n2,h8,bXcaY0]
  exact DLe.of_eq rfl
 by_cases hn:n<ts.length
 ·rw[startF,if_pos (.inr (.inr (.inr (.inl (by omega)))))]
  simp -implicitDefEqProofs only[go_sem,hT,n1,n2,h8,hn,bXcaY0]
  exact DLe.of_eq rfl
 have hs:startF l.length ts n=if(ts.any fun t=> !storedN l.length t)=true then(fr0 0,1) else(⟨n,0,slOf ts⟩,0):=by
  cases ha:ts.any fun t=> !storedN l.length t
  ·rw[startF,ha,if_neg (by simp; omega)]; rfl
  ·rw[startF,ha,if_pos (.inr (.inr (.inr (.inr rfl))))]; rfl
 simp -implicitDefEqProofs only[go_sem,hT,n1,n2,h8,hn,bXcaY0]
 generalize hz:(D.int .i64 0::D.int .i64 0::_:List D)=z0
 refine loopL F35 (fun i:Nat=>[(0,.slice o (rws eC l)),(6,.ptr b6 0),(8,.ptr b8 0),(31,.slice o2 (rws eT ts)),(32,.int .i64 ts.length),(33,.int .i64 i)]) (fun i=>(({}:St).set b6 z0).set b8 (eFr ⟨n,0,slOf (ts.take i)⟩))
  (fun i=>i≤ts.length∧(ts.take i).any (fun t=> !storedN l.length t)=false) (fun i=>ts.length-i) 0 ⟨Nat.zero_le _,rfl⟩ ?_ ?_ ?_
 ·simp -implicitDefEqProofs only[go_sem,hT,Int.ofNat_zero]
 ·rw[List.take_zero,slOf_nil]; exact St.le.refl _
 clear hT T
 rintro i ⟨hi,hok⟩ T hT
 have hz26:z0.length=26:=by rw[←hz]; rfl
 have hzd:z0.drop 26=[]:=List.drop_eq_nil_of_le (by omega)
 by_cases h2:i<ts.length
 ·have h3:((i:Int)<ts.length)=True:=by simp; omega
  have htake:ts.take (i+1)=ts.take i++[ts[i]]:=List.take_succ_eq_append_getElem h2
  have hR:(rws eT ts)[i]?.getD []=eT ts[i]:=rws_at h2
  have hset:=slOf_set h2 (show i<24 by omega)
  have hin:ts[i]∈ts:=by simp
  generalize ts[i]=t at *
  simp -implicitDefEqProofs only[go_sem,hT,h3,hR,eT,eT_len,za4,n1,n2,zb0,za6,ze7,za5,hz26,hzd]
  refine⟨by omega, ?_⟩
  refine za3 (refStored111 l o t) ?_
  cases hst:storedN l.length t
  ·simp -implicitDefEqProofs only[go_sem,hT,n1,n2,hz26,hzd,bXcaY1]
   rw[hs,if_pos (List.any_eq_true.2 ⟨t,hin,by simp[hst]⟩)]
   exact DLe.of_eq rfl
  ·simp -implicitDefEqProofs only[go_sem,hT,n1,n2,hz26,hzd,Nat.mul_one,fr_set (f:=⟨n,0,slOf (ts.take i)⟩) (i:=i) (by omega),bXcaY1]
   refine⟨by omega,by omega, ?_⟩
   refine⟨i+1,⟨by omega, ?_⟩,by omega, ?_, ?_⟩
   ·rw[htake,List.any_append,hok]; simp[hst]
   ·rw[zb7 (by omega) (by omega)]; simp
   ·rw[hset]; exact St.le.refl _
 ·have h3:((i:Int)<ts.length)=False:=by simp; omega
  rw[List.take_of_length_le (by omega)] at hok
  simp -implicitDefEqProofs only[go_sem,hT,h3,za4,n1,n2,zb0,za6,ze7,za5,hz26,hzd,Int.ofNat_zero,List.take_of_length_le (show ts.length≤i by omega)]
  rw[hs,hok]
  exact DLe.of_eq rfl
end Go.AL
