import Derived.Test.YtjffaachihpjbaaGreatFg
import Derived.Test.YtjffaachihpjbaaGreatFh
import Derived.Test.YtjffaachihpjbaaGreatFf
import Derived.Test.YtjffaachihpjbaaGreatFe
set_option linter.unusedSimpArgs false
set_option linter.unusedVariables false
set_option maxRecDepth 100000
set_option linter.defProp false
namespace Go.AL
open Go.Proofs
theorem upL_len (l:List Cl):∀(n c:Nat),c≤n→(upL l c).length≤c+1
 |0,c,h=>by
  unfold upL
  split
  ·rw[dif_neg (by omega)]; simp
  ·simp
 |n+1,c,h=>by
  unfold upL
  split
  ·rename_i x hx
   split
   ·rename_i hp
    have:=upL_len l n x.parent.toNat (by omega)
    simp; omega
   ·simp
  ·simp
theorem upI_len {l:List Cl} {c:Int}:(upI l c).length≤l.length:=by
 unfold upI
 split
 ·by_cases h:c.toNat<l.length
  ·have:=upL_len l c.toNat c.toNat (Nat.le_refl _)
   omega
  ·rw[upL,List.getElem?_eq_none (by omega)]; simp
 ·simp
theorem upL_lt {l:List Cl}:∀(n c:Nat),c≤n→∀k∈upL l c,k<l.length
 |0,c,h,k,hk=>by
  unfold upL at hk
  split at hk
  ·rename_i x hx
   rw[dif_neg (by omega)] at hk
   simp at hk; subst hk
   exact(List.getElem?_eq_some_iff.1 hx).1
  ·cases hk
 |n+1,c,h,k,hk=>by
  unfold upL at hk
  split at hk
  ·rename_i x hx
   simp only[List.mem_cons] at hk
   rcases hk with rfl|hk
   ·exact(List.getElem?_eq_some_iff.1 hx).1
   ·split at hk
    ·rename_i hp; exact upL_lt n _ (by omega) k hk
    ·cases hk
  ·cases hk
theorem upI_lt {l:List Cl} {c:Int} {k:Nat} (h:k∈upI l c):k<l.length:=by
 unfold upI at h
 split at h
 ·exact upL_lt _ _ (Nat.le_refl _) k h
 ·cases h
def lnB (b5:Nat) (a:List Nat×Option Nat):St:=({}:St).set b5 [grD 1 a.2 (rws eI (toI a.1))]
def lnS (b5:Nat) (a:List Nat×Option Nat):St:=grS 1 a.1.length a.2 (lnB b5 a)
def lnOk (b5:Nat) (a:List Nat×Option Nat):Prop:=(a.2=none→a.1.length=0)∧∀b,a.2=some b→b≠b5
section
variable {b5 : Nat} {a : List Nat × Option Nat}
theorem lnS_5:(lnS b5 a).box b5=some [grD 1 a.2 (rws eI (toI a.1))]:=by simp[lnS,lnB,grS_boxa,St.set_box]
theorem lnB_n (h:lnOk b5 a):grN a.2 (lnB b5 a):=fun b hb hin=>by
 have h1:=h.2 b hb
 simp only[lnB,has_set,has_nil,or_false] at hin
 omega
theorem lnB_of {ob:Option Nat} (h:grN ob (lnB b5 a)) {L:List Nat} (h':ob=none→L.length=0):lnOk b5 (L,ob):=
 ⟨h',fun b hb e=>h b hb (by simp[lnB,has_set,e])⟩
theorem lnS_more {σ':St} {ob:Option Nat} {x:Nat} (hle:St.le (grS 1 (a.1.length+1) ob (lnB b5 a)) σ'):St.le (lnS b5 (a.1++[x],ob)) (σ'.set b5 [grD 1 ob (rws eI (toI a.1)++[[.int .i64 x]])]):=by
 have h:=le_set (b:=b5) (cs:=[grD 1 ob (rws eI (toI (a.1++[x])))]) hle
 rw[grS_set,lnB,za4] at h
 simp only[lnS,lnB,List.length_append,List.length_cons,List.length_nil,Nat.zero_add]
 rw[show rws eI (toI a.1)++[[D.int .i64 x]]=rws eI (toI (a.1++[x])) by simp[rws,eI,toI]]
 exact h
end
theorem toI_len {L:List Nat}:(rws eI (toI L)).length=L.length:=by simp[rws,toI]
theorem line204 (b5 c:Nat) (a:List Nat×Option Nat) (ha:lnOk b5 a) (hl:(a.1.length+1)*8≤140737488355328):
  RCall Tryz.prog 188 [.int .i64 c,.ptr b5 0] (lnS b5 a) fun d s'=>d= .bool true∧∃ob,s'=lnS b5 (a.1++[c],ob)∧lnOk b5 (a.1++[c],ob):=by
 refine F188.rcall rfl fun T hT=> ?_
 simp -implicitDefEqProofs only[go_sem,c188,hT,lnS_5,frz]
 refine app_gr' Tryz.sli57 Tryz.sz3 Tryz.by3 Tryz.zero3 rfl (n:=a.1.length) (m:=1) (base:=lnB b5 a) toI_len rfl (St.le.refl _) (lnB_n ha) ha.1 (by simp) (by omega) fun o' σ' hbox hle hn hno=> ?_
 simp -implicitDefEqProofs only[go_sem,hT,hbox,lnS_5]
 exact⟨_,_,DLe.refl _,lnS_more hle,rfl,o',rfl,lnB_of hn (by simpa using hno)⟩
def lnStep (a:List Nat×Option Nat) (c:Nat) (b:Bool) (a':List Nat×Option Nat):Prop:=b=true∧a'.1=a.1++[c]
theorem ln_runs:∀{L:List Nat} {a a':List Nat×Option Nat},Runs lnStep L a a'→a'.1=a.1++L
 |[],a,a',h=>by simp only[Runs] at h; subst h; simp
 |c::L,a,a'',⟨b,a',⟨hb,hs⟩,h⟩=>by
  rw[if_pos hb] at h
  rw[ln_runs h,hs]; simp
theorem fields189 (l:List Cl) (o:Own) (c:Int) (hl:l.length*48≤140737488351232) (hf:(zf8 l (upI l c).reverse).length*24≤140737488355328):
  PCall Tryz.prog 186 [.slice o (rws eC l),.int .i64 c] (.slice .no (rws eF (zf8 l (upI l c).reverse))):=by
 refine F186.pcall' rfl fun T hT=> ?_
 simp -implicitDefEqProofs only[go_sem,c186,hT]
 intro b5
 have hul:=upI_len (l:=l) (c:=c)
 refine callB_all (σ:=lnS b5 ([],none)) (climb144' l o 188 [] [.ptr b5 0] (lnS b5) lnStep (fun a L=>lnOk b5 a∧a.1.length+L.length≤l.length) (by omega) ?_ ([],none) c ?_) ?_
 ·rintro a n rest hn ⟨ha,hlen⟩
  simp only[List.length_cons] at hlen
  refine(line204 b5 n a ha (by omega)).mono ?_
  rintro d s' ⟨rfl,ob,rfl,hok⟩
  exact⟨true,_,rfl,rfl,⟨rfl,rfl⟩,hok,by simp; omega⟩
 ·exact⟨⟨fun _=>rfl,fun b hb=>by cases hb⟩,by simpa using hul⟩
 rintro d s' ⟨rfl,⟨L,o1⟩,r,rfl,hruns,hok,_⟩
 have hL:L=upI l c:=by simpa using ln_runs hruns
 subst hL
 have hlt:∀n∈upI l c,n<l.length:=fun n hn=>upI_lt hn
 generalize upI l c=L at *
 clear hruns
 have hlen:(toI L).length=L.length:=by simp[toI]
 simp -implicitDefEqProofs only[go_sem,hT,lnS_5,hlen]
 refine loopL F186 (fun x:Nat×Option Nat=>[(0,.slice o (rws eC l)),(5,.ptr b5 0),(7,.int .i64 ((x.1:Int)-1)),(6,grD 2 x.2 (rws eF (zf8 l (L.drop x.1).reverse)))]) (fun x=>grS 2 (zf8 l (L.drop x.1).reverse).length x.2 (lnS b5 (L,o1)))
  (fun x=>x.1≤L.length∧(x.2=none→(zf8 l (L.drop x.1).reverse).length=0)∧grN x.2 (lnS b5 (L,o1))) (fun x=>x.1) (L.length,none)
  ⟨Nat.le_refl _,fun _=>by simp[zf8],grN_none⟩ ?_ (St.le.refl _) ?_
 ·simp -implicitDefEqProofs only[go_sem,hT,hlen]
  refine⟨?_, ?_⟩
  ·rw[zb7 (by omega) (by omega)]
  ·simp[zf8,rws,grD]
 clear hT T
 rintro⟨k,ob⟩ ⟨hk,hn,hgn⟩ T hT
 simp only at hk hn hgn hT ⊢
 by_cases h:k=0
 ·subst h
  have h1:((0:Int)≤(0:Nat)-1)=False:=by simp
  simp -implicitDefEqProofs only[go_sem,hT,h1]
  exact grD_le
 ·obtain⟨i,rfl⟩:∃i,k=i+1:=⟨k-1,by omega⟩
  have h1:((i+1:Nat):Int)-1=i:=by omega
  have h2:((0:Int)≤i)=True:=by simp
  have hi:i<L.length:=by omega
  have hn':L[i]<l.length:=hlt _ (by simp)
  rw[h1] at hT
  simp -implicitDefEqProofs only[go_sem,hT,h2,grS_boxa,lnS_5,toI_at hi,hlen,rws_at hn',eC,eC_len]
  refine⟨by omega,by omega, ?_⟩
  have hsnoc:zf8 l (L.drop i).reverse=zf8 l (L.drop (i+1)).reverse++l[L[i]].fields:=by
   rw[List.drop_eq_getElem_cons hi,List.reverse_cons,fieldsOn_snoc hn']
  have hle:=fieldsOn_drop_le (l:=l) (L:=L) i
  have hsl:=congrArg List.length hsnoc
  rw[List.length_append] at hsl
  refine app_gr' Tryz.sli126 Tryz.sz189 Tryz.by189 Tryz.zero189 rfl (n:=(zf8 l (L.drop (i+1)).reverse).length) (m:=l[L[i]].fields.length) (by rw[za1]) (by rw[za1]) (St.le.refl _) hgn hn (by simp[rws,eF_len]) (by omega) fun o' σ' hbox hle' hgn' hno=> ?_
  simp -implicitDefEqProofs only[go_sem,hT]
  refine⟨(i,o'),⟨by omega,by rw[hsl]; exact hno,hgn'⟩,by simp,⟨?_, ?_⟩,by rw[hsl]; exact hle'⟩
  ·rw[zb7 (by omega) (by omega)]
  ·rw[hsnoc]; simp[rws]
open Go.Proofs
def isRefB (t:Ty):Bool:=decide (t.val=3∨t.val=4∨t.val=5∨16≤t.val)
theorem isRef163 (t:Ty):PCall Tryz.prog 176 [.int .u8 t.val] (.bool (isRefB t)):=by
 refine F176.pcall' rfl fun T hT=> ?_
 simp -implicitDefEqProofs only[go_sem,mmB,c176,hT]
 exact zf3 (by rw[Bool.eq_iff_iff]; simp[isRefB]; omega)
theorem refIsRef120 (t:Ty):PCall Tryz.prog 40 [.int .u8 t.val] (.bool (isRefB t)):=by
 refine F40.pcall' rfl fun T hT=> ?_
 simp -implicitDefEqProofs only[go_sem,mmB,c40,hT]
 exact zf3 (by rw[Bool.eq_iff_iff]; simp[isRefB]; omega)
def abB (b5 b7:Nat) (y:Int) (a:Bool):St:=(({}:St).set b5 [.int .i64 y]).set b7 [.bool a]
theorem above205 (b5 b7:Nat) (hne:b5≠b7) (y:Int) (a:Bool) (c:Nat):
  RCall Tryz.prog 187 [.int .i64 c,.ptr b5 0,.ptr b7 0] (abB b5 b7 y a) fun d s'=>d= .bool (!decide ((c:Int)=y))∧s'=abB b5 b7 y (decide ((c:Int)=y)):=by
 have h1:¬b5=b7:=hne
 have h2:¬b7=b5:=fun e=>hne e.symm
 refine F187.rcall rfl fun T hT=> ?_
 simp -implicitDefEqProofs only[go_sem,c187,hT,abB,h1,h2,za4]
 exact⟨_,_,DLe.refl _,St.le.refl _,rfl,rfl⟩
def abStep (y:Int) (a:Bool) (c:Nat) (b:Bool) (a':Bool):Prop:=a'=decide ((c:Int)=y)∧b= !a'
theorem ab_runs {y:Int}:∀{L:List Nat} {a a':Bool},Runs (abStep y) L a a'→a'=if L=[] then a else L.any fun c=>decide ((c:Int)=y)
 |[],a,a',h=>by simp only[Runs] at h; simp[h]
 |c::L,a,a'',⟨b,a',⟨h1,h2⟩,h⟩=>by
  simp only[List.any_cons,reduceCtorEq,if_false]
  cases hc:decide ((c:Int)=y)
  ·rw[hc] at h1
   subst h1; subst h2
   simp only[Bool.not_false,if_true] at h
   rw[ab_runs h]
   cases L <;> simp
  ·rw[hc] at h1
   subst h1; subst h2
   simp only[Bool.not_true,Bool.false_eq_true,if_false] at h
   rw[h]; rfl
theorem above190 (l:List Cl) (o:Own) (c y:Int) (hl:l.length≤140737488355328):PCall Tryz.prog 179 [.slice o (rws eC l),.int .i64 c,.int .i64 y] (.bool ((upI l c).any fun k=>decide ((k:Int)=y))):=by
 refine F179.pcall' rfl fun T hT=> ?_
 simp -implicitDefEqProofs only[go_sem,c179,hT]
 intro b5 b7 n1 n2
 simp -implicitDefEqProofs only[go_sem,hT,n1,n2,za4]
 refine callB_all (σ:=abB b5 b7 y false) (climb144' l o 187 [] [.ptr b5 0,.ptr b7 0] (abB b5 b7 y) (abStep y) (fun _ _=>True) hl ?_ false c trivial) ?_
 ·rintro a n rest hn _
  refine(above205 b5 b7 n2 y a n).mono ?_
  rintro d s' ⟨rfl,rfl⟩
  exact⟨_,_,rfl,rfl,⟨rfl,rfl⟩,trivial⟩
 rintro d s' ⟨rfl,a',r,rfl,hruns,_⟩
 have ha:=ab_runs hruns
 simp -implicitDefEqProofs only[go_sem,hT,abB,n1,n2]
 refine zf3 ?_
 rw[ha]
 cases upI l c <;> simp
def subB (l:List Cl) (a b:Ty):Bool:=
 if validN l.length a=false∨validN l.length b=false then false
 else if a=b∨b.val=0 then true
 else if a.val=3∨b.val=5 then isRefB a&&isRefB b
 else decide (16≤a.val∧16≤b.val)&&(upI l ((a.val:Int)-16)).any fun k=>decide ((k:Int)=(b.val:Int)-16)
theorem clsOf_val {n:Nat} {t:Ty} (h:validN n t=true) (h16:16≤t.val):clsOf n t=(t.val:Int)-16:=by
 simp only[validN,decide_eq_true_eq] at h
 rw[clsOf,if_pos (by omega)]
theorem clsOf_no {n:Nat} {t:Ty} (h16:¬16≤t.val):clsOf n t= -1:=by rw[clsOf,if_neg (by omega)]
theorem sub164 (l:List Cl) (o:Own) (a b:Ty) (hl:l.length≤140737488355328):PCall Tryz.prog 177 [.slice o (rws eC l),.int .u8 a.val,.int .u8 b.val] (.bool (subB l a b)):=by
 refine F177.pcall' rfl fun T hT=> ?_
 simp -implicitDefEqProofs only[go_sem,c177,hT]
 refine za3 (valid105 l o a) ?_
 cases hva:validN l.length a
 ·simp -implicitDefEqProofs only[go_sem,hT]
  exact zf3 (by simp[subB,hva])
 simp -implicitDefEqProofs only[go_sem,hT]
 refine za3 (valid105 l o b) ?_
 cases hvb:validN l.length b
 ·simp -implicitDefEqProofs only[go_sem,hT]
  exact zf3 (by simp[subB,hvb])
 by_cases e1:(a.val:Int)=b.val∨(b.val:Int)=0
 ·have hq:(decide ((a.val:Int)=b.val)||decide ((b.val:Int)=0))=true:=by simpa using e1
  simp -implicitDefEqProofs only[go_sem,mmB,hT,hq]
  exact zf3 (by rw[subB,if_neg (by simp[hva,hvb]),if_pos (by rw[Fin.ext_iff]; omega)])
 have hq:(decide ((a.val:Int)=b.val)||decide ((b.val:Int)=0))=false:=by simpa using e1
 have s1:subB l a b=if a.val=3∨b.val=5 then isRefB a&&isRefB b else decide (16≤a.val∧16≤b.val)&&(upI l ((a.val:Int)-16)).any fun k=>decide ((k:Int)=(b.val:Int)-16):=by
  rw[subB,if_neg (by simp[hva,hvb]),if_neg (by rw[Fin.ext_iff]; omega)]
 by_cases e2:(a.val:Int)=3∨(b.val:Int)=5
 ·have hq2:(decide ((a.val:Int)=3)||decide ((b.val:Int)=5))=true:=by simpa using e2
  rw[s1,if_pos (by omega)]
  simp -implicitDefEqProofs only[go_sem,mmB,hT,hq,hq2]
  refine za3 (isRef163 a) ?_
  cases hr:isRefB a
  ·simp -implicitDefEqProofs only[go_sem,hT]
   exact zf3 (by simp)
  ·simp -implicitDefEqProofs only[go_sem,hT]
   refine za3 (isRef163 b) ?_
   simp -implicitDefEqProofs only[go_sem,hT]
   exact zf3 (by simp)
 have hq2:(decide ((a.val:Int)=3)||decide ((b.val:Int)=5))=false:=by simpa using e2
 rw[s1,if_neg (by omega)]
 simp -implicitDefEqProofs only[go_sem,mmB,hT,hq,hq2]
 refine za3 (class147 l o a) ?_
 simp -implicitDefEqProofs only[go_sem,mmB,hT]
 refine za3 (class147 l o b) ?_
 by_cases h16:16≤a.val∧16≤b.val
 ·have ca:=clsOf_val hva h16.1
  have cb:=clsOf_val hvb h16.2
  have g1:((0:Int)≤(a.val:Int)-16)=True:=by simp; omega
  have g2:((0:Int)≤(b.val:Int)-16)=True:=by simp; omega
  simp -implicitDefEqProofs only[go_sem,hT,ca,cb,g1,g2]
  refine za3 (above190 l o _ _ hl) ?_
  simp -implicitDefEqProofs only[go_sem,hT]
  exact zf3 (by simp[h16])
 ·by_cases ha16:16≤a.val
  ·have ca:=clsOf_val hva ha16
   have cb:=clsOf_no (n:=l.length) (show ¬16≤b.val by omega)
   have g1:((0:Int)≤(a.val:Int)-16)=True:=by simp; omega
   simp -implicitDefEqProofs only[go_sem,hT,ca,cb,g1]
   exact zf3 (by rw[decide_eq_false h16]; rfl)
  ·have ca:=clsOf_no (n:=l.length) ha16
   simp -implicitDefEqProofs only[go_sem,hT,ca]
   exact zf3 (by rw[decide_eq_false h16]; rfl)
open Go.Proofs
structure Ins where
 pos:Int
 op:Ty
 a:Int
 b:Int
 deriving DecidableEq
def eIn (i:Ins):List D:=[.int .i64 i.pos,.int .u8 i.op.val,.int .i64 i.a,.int .i64 i.b]
theorem zb3 (i:Ins):(eIn i).length=4:=rfl
structure Wn where
 kind:Nat
 t:Ty
def eW (w:Wn):List D:=[.int .i64 w.kind,.int .u8 w.t.val]
theorem eW_len (w:Wn):(eW w).length=2:=rfl
inductive Gv where
 |no|const (l:List Ty)|dup|swap
def eG:Gv→D
 | .no=> .nilfunc
 | .const l=> .func (.func 181) [] [.eptr [.slice .no (rws eT l)]]
 | .dup=> .func (.func 169) [] []
 | .swap=> .func (.func 170) [] []
theorem eG_cellQ (g:Gv):(eG g).cellQ=true:=by cases g <;> rfl
theorem of153 (t:Ty):PCall Tryz.prog 166 [.int .u8 t.val] (.agg (eW ⟨4,t⟩)):=by
 refine F166.pcall' rfl fun T hT=> ?_
 simp -implicitDefEqProofs only[go_sem,c166,hT,zb0,za4]
 exact DLe.of_eq rfl
theorem giving154 (x:D) (hx:x.cellQ=true):PCall Tryz.prog 167 [x] (.func (.func 181) [] [.eptr [x]]):=by
 refine RCall.freeze (F167.rcall rfl fun T hT=> ?_)
 simp -implicitDefEqProofs only[go_sem,c167,hT,hx]
 exact fun b=>⟨_,_,DLe.refl _,St.le.refl _,FLe.func .nil (.cons (FLe.box (by simp[St.set_box]) (FLes.refl _)) .nil)⟩
theorem fixed155 (x g:D) (hx:x.cellQ=true) (hg:g.cellQ=true):PCall Tryz.prog 168 [x,g] (.func (.func 182) [] [.eptr [x],.eptr [g]]):=by
 refine RCall.freeze (F168.rcall rfl fun T hT=> ?_)
 simp -implicitDefEqProofs only[go_sem,c168,hT,hx,hg]
 intro b1 b2 n1
 have n2:¬b1=b2:=fun e=>n1 (by simp[has_set,e])
 simp -implicitDefEqProofs only[go_sem,hT,n2]
 exact⟨_,_,DLe.refl _,St.le.refl _,FLe.func .nil (.cons (FLe.box (by simp[St.set_box,n2]) (FLes.refl _)) (.cons (FLe.box (by simp[St.set_box]) (FLes.refl _)) .nil))⟩
theorem classed161 (x:D) (hx:x.cellQ=true) (c:Bool):PCall Tryz.prog 174 [x,.bool c] (.func (.func 183) [] [.eptr [.bool c],.eptr [x]]):=by
 refine RCall.freeze (F174.rcall rfl fun T hT=> ?_)
 simp -implicitDefEqProofs only[go_sem,c174,hT,hx]
 intro b1 b2 n1 n2
 exact⟨_,_,DLe.refl _,St.le.refl _,FLe.func .nil (.cons (FLe.box (by simp[St.set_box]) (FLes.refl _)) (.cons (FLe.box (by simp[St.set_box,n1,n2]) (FLes.refl _)) .nil))⟩
theorem field162 (c:Bool):PCall Tryz.prog 175 [.bool c] (.func (.func 185) [] [.eptr [.bool c]]):=by
 refine RCall.freeze (F175.rcall rfl fun T hT=> ?_)
 simp -implicitDefEqProofs only[go_sem,c175,hT]
 exact fun b=>⟨_,_,DLe.refl _,St.le.refl _,FLe.func .nil (.cons (FLe.box (by simp[St.set_box]) (FLes.refl _)) .nil)⟩
theorem class187 (n:Nat) (h:n<32):PCall Tryz.prog 184 [.int .i64 n] (.int .u8 (((⟨16+n,by omega⟩:Ty)).val:Int)):=by
 refine F184.pcall' rfl fun T hT=> ?_
 have h1:IntKind.wrap .u8 (n:Int)=n:=wrap_u8 (by omega) (by omega)
 have h2:IntKind.wrap .u8 (16+(n:Int))=16+n:=wrap_u8 (by omega) (by omega)
 simp -implicitDefEqProofs only[go_sem,c184,hT,h1,h2]
 exact DLe.of_eq (by simp)
theorem gives184 (x y:D):PCall Tryz.prog 181 [y,.eptr [x]] x:=by
 refine F181.pcall' rfl fun T hT=> ?_
 simp -implicitDefEqProofs only[go_sem,c181,hT]
theorem dup156 (l:List Ty) (o:Own) (h:0<l.length):PCall Tryz.prog 169 [.slice o (rws eT l)] (.slice .no (rws eT [l[0],l[0]])):=by
 refine F169.pcall' rfl fun T hT=> ?_
 have h0:(rws eT l)[0]?.getD []=eT l[0]:=rws_at h
 simp -implicitDefEqProofs only[go_sem,c169,hT,h0,eT,eT_len,frz]
 refine⟨by omega,by omega, ?_⟩
 exact DLe.slice _ _
theorem swap157 (l:List Ty) (o:Own) (h:1<l.length):PCall Tryz.prog 170 [.slice o (rws eT l)] (.slice .no (rws eT [l[1],l[0]])):=by
 refine F170.pcall' rfl fun T hT=> ?_
 have h0:(rws eT l)[0]?.getD []=eT l[0]:=rws_at (by omega)
 have h1:(rws eT l)[1]?.getD []=eT l[1]:=rws_at h
 simp -implicitDefEqProofs only[go_sem,c170,hT,h0,h1,eT,eT_len,frz]
 refine⟨by omega,by omega, ?_⟩
 exact DLe.slice _ _
structure Ef where
 takes:List Wn
 gives:Gv
def eEf (f:Ef):List D:=[.slice .no (rws eW f.takes),eG f.gives]
def ef0:Ef:=⟨[],.no⟩
theorem tell185 (e i x g:D) (es is:List D) (he:e= .agg es) (hi:i= .agg is) (h1:es.length=3) (h2:is.length=4) (hx:x.cellQ=true) (hg:g.cellQ=true):
  PCall Tryz.prog 182 [e,i,.eptr [x],.eptr [g]] (.tup [.agg [x,g],.int .i64 0]):=by
 subst he; subst hi
 refine F182.pcall' rfl fun T hT=> ?_
 simp -implicitDefEqProofs only[go_sem,c182,hT,h1,h2,hx,hg]
 intro b1 b2 n1 n2 b3 m1 m2 m3 m4
 simp -implicitDefEqProofs only[go_sem,hT,hx,hg,zb0,za4,m1,m2,m3,m4]
theorem res160 (t:Ty):PCall Tryz.prog 173 [.int .u8 t.val] (.slice .no (rws eW (if t.val=0 then [] else [⟨4,t⟩]))):=by
 refine F173.pcall' rfl fun T hT=> ?_
 by_cases h:t.val=0
 ·have h1:(t.val:Int)=0:=by omega
  simp -implicitDefEqProofs only[go_sem,c173,hT,h1]
  rw[if_pos h]
  exact DLe.slice _ _
 ·have h1:¬(t.val:Int)=0:=by omega
  simp -implicitDefEqProofs only[go_sem,c173,hT,h1]
  refine za3 (of153 t) ?_
  simp -implicitDefEqProofs only[go_sem,hT,eW,frz]
  rw[if_neg h]
  exact DLe.slice _ _
theorem tell159 (e:En) (i:Ins) (g:D) (hg:g.cellQ=true) (h:0≤e.fn) (h2:e.fn.toNat<e.sgs.length):
  PCall Tryz.prog 172 [.agg (eEn e),.agg (eIn i),.eptr [g]] (.tup [.agg [.slice .no (rws eW (if e.sgs[e.fn.toNat].r.val=0 then [] else [⟨4,e.sgs[e.fn.toNat].r⟩])),g],.int .i64 0]):=by
 obtain⟨k,hk⟩:∃k:Nat,e.fn=k:=⟨e.fn.toNat,by omega⟩
 have hkl:k<e.sgs.length:=by omega
 have hR:(rws eSg e.sgs)[k]?.getD []=eSg e.sgs[k]:=rws_at hkl
 have hk':e.fn.toNat=k:=by omega
 simp only[hk']
 generalize e.sgs[k]=s at *
 refine F172.pcall' rfl fun T hT=> ?_
 simp -implicitDefEqProofs only[go_sem,c172,hT,eEn,eIn,hk]
 intro b1 b2 n1 n2 b3 m1 m2 m3 m4
 simp -implicitDefEqProofs only[go_sem,hT,zb0,za4,m1,m2,m3,m4,n1,n2,eEn,hk,hR,eSg,eSg_len]
 refine⟨by omega, ?_⟩
 refine za3 (res160 s.r) ?_
 simp -implicitDefEqProofs only[go_sem,hT,hg,zb0,za4,m1,m2,m3,m4,n1,n2]
open Go.Proofs
def sigMayB (c:Nat) (s:Sg):Bool:=decide (s.ps.length≤8)&& !(s.ps.any fun t=> !storedN c t)&&(decide (s.r.val=0)||storedN c s.r)
theorem sigMay70 (l:List Cl) (o:Own) (s:Sg) (hl:s.ps.length≤140737488355328):PCall Tryz.prog 77 [.slice o (rws eC l),.agg (eSg s)] (.bool (sigMayB l.length s)):=by
 refine F77.pcall' rfl fun T hT=> ?_
 simp -implicitDefEqProofs only[go_sem,c77,hT,eSg]
 intro b3
 refine loopL F77 (fun i:Nat=>[(0,.slice o (rws eC l)),(3,.ptr b3 0),(5,.int .i64 i)]) (fun _=>({}:St).set b3 (eSg s)) (fun i=>i≤s.ps.length∧(s.ps.take i).any (fun t=> !storedN l.length t)=false) (fun i=>s.ps.length-i) 0
  ⟨Nat.zero_le _,rfl⟩ ?_ (St.le.refl _) ?_
 ·simp -implicitDefEqProofs only[go_sem,hT,Int.ofNat_zero]
 clear hT T
 rintro i ⟨hi,hok⟩ T hT
 by_cases h2:i<s.ps.length
 ·have h3:((i:Int)<s.ps.length)=True:=by simp; omega
  have htake:s.ps.take (i+1)=s.ps.take i++[s.ps[i]]:=List.take_succ_eq_append_getElem h2
  have hR:(rws eT s.ps)[i]?.getD []=eT s.ps[i]:=rws_at h2
  have hin:s.ps[i]∈s.ps:=by simp
  generalize s.ps[i]=t at *
  simp -implicitDefEqProofs only[go_sem,hT,h3,hR,eT,eT_len,eSg]
  refine⟨by omega,za3 (refStored109 l o t) ?_⟩
  cases hst:storedN l.length t
  ·simp -implicitDefEqProofs only[go_sem,hT]
   have hany:(s.ps.any fun t=> !storedN l.length t)=true:=List.any_eq_true.2 ⟨t,hin,by simp[hst]⟩
   exact zf3 (by rw[sigMayB,hany]; simp)
  ·simp -implicitDefEqProofs only[go_sem,hT]
   refine⟨i+1,⟨by omega, ?_⟩,by omega, ?_,St.le.refl _⟩
   ·rw[htake,List.any_append,hok]; simp[hst]
   ·rw[zb7 (by omega) (by omega)]; simp
 ·have h3:((i:Int)<s.ps.length)=False:=by simp; omega
  rw[List.take_of_length_le (by omega)] at hok
  by_cases h8:(s.ps.length:Int)≤8
  ·by_cases h0:(s.r.val:Int)=0
   ·simp -implicitDefEqProofs only[go_sem,hT,h3,eSg,h8,h0]
    exact zf3 (by simp only[sigMayB,hok]; simp; omega)
   ·simp -implicitDefEqProofs only[go_sem,hT,h3,eSg,h8,h0]
    refine za3 (refStored109 l o s.r) ?_
    simp -implicitDefEqProofs only[go_sem,hT]
    exact zf3 (by
     have:¬s.r.val=0:=by omega
     simp only[sigMayB,hok,this,decide_false,Bool.false_or,show s.ps.length≤8 by omega,decide_true]; rfl)
  ·simp -implicitDefEqProofs only[go_sem,hT,h3,eSg,h8]
   exact zf3 (by simp only[sigMayB,show ¬s.ps.length≤8 by omega,decide_false]; rfl)
theorem odd65 (e:En) (t:Ty) (b:Nat) (σ:St) (hb:σ.box b=some (eEn e)):
  RCall Tryz.prog 82 [.int .u8 t.val,.ptr b 0] σ fun d s'=>d= .bool (!storedN e.cs.length t)∧s'=σ:=by
 refine F82.rcall rfl fun T hT=> ?_
 simp -implicitDefEqProofs only[go_sem,c82,hT,hb,eEn]
 refine za3 (stored66 e.cs .no t) ?_
 simp -implicitDefEqProofs only[go_sem,hT]
 exact⟨_,σ,DLe.refl _,St.le.refl _,rfl,rfl⟩
def sigsErr (c:Nat):List Sg→Nat
 |[]=>0
 |s::r=>if 8<s.ps.length then 4 else if sigMayB c s=false then 22 else sigsErr c r
def mayE (e:En) (n:Int):Nat:=
 if(checkL isWordB e.cs).2≠0 then(checkL isWordB e.cs).2 else if 64<e.sgs.length then 4 else if sigsErr e.cs.length e.sgs≠0 then sigsErr e.cs.length e.sgs
 else if h:0≤e.fn∧e.fn.toNat<e.sgs.length then(startF e.cs.length e.sgs[e.fn.toNat].ps n).2 else 71
theorem sigsErr_skip {c:Nat} {s:Sg} {r:List Sg} (h:s.ps.length≤8) (h2:sigMayB c s=true):sigsErr c (s::r)=sigsErr c r:=by
 rw[sigsErr,if_neg (by omega),if_neg (by simp[h2])]
theorem may31 (e:En) (n:Int) (hw:WideE e):PCall Tryz.prog 57 [.agg (eEn e),.int .i64 n] (.int .i64 (mayE e n)):=by
 obtain⟨hw1,hw2,hw3⟩:=hw
 refine F57.pcall' rfl fun T hT=> ?_
 simp -implicitDefEqProofs only[go_sem,c57,hT,eEn]
 intro b2
 refine za3 (check64 e.cs .no hw1) ?_
 by_cases hc:(checkL isWordB e.cs).2=0
 case neg=>
  have hc':(((checkL isWordB e.cs).2:Int)=0)=False:=by simp; omega
  simp -implicitDefEqProofs only[go_sem,hT,eEn,hc']
  exact DLe.of_eq (by rw[mayE,if_pos hc])
 have hc':(((checkL isWordB e.cs).2:Int)=0)=True:=by simp; omega
 simp -implicitDefEqProofs only[go_sem,hT,eEn,hc']
 by_cases h64:(64:Int)<e.sgs.length
 ·simp -implicitDefEqProofs only[go_sem,hT,eEn,h64]
  exact DLe.of_eq (by rw[mayE,if_neg (by omega),if_pos (by omega)]; rfl)
 simp -implicitDefEqProofs only[go_sem,hT,eEn,h64]
 have hm:mayE e n=if sigsErr e.cs.length e.sgs≠0 then sigsErr e.cs.length e.sgs else if h:0≤e.fn∧e.fn.toNat<e.sgs.length then(startF e.cs.length e.sgs[e.fn.toNat].ps n).2 else 71:=by
  rw[mayE,if_neg (by omega),if_neg (by omega)]
 refine loopL F57 (fun i:Nat=>[(1,.int .i64 n),(2,.ptr b2 0),(26,.slice .no (rws eSg e.sgs)),(27,.int .i64 e.sgs.length),(28,.int .i64 i)]) (fun _=>({}:St).set b2 (eEn e)) (fun i=>i≤e.sgs.length∧sigsErr e.cs.length e.sgs=sigsErr e.cs.length (e.sgs.drop i)) (fun i=>e.sgs.length-i) 0
  ⟨Nat.zero_le _,rfl⟩ ?_ (St.le.refl _) ?_
 ·simp -implicitDefEqProofs only[go_sem,hT,Int.ofNat_zero]
 clear hT T
 rintro i ⟨hi,heq⟩ T hT
 by_cases h2:i<e.sgs.length
 ·have h3:((i:Int)<e.sgs.length)=True:=by simp; omega
  have hR:(rws eSg e.sgs)[i]?.getD []=eSg e.sgs[i]:=rws_at h2
  have hwf:=hw3 e.sgs[i] (by simp)
  rw[List.drop_eq_getElem_cons h2] at heq
  generalize e.sgs[i]=s at *
  have stop:∀k:Nat,k≠0→sigsErr e.cs.length e.sgs=k→DLe (.int .i64 k) (.int .i64 (mayE e n)):=fun k hk he=>by
   rw[hm,if_pos (by omega),he]; exact DLe.refl _
  have e22:s.ps.length≤8→sigMayB e.cs.length s=false→sigsErr e.cs.length e.sgs=22:=fun h1 h2=>by
   rw[heq,sigsErr,if_neg (by omega),if_pos h2]
  have next:s.ps.length≤8→sigMayB e.cs.length s=true→∀σ':St,St.le (({}:St).set b2 (eEn e)) σ'→∃y:Nat,(y≤e.sgs.length∧sigsErr e.cs.length e.sgs=sigsErr e.cs.length (e.sgs.drop y))∧e.sgs.length-y<e.sgs.length-i∧D.int .i64 (IntKind.wrap .i64 ((i:Int)+1))=D.int .i64 (y:Int)∧St.le (({}:St).set b2 (eEn e)) σ':=fun h1 h2 σ' hle=>
   ⟨i+1,⟨by omega,by rw[heq,sigsErr_skip h1 h2]⟩,by omega,by rw[zb7 (by omega) (by omega)]; simp,hle⟩
  simp -implicitDefEqProofs only[go_sem,hT,h3,hR,eSg_len,eSg]
  refine⟨by omega,fun b8 n1 n2=> ?_⟩
  by_cases h8:(8:Int)<s.ps.length
  ·simp -implicitDefEqProofs only[go_sem,hT,h3,eSg,h8,n1,n2,za4]
   exact stop 4 (by decide) (by rw[heq,sigsErr,if_pos (by omega)])
  simp -implicitDefEqProofs only[go_sem,hT,h3,eSg,h8,n1,n2,za4]
  have hb2:((({}:St).set b2 (eEn e)).set b8 (eSg s)).box b2=some (eEn e):=by
   have:¬b2=b8:=by omega
   simp[St.set_box,this]
  refine callB_all (contFunc67 s.ps .no 82 [] [.ptr b2 0] (fun t=> !storedN e.cs.length t) _ (by omega) fun t _=>odd65 e t b2 _ hb2) ?_
  rintro d s' ⟨rfl,rfl⟩
  cases hA:s.ps.any fun t=> !storedN e.cs.length t
  case true=>
   simp -implicitDefEqProofs only[go_sem,hT,h3,eSg,n1,n2]
   exact stop 22 (by decide) (e22 (by omega) (by rw[sigMayB,hA]; simp))
  by_cases h0:(s.r.val:Int)=0
  ·simp -implicitDefEqProofs only[go_sem,hT,h3,eSg,n1,n2,h0]
   exact next (by omega) (by rw[sigMayB,hA]; simp; omega) _ (le_add (by simp[has_set,has_nil]; omega))
  simp -implicitDefEqProofs only[go_sem,hT,h3,eSg,n1,n2,h0]
  refine callB_all (odd65 e s.r b2 _ hb2) ?_
  rintro d s' ⟨rfl,rfl⟩
  have hr:¬s.r.val=0:=by omega
  cases hS:storedN e.cs.length s.r
  ·simp -implicitDefEqProofs only[go_sem,hT,h3,eSg,n1,n2]
   exact stop 22 (by decide) (e22 (by omega) (by rw[sigMayB,hA,hS]; simp[hr]))
  ·simp -implicitDefEqProofs only[go_sem,hT,h3,eSg,n1,n2]
   exact next (by omega) (by rw[sigMayB,hA,hS]; simp; omega) _ (le_add (by simp[has_set,has_nil]; omega))
 ·have h3:((i:Int)<e.sgs.length)=False:=by simp; omega
  rw[List.drop_of_length_le (by omega),sigsErr] at heq
  rw[if_neg (by omega)] at hm
  by_cases hf:0≤e.fn∧e.fn.toNat<e.sgs.length
  ·have hfc:(decide (e.fn<0)||decide ((e.sgs.length:Int)≤e.fn))=false:=by simp; omega
   rw[dif_pos hf] at hm
   obtain⟨k,hk⟩:∃k:Nat,e.fn=k:=⟨e.fn.toNat,by omega⟩
   have hkl:k<e.sgs.length:=by omega
   have hR:(rws eSg e.sgs)[k]?.getD []=eSg e.sgs[k]:=rws_at hkl
   have hwf:=hw3 e.sgs[k] (by simp)
   have hm':mayE e n=(startF e.cs.length e.sgs[k].ps n).2:=by rw[hm]; simp[hk]
   rw[hk] at hfc
   simp -implicitDefEqProofs only[go_sem,mmB,hT,h3,eEn,hk,hfc,hR,eSg_len,eSg]
   refine⟨by omega, ?_⟩
   refine za3 (start68 e.cs .no .no e.sgs[k].ps n (by omega)) ?_
   simp -implicitDefEqProofs only[go_sem,mmB,hT,za6]
   rw[hm']
   exact fun _ _ _=>DLe.refl _
  ·have hfc:(decide (e.fn<0)||decide ((e.sgs.length:Int)≤e.fn))=true:=by simp; omega
   rw[dif_neg hf] at hm
   simp -implicitDefEqProofs only[go_sem,mmB,hT,h3,eEn,hfc]
   exact DLe.of_eq (by rw[hm]; rfl)
theorem refMay32 (e:En) (n:Int) (hw:WideE e):PCall Tryz.prog 51 [.agg (eEn e),.int .i64 n] (.int .i64 (mayE e n)):=by
 obtain⟨hw1,hw2,hw3⟩:=hw
 refine F51.pcall' rfl fun T hT=> ?_
 simp -implicitDefEqProofs only[go_sem,c51,hT,eEn]
 intro b2
 refine za3 (refCheck69 e.cs .no hw1) ?_
 by_cases hc:(checkL isWordB e.cs).2=0
 case neg=>
  have hc':(((checkL isWordB e.cs).2:Int)=0)=False:=by simp; omega
  simp -implicitDefEqProofs only[go_sem,hT,eEn,hc']
  exact DLe.of_eq (by rw[mayE,if_pos hc])
 have hc':(((checkL isWordB e.cs).2:Int)=0)=True:=by simp; omega
 simp -implicitDefEqProofs only[go_sem,hT,eEn,hc']
 by_cases h64:(64:Int)<e.sgs.length
 ·simp -implicitDefEqProofs only[go_sem,hT,eEn,h64]
  exact DLe.of_eq (by rw[mayE,if_neg (by omega),if_pos (by omega)]; rfl)
 simp -implicitDefEqProofs only[go_sem,hT,eEn,h64]
 have hm:mayE e n=if sigsErr e.cs.length e.sgs≠0 then sigsErr e.cs.length e.sgs else if h:0≤e.fn∧e.fn.toNat<e.sgs.length then(startF e.cs.length e.sgs[e.fn.toNat].ps n).2 else 71:=by
  rw[mayE,if_neg (by omega),if_neg (by omega)]
 refine loopL F51 (fun i:Nat=>[(1,.int .i64 n),(2,.ptr b2 0),(7,.int .i64 i)]) (fun _=>({}:St).set b2 (eEn e)) (fun i=>i≤e.sgs.length∧sigsErr e.cs.length e.sgs=sigsErr e.cs.length (e.sgs.drop i)) (fun i=>e.sgs.length-i) 0
  ⟨Nat.zero_le _,rfl⟩ ?_ (St.le.refl _) ?_
 ·simp -implicitDefEqProofs only[go_sem,hT,Int.ofNat_zero]
 clear hT T
 rintro i ⟨hi,heq⟩ T hT
 by_cases h2:i<e.sgs.length
 ·have h3:((i:Int)<e.sgs.length)=True:=by simp; omega
  have hR:(rws eSg e.sgs)[i]?.getD []=eSg e.sgs[i]:=rws_at h2
  have hwf:=hw3 e.sgs[i] (by simp)
  rw[List.drop_eq_getElem_cons h2] at heq
  generalize e.sgs[i]=s at *
  have stop:∀k:Nat,k≠0→sigsErr e.cs.length e.sgs=k→DLe (.int .i64 k) (.int .i64 (mayE e n)):=fun k hk he=>by
   rw[hm,if_pos (by omega),he]; exact DLe.refl _
  by_cases h8:(8:Int)<s.ps.length
  ·simp -implicitDefEqProofs only[go_sem,hT,h3,hR,eSg_len,eSg,eEn,h8]
   refine⟨by omega, ?_⟩
   exact stop 4 (by decide) (by rw[heq,sigsErr,if_pos (by omega)])
  have ht:∀s:Sg,(eSg s).take 2=eSg s:=fun s=>rfl
  have hd:(eSg s).drop 0=eSg s:=rfl
  have h0:(eSg s)[0]? =some (.slice .no (rws eT s.ps)):=rfl
  simp -implicitDefEqProofs only[go_sem,hT,h3,hR,eSg_len,h8,eEn,h0,ht]
  refine⟨by omega,by omega, ?_⟩
  refine za3 (sigMay70 e.cs .no s (by omega)) ?_
  cases hS:sigMayB e.cs.length s
  ·simp -implicitDefEqProofs only[go_sem,hT]
   exact stop 22 (by decide) (by rw[heq,sigsErr,if_neg (by omega),if_pos hS])
  ·simp -implicitDefEqProofs only[go_sem,hT]
   refine⟨i+1,⟨by omega,by rw[heq,sigsErr_skip (by omega) hS]⟩,by omega, ?_,St.le.refl _⟩
   rw[zb7 (by omega) (by omega)]; simp
 ·have h3:((i:Int)<e.sgs.length)=False:=by simp; omega
  rw[List.drop_of_length_le (by omega),sigsErr] at heq
  rw[if_neg (by omega)] at hm
  by_cases hf:0≤e.fn∧e.fn.toNat<e.sgs.length
  ·have hfc:(decide (e.fn<0)||decide ((e.sgs.length:Int)≤e.fn))=false:=by simp; omega
   rw[dif_pos hf] at hm
   obtain⟨k,hk⟩:∃k:Nat,e.fn=k:=⟨e.fn.toNat,by omega⟩
   have hkl:k<e.sgs.length:=by omega
   have hR:(rws eSg e.sgs)[k]?.getD []=eSg e.sgs[k]:=rws_at hkl
   have hwf:=hw3 e.sgs[k] (by simp)
   have hm':mayE e n=(startF e.cs.length e.sgs[k].ps n).2:=by rw[hm]; simp[hk]
   rw[hk] at hfc
   simp -implicitDefEqProofs only[go_sem,mmB,hT,h3,eEn,hk,hfc,hR,eSg_len,eSg]
   refine⟨by omega, ?_⟩
   refine za3 (refStart71 e.cs .no .no e.sgs[k].ps n (by omega)) ?_
   simp -implicitDefEqProofs only[go_sem,mmB,hT,za6]
   rw[hm']
   exact DLe.refl _
  ·have hfc:(decide (e.fn<0)||decide ((e.sgs.length:Int)≤e.fn))=true:=by simp; omega
   rw[dif_neg hf] at hm
   simp -implicitDefEqProofs only[go_sem,mmB,hT,h3,eEn,hfc]
   exact DLe.of_eq (by rw[hm]; rfl)
open Go.Proofs
structure Can (e:En):Prop where
 wide:WideE e
 right:Right isWordB e.cs e.cs.length
 fn0:0≤e.fn
 fn1:e.fn.toNat<e.sgs.length
 sigs:∀s∈e.sgs,s.ps.length≤8
theorem Can.cls {e:En} (h:Can e):e.cs.length≤32:=by
 by_cases h0:e.cs.length=0
 ·omega
 ·have:=(h.right.at (i:=e.cs.length-1) (by omega) (by omega)).1
  omega
theorem Can.flds {e:En} (h:Can e) (c:Int):(zf8 e.cs (upI e.cs c).reverse).length≤32:=by
 rw[fieldsOn_len]
 by_cases hc:c<e.cs.length
 ·have:=namesUp_len h.right c hc
  simpa[namesUp] using this
 ·rw[upI_out (by omega)]; simp[zf8]
theorem DLe_gives {o:Own} {es:List (List D)} {l:List Ty} (h:es=rws eT l):DLe (.func (.func 181) [] [.eptr [.slice o es]]) (eG (.const l)):=by
 subst h; exact DLe.func .nil (.cons (DLe.eptr (.cons (DLe.slice _ _) .nil)) .nil)
theorem DLe_ef {x g x' g':D} {n:Int} (h1:DLe x x') (h2:DLe g g'):DLe (.tup [.agg [x,g],.int .i64 n]) (.tup [.agg [x',g'],.int .i64 n]):=
 DLe.tup (.cons (DLe.agg (.cons h1 (.cons h2 .nil))) (.cons (.refl _) .nil))
def ofClass (a:Int):Ty:=Fin.ofNat 256 (16+a.toNat)
def bXdaI0:=aI @zb0 @za4
theorem tell186 (e:En) (i:Ins) (x:D) (c:Bool) (hx:x.cellQ=true) (h32:e.cs.length≤32):
  PCall Tryz.prog 183 [.agg (eEn e),.agg (eIn i),.eptr [.bool c],.eptr [x]] (if i.a<0∨(e.cs.length:Int)≤i.a then .tup [.agg (eEf ef0),.int .i64 72] else .tup [.agg [x,eG (.const [if c then ofClass i.a else 2])],.int .i64 0]):=by
 refine F183.pcall' rfl fun T hT=> ?_
 simp -implicitDefEqProofs only[go_sem,c183,hT,eEn,eIn]
 intro b1 b2 n1 n2 b3 m1 m2 m3 m4
 by_cases h:i.a<0∨(e.cs.length:Int)≤i.a
 ·have hc:(decide (i.a<0)||decide ((e.cs.length:Int)≤i.a))=true:=by simpa using h
  simp -implicitDefEqProofs only[go_sem,mmB,hT,hx,m1,m2,m3,m4,n1,n2,hc,bXdaI0]
  rw[if_pos h]
  exact DLe_ef (DLe.slice _ _) (.refl _)
 ·have hc:(decide (i.a<0)||decide ((e.cs.length:Int)≤i.a))=false:=by simpa using h
  obtain⟨k,hk⟩:∃k:Nat,i.a=k:=⟨i.a.toNat,by omega⟩
  have hkc:ofClass i.a=(⟨16+k,by omega⟩:Ty):=by
   rw[hk]; ext; simp[ofClass]; omega
  rw[if_neg h]
  cases c
  ·simp -implicitDefEqProofs only[go_sem,mmB,hT,hx,m1,m2,m3,m4,n1,n2,hc,frz,bXdaI0]
   refine za3 (giving154 _ rfl) ?_
   simp -implicitDefEqProofs only[go_sem,mmB,hT,hx,m1,m2,m3,m4,n1,n2,bXdaI0]
   exact DLe_ef (.refl _) (DLe_gives rfl)
  ·simp -implicitDefEqProofs only[go_sem,mmB,hT,hx,m1,m2,m3,m4,n1,n2,hc,bXdaI0]
   rw[hk]
   refine za3 (class187 k (by omega)) ?_
   simp -implicitDefEqProofs only[go_sem,mmB,hT,hx,m1,m2,m3,m4,n1,n2,frz,bXdaI0]
   refine za3 (giving154 _ rfl) ?_
   simp -implicitDefEqProofs only[go_sem,mmB,hT,hx,m1,m2,m3,m4,n1,n2,bXdaI0]
   rw[←hk,hkc]
   exact DLe_ef (.refl _) (DLe_gives rfl)
theorem tell158 (e:En) (i:Ins) (hc:Can e):
  PCall Tryz.prog 171 [.agg (eEn e),.agg (eIn i)] (if h:0≤i.a∧i.a.toNat<e.sgs.length then .tup [.agg [.slice .no (rws eW (e.sgs[i.a.toNat].ps.map fun t=>⟨4,t⟩)),eG (.const (if e.sgs[i.a.toNat].r.val=0 then [] else [e.sgs[i.a.toNat].r]))],.int .i64 0] else .tup [.agg (eEf ef0),.int .i64 71]):=by
 refine F171.pcall' rfl fun T hT=> ?_
 simp -implicitDefEqProofs only[go_sem,c171,hT,eEn,eIn]
 intro b1 b2 n1 n2 b3 m1 m2 m3 m4
 by_cases h:0≤i.a∧i.a.toNat<e.sgs.length
 case neg=>
  have hq:(decide (i.a<0)||decide ((e.sgs.length:Int)≤i.a))=true:=by simp; omega
  simp -implicitDefEqProofs only[go_sem,mmB,hT,m1,m2,m3,m4,n1,n2,hq,bXdaI0]
  rw[dif_neg h]
  exact DLe_ef (DLe.slice _ _) (.refl _)
 have hq:(decide (i.a<0)||decide ((e.sgs.length:Int)≤i.a))=false:=by simp; omega
 rw[dif_pos h]
 obtain⟨k,hk⟩:∃k:Nat,i.a=k:=⟨i.a.toNat,by omega⟩
 have hkl:k<e.sgs.length:=by omega
 have hR:(rws eSg e.sgs)[k]?.getD []=eSg e.sgs[k]:=rws_at hkl
 have h8:=hc.sigs e.sgs[k] (by simp)
 have hkn:i.a.toNat=k:=by omega
 simp only[hkn]
 rw[hk] at hq
 generalize e.sgs[k]=s at *
 simp -implicitDefEqProofs only[go_sem,mmB,hT,zb0,za4,m1,m2,m3,m4,n1,n2,hk,hq,hR,eSg,eSg_len]
 refine⟨by omega,fun b4 k1 k2 k3 k4 k5 k6=> ?_⟩
 have hbase:St.le ((({}:St).set b3 [.slice .nil [],.nilfunc]).set b4 (eSg s)) (((((({}:St).set b1 [.slice .no (rws eC e.cs),.slice .no (rws eSg e.sgs),.int .i64 e.fn]).set b2 (eIn i)).set b3 [.slice .nil [],.nilfunc])).set b4 (eSg s)):=le_set (le_set (St.le.nil _))
 refine loopL F171 (fun x:Nat×Option Nat=>[(4,.ptr b3 0),(6,.ptr b4 0),(7,grD 2 x.2 (rws eW ((s.ps.take x.1).map fun t=>⟨4,t⟩))),(29,.slice .no (rws eT s.ps)),(30,.int .i64 s.ps.length),(31,.int .i64 x.1)]) (fun x=>grS 2 x.1 x.2 ((({}:St).set b3 [.slice .nil [],.nilfunc]).set b4 (eSg s)))
  (fun x=>x.1≤s.ps.length∧(x.2=none→x.1=0)∧grN x.2 ((({}:St).set b3 [.slice .nil [],.nilfunc]).set b4 (eSg s))) (fun x=>s.ps.length-x.1) (0,none)
  ⟨Nat.zero_le _,fun _=>rfl,grN_none⟩ ?_ (le_set (le_set (St.le.nil _))) ?_
 ·simp -implicitDefEqProofs only[go_sem,mmB,hT,Int.ofNat_zero]
  rfl
 clear hT T
 rintro⟨j,ob⟩ ⟨hj,hn,hg⟩ T hT
 simp only at hj hn hg hT ⊢
 by_cases h2:j<s.ps.length
 ·have h3:((j:Int)<s.ps.length)=True:=by simp; omega
  have htake:s.ps.take (j+1)=s.ps.take j++[s.ps[j]]:=List.take_succ_eq_append_getElem h2
  have hRt:(rws eT s.ps)[j]?.getD []=eT s.ps[j]:=rws_at h2
  generalize s.ps[j]=t at *
  have hlj:(rws eW ((s.ps.take j).map fun t=>(⟨4,t⟩:Wn))).length=j:=by simp[rws]; omega
  simp -implicitDefEqProofs only[go_sem,hT,h3,hRt,eT,eT_len]
  refine⟨by omega,za3 (of153 t) ?_⟩
  simp -implicitDefEqProofs only[go_sem,hT,eW,frz]
  refine app_gr' Tryz.sli165 Tryz.sz201 Tryz.by201 Tryz.zero201 rfl (n:=j) (m:=1) hlj rfl (St.le.refl _) hg hn (by simp) (by omega) fun o' σ' hbox hle hgn hno=> ?_
  simp -implicitDefEqProofs only[go_sem,hT]
  refine⟨(j+1,o'),⟨by omega,by simpa using hno,hgn⟩,by omega,⟨?_, ?_⟩,hle⟩
  ·rw[htake]; simp[rws,eW]
  ·rw[zb7 (by omega) (by omega)]; simp
 ·have h3:((j:Int)<s.ps.length)=False:=by simp; omega
  have hx:∀σ:St,(grS 2 j ob σ).box=σ.box:=fun _=>grS_box
  by_cases h0:s.r.val=0
  ·have h0':(s.r.val:Int)=0:=by omega
   simp -implicitDefEqProofs only[go_sem,hT,h3,grS_boxa,eSg,k2,k1,h0']
   refine za3 (giving154 _ rfl) ?_
   simp -implicitDefEqProofs only[go_sem,hT,grS_boxa,eSg,k2,k1,zb0]
   rw[if_pos h0,List.take_of_length_le (by omega)]
   exact DLe_ef grD_le (DLe_gives rfl)
  ·have h0':¬(s.r.val:Int)=0:=by omega
   simp -implicitDefEqProofs only[go_sem,hT,h3,grS_boxa,eSg,k2,k1,h0',frz]
   refine za3 (giving154 _ rfl) ?_
   simp -implicitDefEqProofs only[go_sem,hT,grS_boxa,eSg,k2,k1,zb0]
   rw[if_neg h0,List.take_of_length_le (by omega)]
   exact DLe_ef grD_le (DLe_gives rfl)
theorem tell188 (e:En) (i:Ins) (put:Bool) (hc:Can e):
  PCall Tryz.prog 185 [.agg (eEn e),.agg (eIn i),.eptr [.bool put]] (if h:(0≤i.a∧i.a<e.cs.length)∧0≤i.b∧i.b.toNat<(zf8 e.cs (upI e.cs i.a).reverse).length then
   (if put=true then .tup [.agg [.slice .no (rws eW [⟨4,ofClass i.a⟩,⟨4,((zf8 e.cs (upI e.cs i.a).reverse)[i.b.toNat]'h.2.2).ty⟩]),eG (.const [])],.int .i64 0]
    else .tup [.agg [.slice .no (rws eW [⟨4,ofClass i.a⟩]),eG (.const [((zf8 e.cs (upI e.cs i.a).reverse)[i.b.toNat]'h.2.2).ty])],.int .i64 0])
   else .tup [.agg (eEf ef0),.int .i64 72]):=by
 have hw1:=hc.wide.1.1
 have hfl:=hc.flds i.a
 have h32:=hc.cls
 refine F185.pcall' rfl fun T hT=> ?_
 simp -implicitDefEqProofs only[go_sem,c185,hT,eEn,eIn]
 intro b1 b2 n1 n2 b3 m1 m2 m3 m4
 simp -implicitDefEqProofs only[go_sem,hT,eEn,eIn,m1,m2,m3,m4,n1,n2]
 refine za3 (fields189 e.cs .no i.a (by omega) (by omega)) ?_
 generalize hF:zf8 e.cs (upI e.cs i.a).reverse=F at *
 by_cases h:(0≤i.a∧i.a<e.cs.length)∧0≤i.b∧i.b.toNat<F.length
 case neg=>
  have hq:(decide (i.a<0)||decide ((e.cs.length:Int)≤i.a)||decide (i.b<0)||decide ((F.length:Int)≤i.b))=true:=by simp; omega
  simp -implicitDefEqProofs only[go_sem,mmB,hT,m1,m2,m3,m4,n1,n2,hq,bXdaI0]
  rw[dif_neg h]
  exact DLe_ef (DLe.slice _ _) (.refl _)
 have hq:(decide (i.a<0)||decide ((e.cs.length:Int)≤i.a)||decide (i.b<0)||decide ((F.length:Int)≤i.b))=false:=by simp; omega
 rw[dif_pos h]
 obtain⟨k,hk⟩:∃k:Nat,i.a=k:=⟨i.a.toNat,by omega⟩
 obtain⟨j,hj⟩:∃j:Nat,i.b=j:=⟨i.b.toNat,by omega⟩
 have hjn:i.b.toNat=j:=by omega
 have hjl:j<F.length:=by omega
 have hR:(rws eF F)[j]?.getD []=eF F[j]:=rws_at hjl
 have hkc:ofClass i.a=(⟨16+k,by omega⟩:Ty):=by
  rw[hk]; ext; simp[ofClass]; omega
 simp only[hjn,hkc]
 rw[hk,hj] at hq
 generalize F[j]=f at *
 cases put
 ·simp -implicitDefEqProofs only[go_sem,mmB,hT,zb0,za4,m1,m2,m3,m4,n1,n2,hk,hj,hq,hR,eF,eF_len]
  refine⟨by omega,za3 (class187 k (by omega)) ?_⟩
  simp -implicitDefEqProofs only[go_sem,mmB,hT,m1,m2,m3,m4,n1,n2,bXdaI0]
  refine za3 (of153 (⟨16+k,by omega⟩:Ty)) ?_
  simp -implicitDefEqProofs only[go_sem,mmB,hT,m1,m2,m3,m4,n1,n2,eW,frz,bXdaI0]
  refine za3 (giving154 _ rfl) ?_
  simp -implicitDefEqProofs only[go_sem,mmB,hT,m1,m2,m3,m4,n1,n2,bXdaI0]
  exact DLe_ef (DLe.slice _ _) (DLe_gives rfl)
 ·simp -implicitDefEqProofs only[go_sem,mmB,hT,zb0,za4,m1,m2,m3,m4,n1,n2,hk,hj,hq,hR,eF,eF_len]
  refine⟨by omega,za3 (class187 k (by omega)) ?_⟩
  simp -implicitDefEqProofs only[go_sem,mmB,hT,m1,m2,m3,m4,n1,n2,bXdaI0]
  refine za3 (of153 (⟨16+k,by omega⟩:Ty)) ?_
  simp -implicitDefEqProofs only[go_sem,mmB,hT,m1,m2,m3,m4,n1,n2,eW,bXdaI0]
  refine za3 (of153 f.ty) ?_
  simp -implicitDefEqProofs only[go_sem,mmB,hT,m1,m2,m3,m4,n1,n2,eW,frz,bXdaI0]
  refine za3 (giving154 _ rfl) ?_
  simp -implicitDefEqProofs only[go_sem,mmB,hT,m1,m2,m3,m4,n1,n2,bXdaI0]
  exact DLe_ef (DLe.slice _ _) (DLe_gives rfl)
end Go.AL
