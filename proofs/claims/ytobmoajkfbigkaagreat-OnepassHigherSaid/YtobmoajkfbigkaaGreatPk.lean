import Derived.Test.YtobmoajkfbigkaaGreatPj
set_option linter.unusedSimpArgs false
set_option linter.unusedVariables false
set_option maxRecDepth 100000
set_option maxHeartbeats 2000000
set_option linter.defProp false
namespace Go.AL
open Go.Proofs
def tellF (e:En) (i:Ins):Tl→Ef×Nat
 | .no=>(ef0,0)
 | .fixed ws g=>(⟨ws,g⟩,0)
 | .call=>if h:0≤i.a∧i.a.toNat<e.sgs.length then(⟨e.sgs[i.a.toNat].ps.map fun t=>⟨4,t⟩,.const (if e.sgs[i.a.toNat].r.val=0 then [] else [e.sgs[i.a.toNat].r])⟩,0) else(ef0,71)
 | .ret=>if h:e.fn.toNat<e.sgs.length then(⟨if e.sgs[e.fn.toNat].r.val=0 then [] else [⟨4,e.sgs[e.fn.toNat].r⟩],.const []⟩,0) else(ef0,0)
 | .classed ws c=>if i.a<0∨(e.cs.length:Int)≤i.a then(ef0,72) else(⟨ws,.const [if c then ofClass i.a else 2]⟩,0)
 | .field put=>if h:(0≤i.a∧i.a<e.cs.length)∧0≤i.b∧i.b.toNat<(fieldsOn e.cs (upI e.cs i.a).reverse).length then
   (if put=true then(⟨[⟨4,ofClass i.a⟩,⟨4,((fieldsOn e.cs (upI e.cs i.a).reverse)[i.b.toNat]'h.2.2).ty⟩],.const []⟩,0)
    else(⟨[⟨4,ofClass i.a⟩],.const [((fieldsOn e.cs (upI e.cs i.a).reverse)[i.b.toNat]'h.2.2).ty]⟩,0))
   else(ef0,72)
def tlOf (op:Nat):Tl:=(tblL[op]?).getD .no
def toldF (e:En) (i:Ins):Ef×Nat:=if 34≤i.op.val then(ef0,40) else tellF e i (tlOf i.op.val)
theorem eEf_len (f:Ef):(eEf f).length=2:=rfl
theorem eEf_take (f:Ef):(eEf f).take 2=eEf f:=rfl
theorem zb1 (i:Ins):(eIn i).take 4=eIn i:=rfl
theorem za8 (e:En):(eEn e).take 3=eEn e:=rfl
theorem tblL_no:∀k:Fin 34,tblL[k.val]? ≠some .no:=by
 intro k
 have:k.val=0∨k.val=1∨k.val=2∨k.val=3∨k.val=4∨k.val=5∨k.val=6∨k.val=7∨k.val=8∨k.val=9∨k.val=10∨k.val=11∨k.val=12∨k.val=13∨k.val=14∨k.val=15∨k.val=16∨k.val=17∨k.val=18∨k.val=19∨k.val=20∨k.val=21∨k.val=22∨k.val=23∨k.val=24∨k.val=25∨k.val=26∨k.val=27∨k.val=28∨k.val=29∨k.val=30∨k.val=31∨k.val=32∨k.val=33:=by omega
 rcases this with h|h|h|h|h|h|h|h|h|h|h|h|h|h|h|h|h|h|h|h|h|h|h|h|h|h|h|h|h|h|h|h|h|h <;> rw[h] <;> simp[tblL]
theorem tl_at {op:Nat} (h:op<34):(tblL.map eTl)[op]? =some (eTl (tlOf op))∧tlOf op≠ .no:=by
 have hl:op<tblL.length:=h
 refine⟨by simp[tlOf,hl],fun he=> ?_⟩
 have:=tblL_no ⟨op,h⟩
 simp only at this
 rw[List.getElem?_eq_getElem hl] at this
 simp only[tlOf,List.getElem?_eq_getElem hl,Option.getD_some] at he
 exact this (by rw[he])
theorem callK_tl {N:Nat} {d:Option Nat} {st:Bool} {K:Env→St→Prop} {Q:XA→Env→St→Prop} {T:Env} {σ:St} {B:List Nat} {e:En} {i:Ins} (hc:Can e) (tl:Tl) (hno:tl≠ .no)
  (hk:putK N d (.tup [.agg (eEf (tellF e i tl).1),.int .i64 (tellF e i tl).2]) K T σ):callK Tryz.prog N B st d (eTl tl) [.agg (eEn e),.agg (eIn i)] K Q T σ:=by
 cases tl with
 |no=>exact absurd rfl hno
 |fixed ws g=>exact za3 (tell185 _ _ _ _ _ _ rfl rfl rfl rfl rfl (eG_cellQ g)) hk
 |call=>
  refine za3 (tell158 e i hc) ?_
  simp only[tellF] at hk
  split
  ·rename_i h; rw[dif_pos h] at hk; exact hk
  ·rename_i h; rw[dif_neg h] at hk; exact hk
 |ret=>
  refine za3 (tell159 e i _ (eG_cellQ _) hc.fn0 hc.fn1) ?_
  simp only[tellF,dif_pos hc.fn1] at hk
  exact hk
 |classed ws c=>
  refine za3 (tell186 e i _ c rfl hc.cls) ?_
  simp only[tellF] at hk
  split
  ·rename_i h; rw[if_pos h] at hk; exact hk
  ·rename_i h; rw[if_neg h] at hk; exact hk
 |field put=>
  refine za3 (tell188 e i put hc) ?_
  simp only[tellF] at hk
  split
  ·rename_i h
   rw[dif_pos h] at hk
   cases put
   ·simp only[Bool.false_eq_true,if_false] at hk ⊢; exact hk
   ·simp only[if_true] at hk ⊢; exact hk
  ·rename_i h; rw[dif_neg h] at hk; exact hk
theorem told82 (e:En) (i:Ins) (hc:Can e):PCall Tryz.prog 173 [.agg (eEn e),.agg (eIn i)] (.tup [.agg (eEf (toldF e i).1),.int .i64 (toldF e i).2]):=by
 refine F173.pcall' rfl fun T hT=> ?_
 have h1:(eIn i)[1]? =some (.int .u8 i.op.val):=rfl
 simp -implicitDefEqProofs only[go_sem,c173,hT,zb6,zb8]
 intro b2 b3 n1 n2 b4 m1 m2 m3 m4
 simp -implicitDefEqProofs only[go_sem,hT,zb6,zb8,za8,zb1,n1,n2,m1,m2,m3,m4,za2,h1,gdD]
 refine za3 (size125 i.op) ?_
 by_cases h34:34≤i.op.val
 ·have hs:zf3 i.op.val=0:=by rw[zf3,if_pos h34]
  simp -implicitDefEqProofs only[go_sem,hT,zb6,zb8,za8,zb1,n1,n2,m1,m2,m3,m4,za2,h1,hs,za5,Int.ofNat_zero]
  rw[toldF,if_pos h34]
  exact DLe_ef (DLe.slice _ _) (.refl _)
 have hs:((zf3 i.op.val:Int)=0)=False:=by
  simp only[eq_iff_iff,iff_false]
  rw[zf3,if_neg h34]; omega
 obtain⟨ht,hno⟩:=tl_at (op:=i.op.val) (by omega)
 simp -implicitDefEqProofs only[go_sem,hT,zb6,zb8,za8,zb1,n1,n2,m1,m2,m3,m4,za2,h1,hs]
 refine⟨by rintro b (rfl|rfl) <;> simp[*],za3 table126 ?_⟩
 simp -implicitDefEqProofs only[go_sem,hT,zb6,zb8,za8,zb1,n1,n2,m1,m2,m3,m4,za2,h1,ht,Nat.mul_one,gdD]
 refine⟨by omega, ?_⟩
 refine callK_tl hc _ hno ?_
 simp -implicitDefEqProofs only[go_sem,hT,eEf_len,eEf_take,n1,n2,m1,m2,m3,m4,za2,za5]
 rw[toldF,if_neg h34]
 exact DLe.refl _
def givesN:Gv→Nat
 | .no=>0
 | .const l=>l.length
 | .dup| .swap=>2
def okEf (f:Ef):Prop:=match f.gives with
 | .no=>False
 | .const _=>True
 | .dup=>0<f.takes.length
 | .swap=>1<f.takes.length
theorem tellF_ok (e:En) (i:Ins) (hc:Can e) (op:Nat) (h:op<34) (h0:(tellF e i (tlOf op)).2=0):okEf (tellF e i (tlOf op)).1∧(tellF e i (tlOf op)).1.takes.length≤8:=by
 have fixedOk:∀ws g,tlOf op= .fixed ws g→okEf ⟨ws,g⟩∧ws.length≤8→okEf (tellF e i (tlOf op)).1∧(tellF e i (tlOf op)).1.takes.length≤8:=fun ws g he hk=>by rw[he]; exact hk
 have hcall:tlOf op= .call→okEf (tellF e i (tlOf op)).1∧(tellF e i (tlOf op)).1.takes.length≤8:=fun he=>by
  rw[he] at h0 ⊢
  simp only[tellF] at h0 ⊢
  split
  ·rename_i hq; exact⟨trivial,by simpa using hc.sigs _ (List.getElem_mem _)⟩
  ·rename_i hq; rw[dif_neg hq] at h0; cases h0
 have hret:tlOf op= .ret→okEf (tellF e i (tlOf op)).1∧(tellF e i (tlOf op)).1.takes.length≤8:=fun he=>by
  rw[he] at h0 ⊢
  simp only[tellF,dif_pos hc.fn1]
  exact⟨trivial,by split <;> simp⟩
 have hcls:∀ws c,ws.length≤8→tlOf op= .classed ws c→okEf (tellF e i (tlOf op)).1∧(tellF e i (tlOf op)).1.takes.length≤8:=fun ws c hw he=>by
  rw[he] at h0 ⊢
  simp only[tellF] at h0 ⊢
  split
  ·rename_i hq; rw[if_pos hq] at h0; cases h0
  ·exact⟨trivial,hw⟩
 have hfld:∀p,tlOf op= .field p→okEf (tellF e i (tlOf op)).1∧(tellF e i (tlOf op)).1.takes.length≤8:=fun p he=>by
  rw[he] at h0 ⊢
  simp only[tellF] at h0 ⊢
  split
  ·cases p
   ·exact⟨trivial,by simp⟩
   ·exact⟨trivial,by simp⟩
  ·rename_i hq; rw[dif_neg hq] at h0; cases h0
 have:op=0∨op=1∨op=2∨op=3∨op=4∨op=5∨op=6∨op=7∨op=8∨op=9∨op=10∨op=11∨op=12∨op=13∨op=14∨op=15∨op=16∨op=17∨op=18∨op=19∨op=20∨op=21∨op=22∨op=23∨op=24∨op=25∨op=26∨op=27∨op=28∨op=29∨op=30∨op=31∨op=32∨op=33:=by omega
 rcases this with h|h|h|h|h|h|h|h|h|h|h|h|h|h|h|h|h|h|h|h|h|h|h|h|h|h|h|h|h|h|h|h|h|h <;> subst h <;> first
  |exact fixedOk _ _ rfl ⟨by simp[okEf],by simp⟩
  |exact hcall rfl
  |exact hret rfl
  |exact hcls _ _ (by simp) rfl
  |exact hfld _ rfl
theorem checkFrom_right {w:ByteArray→Bool} {l:List Cl}:∀(k i:Nat),k+i=l.length→Right w l i→(checkFrom w l k i).2=0→Right w l l.length
 |0,i,hk,hr,h=>by
  have:i=l.length:=by omega
  subst this; exact hr
 |k+1,i,hk,hr,h=>by
  rw[checkFrom,dif_pos (by omega)] at h
  by_cases he:classErr w l i (l[i]'(by omega))=0
  ·rw[if_pos he] at h
   refine checkFrom_right k (i+1) (by omega) (fun j hj hj'=> ?_) h
   rcases Nat.lt_or_eq_of_le (Nat.le_of_lt_succ hj') with hj'|rfl
   ·exact hr j hj hj'
   ·exact he
  ·rw[if_neg he] at h; exact absurd h he
theorem check_right {w:ByteArray→Bool} {l:List Cl} (h:(checkL w l).2=0):Right w l l.length:=
 checkFrom_right l.length 0 (by omega) (fun i h h'=>by omega) h
theorem canB_can {e:En} (hw:WideE e) (h:canB e=true):Can e:=by
 simp only[canB,Bool.and_eq_true,decide_eq_true_eq] at h
 obtain⟨⟨h1,h2,h3,h4⟩,h5⟩:=h
 refine⟨hw,check_right h1,h3,by omega,fun s hs=> ?_⟩
 have:=List.all_eq_true.1 h5 s hs
 simp only[sigMayB,Bool.and_eq_true,decide_eq_true_eq] at this
 exact this.1.1
open Go.Proofs
def someR (t:Ty):List Ty:=if t.val=0 then [] else [t]
theorem some115 (t:Ty):PCall Tryz.prog 216 [.int .u8 t.val] (.slice .no (rws eT (someR t))):=by
 refine F216.pcall' rfl fun T hT=> ?_
 by_cases h:t.val=0
 ·have h1:(t.val:Int)=0:=by omega
  simp -implicitDefEqProofs only[go_sem,c216,hT,h1]
  rw[someR,if_pos h]
  exact DLe.slice _ _
 ·have h1:¬(t.val:Int)=0:=by omega
  simp -implicitDefEqProofs only[go_sem,c216,hT,h1,frz]
  rw[someR,if_neg h]
  exact DLe.slice _ _
theorem class116 (n:Nat) (h:n<32):PCall Tryz.prog 217 [.int .i64 n] (.int .u8 (((⟨16+n,by omega⟩:Ty)).val:Int)):=by
 refine F217.pcall' rfl fun T hT=> ?_
 have h1:IntKind.wrap .u8 (n:Int)=n:=wrap_u8 (by omega) (by omega)
 have h2:IntKind.wrap .u8 (16+(n:Int))=16+n:=wrap_u8 (by omega) (by omega)
 simp -implicitDefEqProofs only[go_sem,c217,hT,h1,h2]
 exact DLe.of_eq (by simp)
def opndF (e:En) (i:Ins):Nat:=
 if i.op.val=21 then(if 0≤i.a∧i.a.toNat<e.sgs.length then 0 else 71)
 else if i.op.val=23∨i.op.val=30∨i.op.val=31 then(if 0≤i.a∧i.a<e.cs.length then 0 else 72)
 else if i.op.val=24∨i.op.val=25 then(if(0≤i.a∧i.a<e.cs.length)∧0≤i.b∧i.b.toNat<(fieldsOn e.cs (upI e.cs i.a).reverse).length then 0 else 72)
 else 0
theorem refFieldsUp {e:En} (hc:Can e) (c:Int) (h:c<e.cs.length):fieldsOn e.cs (lineR e.cs c).reverse=fieldsOn e.cs (upI e.cs c).reverse:=by
 rw[lineR_up hc.right.falls (by omega) h]
theorem operands75 (e:En) (i:Ins) (hc:Can e):PCall Tryz.prog 147 [.agg (eEn e),.agg (eIn i)] (.int .i64 (opndF e i)):=by
 have hw1:=hc.wide.1.1
 have h32:=hc.cls
 refine F147.pcall' rfl fun T hT=> ?_
 simp -implicitDefEqProofs only[go_sem,c147,hT,eEn,eIn]
 intro b2 b3 n1 n2
 by_cases o21:(i.op.val:Int)=21
 ·by_cases h:0≤i.a∧i.a.toNat<e.sgs.length
  ·have hf:(decide (i.a<0)||decide ((e.sgs.length:Int)≤i.a))=false:=by simp; omega
   simp -implicitDefEqProofs only[go_sem,mmB,hT,n1,n2,eEn,eIn,o21,hf]
   exact DLe.of_eq (by rw[opndF,if_pos (by omega),if_pos h]; rfl)
  ·have hf:(decide (i.a<0)||decide ((e.sgs.length:Int)≤i.a))=true:=by simp; omega
   simp -implicitDefEqProofs only[go_sem,mmB,hT,n1,n2,eEn,eIn,o21,hf]
   exact DLe.of_eq (by rw[opndF,if_pos (by omega),if_neg h]; rfl)
 by_cases o3:(i.op.val:Int)=23∨(i.op.val:Int)=30∨(i.op.val:Int)=31
 ·have e1:opndF e i=if 0≤i.a∧i.a<e.cs.length then 0 else 72:=by rw[opndF,if_neg (by omega),if_pos (by omega)]
  by_cases h:0≤i.a∧i.a<e.cs.length
  ·have hf:(decide (i.a<0)||decide ((e.cs.length:Int)≤i.a))=false:=by simp; omega
   rw[e1,if_pos h]
   rcases o3 with o|o|o <;> (simp -implicitDefEqProofs only[go_sem,hT,n1,n2,eEn,eIn,o]; simp -implicitDefEqProofs only[go_sem,mmB,hT,n1,n2,eEn,eIn,o,hf]; exact DLe.of_eq rfl)
  ·have hf:(decide (i.a<0)||decide ((e.cs.length:Int)≤i.a))=true:=by simp; omega
   rw[e1,if_neg h]
   rcases o3 with o|o|o <;> (simp -implicitDefEqProofs only[go_sem,hT,n1,n2,eEn,eIn,o]; simp -implicitDefEqProofs only[go_sem,mmB,hT,n1,n2,eEn,eIn,o,hf]; exact DLe.of_eq rfl)
 by_cases o2:(i.op.val:Int)=24∨(i.op.val:Int)=25
 ·have e1:opndF e i=if(0≤i.a∧i.a<e.cs.length)∧0≤i.b∧i.b.toNat<(fieldsOn e.cs (upI e.cs i.a).reverse).length then 0 else 72:=by rw[opndF,if_neg (by omega),if_neg (by omega),if_pos (by omega)]
  have hfl:=hc.flds i.a
  by_cases h:0≤i.a∧i.a<e.cs.length
  case neg=>
   have hf:(decide (i.a<0)||decide ((e.cs.length:Int)≤i.a))=true:=by simp; omega
   rw[e1,if_neg (by omega)]
   rcases o2 with o|o <;> (simp -implicitDefEqProofs only[go_sem,hT,n1,n2,eEn,eIn,o]; simp -implicitDefEqProofs only[go_sem,mmB,hT,n1,n2,eEn,eIn,o,hf]; exact DLe.of_eq rfl)
  have hf:(decide (i.a<0)||decide ((e.cs.length:Int)≤i.a))=false:=by simp; omega
  have hup:=refFieldsUp hc i.a h.2
  rw[←hup] at e1 hfl
  have hcall:=refFields114 e.cs .no i.a (by omega) (by omega)
  generalize fieldsOn e.cs (lineR e.cs i.a).reverse=F at *
  by_cases hb:i.b<0
  ·rw[e1,if_neg (by omega)]
   rcases o2 with o|o <;> (simp -implicitDefEqProofs only[go_sem,hT,n1,n2,eEn,eIn,o]; simp -implicitDefEqProofs only[go_sem,mmB,hT,n1,n2,eEn,eIn,o,hf,hb]; first|exact DLe.of_eq rfl|(refine⟨by rintro b rfl; simp, ?_⟩; exact DLe.of_eq rfl))
  by_cases hl:i.b.toNat<F.length
  ·have hq:((F.length:Int)≤i.b)=False:=by simp; omega
   rw[e1,if_pos (by omega)]
   rcases o2 with o|o <;> (simp -implicitDefEqProofs only[go_sem,hT,n1,n2,eEn,eIn,o]; simp -implicitDefEqProofs only[go_sem,mmB,hT,n1,n2,eEn,eIn,o,hf,hb]; refine⟨by rintro b rfl; simp[n1,n2],za3 hcall ?_⟩; simp -implicitDefEqProofs only[go_sem,mmB,hT,n1,n2,eEn,eIn,o,hq]; exact DLe.of_eq rfl)
  ·have hq:((F.length:Int)≤i.b)=True:=by simp; omega
   rw[e1,if_neg (by omega)]
   rcases o2 with o|o <;> (simp -implicitDefEqProofs only[go_sem,hT,n1,n2,eEn,eIn,o]; simp -implicitDefEqProofs only[go_sem,mmB,hT,n1,n2,eEn,eIn,o,hf,hb]; refine⟨by rintro b rfl; simp[n1,n2],za3 hcall ?_⟩; simp -implicitDefEqProofs only[go_sem,mmB,hT,n1,n2,eEn,eIn,o,hq]; exact DLe.of_eq rfl)
 have e1:opndF e i=0:=by rw[opndF,if_neg (by omega),if_neg (by omega),if_neg (by omega)]
 have m1:¬(i.op.val:Int)=23:=by omega
 have m2:¬(i.op.val:Int)=30:=by omega
 have m3:¬(i.op.val:Int)=31:=by omega
 have m4:¬(i.op.val:Int)=24:=by omega
 have m5:¬(i.op.val:Int)=25:=by omega
 rw[e1]
 simp -implicitDefEqProofs only[go_sem,hT,n1,n2,eEn,eIn,o21,m1,m2,m3,m4,m5]
 exact DLe.of_eq rfl
open Go.Proofs
def flds (e:En) (i:Ins):List Fd:=fieldsOn e.cs (upI e.cs i.a).reverse
def takesO (e:En) (i:Ins):Nat→List Ty
 |5=>[254]
 |6=>[255]
 |7=>[255]
 |8=>[255,255]
 |9=>[1,1]
 |10=>[1,1]
 |11=>[1,1]
 |12=>[1,1]
 |13=>[1,1]
 |14=>[1]
 |15=>[1,1]
 |16=>[255,255]
 |17=>[2]
 |18=>[253,253]
 |20=>[2]
 |26=>[1]
 |27=>[4]
 |28=>[4,1]
 |29=>[4,1,1]
 |30=>[253]
 |31=>[253]
 |33=>[1]
 |21=>((e.sgs[i.a.toNat]?).map Sg.ps).getD []
 |22=>((e.sgs[e.fn.toNat]?).map fun s=>someR s.r).getD []
 |24=>[ofClass i.a]
 |25=>[ofClass i.a,(((flds e i)[i.b.toNat]?).map Fd.ty).getD 0]
 |_=>[]
def givesO (e:En) (i:Ins):Nat→List Ty
 |1=>[1]
 |2=>[2]
 |3=>[3]
 |4=>[255]
 |7=>[255,255]
 |8=>[255,255]
 |9=>[1]
 |10=>[1]
 |11=>[1]
 |12=>[1]
 |13=>[1]
 |14=>[1]
 |15=>[2]
 |16=>[2]
 |17=>[2]
 |18=>[2]
 |26=>[4]
 |27=>[1]
 |28=>[1]
 |31=>[2]
 |21=>((e.sgs[i.a.toNat]?).map fun s=>someR s.r).getD []
 |23=>[ofClass i.a]
 |30=>[ofClass i.a]
 |24=>(((flds e i)[i.b.toNat]?).map fun f=>someR f.ty).getD []
 |_=>[]
theorem ofClass_eq {a:Int} {k:Nat} (h:a=k) (hk:k<32):ofClass a=(⟨16+k,by omega⟩:Ty):=by
 subst h; ext; simp[ofClass]; omega
theorem opnd_cls {e:En} {i:Ins} (h:opndF e i=0) (ho:i.op.val=23∨i.op.val=30∨i.op.val=31∨i.op.val=24∨i.op.val=25):0≤i.a∧i.a<e.cs.length:=by
 unfold opndF at h
 repeat' split at h
 all_goals omega
theorem opnd_fld {e:En} {i:Ins} (h:opndF e i=0) (ho:i.op.val=24∨i.op.val=25):(0≤i.a∧i.a<e.cs.length)∧0≤i.b∧i.b.toNat<(flds e i).length:=by
 unfold opndF at h
 rw[if_neg (by omega),if_neg (by omega),if_pos (by omega)] at h
 split at h
 ·assumption
 ·cases h
theorem opnd_sig {e:En} {i:Ins} (h:opndF e i=0) (ho:i.op.val=21):0≤i.a∧i.a.toNat<e.sgs.length:=by
 unfold opndF at h
 rw[if_pos ho] at h
 split at h
 ·assumption
 ·cases h
theorem refTakes76 (e:En) (i:Ins) (hc:Can e) (ho:opndF e i=0) (h34:i.op.val<34):PCall Tryz.prog 181 [.agg (eEn e),.agg (eIn i)] (.slice .no (rws eT (takesO e i i.op.val))):=by
 have h32:=hc.cls
 refine F181.pcall' rfl fun T hT=> ?_
 have hk34:i.op.val=0∨i.op.val=1∨i.op.val=2∨i.op.val=3∨i.op.val=4∨i.op.val=5∨i.op.val=6∨i.op.val=7∨i.op.val=8∨i.op.val=9∨i.op.val=10∨i.op.val=11∨i.op.val=12∨i.op.val=13∨i.op.val=14∨i.op.val=15∨i.op.val=16∨i.op.val=17∨i.op.val=18∨i.op.val=19∨i.op.val=20∨i.op.val=21∨i.op.val=22∨i.op.val=23∨i.op.val=24∨i.op.val=25∨i.op.val=26∨i.op.val=27∨i.op.val=28∨i.op.val=29∨i.op.val=30∨i.op.val=31∨i.op.val=32∨i.op.val=33:=by omega
 rcases hk34 with h|h|h|h|h|h|h|h|h|h|h|h|h|h|h|h|h|h|h|h|h|h|h|h|h|h|h|h|h|h|h|h|h|h
 ·rw[show(i.op.val)=0 from h,show takesO e i 0=[] from rfl]
  have h:(i.op.val:Int)=0:=by omega
  simp -implicitDefEqProofs only[go_sem,c181,hT,eEn,eIn,h,frz]
  first|exact DLe.slice _ _|(intro b2 b3 n1 n2; exact DLe.slice _ _)
 ·rw[show(i.op.val)=1 from h,show takesO e i 1=[] from rfl]
  have h:(i.op.val:Int)=1:=by omega
  simp -implicitDefEqProofs only[go_sem,c181,hT,eEn,eIn,h,frz]
  first|exact DLe.slice _ _|(intro b2 b3 n1 n2; exact DLe.slice _ _)
 ·rw[show(i.op.val)=2 from h,show takesO e i 2=[] from rfl]
  have h:(i.op.val:Int)=2:=by omega
  simp -implicitDefEqProofs only[go_sem,c181,hT,eEn,eIn,h,frz]
  first|exact DLe.slice _ _|(intro b2 b3 n1 n2; exact DLe.slice _ _)
 ·rw[show(i.op.val)=3 from h,show takesO e i 3=[] from rfl]
  have h:(i.op.val:Int)=3:=by omega
  simp -implicitDefEqProofs only[go_sem,c181,hT,eEn,eIn,h,frz]
  first|exact DLe.slice _ _|(intro b2 b3 n1 n2; exact DLe.slice _ _)
 ·rw[show(i.op.val)=4 from h,show takesO e i 4=[] from rfl]
  have h:(i.op.val:Int)=4:=by omega
  simp -implicitDefEqProofs only[go_sem,c181,hT,eEn,eIn,h,frz]
  first|exact DLe.slice _ _|(intro b2 b3 n1 n2; exact DLe.slice _ _)
 ·rw[show(i.op.val)=5 from h,show takesO e i 5=[254] from rfl]
  have h:(i.op.val:Int)=5:=by omega
  simp -implicitDefEqProofs only[go_sem,c181,hT,eEn,eIn,h,frz]
  first|exact DLe.slice _ _|(intro b2 b3 n1 n2; exact DLe.slice _ _)
 ·rw[show(i.op.val)=6 from h,show takesO e i 6=[255] from rfl]
  have h:(i.op.val:Int)=6:=by omega
  simp -implicitDefEqProofs only[go_sem,c181,hT,eEn,eIn,h,frz]
  first|exact DLe.slice _ _|(intro b2 b3 n1 n2; exact DLe.slice _ _)
 ·rw[show(i.op.val)=7 from h,show takesO e i 7=[255] from rfl]
  have h:(i.op.val:Int)=7:=by omega
  simp -implicitDefEqProofs only[go_sem,c181,hT,eEn,eIn,h,frz]
  first|exact DLe.slice _ _|(intro b2 b3 n1 n2; exact DLe.slice _ _)
 ·rw[show(i.op.val)=8 from h,show takesO e i 8=[255,255] from rfl]
  have h:(i.op.val:Int)=8:=by omega
  simp -implicitDefEqProofs only[go_sem,c181,hT,eEn,eIn,h,frz]
  first|exact DLe.slice _ _|(intro b2 b3 n1 n2; exact DLe.slice _ _)
 ·rw[show(i.op.val)=9 from h,show takesO e i 9=[1,1] from rfl]
  have h:(i.op.val:Int)=9:=by omega
  simp -implicitDefEqProofs only[go_sem,c181,hT,eEn,eIn,h,frz]
  first|exact DLe.slice _ _|(intro b2 b3 n1 n2; exact DLe.slice _ _)
 ·rw[show(i.op.val)=10 from h,show takesO e i 10=[1,1] from rfl]
  have h:(i.op.val:Int)=10:=by omega
  simp -implicitDefEqProofs only[go_sem,c181,hT,eEn,eIn,h,frz]
  first|exact DLe.slice _ _|(intro b2 b3 n1 n2; exact DLe.slice _ _)
 ·rw[show(i.op.val)=11 from h,show takesO e i 11=[1,1] from rfl]
  have h:(i.op.val:Int)=11:=by omega
  simp -implicitDefEqProofs only[go_sem,c181,hT,eEn,eIn,h,frz]
  first|exact DLe.slice _ _|(intro b2 b3 n1 n2; exact DLe.slice _ _)
 ·rw[show(i.op.val)=12 from h,show takesO e i 12=[1,1] from rfl]
  have h:(i.op.val:Int)=12:=by omega
  simp -implicitDefEqProofs only[go_sem,c181,hT,eEn,eIn,h,frz]
  first|exact DLe.slice _ _|(intro b2 b3 n1 n2; exact DLe.slice _ _)
 ·rw[show(i.op.val)=13 from h,show takesO e i 13=[1,1] from rfl]
  have h:(i.op.val:Int)=13:=by omega
  simp -implicitDefEqProofs only[go_sem,c181,hT,eEn,eIn,h,frz]
  first|exact DLe.slice _ _|(intro b2 b3 n1 n2; exact DLe.slice _ _)
 ·rw[show(i.op.val)=14 from h,show takesO e i 14=[1] from rfl]
  have h:(i.op.val:Int)=14:=by omega
  simp -implicitDefEqProofs only[go_sem,c181,hT,eEn,eIn,h,frz]
  first|exact DLe.slice _ _|(intro b2 b3 n1 n2; exact DLe.slice _ _)
 ·rw[show(i.op.val)=15 from h,show takesO e i 15=[1,1] from rfl]
  have h:(i.op.val:Int)=15:=by omega
  simp -implicitDefEqProofs only[go_sem,c181,hT,eEn,eIn,h,frz]
  first|exact DLe.slice _ _|(intro b2 b3 n1 n2; exact DLe.slice _ _)
 ·rw[show(i.op.val)=16 from h,show takesO e i 16=[255,255] from rfl]
  have h:(i.op.val:Int)=16:=by omega
  simp -implicitDefEqProofs only[go_sem,c181,hT,eEn,eIn,h,frz]
  first|exact DLe.slice _ _|(intro b2 b3 n1 n2; exact DLe.slice _ _)
 ·rw[show(i.op.val)=17 from h,show takesO e i 17=[2] from rfl]
  have h:(i.op.val:Int)=17:=by omega
  simp -implicitDefEqProofs only[go_sem,c181,hT,eEn,eIn,h,frz]
  first|exact DLe.slice _ _|(intro b2 b3 n1 n2; exact DLe.slice _ _)
 ·rw[show(i.op.val)=18 from h,show takesO e i 18=[253,253] from rfl]
  have h:(i.op.val:Int)=18:=by omega
  simp -implicitDefEqProofs only[go_sem,c181,hT,eEn,eIn,h,frz]
  first|exact DLe.slice _ _|(intro b2 b3 n1 n2; exact DLe.slice _ _)
 ·rw[show(i.op.val)=19 from h,show takesO e i 19=[] from rfl]
  have h:(i.op.val:Int)=19:=by omega
  simp -implicitDefEqProofs only[go_sem,c181,hT,eEn,eIn,h,frz]
  first|exact DLe.slice _ _|(intro b2 b3 n1 n2; exact DLe.slice _ _)
 ·rw[show(i.op.val)=20 from h,show takesO e i 20=[2] from rfl]
  have h:(i.op.val:Int)=20:=by omega
  simp -implicitDefEqProofs only[go_sem,c181,hT,eEn,eIn,h,frz]
  first|exact DLe.slice _ _|(intro b2 b3 n1 n2; exact DLe.slice _ _)
 ·rw[show(i.op.val)=21 from h]
  have h':(i.op.val:Int)=21:=by omega
  simp -implicitDefEqProofs only[go_sem,c181,hT,eEn,eIn,h',frz]
  intro b2 b3 n1 n2
  obtain⟨ha,hal⟩:=opnd_sig ho h
  obtain⟨k,hk⟩:∃k:Nat,i.a=k:=⟨i.a.toNat,by omega⟩
  have hkl:k<e.sgs.length:=by omega
  have hkn:i.a.toNat=k:=by omega
  have hR:(rws eSg e.sgs)[k]?.getD []=eSg e.sgs[k]:=rws_at hkl
  have ht:(e.sgs[i.a.toNat]?)=some e.sgs[k]:=by rw[hkn,List.getElem?_eq_getElem hkl]
  rw[show takesO e i 21=((e.sgs[i.a.toNat]?).map Sg.ps).getD [] from rfl,ht]
  generalize e.sgs[k]=s at *
  simp -implicitDefEqProofs only[go_sem,hT,eEn,eIn,n1,n2,h',hk,hR,eSg]
  first|exact⟨by omega,DLe.refl _⟩|omega
 ·rw[show(i.op.val)=22 from h]
  have h':(i.op.val:Int)=22:=by omega
  simp -implicitDefEqProofs only[go_sem,c181,hT,eEn,eIn,h',frz]
  intro b2 b3 n1 n2
  have ha:=hc.fn0
  have hal:=hc.fn1
  obtain⟨k,hk⟩:∃k:Nat,e.fn=k:=⟨e.fn.toNat,by omega⟩
  have hkl:k<e.sgs.length:=by omega
  have hkn:e.fn.toNat=k:=by omega
  have hR:(rws eSg e.sgs)[k]?.getD []=eSg e.sgs[k]:=rws_at hkl
  have ht:(e.sgs[e.fn.toNat]?)=some e.sgs[k]:=by rw[hkn,List.getElem?_eq_getElem hkl]
  rw[show takesO e i 22=((e.sgs[e.fn.toNat]?).map fun s=>someR s.r).getD [] from rfl,ht]
  generalize e.sgs[k]=s at *
  simp -implicitDefEqProofs only[go_sem,hT,eEn,eIn,n1,n2,h',hk,hR,eSg]
  refine⟨by omega,za3 (some115 s.r) ?_⟩
  simp -implicitDefEqProofs only[go_sem,hT]
 ·rw[show(i.op.val)=23 from h,show takesO e i 23=[] from rfl]
  have h:(i.op.val:Int)=23:=by omega
  simp -implicitDefEqProofs only[go_sem,c181,hT,eEn,eIn,h,frz]
  first|exact DLe.slice _ _|(intro b2 b3 n1 n2; exact DLe.slice _ _)
 ·rw[show(i.op.val)=24 from h]
  have h':(i.op.val:Int)=24:=by omega
  simp -implicitDefEqProofs only[go_sem,c181,hT,eEn,eIn,h',frz]
  intro b2 b3 n1 n2
  obtain⟨ha,hal⟩:=opnd_cls ho (by omega)
  obtain⟨k,hk⟩:∃k:Nat,i.a=k:=⟨i.a.toNat,by omega⟩
  rw[show takesO e i 24=[ofClass i.a] from rfl,ofClass_eq hk (by omega)]
  simp -implicitDefEqProofs only[go_sem,hT,eEn,eIn,n1,n2,h',hk]
  refine za3 (class116 k (by omega)) ?_
  simp -implicitDefEqProofs only[go_sem,hT,frz]
  exact DLe.slice _ _
 ·rw[show(i.op.val)=25 from h]
  have h':(i.op.val:Int)=25:=by omega
  simp -implicitDefEqProofs only[go_sem,c181,hT,eEn,eIn,h',frz]
  intro b2 b3 n1 n2
  obtain⟨⟨ha,hal⟩,hb,hbl⟩:=opnd_fld ho (by omega)
  have hup:=refFieldsUp hc i.a hal
  have hfl:=hc.flds i.a
  have hw1:=hc.wide.1.1
  obtain⟨k,hk⟩:∃k:Nat,i.a=k:=⟨i.a.toNat,by omega⟩
  obtain⟨j,hj⟩:∃j:Nat,i.b=j:=⟨i.b.toNat,by omega⟩
  have hjn:i.b.toNat=j:=by omega
  have hF:flds e i=fieldsOn e.cs (lineR e.cs i.a).reverse:=hup.symm
  rw[←hup,←hF] at hfl
  have hcall:=refFields114 e.cs .no i.a (by omega) (by rw[←hF]; omega)
  rw[←hF] at hcall
  have hjl:j<(flds e i).length:=by omega
  have hRf:(rws eF (flds e i))[j]?.getD []=eF (flds e i)[j]:=rws_at hjl
  have hty:(flds e i)[i.b.toNat]? =some (flds e i)[j]:=by rw[hjn,List.getElem?_eq_getElem hjl]
  rw[show takesO e i 25=[ofClass i.a,(((flds e i)[i.b.toNat]?).map Fd.ty).getD 0] from rfl,hty,ofClass_eq hk (by omega)]
  rw[hk] at hcall
  generalize (flds e i)[j]=fd at *
  generalize flds e i=F at *
  simp -implicitDefEqProofs only[go_sem,hT,eEn,eIn,n1,n2,h',hk,hj]
  refine⟨by intro b hb; rcases hb with rfl|rfl <;> simp[n1,n2],za3 (class116 k (by omega)) ?_⟩
  simp -implicitDefEqProofs only[go_sem,hT,eEn,eIn,n1,n2,h',hk,hj]
  refine za3 hcall ?_
  simp -implicitDefEqProofs only[go_sem,hT,eEn,eIn,n1,n2,h',hk,hj,hRf,eF,eF_len,frz]
  exact⟨by omega,DLe.slice _ _⟩
 ·rw[show(i.op.val)=26 from h,show takesO e i 26=[1] from rfl]
  have h:(i.op.val:Int)=26:=by omega
  simp -implicitDefEqProofs only[go_sem,c181,hT,eEn,eIn,h,frz]
  first|exact DLe.slice _ _|(intro b2 b3 n1 n2; exact DLe.slice _ _)
 ·rw[show(i.op.val)=27 from h,show takesO e i 27=[4] from rfl]
  have h:(i.op.val:Int)=27:=by omega
  simp -implicitDefEqProofs only[go_sem,c181,hT,eEn,eIn,h,frz]
  first|exact DLe.slice _ _|(intro b2 b3 n1 n2; exact DLe.slice _ _)
 ·rw[show(i.op.val)=28 from h,show takesO e i 28=[4,1] from rfl]
  have h:(i.op.val:Int)=28:=by omega
  simp -implicitDefEqProofs only[go_sem,c181,hT,eEn,eIn,h,frz]
  first|exact DLe.slice _ _|(intro b2 b3 n1 n2; exact DLe.slice _ _)
 ·rw[show(i.op.val)=29 from h,show takesO e i 29=[4,1,1] from rfl]
  have h:(i.op.val:Int)=29:=by omega
  simp -implicitDefEqProofs only[go_sem,c181,hT,eEn,eIn,h,frz]
  first|exact DLe.slice _ _|(intro b2 b3 n1 n2; exact DLe.slice _ _)
 ·rw[show(i.op.val)=30 from h,show takesO e i 30=[253] from rfl]
  have h:(i.op.val:Int)=30:=by omega
  simp -implicitDefEqProofs only[go_sem,c181,hT,eEn,eIn,h,frz]
  first|exact DLe.slice _ _|(intro b2 b3 n1 n2; exact DLe.slice _ _)
 ·rw[show(i.op.val)=31 from h,show takesO e i 31=[253] from rfl]
  have h:(i.op.val:Int)=31:=by omega
  simp -implicitDefEqProofs only[go_sem,c181,hT,eEn,eIn,h,frz]
  first|exact DLe.slice _ _|(intro b2 b3 n1 n2; exact DLe.slice _ _)
 ·rw[show(i.op.val)=32 from h,show takesO e i 32=[] from rfl]
  have h:(i.op.val:Int)=32:=by omega
  simp -implicitDefEqProofs only[go_sem,c181,hT,eEn,eIn,h,frz]
  first|exact DLe.slice _ _|(intro b2 b3 n1 n2; exact DLe.slice _ _)
 ·rw[show(i.op.val)=33 from h,show takesO e i 33=[1] from rfl]
  have h:(i.op.val:Int)=33:=by omega
  simp -implicitDefEqProofs only[go_sem,c181,hT,eEn,eIn,h,frz]
  first|exact DLe.slice _ _|(intro b2 b3 n1 n2; exact DLe.slice _ _)
theorem refGives77 (e:En) (i:Ins) (hc:Can e) (ho:opndF e i=0) (h34:i.op.val<34):PCall Tryz.prog 183 [.agg (eEn e),.agg (eIn i)] (.slice .no (rws eT (givesO e i i.op.val))):=by
 have h32:=hc.cls
 refine F183.pcall' rfl fun T hT=> ?_
 have hk34:i.op.val=0∨i.op.val=1∨i.op.val=2∨i.op.val=3∨i.op.val=4∨i.op.val=5∨i.op.val=6∨i.op.val=7∨i.op.val=8∨i.op.val=9∨i.op.val=10∨i.op.val=11∨i.op.val=12∨i.op.val=13∨i.op.val=14∨i.op.val=15∨i.op.val=16∨i.op.val=17∨i.op.val=18∨i.op.val=19∨i.op.val=20∨i.op.val=21∨i.op.val=22∨i.op.val=23∨i.op.val=24∨i.op.val=25∨i.op.val=26∨i.op.val=27∨i.op.val=28∨i.op.val=29∨i.op.val=30∨i.op.val=31∨i.op.val=32∨i.op.val=33:=by omega
 rcases hk34 with h|h|h|h|h|h|h|h|h|h|h|h|h|h|h|h|h|h|h|h|h|h|h|h|h|h|h|h|h|h|h|h|h|h
 ·rw[show(i.op.val)=0 from h,show givesO e i 0=[] from rfl]
  have h:(i.op.val:Int)=0:=by omega
  simp -implicitDefEqProofs only[go_sem,c183,hT,eEn,eIn,h,frz]
  first|exact DLe.slice _ _|(intro b2 b3 n1 n2; exact DLe.slice _ _)
 ·rw[show(i.op.val)=1 from h,show givesO e i 1=[1] from rfl]
  have h:(i.op.val:Int)=1:=by omega
  simp -implicitDefEqProofs only[go_sem,c183,hT,eEn,eIn,h,frz]
  first|exact DLe.slice _ _|(intro b2 b3 n1 n2; exact DLe.slice _ _)
 ·rw[show(i.op.val)=2 from h,show givesO e i 2=[2] from rfl]
  have h:(i.op.val:Int)=2:=by omega
  simp -implicitDefEqProofs only[go_sem,c183,hT,eEn,eIn,h,frz]
  first|exact DLe.slice _ _|(intro b2 b3 n1 n2; exact DLe.slice _ _)
 ·rw[show(i.op.val)=3 from h,show givesO e i 3=[3] from rfl]
  have h:(i.op.val:Int)=3:=by omega
  simp -implicitDefEqProofs only[go_sem,c183,hT,eEn,eIn,h,frz]
  first|exact DLe.slice _ _|(intro b2 b3 n1 n2; exact DLe.slice _ _)
 ·rw[show(i.op.val)=4 from h,show givesO e i 4=[255] from rfl]
  have h:(i.op.val:Int)=4:=by omega
  simp -implicitDefEqProofs only[go_sem,c183,hT,eEn,eIn,h,frz]
  first|exact DLe.slice _ _|(intro b2 b3 n1 n2; exact DLe.slice _ _)
 ·rw[show(i.op.val)=5 from h,show givesO e i 5=[] from rfl]
  have h:(i.op.val:Int)=5:=by omega
  simp -implicitDefEqProofs only[go_sem,c183,hT,eEn,eIn,h,frz]
  first|exact DLe.slice _ _|(intro b2 b3 n1 n2; exact DLe.slice _ _)
 ·rw[show(i.op.val)=6 from h,show givesO e i 6=[] from rfl]
  have h:(i.op.val:Int)=6:=by omega
  simp -implicitDefEqProofs only[go_sem,c183,hT,eEn,eIn,h,frz]
  first|exact DLe.slice _ _|(intro b2 b3 n1 n2; exact DLe.slice _ _)
 ·rw[show(i.op.val)=7 from h,show givesO e i 7=[255,255] from rfl]
  have h:(i.op.val:Int)=7:=by omega
  simp -implicitDefEqProofs only[go_sem,c183,hT,eEn,eIn,h,frz]
  first|exact DLe.slice _ _|(intro b2 b3 n1 n2; exact DLe.slice _ _)
 ·rw[show(i.op.val)=8 from h,show givesO e i 8=[255,255] from rfl]
  have h:(i.op.val:Int)=8:=by omega
  simp -implicitDefEqProofs only[go_sem,c183,hT,eEn,eIn,h,frz]
  first|exact DLe.slice _ _|(intro b2 b3 n1 n2; exact DLe.slice _ _)
 ·rw[show(i.op.val)=9 from h,show givesO e i 9=[1] from rfl]
  have h:(i.op.val:Int)=9:=by omega
  simp -implicitDefEqProofs only[go_sem,c183,hT,eEn,eIn,h,frz]
  first|exact DLe.slice _ _|(intro b2 b3 n1 n2; exact DLe.slice _ _)
 ·rw[show(i.op.val)=10 from h,show givesO e i 10=[1] from rfl]
  have h:(i.op.val:Int)=10:=by omega
  simp -implicitDefEqProofs only[go_sem,c183,hT,eEn,eIn,h,frz]
  first|exact DLe.slice _ _|(intro b2 b3 n1 n2; exact DLe.slice _ _)
 ·rw[show(i.op.val)=11 from h,show givesO e i 11=[1] from rfl]
  have h:(i.op.val:Int)=11:=by omega
  simp -implicitDefEqProofs only[go_sem,c183,hT,eEn,eIn,h,frz]
  first|exact DLe.slice _ _|(intro b2 b3 n1 n2; exact DLe.slice _ _)
 ·rw[show(i.op.val)=12 from h,show givesO e i 12=[1] from rfl]
  have h:(i.op.val:Int)=12:=by omega
  simp -implicitDefEqProofs only[go_sem,c183,hT,eEn,eIn,h,frz]
  first|exact DLe.slice _ _|(intro b2 b3 n1 n2; exact DLe.slice _ _)
 ·rw[show(i.op.val)=13 from h,show givesO e i 13=[1] from rfl]
  have h:(i.op.val:Int)=13:=by omega
  simp -implicitDefEqProofs only[go_sem,c183,hT,eEn,eIn,h,frz]
  first|exact DLe.slice _ _|(intro b2 b3 n1 n2; exact DLe.slice _ _)
 ·rw[show(i.op.val)=14 from h,show givesO e i 14=[1] from rfl]
  have h:(i.op.val:Int)=14:=by omega
  simp -implicitDefEqProofs only[go_sem,c183,hT,eEn,eIn,h,frz]
  first|exact DLe.slice _ _|(intro b2 b3 n1 n2; exact DLe.slice _ _)
 ·rw[show(i.op.val)=15 from h,show givesO e i 15=[2] from rfl]
  have h:(i.op.val:Int)=15:=by omega
  simp -implicitDefEqProofs only[go_sem,c183,hT,eEn,eIn,h,frz]
  first|exact DLe.slice _ _|(intro b2 b3 n1 n2; exact DLe.slice _ _)
 ·rw[show(i.op.val)=16 from h,show givesO e i 16=[2] from rfl]
  have h:(i.op.val:Int)=16:=by omega
  simp -implicitDefEqProofs only[go_sem,c183,hT,eEn,eIn,h,frz]
  first|exact DLe.slice _ _|(intro b2 b3 n1 n2; exact DLe.slice _ _)
 ·rw[show(i.op.val)=17 from h,show givesO e i 17=[2] from rfl]
  have h:(i.op.val:Int)=17:=by omega
  simp -implicitDefEqProofs only[go_sem,c183,hT,eEn,eIn,h,frz]
  first|exact DLe.slice _ _|(intro b2 b3 n1 n2; exact DLe.slice _ _)
 ·rw[show(i.op.val)=18 from h,show givesO e i 18=[2] from rfl]
  have h:(i.op.val:Int)=18:=by omega
  simp -implicitDefEqProofs only[go_sem,c183,hT,eEn,eIn,h,frz]
  first|exact DLe.slice _ _|(intro b2 b3 n1 n2; exact DLe.slice _ _)
 ·rw[show(i.op.val)=19 from h,show givesO e i 19=[] from rfl]
  have h:(i.op.val:Int)=19:=by omega
  simp -implicitDefEqProofs only[go_sem,c183,hT,eEn,eIn,h,frz]
  first|exact DLe.slice _ _|(intro b2 b3 n1 n2; exact DLe.slice _ _)
 ·rw[show(i.op.val)=20 from h,show givesO e i 20=[] from rfl]
  have h:(i.op.val:Int)=20:=by omega
  simp -implicitDefEqProofs only[go_sem,c183,hT,eEn,eIn,h,frz]
  first|exact DLe.slice _ _|(intro b2 b3 n1 n2; exact DLe.slice _ _)
 ·rw[show(i.op.val)=21 from h]
  have h':(i.op.val:Int)=21:=by omega
  simp -implicitDefEqProofs only[go_sem,c183,hT,eEn,eIn,h',frz]
  intro b2 b3 n1 n2
  obtain⟨ha,hal⟩:=opnd_sig ho h
  obtain⟨k,hk⟩:∃k:Nat,i.a=k:=⟨i.a.toNat,by omega⟩
  have hkl:k<e.sgs.length:=by omega
  have hkn:i.a.toNat=k:=by omega
  have hR:(rws eSg e.sgs)[k]?.getD []=eSg e.sgs[k]:=rws_at hkl
  have ht:(e.sgs[i.a.toNat]?)=some e.sgs[k]:=by rw[hkn,List.getElem?_eq_getElem hkl]
  rw[show givesO e i 21=((e.sgs[i.a.toNat]?).map fun s=>someR s.r).getD [] from rfl,ht]
  generalize e.sgs[k]=s at *
  simp -implicitDefEqProofs only[go_sem,hT,eEn,eIn,n1,n2,h',hk,hR,eSg]
  refine⟨by omega,za3 (some115 s.r) ?_⟩
  simp -implicitDefEqProofs only[go_sem,hT]
 ·rw[show(i.op.val)=22 from h,show givesO e i 22=[] from rfl]
  have h:(i.op.val:Int)=22:=by omega
  simp -implicitDefEqProofs only[go_sem,c183,hT,eEn,eIn,h,frz]
  first|exact DLe.slice _ _|(intro b2 b3 n1 n2; exact DLe.slice _ _)
 ·rw[show(i.op.val)=23 from h]
  have h':(i.op.val:Int)=23:=by omega
  simp -implicitDefEqProofs only[go_sem,c183,hT,eEn,eIn,h',frz]
  intro b2 b3 n1 n2
  obtain⟨ha,hal⟩:=opnd_cls ho (by omega)
  obtain⟨k,hk⟩:∃k:Nat,i.a=k:=⟨i.a.toNat,by omega⟩
  rw[show givesO e i 23=[ofClass i.a] from rfl,ofClass_eq hk (by omega)]
  simp -implicitDefEqProofs only[go_sem,hT,eEn,eIn,n1,n2,h',hk]
  refine za3 (class116 k (by omega)) ?_
  simp -implicitDefEqProofs only[go_sem,hT,frz]
  exact DLe.slice _ _
 ·rw[show(i.op.val)=24 from h]
  have h':(i.op.val:Int)=24:=by omega
  simp -implicitDefEqProofs only[go_sem,c183,hT,eEn,eIn,h',frz]
  intro b2 b3 n1 n2
  obtain⟨⟨ha,hal⟩,hb,hbl⟩:=opnd_fld ho (by omega)
  have hup:=refFieldsUp hc i.a hal
  have hfl:=hc.flds i.a
  have hw1:=hc.wide.1.1
  obtain⟨k,hk⟩:∃k:Nat,i.a=k:=⟨i.a.toNat,by omega⟩
  obtain⟨j,hj⟩:∃j:Nat,i.b=j:=⟨i.b.toNat,by omega⟩
  have hjn:i.b.toNat=j:=by omega
  have hF:flds e i=fieldsOn e.cs (lineR e.cs i.a).reverse:=hup.symm
  rw[←hup,←hF] at hfl
  have hcall:=refFields114 e.cs .no i.a (by omega) (by rw[←hF]; omega)
  rw[←hF] at hcall
  have hjl:j<(flds e i).length:=by omega
  have hRf:(rws eF (flds e i))[j]?.getD []=eF (flds e i)[j]:=rws_at hjl
  have hty:(flds e i)[i.b.toNat]? =some (flds e i)[j]:=by rw[hjn,List.getElem?_eq_getElem hjl]
  rw[show givesO e i 24=(((flds e i)[i.b.toNat]?).map fun f=>someR f.ty).getD [] from rfl,hty]
  rw[hk] at hcall
  generalize (flds e i)[j]=fd at *
  generalize flds e i=F at *
  simp -implicitDefEqProofs only[go_sem,hT,eEn,eIn,n1,n2,h',hk,hj]
  refine⟨by rintro b rfl; simp[n1,n2],za3 hcall ?_⟩
  simp -implicitDefEqProofs only[go_sem,hT,eEn,eIn,n1,n2,h',hk,hj,hRf,eF,eF_len]
  refine⟨by omega,za3 (some115 fd.ty) ?_⟩
  simp -implicitDefEqProofs only[go_sem,hT]
 ·rw[show(i.op.val)=25 from h,show givesO e i 25=[] from rfl]
  have h:(i.op.val:Int)=25:=by omega
  simp -implicitDefEqProofs only[go_sem,c183,hT,eEn,eIn,h,frz]
  first|exact DLe.slice _ _|(intro b2 b3 n1 n2; exact DLe.slice _ _)
 ·rw[show(i.op.val)=26 from h,show givesO e i 26=[4] from rfl]
  have h:(i.op.val:Int)=26:=by omega
  simp -implicitDefEqProofs only[go_sem,c183,hT,eEn,eIn,h,frz]
  first|exact DLe.slice _ _|(intro b2 b3 n1 n2; exact DLe.slice _ _)
 ·rw[show(i.op.val)=27 from h,show givesO e i 27=[1] from rfl]
  have h:(i.op.val:Int)=27:=by omega
  simp -implicitDefEqProofs only[go_sem,c183,hT,eEn,eIn,h,frz]
  first|exact DLe.slice _ _|(intro b2 b3 n1 n2; exact DLe.slice _ _)
 ·rw[show(i.op.val)=28 from h,show givesO e i 28=[1] from rfl]
  have h:(i.op.val:Int)=28:=by omega
  simp -implicitDefEqProofs only[go_sem,c183,hT,eEn,eIn,h,frz]
  first|exact DLe.slice _ _|(intro b2 b3 n1 n2; exact DLe.slice _ _)
 ·rw[show(i.op.val)=29 from h,show givesO e i 29=[] from rfl]
  have h:(i.op.val:Int)=29:=by omega
  simp -implicitDefEqProofs only[go_sem,c183,hT,eEn,eIn,h,frz]
  first|exact DLe.slice _ _|(intro b2 b3 n1 n2; exact DLe.slice _ _)
 ·rw[show(i.op.val)=30 from h]
  have h':(i.op.val:Int)=30:=by omega
  simp -implicitDefEqProofs only[go_sem,c183,hT,eEn,eIn,h',frz]
  intro b2 b3 n1 n2
  obtain⟨ha,hal⟩:=opnd_cls ho (by omega)
  obtain⟨k,hk⟩:∃k:Nat,i.a=k:=⟨i.a.toNat,by omega⟩
  rw[show givesO e i 30=[ofClass i.a] from rfl,ofClass_eq hk (by omega)]
  simp -implicitDefEqProofs only[go_sem,hT,eEn,eIn,n1,n2,h',hk]
  refine za3 (class116 k (by omega)) ?_
  simp -implicitDefEqProofs only[go_sem,hT,frz]
  exact DLe.slice _ _
 ·rw[show(i.op.val)=31 from h,show givesO e i 31=[2] from rfl]
  have h:(i.op.val:Int)=31:=by omega
  simp -implicitDefEqProofs only[go_sem,c183,hT,eEn,eIn,h,frz]
  first|exact DLe.slice _ _|(intro b2 b3 n1 n2; exact DLe.slice _ _)
 ·rw[show(i.op.val)=32 from h,show givesO e i 32=[] from rfl]
  have h:(i.op.val:Int)=32:=by omega
  simp -implicitDefEqProofs only[go_sem,c183,hT,eEn,eIn,h,frz]
  first|exact DLe.slice _ _|(intro b2 b3 n1 n2; exact DLe.slice _ _)
 ·rw[show(i.op.val)=33 from h,show givesO e i 33=[] from rfl]
  have h:(i.op.val:Int)=33:=by omega
  simp -implicitDefEqProofs only[go_sem,c183,hT,eEn,eIn,h,frz]
  first|exact DLe.slice _ _|(intro b2 b3 n1 n2; exact DLe.slice _ _)
open Go.Proofs
theorem fieldsErr_stored {n:Nat} {a:List ByteArray}:∀(own:List ByteArray) (r:List Fd),fieldsErr n a own r=0→∀f∈r,storedN n f.ty=true
 |own,[],h,f,hf=>by cases hf
 |own,g::r,h,f,hf=>by
  simp only[fieldsErr] at h
  repeat' split at h
  all_goals first
   |omega
   |skip
  rename_i h3
  rcases List.mem_cons.1 hf with rfl|hf
  ·simpa using h3
  ·exact fieldsErr_stored _ _ h f hf
theorem right_stored {w:ByteArray→Bool} {l:List Cl} (hr:Right w l l.length) {k:Nat} (hk:k<l.length) {f:Fd} (hf:f∈l[k].fields):storedN l.length f.ty=true:=by
 have:=hr k hk hk
 unfold classErr at this
 repeat' split at this
 all_goals first
  |omega
  |exact fieldsErr_stored _ _ this f hf
theorem flds_stored {e:En} {i:Ins} (hc:Can e) {f:Fd} (hf:f∈flds e i):f.ty.val≠0:=by
 simp only[flds,fieldsOn,List.mem_flatMap,List.mem_reverse] at hf
 obtain⟨k,hk,hf⟩:=hf
 have hlt:=upI_lt hk
 simp only[fieldsAt,List.getElem?_eq_getElem hlt,Option.map_some,Option.getD_some] at hf
 have:=right_stored hc.right hlt hf
 simp only[storedN,Bool.and_eq_true,decide_eq_true_eq] at this
 exact this.2.1
end Go.AL
