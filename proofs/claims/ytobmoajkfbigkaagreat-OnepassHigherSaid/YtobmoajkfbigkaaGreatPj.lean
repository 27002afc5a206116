import Derived.Test.YtobmoajkfbigkaaGreatPi
set_option linter.unusedSimpArgs false
set_option linter.unusedVariables false
set_option maxRecDepth 100000
set_option linter.defProp false
set_option maxHeartbeats 4000000
set_option maxHeartbeats 2000000
namespace Go.AL
open Go.Proofs
structure Can (e:En):Prop where
 wide:WideE e
 right:Right isWordB e.cs e.cs.length
 fn0:0≤e.fn
 fn1:e.fn.toNat<e.sgs.length
 sigs:∀s∈e.sgs,s.ps.length≤8
theorem Can.cls {e:En} (h:Can e):e.cs.length≤32:=by
 by_cases h0:e.cs.length=0
 ·omega
 ·have:=(h.right.at (i:=e.cs.length-1) (by omega) (by omega)).1
  omega
theorem Can.flds {e:En} (h:Can e) (c:Int):(fieldsOn e.cs (upI e.cs c).reverse).length≤32:=by
 rw[fieldsOn_len]
 by_cases hc:c<e.cs.length
 ·have:=namesUp_len h.right c hc
  simpa[namesUp] using this
 ·rw[upI_out (by omega)]; simp[fieldsOn]
theorem DLe_gives {o:Own} {es:List (List D)} {l:List Ty} (h:es=rws eT l):DLe (.func (.func 242) [] [.eptr [.slice o es]]) (eG (.const l)):=by
 subst h; exact DLe.func .nil (.cons (DLe.eptr (.cons (DLe.slice _ _) .nil)) .nil)
theorem DLe_ef {x g x' g':D} {n:Int} (h1:DLe x x') (h2:DLe g g'):DLe (.tup [.agg [x,g],.int .i64 n]) (.tup [.agg [x',g'],.int .i64 n]):=
 DLe.tup (.cons (DLe.agg (.cons h1 (.cons h2 .nil))) (.cons (.refl _) .nil))
def ofClass (a:Int):Ty:=Fin.ofNat 256 (16+a.toNat)
def bYdaI0:=aI @za5 @za2
theorem tell186 (e:En) (i:Ins) (x:D) (c:Bool) (hx:x.cellQ=true) (h32:e.cs.length≤32):
  PCall Tryz.prog 244 [.agg (eEn e),.agg (eIn i),.eptr [.bool c],.eptr [x]] (if i.a<0∨(e.cs.length:Int)≤i.a then .tup [.agg (eEf ef0),.int .i64 72] else .tup [.agg [x,eG (.const [if c then ofClass i.a else 2])],.int .i64 0]):=by
 refine F244.pcall' rfl fun T hT=> ?_
 simp -implicitDefEqProofs only[go_sem,c244,hT,eEn,eIn]
 intro b1 b2 n1 n2 b3 m1 m2 m3 m4
 by_cases h:i.a<0∨(e.cs.length:Int)≤i.a
 ·have hc:(decide (i.a<0)||decide ((e.cs.length:Int)≤i.a))=true:=by simpa using h
  simp -implicitDefEqProofs only[go_sem,mmB,hT,hx,m1,m2,m3,m4,n1,n2,hc,bYdaI0]
  rw[if_pos h]
  exact DLe_ef (DLe.slice _ _) (.refl _)
 ·have hc:(decide (i.a<0)||decide ((e.cs.length:Int)≤i.a))=false:=by simpa using h
  obtain⟨k,hk⟩:∃k:Nat,i.a=k:=⟨i.a.toNat,by omega⟩
  have hkc:ofClass i.a=(⟨16+k,by omega⟩:Ty):=by
   rw[hk]; ext; simp[ofClass]; omega
  rw[if_neg h]
  cases c
  ·simp -implicitDefEqProofs only[go_sem,mmB,hT,hx,m1,m2,m3,m4,n1,n2,hc,frz,bYdaI0]
   refine za3 (giving154 _ rfl) ?_
   simp -implicitDefEqProofs only[go_sem,mmB,hT,hx,m1,m2,m3,m4,n1,n2,bYdaI0]
   exact DLe_ef (.refl _) (DLe_gives rfl)
  ·simp -implicitDefEqProofs only[go_sem,mmB,hT,hx,m1,m2,m3,m4,n1,n2,hc,bYdaI0]
   rw[hk]
   refine za3 (class187 k (by omega)) ?_
   simp -implicitDefEqProofs only[go_sem,mmB,hT,hx,m1,m2,m3,m4,n1,n2,frz,bYdaI0]
   refine za3 (giving154 _ rfl) ?_
   simp -implicitDefEqProofs only[go_sem,mmB,hT,hx,m1,m2,m3,m4,n1,n2,bYdaI0]
   rw[←hk,hkc]
   exact DLe_ef (.refl _) (DLe_gives rfl)
theorem tell158 (e:En) (i:Ins) (hc:Can e):
  PCall Tryz.prog 234 [.agg (eEn e),.agg (eIn i)] (if h:0≤i.a∧i.a.toNat<e.sgs.length then .tup [.agg [.slice .no (rws eW (e.sgs[i.a.toNat].ps.map fun t=>⟨4,t⟩)),eG (.const (if e.sgs[i.a.toNat].r.val=0 then [] else [e.sgs[i.a.toNat].r]))],.int .i64 0] else .tup [.agg (eEf ef0),.int .i64 71]):=by
 refine F234.pcall' rfl fun T hT=> ?_
 simp -implicitDefEqProofs only[go_sem,c234,hT,eEn,eIn]
 intro b1 b2 n1 n2 b3 m1 m2 m3 m4
 by_cases h:0≤i.a∧i.a.toNat<e.sgs.length
 case neg=>
  have hq:(decide (i.a<0)||decide ((e.sgs.length:Int)≤i.a))=true:=by simp; omega
  simp -implicitDefEqProofs only[go_sem,mmB,hT,m1,m2,m3,m4,n1,n2,hq,bYdaI0]
  rw[dif_neg h]
  exact DLe_ef (DLe.slice _ _) (.refl _)
 have hq:(decide (i.a<0)||decide ((e.sgs.length:Int)≤i.a))=false:=by simp; omega
 rw[dif_pos h]
 obtain⟨k,hk⟩:∃k:Nat,i.a=k:=⟨i.a.toNat,by omega⟩
 have hkl:k<e.sgs.length:=by omega
 have hR:(rws eSg e.sgs)[k]?.getD []=eSg e.sgs[k]:=rws_at hkl
 have h8:=hc.sigs e.sgs[k] (by simp)
 have hkn:i.a.toNat=k:=by omega
 simp only[hkn]
 rw[hk] at hq
 generalize e.sgs[k]=s at *
 simp -implicitDefEqProofs only[go_sem,mmB,hT,m1,m2,m3,m4,n1,n2,hk,hq,hR,eSg,bYdaI0]
 refine⟨by omega,fun b4 k1 k2 k3 k4 k5 k6=> ?_⟩
 have hbase:St.le ((({}:St).set b3 [.slice .nil [],.nilfunc]).set b4 (eSg s)) (((((({}:St).set b1 [.slice .no (rws eC e.cs),.slice .no (rws eSg e.sgs),.int .i64 e.fn]).set b2 (eIn i)).set b3 [.slice .nil [],.nilfunc])).set b4 (eSg s)):=le_set (le_set (St.le.nil _))
 refine loopL F234 (fun x:Nat×Option Nat=>[(4,.ptr b3 0),(6,.ptr b4 0),(7,grD 2 x.2 (rws eW ((s.ps.take x.1).map fun t=>⟨4,t⟩))),(29,.slice .no (rws eT s.ps)),(30,.int .i64 s.ps.length),(31,.int .i64 x.1)]) (fun x=>grS 2 x.1 x.2 ((({}:St).set b3 [.slice .nil [],.nilfunc]).set b4 (eSg s)))
  (fun x=>x.1≤s.ps.length∧(x.2=none→x.1=0)∧grN x.2 ((({}:St).set b3 [.slice .nil [],.nilfunc]).set b4 (eSg s))) (fun x=>s.ps.length-x.1) (0,none)
  ⟨Nat.zero_le _,fun _=>rfl,grN_none⟩ ?_ (le_set (le_set (St.le.nil _))) ?_
 ·simp -implicitDefEqProofs only[go_sem,mmB,hT,Int.ofNat_zero]
  rfl
 clear hT T
 rintro⟨j,ob⟩ ⟨hj,hn,hg⟩ T hT
 simp only at hj hn hg hT ⊢
 by_cases h2:j<s.ps.length
 ·have h3:((j:Int)<s.ps.length)=True:=by simp; omega
  have htake:s.ps.take (j+1)=s.ps.take j++[s.ps[j]]:=List.take_succ_eq_append_getElem h2
  have hRt:(rws eT s.ps)[j]?.getD []=eT s.ps[j]:=rws_at h2
  generalize s.ps[j]=t at *
  have hlj:(rws eW ((s.ps.take j).map fun t=>(⟨4,t⟩:Wn))).length=j:=by simp[rws]; omega
  simp -implicitDefEqProofs only[go_sem,hT,h3,hRt,eT,eT_len]
  refine⟨by omega,za3 (of153 t) ?_⟩
  simp -implicitDefEqProofs only[go_sem,hT,eW,frz]
  refine app_gr' Tryz.sli227 Tryz.sz266 Tryz.by266 Tryz.zero266 rfl (n:=j) (m:=1) hlj rfl (St.le.refl _) hg hn (by simp) (by omega) fun o' σ' hbox hle hgn hno=> ?_
  simp -implicitDefEqProofs only[go_sem,hT]
  refine⟨(j+1,o'),⟨by omega,by simpa using hno,hgn⟩,by omega,⟨?_, ?_⟩,hle⟩
  ·rw[htake]; simp[rws,eW]
  ·rw[zc1 (by omega) (by omega)]; simp
 ·have h3:((j:Int)<s.ps.length)=False:=by simp; omega
  have hx:∀σ:St,(grS 2 j ob σ).box=σ.box:=fun _=>grS_box
  by_cases h0:s.r.val=0
  ·have h0':(s.r.val:Int)=0:=by omega
   simp -implicitDefEqProofs only[go_sem,hT,h3,grS_boxa,eSg,k2,k1,h0']
   refine za3 (giving154 _ rfl) ?_
   simp -implicitDefEqProofs only[go_sem,hT,grS_boxa,eSg,k2,k1,za5]
   rw[if_pos h0,List.take_of_length_le (by omega)]
   exact DLe_ef grD_le (DLe_gives rfl)
  ·have h0':¬(s.r.val:Int)=0:=by omega
   simp -implicitDefEqProofs only[go_sem,hT,h3,grS_boxa,eSg,k2,k1,h0',frz]
   refine za3 (giving154 _ rfl) ?_
   simp -implicitDefEqProofs only[go_sem,hT,grS_boxa,eSg,k2,k1,za5]
   rw[if_neg h0,List.take_of_length_le (by omega)]
   exact DLe_ef grD_le (DLe_gives rfl)
theorem tell188 (e:En) (i:Ins) (put:Bool) (hc:Can e):
  PCall Tryz.prog 246 [.agg (eEn e),.agg (eIn i),.eptr [.bool put]] (if h:(0≤i.a∧i.a<e.cs.length)∧0≤i.b∧i.b.toNat<(fieldsOn e.cs (upI e.cs i.a).reverse).length then
   (if put=true then .tup [.agg [.slice .no (rws eW [⟨4,ofClass i.a⟩,⟨4,((fieldsOn e.cs (upI e.cs i.a).reverse)[i.b.toNat]'h.2.2).ty⟩]),eG (.const [])],.int .i64 0]
    else .tup [.agg [.slice .no (rws eW [⟨4,ofClass i.a⟩]),eG (.const [((fieldsOn e.cs (upI e.cs i.a).reverse)[i.b.toNat]'h.2.2).ty])],.int .i64 0])
   else .tup [.agg (eEf ef0),.int .i64 72]):=by
 have hw1:=hc.wide.1.1
 have hfl:=hc.flds i.a
 have h32:=hc.cls
 refine F246.pcall' rfl fun T hT=> ?_
 simp -implicitDefEqProofs only[go_sem,c246,hT,eEn,eIn]
 intro b1 b2 n1 n2 b3 m1 m2 m3 m4
 simp -implicitDefEqProofs only[go_sem,hT,eEn,eIn,m1,m2,m3,m4,n1,n2]
 refine za3 (fields189 e.cs .no i.a (by omega) (by omega)) ?_
 generalize hF:fieldsOn e.cs (upI e.cs i.a).reverse=F at *
 by_cases h:(0≤i.a∧i.a<e.cs.length)∧0≤i.b∧i.b.toNat<F.length
 case neg=>
  have hq:(decide (i.a<0)||decide ((e.cs.length:Int)≤i.a)||decide (i.b<0)||decide ((F.length:Int)≤i.b))=true:=by simp; omega
  simp -implicitDefEqProofs only[go_sem,mmB,hT,m1,m2,m3,m4,n1,n2,hq,bYdaI0]
  rw[dif_neg h]
  exact DLe_ef (DLe.slice _ _) (.refl _)
 have hq:(decide (i.a<0)||decide ((e.cs.length:Int)≤i.a)||decide (i.b<0)||decide ((F.length:Int)≤i.b))=false:=by simp; omega
 rw[dif_pos h]
 obtain⟨k,hk⟩:∃k:Nat,i.a=k:=⟨i.a.toNat,by omega⟩
 obtain⟨j,hj⟩:∃j:Nat,i.b=j:=⟨i.b.toNat,by omega⟩
 have hjn:i.b.toNat=j:=by omega
 have hjl:j<F.length:=by omega
 have hR:(rws eF F)[j]?.getD []=eF F[j]:=rws_at hjl
 have hkc:ofClass i.a=(⟨16+k,by omega⟩:Ty):=by
  rw[hk]; ext; simp[ofClass]; omega
 simp only[hjn,hkc]
 rw[hk,hj] at hq
 generalize F[j]=f at *
 cases put
 ·simp -implicitDefEqProofs only[go_sem,mmB,hT,za5,za2,m1,m2,m3,m4,n1,n2,hk,hj,hq,hR,eF,eF_len]
  refine⟨by omega,za3 (class187 k (by omega)) ?_⟩
  simp -implicitDefEqProofs only[go_sem,mmB,hT,m1,m2,m3,m4,n1,n2,bYdaI0]
  refine za3 (of153 (⟨16+k,by omega⟩:Ty)) ?_
  simp -implicitDefEqProofs only[go_sem,mmB,hT,m1,m2,m3,m4,n1,n2,eW,frz,bYdaI0]
  refine za3 (giving154 _ rfl) ?_
  simp -implicitDefEqProofs only[go_sem,mmB,hT,m1,m2,m3,m4,n1,n2,bYdaI0]
  exact DLe_ef (DLe.slice _ _) (DLe_gives rfl)
 ·simp -implicitDefEqProofs only[go_sem,mmB,hT,za5,za2,m1,m2,m3,m4,n1,n2,hk,hj,hq,hR,eF,eF_len]
  refine⟨by omega,za3 (class187 k (by omega)) ?_⟩
  simp -implicitDefEqProofs only[go_sem,mmB,hT,m1,m2,m3,m4,n1,n2,bYdaI0]
  refine za3 (of153 (⟨16+k,by omega⟩:Ty)) ?_
  simp -implicitDefEqProofs only[go_sem,mmB,hT,m1,m2,m3,m4,n1,n2,eW,bYdaI0]
  refine za3 (of153 f.ty) ?_
  simp -implicitDefEqProofs only[go_sem,mmB,hT,m1,m2,m3,m4,n1,n2,eW,frz,bYdaI0]
  refine za3 (giving154 _ rfl) ?_
  simp -implicitDefEqProofs only[go_sem,mmB,hT,m1,m2,m3,m4,n1,n2,bYdaI0]
  exact DLe_ef (DLe.slice _ _) (DLe_gives rfl)
open Go.Proofs
inductive Tl where
 |no|fixed (ws:List Wn) (g:Gv)|call|ret|classed (ws:List Wn) (c:Bool)|field (put:Bool)
def eTl:Tl→D
 | .no=> .nilfunc
 | .fixed ws g=> .func (.func 243) [] [.eptr [.slice .no (rws eW ws)],.eptr [eG g]]
 | .call=> .func (.func 234) [] []
 | .ret=> .func (.func 235) [] [.eptr [eG (.const [])]]
 | .classed ws c=> .func (.func 244) [] [.eptr [.bool c],.eptr [.slice .no (rws eW ws)]]
 | .field put=> .func (.func 246) [] [.eptr [.bool put]]
def wi:Wn:=⟨4,1⟩
def wb:Wn:=⟨4,2⟩
def wr:Wn:=⟨4,4⟩
def tblL:List Tl:=[
 .fixed [] (.const []),.fixed [] (.const [1]),.fixed [] (.const [2]),.fixed [] (.const [3]),.fixed [] (.const [0]),.fixed [⟨1,0⟩] (.const []),.fixed [⟨0,0⟩] (.const []),.fixed [⟨0,0⟩] .dup,.fixed [⟨0,0⟩,⟨0,0⟩] .swap,
 .fixed [wi,wi] (.const [1]),.fixed [wi,wi] (.const [1]),.fixed [wi,wi] (.const [1]),.fixed [wi,wi] (.const [1]),.fixed [wi,wi] (.const [1]),.fixed [wi] (.const [1]),.fixed [wi,wi] (.const [2]),.fixed [⟨3,0⟩,⟨3,0⟩] (.const [2]),
 .fixed [wb] (.const [2]),.fixed [⟨2,0⟩,⟨2,0⟩] (.const [2]),.fixed [] (.const []),.fixed [wb] (.const []),.call,.ret,.classed [] true,.field false,.field true,
 .fixed [wi] (.const [4]),.fixed [wr] (.const [1]),.fixed [wr,wi] (.const [1]),.fixed [wr,wi,wi] (.const []),.classed [⟨2,0⟩] true,.classed [⟨2,0⟩] false,.fixed [] (.const []),.fixed [wi] (.const [])]
theorem of1:PCall Tryz.prog 229 [.int .u8 1] (.agg [.int .i64 4,.int .u8 1]):=of153 1
theorem of2:PCall Tryz.prog 229 [.int .u8 2] (.agg [.int .i64 4,.int .u8 2]):=of153 2
theorem of4:PCall Tryz.prog 229 [.int .u8 4] (.agg [.int .i64 4,.int .u8 4]):=of153 4
def gE (l:List Int):D:= .func (.func 242) [] [.eptr [.slice .exact (l.map fun n=>[.int .u8 n])]]
def gN:D:= .func (.func 242) [] [.eptr [.slice .nil []]]
def fx (x g:D):D:= .func (.func 243) [] [.eptr [x],.eptr [g]]
def wE (l:List (Int×Int)):D:= .slice .exact (l.map fun p=>[.int .i64 p.1,.int .u8 p.2])
def wN:D:= .slice .nil []
def putAt (l:List D) (ks:List Nat) (v:D):List D:=ks.foldl (fun l k=>l.set k v) l
def tab0:List D:=List.replicate 34 .nilfunc
def tab8:List D:=[fx wN gN,fx wN (gE [1]),fx wN (gE [2]),fx wN (gE [3]),fx wN (gE [0]),fx (wE [(1,0)]) gN,fx (wE [(0,0)]) gN,fx (wE [(0,0)]) (.func (.func 232) [] []),fx (wE [(0,0),(0,0)]) (.func (.func 233) [] []),
 .nilfunc,.nilfunc,.nilfunc,.nilfunc,.nilfunc,.nilfunc,.nilfunc,.nilfunc,.nilfunc,.nilfunc,fx wN gN,.nilfunc,.nilfunc,.nilfunc,.nilfunc,.nilfunc,.nilfunc,.nilfunc,.nilfunc,.nilfunc,.nilfunc,.nilfunc,.nilfunc,fx wN gN,.nilfunc]
def stT (b0 b1 b2 b3 b5 b6:Nat) (tab:List D):St:=(((((({}:St).set b0 tab0).set b1 [.int .i64 4,.int .u8 1]).set b2 [.int .i64 4,.int .u8 2]).set b3 [.int .i64 4,.int .u8 4]).set b5 [gN]).set b6 tab
def bYdaJ0:=aI @za2 @Int.ofNat_zero
theorem table126:PCall Tryz.prog 209 [] (.agg (tblL.map eTl)):=by
 refine RCall.freeze (F209.rcall rfl fun T hT=> ?_)
 simp -implicitDefEqProofs only[go_sem,c209,hT]
 intro b0
 refine za3 of1 ?_
 simp -implicitDefEqProofs only[go_sem,hT]
 refine za3 of2 ?_
 simp -implicitDefEqProofs only[go_sem,hT]
 refine za3 of4 ?_
 simp -implicitDefEqProofs only[go_sem,hT]
 intro b1 _ _ b2 _ _ _ _ b3 _ _ _ _ _ _
 simp -implicitDefEqProofs only[go_sem, *,za2,frz]
 refine za3 (giving154 _ rfl) ?_
 simp -implicitDefEqProofs only[go_sem, *,za2]
 intro b5 _ _ _ _ _ _ _ _ _ _ _ _ _ _ b6 _ _ _ _ _ _ _ _ _ _ _ _ _ _ _ _
 refine loopL F209 (fun x:Nat=>[(0,.ptr b0 0),(1,.ptr b1 0),(2,.ptr b2 0),(3,.ptr b3 0),(4,wE [(4,1),(4,1)]),(5,.ptr b5 0),(6,.ptr b6 0),(18,.slice .exact ([0,19,32].map fun n=>[.int .u8 n])),(19,.int .i64 3),(20,.int .i64 x)])
  (fun x=>stT b0 b1 b2 b3 b5 b6 (putAt tab0 ([0,19,32].take x) (fx wN gN))) (fun x=>x≤3) (fun x=>3-x) 0 (Nat.zero_le _) ?_ ?_ ?_
 ·simp -implicitDefEqProofs only[go_sem, *,wE,Int.ofNat_zero]
  first|exact⟨rfl,rfl⟩|rfl
 ·refine⟨fun y l h=> ?_,fun y p h=>h,fun y o h=>h⟩
  simp only[stT,St.set] at h ⊢
  repeat' split at h
  all_goals simp_all[putAt,tab0,List.replicate,gN]
 clear hT T
 intro x hx T hT
 have hx':x=0∨x=1∨x=2∨x=3:=by omega
 rcases hx' with rfl|rfl|rfl|rfl
 ·simp -implicitDefEqProofs only[go_sem, *,stT,tab0,tab8,putAt,gN,gE,fx,wE,wN,List.foldl_cons,List.foldl_nil,List.set_cons_zero,List.set_cons_succ,frz,Int.ofNat_one,Int.cast_ofNat_Int,Int.reduceToNat,bYdaJ0]
  refine za3 (fixed155 _ _ rfl rfl) ?_
  simp -implicitDefEqProofs only[go_sem, *,stT,tab0,tab8,putAt,gN,gE,fx,wE,wN,List.foldl_cons,List.foldl_nil,List.set_cons_zero,List.set_cons_succ,za2,frz]
  exact⟨by omega,1,by omega,by omega,by rw[zc1 (by omega) (by omega)]; rfl,St.le.refl _⟩
 ·simp -implicitDefEqProofs only[go_sem, *,stT,tab0,tab8,putAt,gN,gE,fx,wE,wN,List.foldl_cons,List.foldl_nil,List.set_cons_zero,List.set_cons_succ,frz,Int.ofNat_one,Int.cast_ofNat_Int,Int.reduceToNat,bYdaJ0]
  refine za3 (fixed155 _ _ rfl rfl) ?_
  simp -implicitDefEqProofs only[go_sem, *,stT,tab0,tab8,putAt,gN,gE,fx,wE,wN,List.foldl_cons,List.foldl_nil,List.set_cons_zero,List.set_cons_succ,za2,frz]
  exact⟨by omega,2,by omega,by omega,by rw[zc1 (by omega) (by omega)]; rfl,St.le.refl _⟩
 ·simp -implicitDefEqProofs only[go_sem, *,stT,tab0,tab8,putAt,gN,gE,fx,wE,wN,List.foldl_cons,List.foldl_nil,List.set_cons_zero,List.set_cons_succ,frz,Int.ofNat_one,Int.cast_ofNat_Int,Int.reduceToNat,bYdaJ0]
  refine za3 (fixed155 _ _ rfl rfl) ?_
  simp -implicitDefEqProofs only[go_sem, *,stT,tab0,tab8,putAt,gN,gE,fx,wE,wN,List.foldl_cons,List.foldl_nil,List.set_cons_zero,List.set_cons_succ,za2,frz]
  exact⟨by omega,3,by omega,by omega,by rw[zc1 (by omega) (by omega)]; rfl,St.le.refl _⟩
 simp -implicitDefEqProofs only[go_sem, *,stT,tab0,tab8,putAt,gN,gE,fx,wE,wN,List.foldl_cons,List.foldl_nil,List.set_cons_zero,List.set_cons_succ,za2,frz]
 refine za3 (giving154 _ rfl) ?_
 simp -implicitDefEqProofs only[go_sem, *,za2,frz]
 refine za3 (fixed155 _ _ rfl rfl) ?_
 simp -implicitDefEqProofs only[go_sem, *,za2,frz]
 refine⟨by omega, ?_⟩
 refine za3 (giving154 _ rfl) ?_
 simp -implicitDefEqProofs only[go_sem, *,za2,frz]
 refine za3 (fixed155 _ _ rfl rfl) ?_
 simp -implicitDefEqProofs only[go_sem, *,za2,frz]
 refine⟨by omega, ?_⟩
 refine za3 (giving154 _ rfl) ?_
 simp -implicitDefEqProofs only[go_sem, *,za2,frz]
 refine za3 (fixed155 _ _ rfl rfl) ?_
 simp -implicitDefEqProofs only[go_sem, *,za2,frz]
 refine⟨by omega, ?_⟩
 refine za3 (giving154 _ rfl) ?_
 simp -implicitDefEqProofs only[go_sem, *,za2,frz]
 refine za3 (fixed155 _ _ rfl rfl) ?_
 simp -implicitDefEqProofs only[go_sem, *,za2,frz]
 refine⟨by omega, ?_⟩
 refine za3 (fixed155 _ _ rfl rfl) ?_
 simp -implicitDefEqProofs only[go_sem, *,za2,frz]
 refine⟨by omega, ?_⟩
 refine za3 (fixed155 _ _ rfl rfl) ?_
 simp -implicitDefEqProofs only[go_sem, *,za2,frz]
 refine⟨by omega, ?_⟩
 refine za3 (fixed155 _ _ rfl rfl) ?_
 simp -implicitDefEqProofs only[go_sem, *,za2,frz]
 refine⟨by omega, ?_⟩
 refine za3 (fixed155 _ _ rfl rfl) ?_
 simp -implicitDefEqProofs only[go_sem, *,za2,frz]
 refine⟨by omega, ?_⟩
 refine loopL F209 (fun x:Nat=>[(0,.ptr b0 0),(1,.ptr b1 0),(2,.ptr b2 0),(3,.ptr b3 0),(4,wE [(4,1),(4,1)]),(5,.ptr b5 0),(6,.ptr b6 0),(64,.slice .exact ([9,10,11,12,13].map fun n=>[.int .u8 n])),(65,.int .i64 5),(66,.int .i64 x)])
  (fun x=>stT b0 b1 b2 b3 b5 b6 (putAt tab8 ([9,10,11,12,13].take x) (fx (wE [(4,1),(4,1)]) (gE [1])))) (fun x=>x≤5) (fun x=>5-x) 0 (Nat.zero_le _) ?_ ?_ ?_
 ·simp -implicitDefEqProofs only[go_sem, *,wE,Int.ofNat_zero]
  first|exact⟨rfl,rfl⟩|rfl
 ·exact St.le.refl _
 clear hT T
 intro x hx T hT
 have hx':x=0∨x=1∨x=2∨x=3∨x=4∨x=5:=by omega
 rcases hx' with rfl|rfl|rfl|rfl|rfl|rfl
 ·simp -implicitDefEqProofs only[go_sem, *,stT,tab0,tab8,putAt,gN,gE,fx,wE,wN,List.foldl_cons,List.foldl_nil,List.set_cons_zero,List.set_cons_succ,frz,Int.ofNat_one,Int.cast_ofNat_Int,Int.reduceToNat,bYdaJ0]
  refine za3 (giving154 _ rfl) ?_
  simp -implicitDefEqProofs only[go_sem, *,stT,tab0,tab8,putAt,gN,gE,fx,wE,wN,List.foldl_cons,List.foldl_nil,List.set_cons_zero,List.set_cons_succ,za2,frz]
  refine za3 (fixed155 _ _ rfl rfl) ?_
  simp -implicitDefEqProofs only[go_sem, *,stT,tab0,tab8,putAt,gN,gE,fx,wE,wN,List.foldl_cons,List.foldl_nil,List.set_cons_zero,List.set_cons_succ,za2,frz]
  exact⟨by omega,1,by omega,by omega,by rw[zc1 (by omega) (by omega)]; rfl,St.le.refl _⟩
 ·simp -implicitDefEqProofs only[go_sem, *,stT,tab0,tab8,putAt,gN,gE,fx,wE,wN,List.foldl_cons,List.foldl_nil,List.set_cons_zero,List.set_cons_succ,frz,Int.ofNat_one,Int.cast_ofNat_Int,Int.reduceToNat,bYdaJ0]
  refine za3 (giving154 _ rfl) ?_
  simp -implicitDefEqProofs only[go_sem, *,stT,tab0,tab8,putAt,gN,gE,fx,wE,wN,List.foldl_cons,List.foldl_nil,List.set_cons_zero,List.set_cons_succ,za2,frz]
  refine za3 (fixed155 _ _ rfl rfl) ?_
  simp -implicitDefEqProofs only[go_sem, *,stT,tab0,tab8,putAt,gN,gE,fx,wE,wN,List.foldl_cons,List.foldl_nil,List.set_cons_zero,List.set_cons_succ,za2,frz]
  exact⟨by omega,2,by omega,by omega,by rw[zc1 (by omega) (by omega)]; rfl,St.le.refl _⟩
 ·simp -implicitDefEqProofs only[go_sem, *,stT,tab0,tab8,putAt,gN,gE,fx,wE,wN,List.foldl_cons,List.foldl_nil,List.set_cons_zero,List.set_cons_succ,frz,Int.ofNat_one,Int.cast_ofNat_Int,Int.reduceToNat,bYdaJ0]
  refine za3 (giving154 _ rfl) ?_
  simp -implicitDefEqProofs only[go_sem, *,stT,tab0,tab8,putAt,gN,gE,fx,wE,wN,List.foldl_cons,List.foldl_nil,List.set_cons_zero,List.set_cons_succ,za2,frz]
  refine za3 (fixed155 _ _ rfl rfl) ?_
  simp -implicitDefEqProofs only[go_sem, *,stT,tab0,tab8,putAt,gN,gE,fx,wE,wN,List.foldl_cons,List.foldl_nil,List.set_cons_zero,List.set_cons_succ,za2,frz]
  exact⟨by omega,3,by omega,by omega,by rw[zc1 (by omega) (by omega)]; rfl,St.le.refl _⟩
 ·simp -implicitDefEqProofs only[go_sem, *,stT,tab0,tab8,putAt,gN,gE,fx,wE,wN,List.foldl_cons,List.foldl_nil,List.set_cons_zero,List.set_cons_succ,frz,Int.ofNat_one,Int.cast_ofNat_Int,Int.reduceToNat,bYdaJ0]
  refine za3 (giving154 _ rfl) ?_
  simp -implicitDefEqProofs only[go_sem, *,stT,tab0,tab8,putAt,gN,gE,fx,wE,wN,List.foldl_cons,List.foldl_nil,List.set_cons_zero,List.set_cons_succ,za2,frz]
  refine za3 (fixed155 _ _ rfl rfl) ?_
  simp -implicitDefEqProofs only[go_sem, *,stT,tab0,tab8,putAt,gN,gE,fx,wE,wN,List.foldl_cons,List.foldl_nil,List.set_cons_zero,List.set_cons_succ,za2,frz]
  exact⟨by omega,4,by omega,by omega,by rw[zc1 (by omega) (by omega)]; rfl,St.le.refl _⟩
 ·simp -implicitDefEqProofs only[go_sem, *,stT,tab0,tab8,putAt,gN,gE,fx,wE,wN,List.foldl_cons,List.foldl_nil,List.set_cons_zero,List.set_cons_succ,frz,Int.ofNat_one,Int.cast_ofNat_Int,Int.reduceToNat,bYdaJ0]
  refine za3 (giving154 _ rfl) ?_
  simp -implicitDefEqProofs only[go_sem, *,stT,tab0,tab8,putAt,gN,gE,fx,wE,wN,List.foldl_cons,List.foldl_nil,List.set_cons_zero,List.set_cons_succ,za2,frz]
  refine za3 (fixed155 _ _ rfl rfl) ?_
  simp -implicitDefEqProofs only[go_sem, *,stT,tab0,tab8,putAt,gN,gE,fx,wE,wN,List.foldl_cons,List.foldl_nil,List.set_cons_zero,List.set_cons_succ,za2,frz]
  exact⟨by omega,5,by omega,by omega,by rw[zc1 (by omega) (by omega)]; rfl,St.le.refl _⟩
 simp -implicitDefEqProofs only[go_sem, *,stT,tab0,tab8,putAt,gN,gE,fx,wE,wN,List.foldl_cons,List.foldl_nil,List.set_cons_zero,List.set_cons_succ,frz,Int.ofNat_one,Int.cast_ofNat_Int,bYdaJ0]
 refine⟨by rintro b rfl; simp[*],za3 (giving154 _ rfl) ?_⟩
 simp -implicitDefEqProofs only[go_sem, *,za2,frz]
 refine za3 (fixed155 _ _ rfl rfl) ?_
 simp -implicitDefEqProofs only[go_sem, *,za2,frz]
 refine⟨by omega,za3 (giving154 _ rfl) ?_⟩
 simp -implicitDefEqProofs only[go_sem, *,za2,frz]
 refine za3 (fixed155 _ _ rfl rfl) ?_
 simp -implicitDefEqProofs only[go_sem, *,za2,frz]
 refine⟨by omega,za3 (giving154 _ rfl) ?_⟩
 simp -implicitDefEqProofs only[go_sem, *,za2,frz]
 refine za3 (fixed155 _ _ rfl rfl) ?_
 simp -implicitDefEqProofs only[go_sem, *,za2,frz]
 refine⟨by omega,by rintro b rfl; simp[*],za3 (giving154 _ rfl) ?_⟩
 simp -implicitDefEqProofs only[go_sem, *,za2,frz]
 refine za3 (fixed155 _ _ rfl rfl) ?_
 simp -implicitDefEqProofs only[go_sem, *,za2,frz]
 refine⟨by omega,za3 (giving154 _ rfl) ?_⟩
 simp -implicitDefEqProofs only[go_sem, *,za2,frz]
 refine za3 (fixed155 _ _ rfl rfl) ?_
 simp -implicitDefEqProofs only[go_sem, *,za2,frz]
 refine⟨by omega,za3 (fixed155 _ _ rfl rfl) ?_⟩
 simp -implicitDefEqProofs only[go_sem, *,za2,frz]
 refine⟨by omega,by omega,by omega,za3 (classed161 _ rfl _) ?_⟩
 simp -implicitDefEqProofs only[go_sem, *,za2,frz]
 refine⟨by omega,za3 (field162 _) ?_⟩
 simp -implicitDefEqProofs only[go_sem, *,za2,frz]
 refine⟨by omega,za3 (field162 _) ?_⟩
 simp -implicitDefEqProofs only[go_sem, *,za2,frz]
 refine⟨by omega,by rintro b rfl; simp[*],za3 (giving154 _ rfl) ?_⟩
 simp -implicitDefEqProofs only[go_sem, *,za2,frz]
 refine za3 (fixed155 _ _ rfl rfl) ?_
 simp -implicitDefEqProofs only[go_sem, *,za2,frz]
 refine⟨by omega,by rintro b rfl; simp[*],za3 (giving154 _ rfl) ?_⟩
 simp -implicitDefEqProofs only[go_sem, *,za2,frz]
 refine za3 (fixed155 _ _ rfl rfl) ?_
 simp -implicitDefEqProofs only[go_sem, *,za2,frz]
 refine⟨by omega,by intro b hb; rcases hb with rfl|rfl <;> simp[*],za3 (giving154 _ rfl) ?_⟩
 simp -implicitDefEqProofs only[go_sem, *,za2,frz]
 refine za3 (fixed155 _ _ rfl rfl) ?_
 simp -implicitDefEqProofs only[go_sem, *,za2,frz]
 refine⟨by omega,za3 (fixed155 _ _ rfl rfl) ?_⟩
 simp -implicitDefEqProofs only[go_sem, *,za2,frz]
 refine⟨by omega,za3 (classed161 _ rfl _) ?_⟩
 simp -implicitDefEqProofs only[go_sem, *,za2,frz]
 refine⟨by omega,za3 (classed161 _ rfl _) ?_⟩
 simp -implicitDefEqProofs only[go_sem, *,za2,frz]
 refine⟨by omega,za3 (fixed155 _ _ rfl rfl) ?_⟩
 simp -implicitDefEqProofs only[go_sem, *,za2,frz]
 refine⟨by omega,_,_,DLe.refl _,St.le.refl _,FLe.agg ?_⟩
 simp only[tblL,List.map_cons,List.map_nil,eTl,eG,rws,wi,wb,wr,eW,eT]
 repeat' first
  |exact FLes.nil
  |refine FLes.cons ?_ ?_
  |exact FLe.of (DLe.refl _)
  |exact FLe.of (DLe.func .nil (.cons (DLe.eptr (.cons (DLe.slice _ _) .nil)) (.cons (DLe.eptr (.cons (DLe.func .nil (.cons (DLe.eptr (.cons (DLe.slice _ _) .nil)) .nil)) .nil)) .nil)))
  |exact FLe.of (DLe.func .nil (.cons (DLe.eptr (.cons (DLe.slice _ _) .nil)) (.cons (.refl _) .nil)))
  |exact FLe.of (DLe.func .nil (.cons (.refl _) (.cons (DLe.eptr (.cons (DLe.slice _ _) .nil)) .nil)))
 refine FLe.func .nil (.cons (FLe.box (cs:=[.func (.func 242) [] [.eptr [.slice .nil []]]]) ?_ (.cons (FLe.of (DLe.func .nil (.cons (DLe.eptr (.cons (DLe.slice _ _) .nil)) .nil))) .nil)) .nil)
 simp[St.set_box, *]
open Go.Proofs
def canB (e:En):Bool:=decide ((checkL isWordB e.cs).2=0∧e.sgs.length≤64∧0≤e.fn∧e.fn<e.sgs.length)&&e.sgs.all (sigMayB e.cs.length)
theorem odd122 (e:En) (t:Ty) (b:Nat) (σ:St) (hb:σ.box b=some (eEn e)):
  RCall Tryz.prog 208 [.int .u8 t.val,.ptr b 0] σ fun d s'=>d= .bool (storedN e.cs.length t)∧s'=σ:=by
 refine F208.rcall rfl fun T hT=> ?_
 simp -implicitDefEqProofs only[go_sem,c208,hT,hb,eEn]
 refine za3 (valid105 e.cs .no t) ?_
 simp -implicitDefEqProofs only[go_sem,mmB,hT]
 refine⟨_,σ,DLe.refl _,St.le.refl _, ?_,rfl⟩
 rw[D.bool.injEq,Bool.eq_iff_iff]
 simp only[storedN,Bool.and_eq_true,Bool.not_eq_true',decide_eq_false_iff_not,decide_eq_true_eq]
 constructor
 ·rintro⟨⟨h1,h2⟩,h3⟩; exact⟨h1,by omega,by omega⟩
 ·rintro⟨h1,h2,h3⟩; exact⟨⟨h1,by omega⟩,by omega⟩
theorem refStored112 (l:List Cl) (o:Own) (t:Ty):PCall Tryz.prog 101 [.slice o (rws eC l),.int .u8 t.val] (.bool (storedN l.length t)):=by
 refine F101.pcall' rfl fun T hT=> ?_
 simp -implicitDefEqProofs only[go_sem,c101,hT]
 refine za3 (refValid87 l o t) ?_
 simp -implicitDefEqProofs only[go_sem,mmB,hT]
 refine zf1 ?_
 rw[Bool.eq_iff_iff]
 simp only[storedN,Bool.and_eq_true,Bool.not_eq_true',decide_eq_false_iff_not,decide_eq_true_eq]
 constructor
 ·rintro⟨⟨h1,h2⟩,h3⟩; exact⟨h1,by omega,by omega⟩
 ·rintro⟨h1,h2,h3⟩; exact⟨⟨h1,by omega⟩,by omega⟩
def wid (op:Nat):Nat×Nat:=if op=1 then(4,0) else if op=19∨op=20 then(2,0) else if op=24∨op=25 then(1,1) else if op=2∨op=4∨op=5∨op=21∨op=23∨op=30∨op=31∨op=32 then(1,0) else(0,0)
def zf3 (op:Nat):Nat:=if 34≤op then 0 else 1+(wid op).1+(wid op).2
theorem wid_at (t:Ty) (k:Nat) (p:Nat×Nat) (h:t.val=k) (hp:wid k=p):wid t.val=p:=by rw[h,hp]
theorem wid_no (t:Ty) (h1:t.val≠1) (h2:t.val≠19) (h3:t.val≠20) (h4:t.val≠24) (h5:t.val≠25) (h6:t.val≠2) (h7:t.val≠4) (h8:t.val≠5) (h9:t.val≠21) (h10:t.val≠23) (h11:t.val≠30) (h12:t.val≠31) (h13:t.val≠32):wid t.val=(0,0):=by
 rw[wid,if_neg h1,if_neg (by omega),if_neg (by omega),if_neg (by omega)]
theorem wid_le (n:Nat):(wid n).1≤4∧(wid n).2≤1:=by
 unfold wid; repeat' split
 all_goals simp
theorem widths152 (t:Ty):PCall Tryz.prog 128 [.int .u8 t.val] (.tup [.int .i64 (wid t.val).1,.int .i64 (wid t.val).2]):=by
 refine F128.pcall' rfl fun T hT=> ?_
 by_cases h1:(t.val:Int)=1
 ·rw[wid_at t 1 (4,0) (by omega) rfl]
  simp -implicitDefEqProofs only[go_sem,c128,hT,h1]
  exact DLe.of_eq rfl
 by_cases h19:(t.val:Int)=19
 ·rw[wid_at t 19 (2,0) (by omega) rfl]
  simp -implicitDefEqProofs only[go_sem,c128,hT,h19]
  exact DLe.of_eq rfl
 by_cases h20:(t.val:Int)=20
 ·rw[wid_at t 20 (2,0) (by omega) rfl]
  simp -implicitDefEqProofs only[go_sem,c128,hT,h20]
  exact DLe.of_eq rfl
 by_cases h24:(t.val:Int)=24
 ·rw[wid_at t 24 (1,1) (by omega) rfl]
  simp -implicitDefEqProofs only[go_sem,c128,hT,h24]
  exact DLe.of_eq rfl
 by_cases h25:(t.val:Int)=25
 ·rw[wid_at t 25 (1,1) (by omega) rfl]
  simp -implicitDefEqProofs only[go_sem,c128,hT,h25]
  exact DLe.of_eq rfl
 by_cases h2:(t.val:Int)=2
 ·rw[wid_at t 2 (1,0) (by omega) rfl]
  simp -implicitDefEqProofs only[go_sem,c128,hT,h2]
  exact DLe.of_eq rfl
 by_cases h4:(t.val:Int)=4
 ·rw[wid_at t 4 (1,0) (by omega) rfl]
  simp -implicitDefEqProofs only[go_sem,c128,hT,h4]
  exact DLe.of_eq rfl
 by_cases h5:(t.val:Int)=5
 ·rw[wid_at t 5 (1,0) (by omega) rfl]
  simp -implicitDefEqProofs only[go_sem,c128,hT,h5]
  exact DLe.of_eq rfl
 by_cases h21:(t.val:Int)=21
 ·rw[wid_at t 21 (1,0) (by omega) rfl]
  simp -implicitDefEqProofs only[go_sem,c128,hT,h21]
  exact DLe.of_eq rfl
 by_cases h23:(t.val:Int)=23
 ·rw[wid_at t 23 (1,0) (by omega) rfl]
  simp -implicitDefEqProofs only[go_sem,c128,hT,h23]
  exact DLe.of_eq rfl
 by_cases h30:(t.val:Int)=30
 ·rw[wid_at t 30 (1,0) (by omega) rfl]
  simp -implicitDefEqProofs only[go_sem,c128,hT,h30]
  exact DLe.of_eq rfl
 by_cases h31:(t.val:Int)=31
 ·rw[wid_at t 31 (1,0) (by omega) rfl]
  simp -implicitDefEqProofs only[go_sem,c128,hT,h31]
  exact DLe.of_eq rfl
 by_cases h32:(t.val:Int)=32
 ·rw[wid_at t 32 (1,0) (by omega) rfl]
  simp -implicitDefEqProofs only[go_sem,c128,hT,h32]
  exact DLe.of_eq rfl
 rw[wid_no t (by omega) (by omega) (by omega) (by omega) (by omega) (by omega) (by omega) (by omega) (by omega) (by omega) (by omega) (by omega) (by omega)]
 simp -implicitDefEqProofs only[go_sem,c128,hT,h1,h19,h20,h24,h25,h2,h4,h5,h21,h23,h30,h31,h32]
 exact DLe.of_eq rfl
theorem wide113 (t:Ty):PCall Tryz.prog 63 [.int .u8 t.val] (.tup [.int .i64 (wid t.val).1,.int .i64 (wid t.val).2]):=by
 refine F63.pcall' rfl fun T hT=> ?_
 by_cases h1:(t.val:Int)=1
 ·rw[wid_at t 1 (4,0) (by omega) rfl]
  simp -implicitDefEqProofs only[go_sem,c63,hT,h1]
  exact DLe.of_eq rfl
 by_cases h19:(t.val:Int)=19
 ·rw[wid_at t 19 (2,0) (by omega) rfl]
  simp -implicitDefEqProofs only[go_sem,c63,hT,h19]
  exact DLe.of_eq rfl
 by_cases h20:(t.val:Int)=20
 ·rw[wid_at t 20 (2,0) (by omega) rfl]
  simp -implicitDefEqProofs only[go_sem,c63,hT,h20]
  exact DLe.of_eq rfl
 by_cases h24:(t.val:Int)=24
 ·rw[wid_at t 24 (1,1) (by omega) rfl]
  simp -implicitDefEqProofs only[go_sem,c63,hT,h24]
  exact DLe.of_eq rfl
 by_cases h25:(t.val:Int)=25
 ·rw[wid_at t 25 (1,1) (by omega) rfl]
  simp -implicitDefEqProofs only[go_sem,c63,hT,h25]
  exact DLe.of_eq rfl
 by_cases h2:(t.val:Int)=2
 ·rw[wid_at t 2 (1,0) (by omega) rfl]
  simp -implicitDefEqProofs only[go_sem,c63,hT,h2]
  exact DLe.of_eq rfl
 by_cases h4:(t.val:Int)=4
 ·rw[wid_at t 4 (1,0) (by omega) rfl]
  simp -implicitDefEqProofs only[go_sem,c63,hT,h4]
  exact DLe.of_eq rfl
 by_cases h5:(t.val:Int)=5
 ·rw[wid_at t 5 (1,0) (by omega) rfl]
  simp -implicitDefEqProofs only[go_sem,c63,hT,h5]
  exact DLe.of_eq rfl
 by_cases h21:(t.val:Int)=21
 ·rw[wid_at t 21 (1,0) (by omega) rfl]
  simp -implicitDefEqProofs only[go_sem,c63,hT,h21]
  exact DLe.of_eq rfl
 by_cases h23:(t.val:Int)=23
 ·rw[wid_at t 23 (1,0) (by omega) rfl]
  simp -implicitDefEqProofs only[go_sem,c63,hT,h23]
  exact DLe.of_eq rfl
 by_cases h30:(t.val:Int)=30
 ·rw[wid_at t 30 (1,0) (by omega) rfl]
  simp -implicitDefEqProofs only[go_sem,c63,hT,h30]
  exact DLe.of_eq rfl
 by_cases h31:(t.val:Int)=31
 ·rw[wid_at t 31 (1,0) (by omega) rfl]
  simp -implicitDefEqProofs only[go_sem,c63,hT,h31]
  exact DLe.of_eq rfl
 by_cases h32:(t.val:Int)=32
 ·rw[wid_at t 32 (1,0) (by omega) rfl]
  simp -implicitDefEqProofs only[go_sem,c63,hT,h32]
  exact DLe.of_eq rfl
 rw[wid_no t (by omega) (by omega) (by omega) (by omega) (by omega) (by omega) (by omega) (by omega) (by omega) (by omega) (by omega) (by omega) (by omega)]
 simp -implicitDefEqProofs only[go_sem,c63,hT,h1,h19,h20,h24,h25,h2,h4,h5,h21,h23,h30,h31,h32]
 exact DLe.of_eq rfl
theorem size125 (t:Ty):PCall Tryz.prog 84 [.int .u8 t.val] (.int .i64 (zf3 t.val)):=by
 refine F84.pcall' rfl fun T hT=> ?_
 have hw:=wid_le t.val
 by_cases h:(34:Int)≤t.val
 ·simp -implicitDefEqProofs only[go_sem,c84,hT,h]
  exact DLe.of_eq (by rw[zf3,if_pos (by omega)]; rfl)
 ·simp -implicitDefEqProofs only[go_sem,c84,hT,h]
  refine za3 (widths152 t) ?_
  simp -implicitDefEqProofs only[go_sem,hT]
  refine DLe.of_eq ?_
  rw[zf3,if_neg (by omega),zc1 (n:=1+((wid t.val).1:Int)) (by omega) (by omega),zc1 (by omega) (by omega)]
  simp
theorem refSize74 (t:Ty):PCall Tryz.prog 20 [.int .u8 t.val] (.int .i64 (zf3 t.val)):=by
 refine F20.pcall' rfl fun T hT=> ?_
 have hw:=wid_le t.val
 by_cases h:(34:Int)≤t.val
 ·simp -implicitDefEqProofs only[go_sem,c20,hT,h]
  exact DLe.of_eq (by rw[zf3,if_pos (by omega)]; rfl)
 ·simp -implicitDefEqProofs only[go_sem,c20,hT,h]
  refine za3 (wide113 t) ?_
  simp -implicitDefEqProofs only[go_sem,hT]
  refine DLe.of_eq ?_
  rw[zf3,if_neg (by omega),zc1 (n:=1+((wid t.val).1:Int)) (by omega) (by omega),zc1 (by omega) (by omega)]
  simp
open Go.Proofs
theorem sigMay_all {c:Nat} {s:Sg} (h8:s.ps.length≤8) (hr:s.r.val=0∨storedN c s.r=true) (hp:(s.ps.any fun t=> !storedN c t)=false):sigMayB c s=true:=by
 rw[sigMayB,hp]
 simp only[h8,decide_true,Bool.not_false,Bool.and_self,Bool.true_and,Bool.or_eq_true,decide_eq_true_eq]
 exact hr
theorem environment80 (e:En) (hw:WideE e):PCall Tryz.prog 172 [.agg (eEn e)] (.bool (canB e)):=by
 obtain⟨hw1,hw2,hw3⟩:=hw
 refine F172.pcall' rfl fun T hT=> ?_
 simp -implicitDefEqProofs only[go_sem,c172,hT,eEn]
 intro b1
 refine za3 (check64 e.cs .no hw1) ?_
 by_cases hh:(checkL isWordB e.cs).2=0∧e.sgs.length≤64∧0≤e.fn∧e.fn<e.sgs.length
 case neg=>
  have hcan:canB e=false:=by rw[canB,decide_eq_false hh]; rfl
  have hf:(!decide (((checkL isWordB e.cs).2:Int)=0)||decide ((64:Int)<e.sgs.length)||decide (e.fn<0)||decide ((e.sgs.length:Int)≤e.fn))=true:=by
   simp only[Bool.or_eq_true,Bool.not_eq_true',decide_eq_false_iff_not,decide_eq_true_eq]; omega
  simp -implicitDefEqProofs only[go_sem,mmB,hT,eEn,hf]
  exact zf1 hcan.symm
 have hf:(!decide (((checkL isWordB e.cs).2:Int)=0)||decide ((64:Int)<e.sgs.length)||decide (e.fn<0)||decide ((e.sgs.length:Int)≤e.fn))=false:=by
  rw[←Bool.not_eq_true]
  simp only[Bool.or_eq_true,Bool.not_eq_true',decide_eq_false_iff_not,decide_eq_true_eq]; omega
 have hcan:canB e=e.sgs.all (sigMayB e.cs.length):=by rw[canB,decide_eq_true hh]; rfl
 simp -implicitDefEqProofs only[go_sem,mmB,hT,eEn,hf]
 rw[hcan]
 refine loopL F172 (fun i:Nat=>[(1,.ptr b1 0),(5,.func (.func 208) [] [.ptr b1 0]),(39,.slice .no (rws eSg e.sgs)),(40,.int .i64 e.sgs.length),(41,.int .i64 i)]) (fun _=>({}:St).set b1 (eEn e)) (fun i=>i≤e.sgs.length∧(e.sgs.take i).all (sigMayB e.cs.length)=true) (fun i=>e.sgs.length-i) 0
  ⟨Nat.zero_le _,rfl⟩ ?_ (St.le.refl _) ?_
 ·simp -implicitDefEqProofs only[go_sem,hT,Int.ofNat_zero]
 clear hT T
 rintro i ⟨hi,hok⟩ T hT
 by_cases h2:i<e.sgs.length
 ·have h3:((i:Int)<e.sgs.length)=True:=by simp; omega
  have hR:(rws eSg e.sgs)[i]?.getD []=eSg e.sgs[i]:=rws_at h2
  have htake:e.sgs.take (i+1)=e.sgs.take i++[e.sgs[i]]:=List.take_succ_eq_append_getElem h2
  have hwf:=hw3 e.sgs[i] (by simp)
  have hin:e.sgs[i]∈e.sgs:=by simp
  generalize e.sgs[i]=s at *
  have bad:sigMayB e.cs.length s=false→DLe (.bool false) (.bool (e.sgs.all (sigMayB e.cs.length))):=fun h=>zf1 (by
   cases hh:e.sgs.all (sigMayB e.cs.length) with
   |false=>rfl
   |true=>rw[List.all_eq_true.1 hh s hin] at h; cases h)
  simp -implicitDefEqProofs only[go_sem,hT,h3,hR,eSg]
  refine⟨by omega,fun b7 n1 n2=> ?_⟩
  by_cases h8:(8:Int)<s.ps.length
  ·simp -implicitDefEqProofs only[go_sem,hT,h3,eSg,n1,n2,za2,h8]
   exact bad (by rw[sigMayB,decide_eq_false (by omega)]; rfl)
  have hb2:((({}:St).set b1 (eEn e)).set b7 (eSg s)).box b1=some (eEn e):=by simp[St.set_box,n2]
  by_cases h0:(s.r.val:Int)=0
  ·simp -implicitDefEqProofs only[go_sem,hT,h3,eSg,eEn,n1,n2,za2,h8,h0]
   refine loopL F172 (fun j:Nat=>[(1,.ptr b1 0),(5,.func (.func 208) [] [.ptr b1 0]),(39,.slice .no (rws eSg e.sgs)),(40,.int .i64 e.sgs.length),(41,.int .i64 i),(62,.slice .no (rws eT s.ps)),(63,.int .i64 s.ps.length),(64,.int .i64 j)]) (fun _=>({}:St).set b1 (eEn e)) (fun j=>j≤s.ps.length∧(s.ps.take j).any (fun t=> !storedN e.cs.length t)=false) (fun j=>s.ps.length-j) 0
    ⟨Nat.zero_le _,rfl⟩ ?_ (le_add (by simp[has_set,has_nil]; omega)) ?_
   ·simp -implicitDefEqProofs only[go_sem,hT,Int.ofNat_zero]
   clear hT T
   rintro j ⟨hj,hjo⟩ T hT
   by_cases j2:j<s.ps.length
   ·have j3:((j:Int)<s.ps.length)=True:=by simp; omega
    have hRt:(rws eT s.ps)[j]?.getD []=eT s.ps[j]:=rws_at j2
    have htk:s.ps.take (j+1)=s.ps.take j++[s.ps[j]]:=List.take_succ_eq_append_getElem j2
    have htin:s.ps[j]∈s.ps:=by simp
    generalize s.ps[j]=t at *
    simp -implicitDefEqProofs only[go_sem,hT,j3,hRt,eT,eT_len,eEn]
    refine⟨by omega, ?_⟩
    refine callB_all (odd122 e t b1 _ (by simp[St.set_box,eEn])) ?_
    rintro d s' ⟨rfl,rfl⟩
    cases hst:storedN e.cs.length t
    ·simp -implicitDefEqProofs only[go_sem,hT]
     exact bad (by rw[sigMayB,List.any_eq_true.2 ⟨t,htin,by simp[hst]⟩]; simp)
    ·simp -implicitDefEqProofs only[go_sem,hT]
     refine⟨j+1,⟨by omega,by rw[htk,List.any_append,hjo]; simp[hst]⟩,by omega, ?_,St.le.refl _⟩
     rw[zc1 (by omega) (by omega)]; simp
   ·have j3:((j:Int)<s.ps.length)=False:=by simp; omega
    rw[List.take_of_length_le (by omega)] at hjo
    simp -implicitDefEqProofs only[go_sem,hT,j3]
    refine⟨i+1,⟨by omega,by rw[htake,List.all_append,hok]; simp[sigMay_all (show s.ps.length≤8 by omega) (.inl (by omega)) hjo]⟩,by omega, ?_,St.le.refl _⟩
    rw[zc1 (by omega) (by omega)]; simp
  ·simp -implicitDefEqProofs only[go_sem,hT,h3,eSg,eEn,n1,n2,za2,h8,h0]
   refine callB_all (odd122 e s.r b1 _ hb2) ?_
   rintro d s' ⟨rfl,rfl⟩
   cases hsr:storedN e.cs.length s.r
   ·simp -implicitDefEqProofs only[go_sem,hT,eSg,eEn,n1,n2]
    exact bad (by rw[sigMayB,hsr,decide_eq_false (show ¬s.r.val=0 by omega)]; simp)
   simp -implicitDefEqProofs only[go_sem,hT,eSg,eEn,n1,n2]
   refine loopL F172 (fun j:Nat=>[(1,.ptr b1 0),(5,.func (.func 208) [] [.ptr b1 0]),(39,.slice .no (rws eSg e.sgs)),(40,.int .i64 e.sgs.length),(41,.int .i64 i),(62,.slice .no (rws eT s.ps)),(63,.int .i64 s.ps.length),(64,.int .i64 j)]) (fun _=>({}:St).set b1 (eEn e)) (fun j=>j≤s.ps.length∧(s.ps.take j).any (fun t=> !storedN e.cs.length t)=false) (fun j=>s.ps.length-j) 0
    ⟨Nat.zero_le _,rfl⟩ ?_ (le_add (by simp[has_set,has_nil]; omega)) ?_
   ·simp -implicitDefEqProofs only[go_sem,hT,Int.ofNat_zero]
   clear hT T
   rintro j ⟨hj,hjo⟩ T hT
   by_cases j2:j<s.ps.length
   ·have j3:((j:Int)<s.ps.length)=True:=by simp; omega
    have hRt:(rws eT s.ps)[j]?.getD []=eT s.ps[j]:=rws_at j2
    have htk:s.ps.take (j+1)=s.ps.take j++[s.ps[j]]:=List.take_succ_eq_append_getElem j2
    have htin:s.ps[j]∈s.ps:=by simp
    generalize s.ps[j]=t at *
    simp -implicitDefEqProofs only[go_sem,hT,j3,hRt,eT,eT_len,eEn]
    refine⟨by omega, ?_⟩
    refine callB_all (odd122 e t b1 _ (by simp[St.set_box,eEn])) ?_
    rintro d s' ⟨rfl,rfl⟩
    cases hst:storedN e.cs.length t
    ·simp -implicitDefEqProofs only[go_sem,hT]
     exact bad (by rw[sigMayB,List.any_eq_true.2 ⟨t,htin,by simp[hst]⟩]; simp)
    ·simp -implicitDefEqProofs only[go_sem,hT]
     refine⟨j+1,⟨by omega,by rw[htk,List.any_append,hjo]; simp[hst]⟩,by omega, ?_,St.le.refl _⟩
     rw[zc1 (by omega) (by omega)]; simp
   ·have j3:((j:Int)<s.ps.length)=False:=by simp; omega
    rw[List.take_of_length_le (by omega)] at hjo
    simp -implicitDefEqProofs only[go_sem,hT,j3]
    refine⟨i+1,⟨by omega,by rw[htake,List.all_append,hok]; simp[sigMay_all (show s.ps.length≤8 by omega) (.inr hsr) hjo]⟩,by omega, ?_,St.le.refl _⟩
    rw[zc1 (by omega) (by omega)]; simp
 ·have h3:((i:Int)<e.sgs.length)=False:=by simp; omega
  rw[List.take_of_length_le (by omega)] at hok
  simp -implicitDefEqProofs only[go_sem,hT,h3]
  exact zf1 hok.symm
theorem can73 (e:En) (hw:WideE e):PCall Tryz.prog 58 [.agg (eEn e)] (.bool (canB e)):=by
 obtain⟨hw1,hw2,hw3⟩:=hw
 refine F58.pcall' rfl fun T hT=> ?_
 simp -implicitDefEqProofs only[go_sem,c58,hT,eEn]
 intro b1
 refine za3 (refCheck69 e.cs .no hw1) ?_
 by_cases hz:(checkL isWordB e.cs).2=0
 case neg=>
  have hcan:canB e=false:=by rw[canB,decide_eq_false (by omega)]; rfl
  have hz':((((checkL isWordB e.cs).2:Nat):Int)=0)=False:=by simp; omega
  simp -implicitDefEqProofs only[go_sem,hT,eEn,hz']
  exact zf1 hcan.symm
 have hz':((((checkL isWordB e.cs).2:Nat):Int)=0)=True:=by simp; omega
 by_cases hh:e.sgs.length≤64∧0≤e.fn∧e.fn<e.sgs.length
 case neg=>
  have hcan:canB e=false:=by rw[canB,decide_eq_false (by omega)]; rfl
  have hf:(decide ((64:Int)<e.sgs.length)||decide (e.fn<0)||decide ((e.sgs.length:Int)≤e.fn))=true:=by
   simp only[Bool.or_eq_true,decide_eq_true_eq]; omega
  simp -implicitDefEqProofs only[go_sem,hT,eEn,hz']
  simp -implicitDefEqProofs only[go_sem,mmB,hT,eEn,hf]
  exact zf1 hcan.symm
 have hf:(decide ((64:Int)<e.sgs.length)||decide (e.fn<0)||decide ((e.sgs.length:Int)≤e.fn))=false:=by
  rw[←Bool.not_eq_true]
  simp only[Bool.or_eq_true,decide_eq_true_eq]; omega
 have hcan:canB e=e.sgs.all (sigMayB e.cs.length):=by rw[canB,decide_eq_true (by omega)]; rfl
 simp -implicitDefEqProofs only[go_sem,hT,eEn,hz']
 simp -implicitDefEqProofs only[go_sem,mmB,hT,eEn,hf]
 rw[hcan]
 refine loopL F58 (fun i:Nat=>[(1,.ptr b1 0),(35,.slice .no (rws eSg e.sgs)),(36,.int .i64 e.sgs.length),(37,.int .i64 i)]) (fun _=>({}:St).set b1 (eEn e)) (fun i=>i≤e.sgs.length∧(e.sgs.take i).all (sigMayB e.cs.length)=true) (fun i=>e.sgs.length-i) 0
  ⟨Nat.zero_le _,rfl⟩ ?_ (St.le.refl _) ?_
 ·simp -implicitDefEqProofs only[go_sem,hT,Int.ofNat_zero]
 clear hT T
 rintro i ⟨hi,hok⟩ T hT
 by_cases h2:i<e.sgs.length
 ·have h3:((i:Int)<e.sgs.length)=True:=by simp; omega
  have hR:(rws eSg e.sgs)[i]?.getD []=eSg e.sgs[i]:=rws_at h2
  have htake:e.sgs.take (i+1)=e.sgs.take i++[e.sgs[i]]:=List.take_succ_eq_append_getElem h2
  have hwf:=hw3 e.sgs[i] (by simp)
  have hin:e.sgs[i]∈e.sgs:=by simp
  generalize e.sgs[i]=s at *
  have bad:sigMayB e.cs.length s=false→DLe (.bool false) (.bool (e.sgs.all (sigMayB e.cs.length))):=fun h=>zf1 (by
   cases hh:e.sgs.all (sigMayB e.cs.length) with
   |false=>rfl
   |true=>rw[List.all_eq_true.1 hh s hin] at h; cases h)
  simp -implicitDefEqProofs only[go_sem,hT,h3,hR,eSg]
  refine⟨by omega,fun b7 n1 n2=> ?_⟩
  by_cases h8:(8:Int)<s.ps.length
  ·simp -implicitDefEqProofs only[go_sem,hT,h3,eSg,n1,n2,za2,h8]
   exact bad (by rw[sigMayB,decide_eq_false (by omega)]; rfl)
  have hb2:((({}:St).set b1 (eEn e)).set b7 (eSg s)).box b1=some (eEn e):=by simp[St.set_box,n2]
  by_cases h0:(s.r.val:Int)=0
  ·simp -implicitDefEqProofs only[go_sem,hT,h3,eSg,eEn,n1,n2,za2,h8,h0]
   refine loopL F58 (fun j:Nat=>[(1,.ptr b1 0),(35,.slice .no (rws eSg e.sgs)),(36,.int .i64 e.sgs.length),(37,.int .i64 i),(59,.slice .no (rws eT s.ps)),(60,.int .i64 s.ps.length),(61,.int .i64 j)]) (fun _=>({}:St).set b1 (eEn e)) (fun j=>j≤s.ps.length∧(s.ps.take j).any (fun t=> !storedN e.cs.length t)=false) (fun j=>s.ps.length-j) 0
    ⟨Nat.zero_le _,rfl⟩ ?_ (le_add (by simp[has_set,has_nil]; omega)) ?_
   ·simp -implicitDefEqProofs only[go_sem,hT,Int.ofNat_zero]
   clear hT T
   rintro j ⟨hj,hjo⟩ T hT
   by_cases j2:j<s.ps.length
   ·have j3:((j:Int)<s.ps.length)=True:=by simp; omega
    have hRt:(rws eT s.ps)[j]?.getD []=eT s.ps[j]:=rws_at j2
    have htk:s.ps.take (j+1)=s.ps.take j++[s.ps[j]]:=List.take_succ_eq_append_getElem j2
    have htin:s.ps[j]∈s.ps:=by simp
    generalize s.ps[j]=t at *
    simp -implicitDefEqProofs only[go_sem,hT,j3,hRt,eT,eT_len,eEn]
    refine⟨by omega, ?_⟩
    refine za3 (refStored112 e.cs .no t) ?_
    cases hst:storedN e.cs.length t
    ·simp -implicitDefEqProofs only[go_sem,hT]
     exact bad (by rw[sigMayB,List.any_eq_true.2 ⟨t,htin,by simp[hst]⟩]; simp)
    ·simp -implicitDefEqProofs only[go_sem,hT]
     refine⟨j+1,⟨by omega,by rw[htk,List.any_append,hjo]; simp[hst]⟩,by omega, ?_,St.le.refl _⟩
     rw[zc1 (by omega) (by omega)]; simp
   ·have j3:((j:Int)<s.ps.length)=False:=by simp; omega
    rw[List.take_of_length_le (by omega)] at hjo
    simp -implicitDefEqProofs only[go_sem,hT,j3]
    refine⟨i+1,⟨by omega,by rw[htake,List.all_append,hok]; simp[sigMay_all (show s.ps.length≤8 by omega) (.inl (by omega)) hjo]⟩,by omega, ?_,St.le.refl _⟩
    rw[zc1 (by omega) (by omega)]; simp
  ·simp -implicitDefEqProofs only[go_sem,hT,h3,eSg,eEn,n1,n2,za2,h8,h0]
   refine za3 (refStored112 e.cs .no s.r) ?_
   cases hsr:storedN e.cs.length s.r
   ·simp -implicitDefEqProofs only[go_sem,hT,eSg,eEn,n1,n2]
    exact bad (by rw[sigMayB,hsr,decide_eq_false (show ¬s.r.val=0 by omega)]; simp)
   simp -implicitDefEqProofs only[go_sem,hT,eSg,eEn,n1,n2]
   refine loopL F58 (fun j:Nat=>[(1,.ptr b1 0),(35,.slice .no (rws eSg e.sgs)),(36,.int .i64 e.sgs.length),(37,.int .i64 i),(59,.slice .no (rws eT s.ps)),(60,.int .i64 s.ps.length),(61,.int .i64 j)]) (fun _=>({}:St).set b1 (eEn e)) (fun j=>j≤s.ps.length∧(s.ps.take j).any (fun t=> !storedN e.cs.length t)=false) (fun j=>s.ps.length-j) 0
    ⟨Nat.zero_le _,rfl⟩ ?_ (le_add (by simp[has_set,has_nil]; omega)) ?_
   ·simp -implicitDefEqProofs only[go_sem,hT,Int.ofNat_zero]
   clear hT T
   rintro j ⟨hj,hjo⟩ T hT
   by_cases j2:j<s.ps.length
   ·have j3:((j:Int)<s.ps.length)=True:=by simp; omega
    have hRt:(rws eT s.ps)[j]?.getD []=eT s.ps[j]:=rws_at j2
    have htk:s.ps.take (j+1)=s.ps.take j++[s.ps[j]]:=List.take_succ_eq_append_getElem j2
    have htin:s.ps[j]∈s.ps:=by simp
    generalize s.ps[j]=t at *
    simp -implicitDefEqProofs only[go_sem,hT,j3,hRt,eT,eT_len,eEn]
    refine⟨by omega, ?_⟩
    refine za3 (refStored112 e.cs .no t) ?_
    cases hst:storedN e.cs.length t
    ·simp -implicitDefEqProofs only[go_sem,hT]
     exact bad (by rw[sigMayB,List.any_eq_true.2 ⟨t,htin,by simp[hst]⟩]; simp)
    ·simp -implicitDefEqProofs only[go_sem,hT]
     refine⟨j+1,⟨by omega,by rw[htk,List.any_append,hjo]; simp[hst]⟩,by omega, ?_,St.le.refl _⟩
     rw[zc1 (by omega) (by omega)]; simp
   ·have j3:((j:Int)<s.ps.length)=False:=by simp; omega
    rw[List.take_of_length_le (by omega)] at hjo
    simp -implicitDefEqProofs only[go_sem,hT,j3]
    refine⟨i+1,⟨by omega,by rw[htake,List.all_append,hok]; simp[sigMay_all (show s.ps.length≤8 by omega) (.inr hsr) hjo]⟩,by omega, ?_,St.le.refl _⟩
    rw[zc1 (by omega) (by omega)]; simp
 ·have h3:((i:Int)<e.sgs.length)=False:=by simp; omega
  rw[List.take_of_length_le (by omega)] at hok
  simp -implicitDefEqProofs only[go_sem,hT,h3]
  exact zf1 hok.symm
end Go.AL
