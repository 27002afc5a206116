import Derived.Test.YtjffaachihpjbaaGreatFi
set_option linter.unusedSimpArgs false
set_option linter.unusedVariables false
set_option maxRecDepth 100000
set_option maxHeartbeats 4000000
set_option linter.defProp false
set_option maxHeartbeats 2000000
namespace Go.AL
open Go.Proofs
inductive Tl where
 |no|fixed (ws:List Wn) (g:Gv)|call|ret|classed (ws:List Wn) (c:Bool)|field (put:Bool)
def eTl:Tl→D
 | .no=> .nilfunc
 | .fixed ws g=> .func (.func 182) [] [.eptr [.slice .no (rws eW ws)],.eptr [eG g]]
 | .call=> .func (.func 171) [] []
 | .ret=> .func (.func 172) [] [.eptr [eG (.const [])]]
 | .classed ws c=> .func (.func 183) [] [.eptr [.bool c],.eptr [.slice .no (rws eW ws)]]
 | .field put=> .func (.func 185) [] [.eptr [.bool put]]
def wi:Wn:=⟨4,1⟩
def wb:Wn:=⟨4,2⟩
def wr:Wn:=⟨4,4⟩
def tblL:List Tl:=[
 .fixed [] (.const []),.fixed [] (.const [1]),.fixed [] (.const [2]),.fixed [] (.const [3]),.fixed [] (.const [0]),.fixed [⟨1,0⟩] (.const []),.fixed [⟨0,0⟩] (.const []),.fixed [⟨0,0⟩] .dup,.fixed [⟨0,0⟩,⟨0,0⟩] .swap,
 .fixed [wi,wi] (.const [1]),.fixed [wi,wi] (.const [1]),.fixed [wi,wi] (.const [1]),.fixed [wi,wi] (.const [1]),.fixed [wi,wi] (.const [1]),.fixed [wi] (.const [1]),.fixed [wi,wi] (.const [2]),.fixed [⟨3,0⟩,⟨3,0⟩] (.const [2]),
 .fixed [wb] (.const [2]),.fixed [⟨2,0⟩,⟨2,0⟩] (.const [2]),.fixed [] (.const []),.fixed [wb] (.const []),.call,.ret,.classed [] true,.field false,.field true,
 .fixed [wi] (.const [4]),.fixed [wr] (.const [1]),.fixed [wr,wi] (.const [1]),.fixed [wr,wi,wi] (.const []),.classed [⟨2,0⟩] true,.classed [⟨2,0⟩] false,.fixed [] (.const []),.fixed [wi] (.const [])]
theorem of1:PCall Tryz.prog 166 [.int .u8 1] (.agg [.int .i64 4,.int .u8 1]):=of153 1
theorem of2:PCall Tryz.prog 166 [.int .u8 2] (.agg [.int .i64 4,.int .u8 2]):=of153 2
theorem of4:PCall Tryz.prog 166 [.int .u8 4] (.agg [.int .i64 4,.int .u8 4]):=of153 4
def gE (l:List Int):D:= .func (.func 181) [] [.eptr [.slice .exact (l.map fun n=>[.int .u8 n])]]
def gN:D:= .func (.func 181) [] [.eptr [.slice .nil []]]
def fx (x g:D):D:= .func (.func 182) [] [.eptr [x],.eptr [g]]
def wE (l:List (Int×Int)):D:= .slice .exact (l.map fun p=>[.int .i64 p.1,.int .u8 p.2])
def wN:D:= .slice .nil []
def putAt (l:List D) (ks:List Nat) (v:D):List D:=ks.foldl (fun l k=>l.set k v) l
def tab0:List D:=List.replicate 34 .nilfunc
def tab8:List D:=[fx wN gN,fx wN (gE [1]),fx wN (gE [2]),fx wN (gE [3]),fx wN (gE [0]),fx (wE [(1,0)]) gN,fx (wE [(0,0)]) gN,fx (wE [(0,0)]) (.func (.func 169) [] []),fx (wE [(0,0),(0,0)]) (.func (.func 170) [] []),
 .nilfunc,.nilfunc,.nilfunc,.nilfunc,.nilfunc,.nilfunc,.nilfunc,.nilfunc,.nilfunc,.nilfunc,fx wN gN,.nilfunc,.nilfunc,.nilfunc,.nilfunc,.nilfunc,.nilfunc,.nilfunc,.nilfunc,.nilfunc,.nilfunc,.nilfunc,.nilfunc,fx wN gN,.nilfunc]
def stT (b0 b1 b2 b3 b5 b6:Nat) (tab:List D):St:=(((((({}:St).set b0 tab0).set b1 [.int .i64 4,.int .u8 1]).set b2 [.int .i64 4,.int .u8 2]).set b3 [.int .i64 4,.int .u8 4]).set b5 [gN]).set b6 tab
def bXdaJ0:=aI @za4 @Int.ofNat_zero
theorem table126:PCall Tryz.prog 150 [] (.agg (tblL.map eTl)):=by
 refine RCall.freeze (F150.rcall rfl fun T hT=> ?_)
 simp -implicitDefEqProofs only[go_sem,c150,hT]
 intro b0
 refine za3 of1 ?_
 simp -implicitDefEqProofs only[go_sem,hT]
 refine za3 of2 ?_
 simp -implicitDefEqProofs only[go_sem,hT]
 refine za3 of4 ?_
 simp -implicitDefEqProofs only[go_sem,hT]
 intro b1 _ _ b2 _ _ _ _ b3 _ _ _ _ _ _
 simp -implicitDefEqProofs only[go_sem, *,za4,frz]
 refine za3 (giving154 _ rfl) ?_
 simp -implicitDefEqProofs only[go_sem, *,za4]
 intro b5 _ _ _ _ _ _ _ _ _ _ _ _ _ _ b6 _ _ _ _ _ _ _ _ _ _ _ _ _ _ _ _
 refine loopL F150 (fun x:Nat=>[(0,.ptr b0 0),(1,.ptr b1 0),(2,.ptr b2 0),(3,.ptr b3 0),(4,wE [(4,1),(4,1)]),(5,.ptr b5 0),(6,.ptr b6 0),(18,.slice .exact ([0,19,32].map fun n=>[.int .u8 n])),(19,.int .i64 3),(20,.int .i64 x)])
  (fun x=>stT b0 b1 b2 b3 b5 b6 (putAt tab0 ([0,19,32].take x) (fx wN gN))) (fun x=>x≤3) (fun x=>3-x) 0 (Nat.zero_le _) ?_ ?_ ?_
 ·simp -implicitDefEqProofs only[go_sem, *,wE,Int.ofNat_zero]
  first|exact⟨rfl,rfl⟩|rfl
 ·refine⟨fun y l h=> ?_,fun y p h=>h,fun y o h=>h⟩
  simp only[stT,St.set] at h ⊢
  repeat' split at h
  all_goals simp_all[putAt,tab0,List.replicate,gN]
 clear hT T
 intro x hx T hT
 have hx':x=0∨x=1∨x=2∨x=3:=by omega
 rcases hx' with rfl|rfl|rfl|rfl
 ·simp -implicitDefEqProofs only[go_sem, *,stT,tab0,tab8,putAt,gN,gE,fx,wE,wN,List.foldl_cons,List.foldl_nil,List.set_cons_zero,List.set_cons_succ,frz,Int.ofNat_one,Int.cast_ofNat_Int,Int.reduceToNat,bXdaJ0]
  refine za3 (fixed155 _ _ rfl rfl) ?_
  simp -implicitDefEqProofs only[go_sem, *,stT,tab0,tab8,putAt,gN,gE,fx,wE,wN,List.foldl_cons,List.foldl_nil,List.set_cons_zero,List.set_cons_succ,za4,frz]
  exact⟨by omega,1,by omega,by omega,by rw[zb7 (by omega) (by omega)]; rfl,St.le.refl _⟩
 ·simp -implicitDefEqProofs only[go_sem, *,stT,tab0,tab8,putAt,gN,gE,fx,wE,wN,List.foldl_cons,List.foldl_nil,List.set_cons_zero,List.set_cons_succ,frz,Int.ofNat_one,Int.cast_ofNat_Int,Int.reduceToNat,bXdaJ0]
  refine za3 (fixed155 _ _ rfl rfl) ?_
  simp -implicitDefEqProofs only[go_sem, *,stT,tab0,tab8,putAt,gN,gE,fx,wE,wN,List.foldl_cons,List.foldl_nil,List.set_cons_zero,List.set_cons_succ,za4,frz]
  exact⟨by omega,2,by omega,by omega,by rw[zb7 (by omega) (by omega)]; rfl,St.le.refl _⟩
 ·simp -implicitDefEqProofs only[go_sem, *,stT,tab0,tab8,putAt,gN,gE,fx,wE,wN,List.foldl_cons,List.foldl_nil,List.set_cons_zero,List.set_cons_succ,frz,Int.ofNat_one,Int.cast_ofNat_Int,Int.reduceToNat,bXdaJ0]
  refine za3 (fixed155 _ _ rfl rfl) ?_
  simp -implicitDefEqProofs only[go_sem, *,stT,tab0,tab8,putAt,gN,gE,fx,wE,wN,List.foldl_cons,List.foldl_nil,List.set_cons_zero,List.set_cons_succ,za4,frz]
  exact⟨by omega,3,by omega,by omega,by rw[zb7 (by omega) (by omega)]; rfl,St.le.refl _⟩
 simp -implicitDefEqProofs only[go_sem, *,stT,tab0,tab8,putAt,gN,gE,fx,wE,wN,List.foldl_cons,List.foldl_nil,List.set_cons_zero,List.set_cons_succ,za4,frz]
 refine za3 (giving154 _ rfl) ?_
 simp -implicitDefEqProofs only[go_sem, *,za4,frz]
 refine za3 (fixed155 _ _ rfl rfl) ?_
 simp -implicitDefEqProofs only[go_sem, *,za4,frz]
 refine⟨by omega, ?_⟩
 refine za3 (giving154 _ rfl) ?_
 simp -implicitDefEqProofs only[go_sem, *,za4,frz]
 refine za3 (fixed155 _ _ rfl rfl) ?_
 simp -implicitDefEqProofs only[go_sem, *,za4,frz]
 refine⟨by omega, ?_⟩
 refine za3 (giving154 _ rfl) ?_
 simp -implicitDefEqProofs only[go_sem, *,za4,frz]
 refine za3 (fixed155 _ _ rfl rfl) ?_
 simp -implicitDefEqProofs only[go_sem, *,za4,frz]
 refine⟨by omega, ?_⟩
 refine za3 (giving154 _ rfl) ?_
 simp -implicitDefEqProofs only[go_sem, *,za4,frz]
 refine za3 (fixed155 _ _ rfl rfl) ?_
 simp -implicitDefEqProofs only[go_sem, *,za4,frz]
 refine⟨by omega, ?_⟩
 refine za3 (fixed155 _ _ rfl rfl) ?_
 simp -implicitDefEqProofs only[go_sem, *,za4,frz]
 refine⟨by omega, ?_⟩
 refine za3 (fixed155 _ _ rfl rfl) ?_
 simp -implicitDefEqProofs only[go_sem, *,za4,frz]
 refine⟨by omega, ?_⟩
 refine za3 (fixed155 _ _ rfl rfl) ?_
 simp -implicitDefEqProofs only[go_sem, *,za4,frz]
 refine⟨by omega, ?_⟩
 refine za3 (fixed155 _ _ rfl rfl) ?_
 simp -implicitDefEqProofs only[go_sem, *,za4,frz]
 refine⟨by omega, ?_⟩
 refine loopL F150 (fun x:Nat=>[(0,.ptr b0 0),(1,.ptr b1 0),(2,.ptr b2 0),(3,.ptr b3 0),(4,wE [(4,1),(4,1)]),(5,.ptr b5 0),(6,.ptr b6 0),(64,.slice .exact ([9,10,11,12,13].map fun n=>[.int .u8 n])),(65,.int .i64 5),(66,.int .i64 x)])
  (fun x=>stT b0 b1 b2 b3 b5 b6 (putAt tab8 ([9,10,11,12,13].take x) (fx (wE [(4,1),(4,1)]) (gE [1])))) (fun x=>x≤5) (fun x=>5-x) 0 (Nat.zero_le _) ?_ ?_ ?_
 ·simp -implicitDefEqProofs only[go_sem, *,wE,Int.ofNat_zero]
  first|exact⟨rfl,rfl⟩|rfl
 ·exact St.le.refl _
 clear hT T
 intro x hx T hT
 have hx':x=0∨x=1∨x=2∨x=3∨x=4∨x=5:=by omega
 rcases hx' with rfl|rfl|rfl|rfl|rfl|rfl
 ·simp -implicitDefEqProofs only[go_sem, *,stT,tab0,tab8,putAt,gN,gE,fx,wE,wN,List.foldl_cons,List.foldl_nil,List.set_cons_zero,List.set_cons_succ,frz,Int.ofNat_one,Int.cast_ofNat_Int,Int.reduceToNat,bXdaJ0]
  refine za3 (giving154 _ rfl) ?_
  simp -implicitDefEqProofs only[go_sem, *,stT,tab0,tab8,putAt,gN,gE,fx,wE,wN,List.foldl_cons,List.foldl_nil,List.set_cons_zero,List.set_cons_succ,za4,frz]
  refine za3 (fixed155 _ _ rfl rfl) ?_
  simp -implicitDefEqProofs only[go_sem, *,stT,tab0,tab8,putAt,gN,gE,fx,wE,wN,List.foldl_cons,List.foldl_nil,List.set_cons_zero,List.set_cons_succ,za4,frz]
  exact⟨by omega,1,by omega,by omega,by rw[zb7 (by omega) (by omega)]; rfl,St.le.refl _⟩
 ·simp -implicitDefEqProofs only[go_sem, *,stT,tab0,tab8,putAt,gN,gE,fx,wE,wN,List.foldl_cons,List.foldl_nil,List.set_cons_zero,List.set_cons_succ,frz,Int.ofNat_one,Int.cast_ofNat_Int,Int.reduceToNat,bXdaJ0]
  refine za3 (giving154 _ rfl) ?_
  simp -implicitDefEqProofs only[go_sem, *,stT,tab0,tab8,putAt,gN,gE,fx,wE,wN,List.foldl_cons,List.foldl_nil,List.set_cons_zero,List.set_cons_succ,za4,frz]
  refine za3 (fixed155 _ _ rfl rfl) ?_
  simp -implicitDefEqProofs only[go_sem, *,stT,tab0,tab8,putAt,gN,gE,fx,wE,wN,List.foldl_cons,List.foldl_nil,List.set_cons_zero,List.set_cons_succ,za4,frz]
  exact⟨by omega,2,by omega,by omega,by rw[zb7 (by omega) (by omega)]; rfl,St.le.refl _⟩
 ·simp -implicitDefEqProofs only[go_sem, *,stT,tab0,tab8,putAt,gN,gE,fx,wE,wN,List.foldl_cons,List.foldl_nil,List.set_cons_zero,List.set_cons_succ,frz,Int.ofNat_one,Int.cast_ofNat_Int,Int.reduceToNat,bXdaJ0]
  refine za3 (giving154 _ rfl) ?_
  simp -implicitDefEqProofs only[go_sem, *,stT,tab0,tab8,putAt,gN,gE,fx,wE,wN,List.foldl_cons,List.foldl_nil,List.set_cons_zero,List.set_cons_succ,za4,frz]
  refine za3 (fixed155 _ _ rfl rfl) ?_
  simp -implicitDefEqProofs only[go_sem, *,stT,tab0,tab8,putAt,gN,gE,fx,wE,wN,List.foldl_cons,List.foldl_nil,List.set_cons_zero,List.set_cons_succ,za4,frz]
  exact⟨by omega,3,by omega,by omega,by rw[zb7 (by omega) (by omega)]; rfl,St.le.refl _⟩
 ·simp -implicitDefEqProofs only[go_sem, *,stT,tab0,tab8,putAt,gN,gE,fx,wE,wN,List.foldl_cons,List.foldl_nil,List.set_cons_zero,List.set_cons_succ,frz,Int.ofNat_one,Int.cast_ofNat_Int,Int.reduceToNat,bXdaJ0]
  refine za3 (giving154 _ rfl) ?_
  simp -implicitDefEqProofs only[go_sem, *,stT,tab0,tab8,putAt,gN,gE,fx,wE,wN,List.foldl_cons,List.foldl_nil,List.set_cons_zero,List.set_cons_succ,za4,frz]
  refine za3 (fixed155 _ _ rfl rfl) ?_
  simp -implicitDefEqProofs only[go_sem, *,stT,tab0,tab8,putAt,gN,gE,fx,wE,wN,List.foldl_cons,List.foldl_nil,List.set_cons_zero,List.set_cons_succ,za4,frz]
  exact⟨by omega,4,by omega,by omega,by rw[zb7 (by omega) (by omega)]; rfl,St.le.refl _⟩
 ·simp -implicitDefEqProofs only[go_sem, *,stT,tab0,tab8,putAt,gN,gE,fx,wE,wN,List.foldl_cons,List.foldl_nil,List.set_cons_zero,List.set_cons_succ,frz,Int.ofNat_one,Int.cast_ofNat_Int,Int.reduceToNat,bXdaJ0]
  refine za3 (giving154 _ rfl) ?_
  simp -implicitDefEqProofs only[go_sem, *,stT,tab0,tab8,putAt,gN,gE,fx,wE,wN,List.foldl_cons,List.foldl_nil,List.set_cons_zero,List.set_cons_succ,za4,frz]
  refine za3 (fixed155 _ _ rfl rfl) ?_
  simp -implicitDefEqProofs only[go_sem, *,stT,tab0,tab8,putAt,gN,gE,fx,wE,wN,List.foldl_cons,List.foldl_nil,List.set_cons_zero,List.set_cons_succ,za4,frz]
  exact⟨by omega,5,by omega,by omega,by rw[zb7 (by omega) (by omega)]; rfl,St.le.refl _⟩
 simp -implicitDefEqProofs only[go_sem, *,stT,tab0,tab8,putAt,gN,gE,fx,wE,wN,List.foldl_cons,List.foldl_nil,List.set_cons_zero,List.set_cons_succ,frz,Int.ofNat_one,Int.cast_ofNat_Int,bXdaJ0]
 refine⟨by rintro b rfl; simp[*],za3 (giving154 _ rfl) ?_⟩
 simp -implicitDefEqProofs only[go_sem, *,za4,frz]
 refine za3 (fixed155 _ _ rfl rfl) ?_
 simp -implicitDefEqProofs only[go_sem, *,za4,frz]
 refine⟨by omega,za3 (giving154 _ rfl) ?_⟩
 simp -implicitDefEqProofs only[go_sem, *,za4,frz]
 refine za3 (fixed155 _ _ rfl rfl) ?_
 simp -implicitDefEqProofs only[go_sem, *,za4,frz]
 refine⟨by omega,za3 (giving154 _ rfl) ?_⟩
 simp -implicitDefEqProofs only[go_sem, *,za4,frz]
 refine za3 (fixed155 _ _ rfl rfl) ?_
 simp -implicitDefEqProofs only[go_sem, *,za4,frz]
 refine⟨by omega,by rintro b rfl; simp[*],za3 (giving154 _ rfl) ?_⟩
 simp -implicitDefEqProofs only[go_sem, *,za4,frz]
 refine za3 (fixed155 _ _ rfl rfl) ?_
 simp -implicitDefEqProofs only[go_sem, *,za4,frz]
 refine⟨by omega,za3 (giving154 _ rfl) ?_⟩
 simp -implicitDefEqProofs only[go_sem, *,za4,frz]
 refine za3 (fixed155 _ _ rfl rfl) ?_
 simp -implicitDefEqProofs only[go_sem, *,za4,frz]
 refine⟨by omega,za3 (fixed155 _ _ rfl rfl) ?_⟩
 simp -implicitDefEqProofs only[go_sem, *,za4,frz]
 refine⟨by omega,by omega,by omega,za3 (classed161 _ rfl _) ?_⟩
 simp -implicitDefEqProofs only[go_sem, *,za4,frz]
 refine⟨by omega,za3 (field162 _) ?_⟩
 simp -implicitDefEqProofs only[go_sem, *,za4,frz]
 refine⟨by omega,za3 (field162 _) ?_⟩
 simp -implicitDefEqProofs only[go_sem, *,za4,frz]
 refine⟨by omega,by rintro b rfl; simp[*],za3 (giving154 _ rfl) ?_⟩
 simp -implicitDefEqProofs only[go_sem, *,za4,frz]
 refine za3 (fixed155 _ _ rfl rfl) ?_
 simp -implicitDefEqProofs only[go_sem, *,za4,frz]
 refine⟨by omega,by rintro b rfl; simp[*],za3 (giving154 _ rfl) ?_⟩
 simp -implicitDefEqProofs only[go_sem, *,za4,frz]
 refine za3 (fixed155 _ _ rfl rfl) ?_
 simp -implicitDefEqProofs only[go_sem, *,za4,frz]
 refine⟨by omega,by intro b hb; rcases hb with rfl|rfl <;> simp[*],za3 (giving154 _ rfl) ?_⟩
 simp -implicitDefEqProofs only[go_sem, *,za4,frz]
 refine za3 (fixed155 _ _ rfl rfl) ?_
 simp -implicitDefEqProofs only[go_sem, *,za4,frz]
 refine⟨by omega,za3 (fixed155 _ _ rfl rfl) ?_⟩
 simp -implicitDefEqProofs only[go_sem, *,za4,frz]
 refine⟨by omega,za3 (classed161 _ rfl _) ?_⟩
 simp -implicitDefEqProofs only[go_sem, *,za4,frz]
 refine⟨by omega,za3 (classed161 _ rfl _) ?_⟩
 simp -implicitDefEqProofs only[go_sem, *,za4,frz]
 refine⟨by omega,za3 (fixed155 _ _ rfl rfl) ?_⟩
 simp -implicitDefEqProofs only[go_sem, *,za4,frz]
 refine⟨by omega,_,_,DLe.refl _,St.le.refl _,FLe.agg ?_⟩
 simp only[tblL,List.map_cons,List.map_nil,eTl,eG,rws,wi,wb,wr,eW,eT]
 repeat' first
  |exact FLes.nil
  |refine FLes.cons ?_ ?_
  |exact FLe.of (DLe.refl _)
  |exact FLe.of (DLe.func .nil (.cons (DLe.eptr (.cons (DLe.slice _ _) .nil)) (.cons (DLe.eptr (.cons (DLe.func .nil (.cons (DLe.eptr (.cons (DLe.slice _ _) .nil)) .nil)) .nil)) .nil)))
  |exact FLe.of (DLe.func .nil (.cons (DLe.eptr (.cons (DLe.slice _ _) .nil)) (.cons (.refl _) .nil)))
  |exact FLe.of (DLe.func .nil (.cons (.refl _) (.cons (DLe.eptr (.cons (DLe.slice _ _) .nil)) .nil)))
 refine FLe.func .nil (.cons (FLe.box (cs:=[.func (.func 181) [] [.eptr [.slice .nil []]]]) ?_ (.cons (FLe.of (DLe.func .nil (.cons (DLe.eptr (.cons (DLe.slice _ _) .nil)) .nil))) .nil)) .nil)
 simp[St.set_box, *]
open Go.Proofs
def canB (e:En):Bool:=decide ((checkL isWordB e.cs).2=0∧e.sgs.length≤64∧0≤e.fn∧e.fn<e.sgs.length)&&e.sgs.all (sigMayB e.cs.length)
theorem odd122 (e:En) (t:Ty) (b:Nat) (σ:St) (hb:σ.box b=some (eEn e)):
  RCall Tryz.prog 147 [.int .u8 t.val,.ptr b 0] σ fun d s'=>d= .bool (storedN e.cs.length t)∧s'=σ:=by
 refine F147.rcall rfl fun T hT=> ?_
 simp -implicitDefEqProofs only[go_sem,c147,hT,hb,eEn]
 refine za3 (valid105 e.cs .no t) ?_
 simp -implicitDefEqProofs only[go_sem,mmB,hT]
 refine⟨_,σ,DLe.refl _,St.le.refl _, ?_,rfl⟩
 rw[D.bool.injEq,Bool.eq_iff_iff]
 simp only[storedN,Bool.and_eq_true,Bool.not_eq_true',decide_eq_false_iff_not,decide_eq_true_eq]
 constructor
 ·rintro⟨⟨h1,h2⟩,h3⟩; exact⟨h1,by omega,by omega⟩
 ·rintro⟨h1,h2,h3⟩; exact⟨⟨h1,by omega⟩,by omega⟩
theorem refStored112 (l:List Cl) (o:Own) (t:Ty):PCall Tryz.prog 94 [.slice o (rws eC l),.int .u8 t.val] (.bool (storedN l.length t)):=by
 refine F94.pcall' rfl fun T hT=> ?_
 simp -implicitDefEqProofs only[go_sem,c94,hT]
 refine za3 (refValid87 l o t) ?_
 simp -implicitDefEqProofs only[go_sem,mmB,hT]
 refine zf3 ?_
 rw[Bool.eq_iff_iff]
 simp only[storedN,Bool.and_eq_true,Bool.not_eq_true',decide_eq_false_iff_not,decide_eq_true_eq]
 constructor
 ·rintro⟨⟨h1,h2⟩,h3⟩; exact⟨h1,by omega,by omega⟩
 ·rintro⟨h1,h2,h3⟩; exact⟨⟨h1,by omega⟩,by omega⟩
def wid (op:Nat):Nat×Nat:=if op=1 then(4,0) else if op=19∨op=20 then(2,0) else if op=24∨op=25 then(1,1) else if op=2∨op=4∨op=5∨op=21∨op=23∨op=30∨op=31∨op=32 then(1,0) else(0,0)
def ze8 (op:Nat):Nat:=if 34≤op then 0 else 1+(wid op).1+(wid op).2
theorem wid_at (t:Ty) (k:Nat) (p:Nat×Nat) (h:t.val=k) (hp:wid k=p):wid t.val=p:=by rw[h,hp]
theorem wid_no (t:Ty) (h1:t.val≠1) (h2:t.val≠19) (h3:t.val≠20) (h4:t.val≠24) (h5:t.val≠25) (h6:t.val≠2) (h7:t.val≠4) (h8:t.val≠5) (h9:t.val≠21) (h10:t.val≠23) (h11:t.val≠30) (h12:t.val≠31) (h13:t.val≠32):wid t.val=(0,0):=by
 rw[wid,if_neg h1,if_neg (by omega),if_neg (by omega),if_neg (by omega)]
theorem wid_le (n:Nat):(wid n).1≤4∧(wid n).2≤1:=by
 unfold wid; repeat' split
 all_goals simp
theorem widths152 (t:Ty):PCall Tryz.prog 71 [.int .u8 t.val] (.tup [.int .i64 (wid t.val).1,.int .i64 (wid t.val).2]):=by
 refine F71.pcall' rfl fun T hT=> ?_
 by_cases h1:(t.val:Int)=1
 ·rw[wid_at t 1 (4,0) (by omega) rfl]
  simp -implicitDefEqProofs only[go_sem,c71,hT,h1]
  exact DLe.of_eq rfl
 by_cases h19:(t.val:Int)=19
 ·rw[wid_at t 19 (2,0) (by omega) rfl]
  simp -implicitDefEqProofs only[go_sem,c71,hT,h19]
  exact DLe.of_eq rfl
 by_cases h20:(t.val:Int)=20
 ·rw[wid_at t 20 (2,0) (by omega) rfl]
  simp -implicitDefEqProofs only[go_sem,c71,hT,h20]
  exact DLe.of_eq rfl
 by_cases h24:(t.val:Int)=24
 ·rw[wid_at t 24 (1,1) (by omega) rfl]
  simp -implicitDefEqProofs only[go_sem,c71,hT,h24]
  exact DLe.of_eq rfl
 by_cases h25:(t.val:Int)=25
 ·rw[wid_at t 25 (1,1) (by omega) rfl]
  simp -implicitDefEqProofs only[go_sem,c71,hT,h25]
  exact DLe.of_eq rfl
 by_cases h2:(t.val:Int)=2
 ·rw[wid_at t 2 (1,0) (by omega) rfl]
  simp -implicitDefEqProofs only[go_sem,c71,hT,h2]
  exact DLe.of_eq rfl
 by_cases h4:(t.val:Int)=4
 ·rw[wid_at t 4 (1,0) (by omega) rfl]
  simp -implicitDefEqProofs only[go_sem,c71,hT,h4]
  exact DLe.of_eq rfl
 by_cases h5:(t.val:Int)=5
 ·rw[wid_at t 5 (1,0) (by omega) rfl]
  simp -implicitDefEqProofs only[go_sem,c71,hT,h5]
  exact DLe.of_eq rfl
 by_cases h21:(t.val:Int)=21
 ·rw[wid_at t 21 (1,0) (by omega) rfl]
  simp -implicitDefEqProofs only[go_sem,c71,hT,h21]
  exact DLe.of_eq rfl
 by_cases h23:(t.val:Int)=23
 ·rw[wid_at t 23 (1,0) (by omega) rfl]
  simp -implicitDefEqProofs only[go_sem,c71,hT,h23]
  exact DLe.of_eq rfl
 by_cases h30:(t.val:Int)=30
 ·rw[wid_at t 30 (1,0) (by omega) rfl]
  simp -implicitDefEqProofs only[go_sem,c71,hT,h30]
  exact DLe.of_eq rfl
 by_cases h31:(t.val:Int)=31
 ·rw[wid_at t 31 (1,0) (by omega) rfl]
  simp -implicitDefEqProofs only[go_sem,c71,hT,h31]
  exact DLe.of_eq rfl
 by_cases h32:(t.val:Int)=32
 ·rw[wid_at t 32 (1,0) (by omega) rfl]
  simp -implicitDefEqProofs only[go_sem,c71,hT,h32]
  exact DLe.of_eq rfl
 rw[wid_no t (by omega) (by omega) (by omega) (by omega) (by omega) (by omega) (by omega) (by omega) (by omega) (by omega) (by omega) (by omega) (by omega)]
 simp -implicitDefEqProofs only[go_sem,c71,hT,h1,h19,h20,h24,h25,h2,h4,h5,h21,h23,h30,h31,h32]
 exact DLe.of_eq rfl
theorem wide113 (t:Ty):PCall Tryz.prog 54 [.int .u8 t.val] (.tup [.int .i64 (wid t.val).1,.int .i64 (wid t.val).2]):=by
 refine F54.pcall' rfl fun T hT=> ?_
 by_cases h1:(t.val:Int)=1
 ·rw[wid_at t 1 (4,0) (by omega) rfl]
  simp -implicitDefEqProofs only[go_sem,c54,hT,h1]
  exact DLe.of_eq rfl
 by_cases h19:(t.val:Int)=19
 ·rw[wid_at t 19 (2,0) (by omega) rfl]
  simp -implicitDefEqProofs only[go_sem,c54,hT,h19]
  exact DLe.of_eq rfl
 by_cases h20:(t.val:Int)=20
 ·rw[wid_at t 20 (2,0) (by omega) rfl]
  simp -implicitDefEqProofs only[go_sem,c54,hT,h20]
  exact DLe.of_eq rfl
 by_cases h24:(t.val:Int)=24
 ·rw[wid_at t 24 (1,1) (by omega) rfl]
  simp -implicitDefEqProofs only[go_sem,c54,hT,h24]
  exact DLe.of_eq rfl
 by_cases h25:(t.val:Int)=25
 ·rw[wid_at t 25 (1,1) (by omega) rfl]
  simp -implicitDefEqProofs only[go_sem,c54,hT,h25]
  exact DLe.of_eq rfl
 by_cases h2:(t.val:Int)=2
 ·rw[wid_at t 2 (1,0) (by omega) rfl]
  simp -implicitDefEqProofs only[go_sem,c54,hT,h2]
  exact DLe.of_eq rfl
 by_cases h4:(t.val:Int)=4
 ·rw[wid_at t 4 (1,0) (by omega) rfl]
  simp -implicitDefEqProofs only[go_sem,c54,hT,h4]
  exact DLe.of_eq rfl
 by_cases h5:(t.val:Int)=5
 ·rw[wid_at t 5 (1,0) (by omega) rfl]
  simp -implicitDefEqProofs only[go_sem,c54,hT,h5]
  exact DLe.of_eq rfl
 by_cases h21:(t.val:Int)=21
 ·rw[wid_at t 21 (1,0) (by omega) rfl]
  simp -implicitDefEqProofs only[go_sem,c54,hT,h21]
  exact DLe.of_eq rfl
 by_cases h23:(t.val:Int)=23
 ·rw[wid_at t 23 (1,0) (by omega) rfl]
  simp -implicitDefEqProofs only[go_sem,c54,hT,h23]
  exact DLe.of_eq rfl
 by_cases h30:(t.val:Int)=30
 ·rw[wid_at t 30 (1,0) (by omega) rfl]
  simp -implicitDefEqProofs only[go_sem,c54,hT,h30]
  exact DLe.of_eq rfl
 by_cases h31:(t.val:Int)=31
 ·rw[wid_at t 31 (1,0) (by omega) rfl]
  simp -implicitDefEqProofs only[go_sem,c54,hT,h31]
  exact DLe.of_eq rfl
 by_cases h32:(t.val:Int)=32
 ·rw[wid_at t 32 (1,0) (by omega) rfl]
  simp -implicitDefEqProofs only[go_sem,c54,hT,h32]
  exact DLe.of_eq rfl
 rw[wid_no t (by omega) (by omega) (by omega) (by omega) (by omega) (by omega) (by omega) (by omega) (by omega) (by omega) (by omega) (by omega) (by omega)]
 simp -implicitDefEqProofs only[go_sem,c54,hT,h1,h19,h20,h24,h25,h2,h4,h5,h21,h23,h30,h31,h32]
 exact DLe.of_eq rfl
theorem size125 (t:Ty):PCall Tryz.prog 46 [.int .u8 t.val] (.int .i64 (ze8 t.val)):=by
 refine F46.pcall' rfl fun T hT=> ?_
 have hw:=wid_le t.val
 by_cases h:(34:Int)≤t.val
 ·simp -implicitDefEqProofs only[go_sem,c46,hT,h]
  exact DLe.of_eq (by rw[ze8,if_pos (by omega)]; rfl)
 ·simp -implicitDefEqProofs only[go_sem,c46,hT,h]
  refine za3 (widths152 t) ?_
  simp -implicitDefEqProofs only[go_sem,hT]
  refine DLe.of_eq ?_
  rw[ze8,if_neg (by omega),zb7 (n:=1+((wid t.val).1:Int)) (by omega) (by omega),zb7 (by omega) (by omega)]
  simp
theorem refSize74 (t:Ty):PCall Tryz.prog 25 [.int .u8 t.val] (.int .i64 (ze8 t.val)):=by
 refine F25.pcall' rfl fun T hT=> ?_
 have hw:=wid_le t.val
 by_cases h:(34:Int)≤t.val
 ·simp -implicitDefEqProofs only[go_sem,c25,hT,h]
  exact DLe.of_eq (by rw[ze8,if_pos (by omega)]; rfl)
 ·simp -implicitDefEqProofs only[go_sem,c25,hT,h]
  refine za3 (wide113 t) ?_
  simp -implicitDefEqProofs only[go_sem,hT]
  refine DLe.of_eq ?_
  rw[ze8,if_neg (by omega),zb7 (n:=1+((wid t.val).1:Int)) (by omega) (by omega),zb7 (by omega) (by omega)]
  simp
open Go.Proofs
theorem sigMay_all {c:Nat} {s:Sg} (h8:s.ps.length≤8) (hr:s.r.val=0∨storedN c s.r=true) (hp:(s.ps.any fun t=> !storedN c t)=false):sigMayB c s=true:=by
 rw[sigMayB,hp]
 simp only[h8,decide_true,Bool.not_false,Bool.and_self,Bool.true_and,Bool.or_eq_true,decide_eq_true_eq]
 exact hr
theorem environment80 (e:En) (hw:WideE e):PCall Tryz.prog 116 [.agg (eEn e)] (.bool (canB e)):=by
 obtain⟨hw1,hw2,hw3⟩:=hw
 refine F116.pcall' rfl fun T hT=> ?_
 simp -implicitDefEqProofs only[go_sem,c116,hT,eEn]
 intro b1
 refine za3 (check64 e.cs .no hw1) ?_
 by_cases hh:(checkL isWordB e.cs).2=0∧e.sgs.length≤64∧0≤e.fn∧e.fn<e.sgs.length
 case neg=>
  have hcan:canB e=false:=by rw[canB,decide_eq_false hh]; rfl
  have hf:(!decide (((checkL isWordB e.cs).2:Int)=0)||decide ((64:Int)<e.sgs.length)||decide (e.fn<0)||decide ((e.sgs.length:Int)≤e.fn))=true:=by
   simp only[Bool.or_eq_true,Bool.not_eq_true',decide_eq_false_iff_not,decide_eq_true_eq]; omega
  simp -implicitDefEqProofs only[go_sem,mmB,hT,eEn,hf]
  exact zf3 hcan.symm
 have hf:(!decide (((checkL isWordB e.cs).2:Int)=0)||decide ((64:Int)<e.sgs.length)||decide (e.fn<0)||decide ((e.sgs.length:Int)≤e.fn))=false:=by
  rw[←Bool.not_eq_true]
  simp only[Bool.or_eq_true,Bool.not_eq_true',decide_eq_false_iff_not,decide_eq_true_eq]; omega
 have hcan:canB e=e.sgs.all (sigMayB e.cs.length):=by rw[canB,decide_eq_true hh]; rfl
 simp -implicitDefEqProofs only[go_sem,mmB,hT,eEn,hf]
 rw[hcan]
 refine loopL F116 (fun i:Nat=>[(1,.ptr b1 0),(5,.func (.func 147) [] [.ptr b1 0]),(39,.slice .no (rws eSg e.sgs)),(40,.int .i64 e.sgs.length),(41,.int .i64 i)]) (fun _=>({}:St).set b1 (eEn e)) (fun i=>i≤e.sgs.length∧(e.sgs.take i).all (sigMayB e.cs.length)=true) (fun i=>e.sgs.length-i) 0
  ⟨Nat.zero_le _,rfl⟩ ?_ (St.le.refl _) ?_
 ·simp -implicitDefEqProofs only[go_sem,hT,Int.ofNat_zero]
 clear hT T
 rintro i ⟨hi,hok⟩ T hT
 by_cases h2:i<e.sgs.length
 ·have h3:((i:Int)<e.sgs.length)=True:=by simp; omega
  have hR:(rws eSg e.sgs)[i]?.getD []=eSg e.sgs[i]:=rws_at h2
  have htake:e.sgs.take (i+1)=e.sgs.take i++[e.sgs[i]]:=List.take_succ_eq_append_getElem h2
  have hwf:=hw3 e.sgs[i] (by simp)
  have hin:e.sgs[i]∈e.sgs:=by simp
  generalize e.sgs[i]=s at *
  have bad:sigMayB e.cs.length s=false→DLe (.bool false) (.bool (e.sgs.all (sigMayB e.cs.length))):=fun h=>zf3 (by
   cases hh:e.sgs.all (sigMayB e.cs.length) with
   |false=>rfl
   |true=>rw[List.all_eq_true.1 hh s hin] at h; cases h)
  simp -implicitDefEqProofs only[go_sem,hT,h3,hR,eSg_len,eSg]
  refine⟨by omega,fun b7 n1 n2=> ?_⟩
  by_cases h8:(8:Int)<s.ps.length
  ·simp -implicitDefEqProofs only[go_sem,hT,h3,eSg,n1,n2,za4,h8]
   exact bad (by rw[sigMayB,decide_eq_false (by omega)]; rfl)
  have hb2:((({}:St).set b1 (eEn e)).set b7 (eSg s)).box b1=some (eEn e):=by simp[St.set_box,n2]
  by_cases h0:(s.r.val:Int)=0
  ·simp -implicitDefEqProofs only[go_sem,hT,h3,eSg,eEn,n1,n2,za4,h8,h0]
   refine loopL F116 (fun j:Nat=>[(1,.ptr b1 0),(5,.func (.func 147) [] [.ptr b1 0]),(39,.slice .no (rws eSg e.sgs)),(40,.int .i64 e.sgs.length),(41,.int .i64 i),(62,.slice .no (rws eT s.ps)),(63,.int .i64 s.ps.length),(64,.int .i64 j)]) (fun _=>({}:St).set b1 (eEn e)) (fun j=>j≤s.ps.length∧(s.ps.take j).any (fun t=> !storedN e.cs.length t)=false) (fun j=>s.ps.length-j) 0
    ⟨Nat.zero_le _,rfl⟩ ?_ (le_add (by simp[has_set,has_nil]; omega)) ?_
   ·simp -implicitDefEqProofs only[go_sem,hT,Int.ofNat_zero]
   clear hT T
   rintro j ⟨hj,hjo⟩ T hT
   by_cases j2:j<s.ps.length
   ·have j3:((j:Int)<s.ps.length)=True:=by simp; omega
    have hRt:(rws eT s.ps)[j]?.getD []=eT s.ps[j]:=rws_at j2
    have htk:s.ps.take (j+1)=s.ps.take j++[s.ps[j]]:=List.take_succ_eq_append_getElem j2
    have htin:s.ps[j]∈s.ps:=by simp
    generalize s.ps[j]=t at *
    simp -implicitDefEqProofs only[go_sem,hT,j3,hRt,eT,eT_len,eEn]
    refine⟨by omega, ?_⟩
    refine callB_all (odd122 e t b1 _ (by simp[St.set_box,eEn])) ?_
    rintro d s' ⟨rfl,rfl⟩
    cases hst:storedN e.cs.length t
    ·simp -implicitDefEqProofs only[go_sem,hT]
     exact bad (by rw[sigMayB,List.any_eq_true.2 ⟨t,htin,by simp[hst]⟩]; simp)
    ·simp -implicitDefEqProofs only[go_sem,hT]
     refine⟨j+1,⟨by omega,by rw[htk,List.any_append,hjo]; simp[hst]⟩,by omega, ?_,St.le.refl _⟩
     rw[zb7 (by omega) (by omega)]; simp
   ·have j3:((j:Int)<s.ps.length)=False:=by simp; omega
    rw[List.take_of_length_le (by omega)] at hjo
    simp -implicitDefEqProofs only[go_sem,hT,j3]
    refine⟨i+1,⟨by omega,by rw[htake,List.all_append,hok]; simp[sigMay_all (show s.ps.length≤8 by omega) (.inl (by omega)) hjo]⟩,by omega, ?_,St.le.refl _⟩
    rw[zb7 (by omega) (by omega)]; simp
  ·simp -implicitDefEqProofs only[go_sem,hT,h3,eSg,eEn,n1,n2,za4,h8,h0]
   refine callB_all (odd122 e s.r b1 _ hb2) ?_
   rintro d s' ⟨rfl,rfl⟩
   cases hsr:storedN e.cs.length s.r
   ·simp -implicitDefEqProofs only[go_sem,hT,eSg,eEn,n1,n2]
    exact bad (by rw[sigMayB,hsr,decide_eq_false (show ¬s.r.val=0 by omega)]; simp)
   simp -implicitDefEqProofs only[go_sem,hT,eSg,eEn,n1,n2]
   refine loopL F116 (fun j:Nat=>[(1,.ptr b1 0),(5,.func (.func 147) [] [.ptr b1 0]),(39,.slice .no (rws eSg e.sgs)),(40,.int .i64 e.sgs.length),(41,.int .i64 i),(62,.slice .no (rws eT s.ps)),(63,.int .i64 s.ps.length),(64,.int .i64 j)]) (fun _=>({}:St).set b1 (eEn e)) (fun j=>j≤s.ps.length∧(s.ps.take j).any (fun t=> !storedN e.cs.length t)=false) (fun j=>s.ps.length-j) 0
    ⟨Nat.zero_le _,rfl⟩ ?_ (le_add (by simp[has_set,has_nil]; omega)) ?_
   ·simp -implicitDefEqProofs only[go_sem,hT,Int.ofNat_zero]
   clear hT T
   rintro j ⟨hj,hjo⟩ T hT
   by_cases j2:j<s.ps.length
   ·have j3:((j:Int)<s.ps.length)=True:=by simp; omega
    have hRt:(rws eT s.ps)[j]?.getD []=eT s.ps[j]:=rws_at j2
    have htk:s.ps.take (j+1)=s.ps.take j++[s.ps[j]]:=List.take_succ_eq_append_getElem j2
    have htin:s.ps[j]∈s.ps:=by simp
    generalize s.ps[j]=t at *
    simp -implicitDefEqProofs only[go_sem,hT,j3,hRt,eT,eT_len,eEn]
    refine⟨by omega, ?_⟩
    refine callB_all (odd122 e t b1 _ (by simp[St.set_box,eEn])) ?_
    rintro d s' ⟨rfl,rfl⟩
    cases hst:storedN e.cs.length t
    ·simp -implicitDefEqProofs only[go_sem,hT]
     exact bad (by rw[sigMayB,List.any_eq_true.2 ⟨t,htin,by simp[hst]⟩]; simp)
    ·simp -implicitDefEqProofs only[go_sem,hT]
     refine⟨j+1,⟨by omega,by rw[htk,List.any_append,hjo]; simp[hst]⟩,by omega, ?_,St.le.refl _⟩
     rw[zb7 (by omega) (by omega)]; simp
   ·have j3:((j:Int)<s.ps.length)=False:=by simp; omega
    rw[List.take_of_length_le (by omega)] at hjo
    simp -implicitDefEqProofs only[go_sem,hT,j3]
    refine⟨i+1,⟨by omega,by rw[htake,List.all_append,hok]; simp[sigMay_all (show s.ps.length≤8 by omega) (.inr hsr) hjo]⟩,by omega, ?_,St.le.refl _⟩
    rw[zb7 (by omega) (by omega)]; simp
 ·have h3:((i:Int)<e.sgs.length)=False:=by simp; omega
  rw[List.take_of_length_le (by omega)] at hok
  simp -implicitDefEqProofs only[go_sem,hT,h3]
  exact zf3 hok.symm
theorem can73 (e:En) (hw:WideE e):PCall Tryz.prog 65 [.agg (eEn e)] (.bool (canB e)):=by
 obtain⟨hw1,hw2,hw3⟩:=hw
 refine F65.pcall' rfl fun T hT=> ?_
 simp -implicitDefEqProofs only[go_sem,c65,hT,eEn]
 intro b1
 refine za3 (refCheck69 e.cs .no hw1) ?_
 by_cases hz:(checkL isWordB e.cs).2=0
 case neg=>
  have hcan:canB e=false:=by rw[canB,decide_eq_false (by omega)]; rfl
  have hz':((((checkL isWordB e.cs).2:Nat):Int)=0)=False:=by simp; omega
  simp -implicitDefEqProofs only[go_sem,hT,eEn,hz']
  exact zf3 hcan.symm
 have hz':((((checkL isWordB e.cs).2:Nat):Int)=0)=True:=by simp; omega
 by_cases hh:e.sgs.length≤64∧0≤e.fn∧e.fn<e.sgs.length
 case neg=>
  have hcan:canB e=false:=by rw[canB,decide_eq_false (by omega)]; rfl
  have hf:(decide ((64:Int)<e.sgs.length)||decide (e.fn<0)||decide ((e.sgs.length:Int)≤e.fn))=true:=by
   simp only[Bool.or_eq_true,decide_eq_true_eq]; omega
  simp -implicitDefEqProofs only[go_sem,hT,eEn,hz']
  simp -implicitDefEqProofs only[go_sem,mmB,hT,eEn,hf]
  exact zf3 hcan.symm
 have hf:(decide ((64:Int)<e.sgs.length)||decide (e.fn<0)||decide ((e.sgs.length:Int)≤e.fn))=false:=by
  rw[←Bool.not_eq_true]
  simp only[Bool.or_eq_true,decide_eq_true_eq]; omega
 have hcan:canB e=e.sgs.all (sigMayB e.cs.length):=by rw[canB,decide_eq_true (by omega)]; rfl
 simp -implicitDefEqProofs only[go_sem,hT,eEn,hz']
 simp -implicitDefEqProofs only[go_sem,mmB,hT,eEn,hf]
 rw[hcan]
 refine loopL F65 (fun i:Nat=>[(1,.ptr b1 0),(35,.slice .no (rws eSg e.sgs)),(36,.int .i64 e.sgs.length),(37,.int .i64 i)]) (fun _=>({}:St).set b1 (eEn e)) (fun i=>i≤e.sgs.length∧(e.sgs.take i).all (sigMayB e.cs.length)=true) (fun i=>e.sgs.length-i) 0
  ⟨Nat.zero_le _,rfl⟩ ?_ (St.le.refl _) ?_
 ·simp -implicitDefEqProofs only[go_sem,hT,Int.ofNat_zero]
 clear hT T
 rintro i ⟨hi,hok⟩ T hT
 by_cases h2:i<e.sgs.length
 ·have h3:((i:Int)<e.sgs.length)=True:=by simp; omega
  have hR:(rws eSg e.sgs)[i]?.getD []=eSg e.sgs[i]:=rws_at h2
  have htake:e.sgs.take (i+1)=e.sgs.take i++[e.sgs[i]]:=List.take_succ_eq_append_getElem h2
  have hwf:=hw3 e.sgs[i] (by simp)
  have hin:e.sgs[i]∈e.sgs:=by simp
  generalize e.sgs[i]=s at *
  have bad:sigMayB e.cs.length s=false→DLe (.bool false) (.bool (e.sgs.all (sigMayB e.cs.length))):=fun h=>zf3 (by
   cases hh:e.sgs.all (sigMayB e.cs.length) with
   |false=>rfl
   |true=>rw[List.all_eq_true.1 hh s hin] at h; cases h)
  simp -implicitDefEqProofs only[go_sem,hT,h3,hR,eSg_len,eSg]
  refine⟨by omega,fun b7 n1 n2=> ?_⟩
  by_cases h8:(8:Int)<s.ps.length
  ·simp -implicitDefEqProofs only[go_sem,hT,h3,eSg,n1,n2,za4,h8]
   exact bad (by rw[sigMayB,decide_eq_false (by omega)]; rfl)
  have hb2:((({}:St).set b1 (eEn e)).set b7 (eSg s)).box b1=some (eEn e):=by simp[St.set_box,n2]
  by_cases h0:(s.r.val:Int)=0
  ·simp -implicitDefEqProofs only[go_sem,hT,h3,eSg,eEn,n1,n2,za4,h8,h0]
   refine loopL F65 (fun j:Nat=>[(1,.ptr b1 0),(35,.slice .no (rws eSg e.sgs)),(36,.int .i64 e.sgs.length),(37,.int .i64 i),(59,.slice .no (rws eT s.ps)),(60,.int .i64 s.ps.length),(61,.int .i64 j)]) (fun _=>({}:St).set b1 (eEn e)) (fun j=>j≤s.ps.length∧(s.ps.take j).any (fun t=> !storedN e.cs.length t)=false) (fun j=>s.ps.length-j) 0
    ⟨Nat.zero_le _,rfl⟩ ?_ (le_add (by simp[has_set,has_nil]; omega)) ?_
   ·simp -implicitDefEqProofs only[go_sem,hT,Int.ofNat_zero]
   clear hT T
   rintro j ⟨hj,hjo⟩ T hT
   by_cases j2:j<s.ps.length
   ·have j3:((j:Int)<s.ps.length)=True:=by simp; omega
    have hRt:(rws eT s.ps)[j]?.getD []=eT s.ps[j]:=rws_at j2
    have htk:s.ps.take (j+1)=s.ps.take j++[s.ps[j]]:=List.take_succ_eq_append_getElem j2
    have htin:s.ps[j]∈s.ps:=by simp
    generalize s.ps[j]=t at *
    simp -implicitDefEqProofs only[go_sem,hT,j3,hRt,eT,eT_len,eEn]
    refine⟨by omega, ?_⟩
    refine za3 (refStored112 e.cs .no t) ?_
    cases hst:storedN e.cs.length t
    ·simp -implicitDefEqProofs only[go_sem,hT]
     exact bad (by rw[sigMayB,List.any_eq_true.2 ⟨t,htin,by simp[hst]⟩]; simp)
    ·simp -implicitDefEqProofs only[go_sem,hT]
     refine⟨j+1,⟨by omega,by rw[htk,List.any_append,hjo]; simp[hst]⟩,by omega, ?_,St.le.refl _⟩
     rw[zb7 (by omega) (by omega)]; simp
   ·have j3:((j:Int)<s.ps.length)=False:=by simp; omega
    rw[List.take_of_length_le (by omega)] at hjo
    simp -implicitDefEqProofs only[go_sem,hT,j3]
    refine⟨i+1,⟨by omega,by rw[htake,List.all_append,hok]; simp[sigMay_all (show s.ps.length≤8 by omega) (.inl (by omega)) hjo]⟩,by omega, ?_,St.le.refl _⟩
    rw[zb7 (by omega) (by omega)]; simp
  ·simp -implicitDefEqProofs only[go_sem,hT,h3,eSg,eEn,n1,n2,za4,h8,h0]
   refine za3 (refStored112 e.cs .no s.r) ?_
   cases hsr:storedN e.cs.length s.r
   ·simp -implicitDefEqProofs only[go_sem,hT,eSg,eEn,n1,n2]
    exact bad (by rw[sigMayB,hsr,decide_eq_false (show ¬s.r.val=0 by omega)]; simp)
   simp -implicitDefEqProofs only[go_sem,hT,eSg,eEn,n1,n2]
   refine loopL F65 (fun j:Nat=>[(1,.ptr b1 0),(35,.slice .no (rws eSg e.sgs)),(36,.int .i64 e.sgs.length),(37,.int .i64 i),(59,.slice .no (rws eT s.ps)),(60,.int .i64 s.ps.length),(61,.int .i64 j)]) (fun _=>({}:St).set b1 (eEn e)) (fun j=>j≤s.ps.length∧(s.ps.take j).any (fun t=> !storedN e.cs.length t)=false) (fun j=>s.ps.length-j) 0
    ⟨Nat.zero_le _,rfl⟩ ?_ (le_add (by simp[has_set,has_nil]; omega)) ?_
   ·simp -implicitDefEqProofs only[go_sem,hT,Int.ofNat_zero]
   clear hT T
   rintro j ⟨hj,hjo⟩ T hT
   by_cases j2:j<s.ps.length
   ·have j3:((j:Int)<s.ps.length)=True:=by simp; omega
    have hRt:(rws eT s.ps)[j]?.getD []=eT s.ps[j]:=rws_at j2
    have htk:s.ps.take (j+1)=s.ps.take j++[s.ps[j]]:=List.take_succ_eq_append_getElem j2
    have htin:s.ps[j]∈s.ps:=by simp
    generalize s.ps[j]=t at *
    simp -implicitDefEqProofs only[go_sem,hT,j3,hRt,eT,eT_len,eEn]
    refine⟨by omega, ?_⟩
    refine za3 (refStored112 e.cs .no t) ?_
    cases hst:storedN e.cs.length t
    ·simp -implicitDefEqProofs only[go_sem,hT]
     exact bad (by rw[sigMayB,List.any_eq_true.2 ⟨t,htin,by simp[hst]⟩]; simp)
    ·simp -implicitDefEqProofs only[go_sem,hT]
     refine⟨j+1,⟨by omega,by rw[htk,List.any_append,hjo]; simp[hst]⟩,by omega, ?_,St.le.refl _⟩
     rw[zb7 (by omega) (by omega)]; simp
   ·have j3:((j:Int)<s.ps.length)=False:=by simp; omega
    rw[List.take_of_length_le (by omega)] at hjo
    simp -implicitDefEqProofs only[go_sem,hT,j3]
    refine⟨i+1,⟨by omega,by rw[htake,List.all_append,hok]; simp[sigMay_all (show s.ps.length≤8 by omega) (.inr hsr) hjo]⟩,by omega, ?_,St.le.refl _⟩
    rw[zb7 (by omega) (by omega)]; simp
 ·have h3:((i:Int)<e.sgs.length)=False:=by simp; omega
  rw[List.take_of_length_le (by omega)] at hok
  simp -implicitDefEqProofs only[go_sem,hT,h3]
  exact zf3 hok.symm
open Go.Proofs
def tellF (e:En) (i:Ins):Tl→Ef×Nat
 | .no=>(ef0,0)
 | .fixed ws g=>(⟨ws,g⟩,0)
 | .call=>if h:0≤i.a∧i.a.toNat<e.sgs.length then(⟨e.sgs[i.a.toNat].ps.map fun t=>⟨4,t⟩,.const (if e.sgs[i.a.toNat].r.val=0 then [] else [e.sgs[i.a.toNat].r])⟩,0) else(ef0,71)
 | .ret=>if h:e.fn.toNat<e.sgs.length then(⟨if e.sgs[e.fn.toNat].r.val=0 then [] else [⟨4,e.sgs[e.fn.toNat].r⟩],.const []⟩,0) else(ef0,0)
 | .classed ws c=>if i.a<0∨(e.cs.length:Int)≤i.a then(ef0,72) else(⟨ws,.const [if c then ofClass i.a else 2]⟩,0)
 | .field put=>if h:(0≤i.a∧i.a<e.cs.length)∧0≤i.b∧i.b.toNat<(zf8 e.cs (upI e.cs i.a).reverse).length then
   (if put=true then(⟨[⟨4,ofClass i.a⟩,⟨4,((zf8 e.cs (upI e.cs i.a).reverse)[i.b.toNat]'h.2.2).ty⟩],.const []⟩,0)
    else(⟨[⟨4,ofClass i.a⟩],.const [((zf8 e.cs (upI e.cs i.a).reverse)[i.b.toNat]'h.2.2).ty]⟩,0))
   else(ef0,72)
def tlOf (op:Nat):Tl:=(tblL[op]?).getD .no
def toldF (e:En) (i:Ins):Ef×Nat:=if 34≤i.op.val then(ef0,40) else tellF e i (tlOf i.op.val)
theorem eEf_len (f:Ef):(eEf f).length=2:=rfl
theorem eEf_take (f:Ef):(eEf f).take 2=eEf f:=rfl
theorem za7 (i:Ins):(eIn i).take 4=eIn i:=rfl
theorem zb2 (e:En):(eEn e).take 3=eEn e:=rfl
theorem tblL_no:∀k:Fin 34,tblL[k.val]? ≠some .no:=by
 intro k
 have:k.val=0∨k.val=1∨k.val=2∨k.val=3∨k.val=4∨k.val=5∨k.val=6∨k.val=7∨k.val=8∨k.val=9∨k.val=10∨k.val=11∨k.val=12∨k.val=13∨k.val=14∨k.val=15∨k.val=16∨k.val=17∨k.val=18∨k.val=19∨k.val=20∨k.val=21∨k.val=22∨k.val=23∨k.val=24∨k.val=25∨k.val=26∨k.val=27∨k.val=28∨k.val=29∨k.val=30∨k.val=31∨k.val=32∨k.val=33:=by omega
 rcases this with h|h|h|h|h|h|h|h|h|h|h|h|h|h|h|h|h|h|h|h|h|h|h|h|h|h|h|h|h|h|h|h|h|h <;> rw[h] <;> simp[tblL]
theorem tl_at {op:Nat} (h:op<34):(tblL.map eTl)[op]? =some (eTl (tlOf op))∧tlOf op≠ .no:=by
 have hl:op<tblL.length:=h
 refine⟨by simp[tlOf,hl],fun he=> ?_⟩
 have:=tblL_no ⟨op,h⟩
 simp only at this
 rw[List.getElem?_eq_getElem hl] at this
 simp only[tlOf,List.getElem?_eq_getElem hl,Option.getD_some] at he
 exact this (by rw[he])
theorem callK_tl {N:Nat} {d:Option Nat} {st:Bool} {K:Env→St→Prop} {Q:XA→Env→St→Prop} {T:Env} {σ:St} {B:List Nat} {e:En} {i:Ins} (hc:Can e) (tl:Tl) (hno:tl≠ .no)
  (hk:putK N d (.tup [.agg (eEf (tellF e i tl).1),.int .i64 (tellF e i tl).2]) K T σ):callK Tryz.prog N B st d (eTl tl) [.agg (eEn e),.agg (eIn i)] K Q T σ:=by
 cases tl with
 |no=>exact absurd rfl hno
 |fixed ws g=>exact za3 (tell185 _ _ _ _ _ _ rfl rfl rfl rfl rfl (eG_cellQ g)) hk
 |call=>
  refine za3 (tell158 e i hc) ?_
  simp only[tellF] at hk
  split
  ·rename_i h; rw[dif_pos h] at hk; exact hk
  ·rename_i h; rw[dif_neg h] at hk; exact hk
 |ret=>
  refine za3 (tell159 e i _ (eG_cellQ _) hc.fn0 hc.fn1) ?_
  simp only[tellF,dif_pos hc.fn1] at hk
  exact hk
 |classed ws c=>
  refine za3 (tell186 e i _ c rfl hc.cls) ?_
  simp only[tellF] at hk
  split
  ·rename_i h; rw[if_pos h] at hk; exact hk
  ·rename_i h; rw[if_neg h] at hk; exact hk
 |field put=>
  refine za3 (tell188 e i put hc) ?_
  simp only[tellF] at hk
  split
  ·rename_i h
   rw[dif_pos h] at hk
   cases put
   ·simp only[Bool.false_eq_true,if_false] at hk ⊢; exact hk
   ·simp only[if_true] at hk ⊢; exact hk
  ·rename_i h; rw[dif_neg h] at hk; exact hk
theorem told82 (e:En) (i:Ins) (hc:Can e):PCall Tryz.prog 118 [.agg (eEn e),.agg (eIn i)] (.tup [.agg (eEf (toldF e i).1),.int .i64 (toldF e i).2]):=by
 refine F118.pcall' rfl fun T hT=> ?_
 have h1:(eIn i)[1]? =some (.int .u8 i.op.val):=rfl
 simp -implicitDefEqProofs only[go_sem,c118,hT,zb8,zb3]
 intro b2 b3 n1 n2 b4 m1 m2 m3 m4
 simp -implicitDefEqProofs only[go_sem,hT,zb8,zb3,zb2,za7,n1,n2,m1,m2,m3,m4,za4,h1,gdD]
 refine za3 (size125 i.op) ?_
 by_cases h34:34≤i.op.val
 ·have hs:ze8 i.op.val=0:=by rw[ze8,if_pos h34]
  simp -implicitDefEqProofs only[go_sem,hT,zb8,zb3,zb2,za7,n1,n2,m1,m2,m3,m4,za4,h1,hs,zb0,Int.ofNat_zero]
  rw[toldF,if_pos h34]
  exact DLe_ef (DLe.slice _ _) (.refl _)
 have hs:((ze8 i.op.val:Int)=0)=False:=by
  simp only[eq_iff_iff,iff_false]
  rw[ze8,if_neg h34]; omega
 obtain⟨ht,hno⟩:=tl_at (op:=i.op.val) (by omega)
 simp -implicitDefEqProofs only[go_sem,hT,zb8,zb3,zb2,za7,n1,n2,m1,m2,m3,m4,za4,h1,hs]
 refine⟨by rintro b (rfl|rfl) <;> simp[*],za3 table126 ?_⟩
 simp -implicitDefEqProofs only[go_sem,hT,zb8,zb3,zb2,za7,n1,n2,m1,m2,m3,m4,za4,h1,ht,Nat.mul_one,gdD]
 refine⟨by omega, ?_⟩
 refine callK_tl hc _ hno ?_
 simp -implicitDefEqProofs only[go_sem,hT,eEf_len,eEf_take,n1,n2,m1,m2,m3,m4,za4,zb0]
 rw[toldF,if_neg h34]
 exact DLe.refl _
def givesN:Gv→Nat
 | .no=>0
 | .const l=>l.length
 | .dup| .swap=>2
def okEf (f:Ef):Prop:=match f.gives with
 | .no=>False
 | .const _=>True
 | .dup=>0<f.takes.length
 | .swap=>1<f.takes.length
theorem tellF_ok (e:En) (i:Ins) (hc:Can e) (op:Nat) (h:op<34) (h0:(tellF e i (tlOf op)).2=0):okEf (tellF e i (tlOf op)).1∧(tellF e i (tlOf op)).1.takes.length≤8:=by
 have fixedOk:∀ws g,tlOf op= .fixed ws g→okEf ⟨ws,g⟩∧ws.length≤8→okEf (tellF e i (tlOf op)).1∧(tellF e i (tlOf op)).1.takes.length≤8:=fun ws g he hk=>by rw[he]; exact hk
 have hcall:tlOf op= .call→okEf (tellF e i (tlOf op)).1∧(tellF e i (tlOf op)).1.takes.length≤8:=fun he=>by
  rw[he] at h0 ⊢
  simp only[tellF] at h0 ⊢
  split
  ·rename_i hq; exact⟨trivial,by simpa using hc.sigs _ (List.getElem_mem _)⟩
  ·rename_i hq; rw[dif_neg hq] at h0; cases h0
 have hret:tlOf op= .ret→okEf (tellF e i (tlOf op)).1∧(tellF e i (tlOf op)).1.takes.length≤8:=fun he=>by
  rw[he] at h0 ⊢
  simp only[tellF,dif_pos hc.fn1]
  exact⟨trivial,by split <;> simp⟩
 have hcls:∀ws c,ws.length≤8→tlOf op= .classed ws c→okEf (tellF e i (tlOf op)).1∧(tellF e i (tlOf op)).1.takes.length≤8:=fun ws c hw he=>by
  rw[he] at h0 ⊢
  simp only[tellF] at h0 ⊢
  split
  ·rename_i hq; rw[if_pos hq] at h0; cases h0
  ·exact⟨trivial,hw⟩
 have hfld:∀p,tlOf op= .field p→okEf (tellF e i (tlOf op)).1∧(tellF e i (tlOf op)).1.takes.length≤8:=fun p he=>by
  rw[he] at h0 ⊢
  simp only[tellF] at h0 ⊢
  split
  ·cases p
   ·exact⟨trivial,by simp⟩
   ·exact⟨trivial,by simp⟩
  ·rename_i hq; rw[dif_neg hq] at h0; cases h0
 have:op=0∨op=1∨op=2∨op=3∨op=4∨op=5∨op=6∨op=7∨op=8∨op=9∨op=10∨op=11∨op=12∨op=13∨op=14∨op=15∨op=16∨op=17∨op=18∨op=19∨op=20∨op=21∨op=22∨op=23∨op=24∨op=25∨op=26∨op=27∨op=28∨op=29∨op=30∨op=31∨op=32∨op=33:=by omega
 rcases this with h|h|h|h|h|h|h|h|h|h|h|h|h|h|h|h|h|h|h|h|h|h|h|h|h|h|h|h|h|h|h|h|h|h <;> subst h <;> first
  |exact fixedOk _ _ rfl ⟨by simp[okEf],by simp⟩
  |exact hcall rfl
  |exact hret rfl
  |exact hcls _ _ (by simp) rfl
  |exact hfld _ rfl
theorem checkFrom_right {w:ByteArray→Bool} {l:List Cl}:∀(k i:Nat),k+i=l.length→Right w l i→(checkFrom w l k i).2=0→Right w l l.length
 |0,i,hk,hr,h=>by
  have:i=l.length:=by omega
  subst this; exact hr
 |k+1,i,hk,hr,h=>by
  rw[checkFrom,dif_pos (by omega)] at h
  by_cases he:classErr w l i (l[i]'(by omega))=0
  ·rw[if_pos he] at h
   refine checkFrom_right k (i+1) (by omega) (fun j hj hj'=> ?_) h
   rcases Nat.lt_or_eq_of_le (Nat.le_of_lt_succ hj') with hj'|rfl
   ·exact hr j hj hj'
   ·exact he
  ·rw[if_neg he] at h; exact absurd h he
theorem check_right {w:ByteArray→Bool} {l:List Cl} (h:(checkL w l).2=0):Right w l l.length:=
 checkFrom_right l.length 0 (by omega) (fun i h h'=>by omega) h
theorem canB_can {e:En} (hw:WideE e) (h:canB e=true):Can e:=by
 simp only[canB,Bool.and_eq_true,decide_eq_true_eq] at h
 obtain⟨⟨h1,h2,h3,h4⟩,h5⟩:=h
 refine⟨hw,check_right h1,h3,by omega,fun s hs=> ?_⟩
 have:=List.all_eq_true.1 h5 s hs
 simp only[sigMayB,Bool.and_eq_true,decide_eq_true_eq] at this
 exact this.1.1
open Go.Proofs
def someR (t:Ty):List Ty:=if t.val=0 then [] else [t]
theorem some115 (t:Ty):PCall Tryz.prog 134 [.int .u8 t.val] (.slice .no (rws eT (someR t))):=by
 refine F134.pcall' rfl fun T hT=> ?_
 by_cases h:t.val=0
 ·have h1:(t.val:Int)=0:=by omega
  simp -implicitDefEqProofs only[go_sem,c134,hT,h1]
  rw[someR,if_pos h]
  exact DLe.slice _ _
 ·have h1:¬(t.val:Int)=0:=by omega
  simp -implicitDefEqProofs only[go_sem,c134,hT,h1,frz]
  rw[someR,if_neg h]
  exact DLe.slice _ _
theorem class116 (n:Nat) (h:n<32):PCall Tryz.prog 135 [.int .i64 n] (.int .u8 (((⟨16+n,by omega⟩:Ty)).val:Int)):=by
 refine F135.pcall' rfl fun T hT=> ?_
 have h1:IntKind.wrap .u8 (n:Int)=n:=wrap_u8 (by omega) (by omega)
 have h2:IntKind.wrap .u8 (16+(n:Int))=16+n:=wrap_u8 (by omega) (by omega)
 simp -implicitDefEqProofs only[go_sem,c135,hT,h1,h2]
 exact DLe.of_eq (by simp)
def opndF (e:En) (i:Ins):Nat:=
 if i.op.val=21 then(if 0≤i.a∧i.a.toNat<e.sgs.length then 0 else 71)
 else if i.op.val=23∨i.op.val=30∨i.op.val=31 then(if 0≤i.a∧i.a<e.cs.length then 0 else 72)
 else if i.op.val=24∨i.op.val=25 then(if(0≤i.a∧i.a<e.cs.length)∧0≤i.b∧i.b.toNat<(zf8 e.cs (upI e.cs i.a).reverse).length then 0 else 72)
 else 0
theorem refFieldsUp {e:En} (hc:Can e) (c:Int) (h:c<e.cs.length):zf8 e.cs (lineR e.cs c).reverse=zf8 e.cs (upI e.cs c).reverse:=by
 rw[lineR_up hc.right.falls (by omega) h]
theorem operands75 (e:En) (i:Ins) (hc:Can e):PCall Tryz.prog 66 [.agg (eEn e),.agg (eIn i)] (.int .i64 (opndF e i)):=by
 have hw1:=hc.wide.1.1
 have h32:=hc.cls
 refine F66.pcall' rfl fun T hT=> ?_
 simp -implicitDefEqProofs only[go_sem,c66,hT,eEn,eIn]
 intro b2 b3 n1 n2
 by_cases o21:(i.op.val:Int)=21
 ·by_cases h:0≤i.a∧i.a.toNat<e.sgs.length
  ·have hf:(decide (i.a<0)||decide ((e.sgs.length:Int)≤i.a))=false:=by simp; omega
   simp -implicitDefEqProofs only[go_sem,mmB,hT,n1,n2,eEn,eIn,o21,hf]
   exact DLe.of_eq (by rw[opndF,if_pos (by omega),if_pos h]; rfl)
  ·have hf:(decide (i.a<0)||decide ((e.sgs.length:Int)≤i.a))=true:=by simp; omega
   simp -implicitDefEqProofs only[go_sem,mmB,hT,n1,n2,eEn,eIn,o21,hf]
   exact DLe.of_eq (by rw[opndF,if_pos (by omega),if_neg h]; rfl)
 by_cases o3:(i.op.val:Int)=23∨(i.op.val:Int)=30∨(i.op.val:Int)=31
 ·have e1:opndF e i=if 0≤i.a∧i.a<e.cs.length then 0 else 72:=by rw[opndF,if_neg (by omega),if_pos (by omega)]
  by_cases h:0≤i.a∧i.a<e.cs.length
  ·have hf:(decide (i.a<0)||decide ((e.cs.length:Int)≤i.a))=false:=by simp; omega
   rw[e1,if_pos h]
   rcases o3 with o|o|o <;> (simp -implicitDefEqProofs only[go_sem,hT,n1,n2,eEn,eIn,o]; simp -implicitDefEqProofs only[go_sem,mmB,hT,n1,n2,eEn,eIn,o,hf]; exact DLe.of_eq rfl)
  ·have hf:(decide (i.a<0)||decide ((e.cs.length:Int)≤i.a))=true:=by simp; omega
   rw[e1,if_neg h]
   rcases o3 with o|o|o <;> (simp -implicitDefEqProofs only[go_sem,hT,n1,n2,eEn,eIn,o]; simp -implicitDefEqProofs only[go_sem,mmB,hT,n1,n2,eEn,eIn,o,hf]; exact DLe.of_eq rfl)
 by_cases o2:(i.op.val:Int)=24∨(i.op.val:Int)=25
 ·have e1:opndF e i=if(0≤i.a∧i.a<e.cs.length)∧0≤i.b∧i.b.toNat<(zf8 e.cs (upI e.cs i.a).reverse).length then 0 else 72:=by rw[opndF,if_neg (by omega),if_neg (by omega),if_pos (by omega)]
  have hfl:=hc.flds i.a
  by_cases h:0≤i.a∧i.a<e.cs.length
  case neg=>
   have hf:(decide (i.a<0)||decide ((e.cs.length:Int)≤i.a))=true:=by simp; omega
   rw[e1,if_neg (by omega)]
   rcases o2 with o|o <;> (simp -implicitDefEqProofs only[go_sem,hT,n1,n2,eEn,eIn,o]; simp -implicitDefEqProofs only[go_sem,mmB,hT,n1,n2,eEn,eIn,o,hf]; exact DLe.of_eq rfl)
  have hf:(decide (i.a<0)||decide ((e.cs.length:Int)≤i.a))=false:=by simp; omega
  have hup:=refFieldsUp hc i.a h.2
  rw[←hup] at e1 hfl
  have hcall:=refFields114 e.cs .no i.a (by omega) (by omega)
  generalize zf8 e.cs (lineR e.cs i.a).reverse=F at *
  by_cases hb:i.b<0
  ·rw[e1,if_neg (by omega)]
   rcases o2 with o|o <;> (simp -implicitDefEqProofs only[go_sem,hT,n1,n2,eEn,eIn,o]; simp -implicitDefEqProofs only[go_sem,mmB,hT,n1,n2,eEn,eIn,o,hf,hb]; first|exact DLe.of_eq rfl|(refine⟨by rintro b rfl; simp, ?_⟩; exact DLe.of_eq rfl))
  by_cases hl:i.b.toNat<F.length
  ·have hq:((F.length:Int)≤i.b)=False:=by simp; omega
   rw[e1,if_pos (by omega)]
   rcases o2 with o|o <;> (simp -implicitDefEqProofs only[go_sem,hT,n1,n2,eEn,eIn,o]; simp -implicitDefEqProofs only[go_sem,mmB,hT,n1,n2,eEn,eIn,o,hf,hb]; refine⟨by rintro b rfl; simp[n1,n2],za3 hcall ?_⟩; simp -implicitDefEqProofs only[go_sem,mmB,hT,n1,n2,eEn,eIn,o,hq]; exact DLe.of_eq rfl)
  ·have hq:((F.length:Int)≤i.b)=True:=by simp; omega
   rw[e1,if_neg (by omega)]
   rcases o2 with o|o <;> (simp -implicitDefEqProofs only[go_sem,hT,n1,n2,eEn,eIn,o]; simp -implicitDefEqProofs only[go_sem,mmB,hT,n1,n2,eEn,eIn,o,hf,hb]; refine⟨by rintro b rfl; simp[n1,n2],za3 hcall ?_⟩; simp -implicitDefEqProofs only[go_sem,mmB,hT,n1,n2,eEn,eIn,o,hq]; exact DLe.of_eq rfl)
 have e1:opndF e i=0:=by rw[opndF,if_neg (by omega),if_neg (by omega),if_neg (by omega)]
 have m1:¬(i.op.val:Int)=23:=by omega
 have m2:¬(i.op.val:Int)=30:=by omega
 have m3:¬(i.op.val:Int)=31:=by omega
 have m4:¬(i.op.val:Int)=24:=by omega
 have m5:¬(i.op.val:Int)=25:=by omega
 rw[e1]
 simp -implicitDefEqProofs only[go_sem,hT,n1,n2,eEn,eIn,o21,m1,m2,m3,m4,m5]
 exact DLe.of_eq rfl
end Go.AL
