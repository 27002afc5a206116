import Derived.Test.YtjffaachihpjbaaGreatFd
import Derived.Test.YtjffaachihpjbaaGreatProg
import Derived.KernelRfl
import Derived.Test.YtjffaachihpjbaaGreatFe
set_option linter.defProp false
set_option linter.unusedSimpArgs false
set_option linter.unusedVariables false
set_option maxRecDepth 100000
attribute [go_sem_proc] Nat.reduceEqDiff Nat.reduceLT Nat.reduceLeDiff Nat.reduceAdd Nat.reduceSub Nat.reduceMul Nat.reduceBEq reduceCtorEq Int.reduceEq Int.reduceLT Int.reduceLE Int.reduceNeg Int.reduceAdd Int.reduceSub Int.reduceToNat
attribute [go_sem_proc ↓] reduceIte
namespace Go.AL
abbrev rg (l:List DO):AC:= .reg false [] l
abbrev CT [Mo] (c:Code):={a:AC // strip c=a}
theorem gdD (l:List D) (i j:Nat):(l.drop i)[j]? =l[i+j]? :=List.getElem?_drop
theorem anD (l:List D):l++[]=l:=List.append_nil l
theorem ldD (l:List D) (i:Nat):(l.drop i).length=l.length-i:=List.length_drop
set_option linter.defProp false
theorem aI {a b:Prop} (x:a) (y:b):a∧b:=⟨x,y⟩
def mmB:=aI @zc0 (aI @zb9 (aI @zd8 (aI @zf0 (aI @zd7 (aI @ze1 (aI @zd9 (aI @zc9 (aI @zd2 (aI @gm_un (aI @zc8 (aI @zc6 (aI @zf1 @ze2))))))))))))
end Go.AL
namespace Go.AL
open Go.Proofs
@[go_sem] theorem Tryz.sz3:szP Tryz.prog 3=some 1:=by kernel_rfl
@[go_sem] theorem Tryz.by3:zd5 Tryz.prog 3=some 8:=by kernel_rfl
@[go_sem] theorem Tryz.zero3:zf4 Tryz.prog 3=some [.int .i64 0]:=by kernel_rfl
@[go_sem] theorem Tryz.agg3:aggP Tryz.prog 3=some false:=by kernel_rfl
@[go_sem] theorem Tryz.known3:ze5 Tryz.prog 3=true:=by kernel_rfl
@[go_sem] theorem Tryz.int3:intP Tryz.prog 3=some .i64:=by kernel_rfl
@[go_sem] theorem Tryz.sz4:szP Tryz.prog 4=some 1:=by kernel_rfl
@[go_sem] theorem Tryz.by4:zd5 Tryz.prog 4=some 1:=by kernel_rfl
@[go_sem] theorem Tryz.zero4:zf4 Tryz.prog 4=some [.bool false]:=by kernel_rfl
@[go_sem] theorem Tryz.agg4:aggP Tryz.prog 4=some false:=by kernel_rfl
@[go_sem] theorem Tryz.sz5:szP Tryz.prog 5=some 1:=by kernel_rfl
@[go_sem] theorem Tryz.zero5:zf4 Tryz.prog 5=some [.int .u8 0]:=by kernel_rfl
@[go_sem] theorem Tryz.agg5:aggP Tryz.prog 5=some false:=by kernel_rfl
@[go_sem] theorem Tryz.known5:ze5 Tryz.prog 5=true:=by kernel_rfl
@[go_sem] theorem Tryz.sz9:szP Tryz.prog 9=some 1:=by kernel_rfl
@[go_sem] theorem Tryz.by9:zd5 Tryz.prog 9=some 16:=by kernel_rfl
@[go_sem] theorem Tryz.zero9:zf4 Tryz.prog 9=some [.str ByteArray.empty]:=by kernel_rfl
@[go_sem] theorem Tryz.agg9:aggP Tryz.prog 9=some false:=by kernel_rfl
@[go_sem] theorem Tryz.str9:strP Tryz.prog 9=true:=by kernel_rfl
@[go_sem] theorem Tryz.known21:ze5 Tryz.prog 21=true:=by kernel_rfl
@[go_sem] theorem Tryz.int21:intP Tryz.prog 21=some .i32:=by kernel_rfl
@[go_sem] theorem Tryz.sz22:szP Tryz.prog 22=some 1:=by kernel_rfl
@[go_sem] theorem Tryz.agg22:aggP Tryz.prog 22=some false:=by kernel_rfl
@[go_sem] theorem Tryz.sli22:sliP Tryz.prog 22=some 128:=by kernel_rfl
@[go_sem] theorem Tryz.sz23:szP Tryz.prog 23=some 1:=by kernel_rfl
@[go_sem] theorem Tryz.agg23:aggP Tryz.prog 23=some false:=by kernel_rfl
@[go_sem] theorem Tryz.sli23:sliP Tryz.prog 23=some 47:=by kernel_rfl
@[go_sem] theorem Tryz.sz25:szP Tryz.prog 25=some 3:=by kernel_rfl
@[go_sem] theorem Tryz.agg25:aggP Tryz.prog 25=some true:=by kernel_rfl
@[go_sem] theorem Tryz.fld25_0:fldP Tryz.prog 25 0=some (0,22):=by kernel_rfl
@[go_sem] theorem Tryz.fld25_1:fldP Tryz.prog 25 1=some (1,23):=by kernel_rfl
@[go_sem] theorem Tryz.fld25_2:fldP Tryz.prog 25 2=some (2,3):=by kernel_rfl
@[go_sem] theorem Tryz.sz26:szP Tryz.prog 26=some 1:=by kernel_rfl
@[go_sem] theorem Tryz.zero26:zf4 Tryz.prog 26=some [.slice .nil []]:=by kernel_rfl
@[go_sem] theorem Tryz.agg26:aggP Tryz.prog 26=some false:=by kernel_rfl
@[go_sem] theorem Tryz.sli26:sliP Tryz.prog 26=some 5:=by kernel_rfl
@[go_sem] theorem Tryz.sz28:szP Tryz.prog 28=some 5:=by kernel_rfl
@[go_sem] theorem Tryz.agg28:aggP Tryz.prog 28=some true:=by kernel_rfl
@[go_sem] theorem Tryz.fld28_0:fldP Tryz.prog 28 0=some (0,25):=by kernel_rfl
@[go_sem] theorem Tryz.fld28_1:fldP Tryz.prog 28 1=some (3,3):=by kernel_rfl
@[go_sem] theorem Tryz.fld28_2:fldP Tryz.prog 28 2=some (4,26):=by kernel_rfl
@[go_sem] theorem Tryz.sli30:sliP Tryz.prog 30=some 40:=by kernel_rfl
@[go_sem] theorem Tryz.sz35:szP Tryz.prog 35=some 1:=by kernel_rfl
@[go_sem] theorem Tryz.by35:zd5 Tryz.prog 35=some 1:=by kernel_rfl
@[go_sem] theorem Tryz.zero35:zf4 Tryz.prog 35=some [.int .u8 0]:=by kernel_rfl
@[go_sem] theorem Tryz.agg35:aggP Tryz.prog 35=some false:=by kernel_rfl
@[go_sem] theorem Tryz.known35:ze5 Tryz.prog 35=true:=by kernel_rfl
@[go_sem] theorem Tryz.int35:intP Tryz.prog 35=some .u8:=by kernel_rfl
@[go_sem] theorem Tryz.sz36:szP Tryz.prog 36=some 24:=by kernel_rfl
@[go_sem] theorem Tryz.agg36:aggP Tryz.prog 36=some true:=by kernel_rfl
@[go_sem] theorem Tryz.arr36:arrP Tryz.prog 36=some (24,35):=by kernel_rfl
@[go_sem] theorem Tryz.sz38:szP Tryz.prog 38=some 26:=by kernel_rfl
@[go_sem] theorem Tryz.by38:zd5 Tryz.prog 38=some 40:=by kernel_rfl
@[go_sem] theorem Tryz.zero38:zf4 Tryz.prog 38=some [.int .i64 0,.int .i64 0,.int .u8 0,.int .u8 0,.int .u8 0,.int .u8 0,.int .u8 0,.int .u8 0,.int .u8 0,.int .u8 0,.int .u8 0,.int .u8 0,.int .u8 0,.int .u8 0,.int .u8 0,.int .u8 0,.int .u8 0,.int .u8 0,.int .u8 0,.int .u8 0,.int .u8 0,.int .u8 0,.int .u8 0,.int .u8 0,.int .u8 0,.int .u8 0]:=by kernel_rfl
@[go_sem] theorem Tryz.agg38:aggP Tryz.prog 38=some true:=by kernel_rfl
@[go_sem] theorem Tryz.bld38:buildP Tryz.prog 38=some none:=by kernel_rfl
@[go_sem] theorem Tryz.fld38_0:fldP Tryz.prog 38 0=some (0,3):=by kernel_rfl
@[go_sem] theorem Tryz.fld38_1:fldP Tryz.prog 38 1=some (1,3):=by kernel_rfl
@[go_sem] theorem Tryz.fld38_2:fldP Tryz.prog 38 2=some (2,36):=by kernel_rfl
@[go_sem] theorem Tryz.eqg38:eqGP Tryz.prog 38=true:=by kernel_rfl
@[go_sem] theorem Tryz.sz40:szP Tryz.prog 40=some 28:=by kernel_rfl
@[go_sem] theorem Tryz.by40:zd5 Tryz.prog 40=some 56:=by kernel_rfl
@[go_sem] theorem Tryz.zero40:zf4 Tryz.prog 40=some [.int .i64 0,.bool false,.int .i64 0,.int .i64 0,.int .u8 0,.int .u8 0,.int .u8 0,.int .u8 0,.int .u8 0,.int .u8 0,.int .u8 0,.int .u8 0,.int .u8 0,.int .u8 0,.int .u8 0,.int .u8 0,.int .u8 0,.int .u8 0,.int .u8 0,.int .u8 0,.int .u8 0,.int .u8 0,.int .u8 0,.int .u8 0,.int .u8 0,.int .u8 0,.int .u8 0,.int .u8 0]:=by kernel_rfl
@[go_sem] theorem Tryz.agg40:aggP Tryz.prog 40=some true:=by kernel_rfl
@[go_sem] theorem Tryz.bld40:buildP Tryz.prog 40=some none:=by kernel_rfl
@[go_sem] theorem Tryz.fld40_0:fldP Tryz.prog 40 0=some (0,3):=by kernel_rfl
@[go_sem] theorem Tryz.fld40_2:fldP Tryz.prog 40 2=some (2,38):=by kernel_rfl
@[go_sem] theorem Tryz.sz44:szP Tryz.prog 44=some 1:=by kernel_rfl
@[go_sem] theorem Tryz.agg44:aggP Tryz.prog 44=some false:=by kernel_rfl
@[go_sem] theorem Tryz.sli44:sliP Tryz.prog 44=some 35:=by kernel_rfl
@[go_sem] theorem Tryz.sz47:szP Tryz.prog 47=some 2:=by kernel_rfl
@[go_sem] theorem Tryz.zero47:zf4 Tryz.prog 47=some [.slice .nil [],.int .u8 0]:=by kernel_rfl
@[go_sem] theorem Tryz.agg47:aggP Tryz.prog 47=some true:=by kernel_rfl
@[go_sem] theorem Tryz.fld47_0:fldP Tryz.prog 47 0=some (0,44):=by kernel_rfl
@[go_sem] theorem Tryz.fld47_1:fldP Tryz.prog 47 1=some (1,35):=by kernel_rfl
@[go_sem] theorem Tryz.sz50:szP Tryz.prog 50=some 1:=by kernel_rfl
@[go_sem] theorem Tryz.zero50:zf4 Tryz.prog 50=some [.nilfunc]:=by kernel_rfl
@[go_sem] theorem Tryz.agg50:aggP Tryz.prog 50=some false:=by kernel_rfl
@[go_sem] theorem Tryz.sli54:sliP Tryz.prog 54=some 67:=by kernel_rfl
@[go_sem] theorem Tryz.sz57:szP Tryz.prog 57=some 1:=by kernel_rfl
@[go_sem] theorem Tryz.zero57:zf4 Tryz.prog 57=some [.slice .nil []]:=by kernel_rfl
@[go_sem] theorem Tryz.agg57:aggP Tryz.prog 57=some false:=by kernel_rfl
@[go_sem] theorem Tryz.sli57:sliP Tryz.prog 57=some 3:=by kernel_rfl
@[go_sem] theorem Tryz.sz67:szP Tryz.prog 67=some 4:=by kernel_rfl
@[go_sem] theorem Tryz.by67:zd5 Tryz.prog 67=some 32:=by kernel_rfl
@[go_sem] theorem Tryz.zero67:zf4 Tryz.prog 67=some [.int .i64 0,.int .u8 0,.int .i64 0,.int .i64 0]:=by kernel_rfl
@[go_sem] theorem Tryz.agg67:aggP Tryz.prog 67=some true:=by kernel_rfl
@[go_sem] theorem Tryz.bld67:buildP Tryz.prog 67=some none:=by kernel_rfl
@[go_sem] theorem Tryz.fld67_0:fldP Tryz.prog 67 0=some (0,3):=by kernel_rfl
@[go_sem] theorem Tryz.fld67_1:fldP Tryz.prog 67 1=some (1,5):=by kernel_rfl
@[go_sem] theorem Tryz.fld67_2:fldP Tryz.prog 67 2=some (2,3):=by kernel_rfl
@[go_sem] theorem Tryz.fld67_3:fldP Tryz.prog 67 3=some (3,3):=by kernel_rfl
@[go_sem] theorem Tryz.sz85:szP Tryz.prog 85=some 1:=by kernel_rfl
@[go_sem] theorem Tryz.agg85:aggP Tryz.prog 85=some false:=by kernel_rfl
@[go_sem] theorem Tryz.sz86:szP Tryz.prog 86=some 1:=by kernel_rfl
@[go_sem] theorem Tryz.agg86:aggP Tryz.prog 86=some false:=by kernel_rfl
@[go_sem] theorem Tryz.sz87:szP Tryz.prog 87=some 1:=by kernel_rfl
@[go_sem] theorem Tryz.agg87:aggP Tryz.prog 87=some false:=by kernel_rfl
@[go_sem] theorem Tryz.sz89:szP Tryz.prog 89=some 8:=by kernel_rfl
@[go_sem] theorem Tryz.agg89:aggP Tryz.prog 89=some true:=by kernel_rfl
@[go_sem] theorem Tryz.bld89:buildP Tryz.prog 89=some none:=by kernel_rfl
@[go_sem] theorem Tryz.fld89_0:fldP Tryz.prog 89 0=some (0,25):=by kernel_rfl
@[go_sem] theorem Tryz.fld89_1:fldP Tryz.prog 89 1=some (3,26):=by kernel_rfl
@[go_sem] theorem Tryz.fld89_2:fldP Tryz.prog 89 2=some (4,85):=by kernel_rfl
@[go_sem] theorem Tryz.fld89_3:fldP Tryz.prog 89 3=some (5,86):=by kernel_rfl
@[go_sem] theorem Tryz.fld89_4:fldP Tryz.prog 89 4=some (6,87):=by kernel_rfl
@[go_sem] theorem Tryz.fld89_5:fldP Tryz.prog 89 5=some (7,3):=by kernel_rfl
@[go_sem] theorem Tryz.sz99:szP Tryz.prog 99=some 1:=by kernel_rfl
@[go_sem] theorem Tryz.agg99:aggP Tryz.prog 99=some false:=by kernel_rfl
@[go_sem] theorem Tryz.sli99:sliP Tryz.prog 99=some 4:=by kernel_rfl
@[go_sem] theorem Tryz.zero101:zf4 Tryz.prog 101=some []:=by kernel_rfl
@[go_sem] theorem Tryz.bld101:buildP Tryz.prog 101=some none:=by kernel_rfl
@[go_sem] theorem Tryz.sz109:szP Tryz.prog 109=some 1:=by kernel_rfl
@[go_sem] theorem Tryz.agg109:aggP Tryz.prog 109=some false:=by kernel_rfl
@[go_sem] theorem Tryz.sli109:sliP Tryz.prog 109=some 38:=by kernel_rfl
@[go_sem] theorem Tryz.sz111:szP Tryz.prog 111=some 4:=by kernel_rfl
@[go_sem] theorem Tryz.zero111:zf4 Tryz.prog 111=some [.slice .nil [],.slice .nil [],.slice .nil [],.slice .nil []]:=by kernel_rfl
@[go_sem] theorem Tryz.agg111:aggP Tryz.prog 111=some true:=by kernel_rfl
@[go_sem] theorem Tryz.bld111:buildP Tryz.prog 111=some none:=by kernel_rfl
@[go_sem] theorem Tryz.fld111_0:fldP Tryz.prog 111 0=some (0,99):=by kernel_rfl
@[go_sem] theorem Tryz.fld111_1:fldP Tryz.prog 111 1=some (1,109):=by kernel_rfl
@[go_sem] theorem Tryz.fld111_2:fldP Tryz.prog 111 2=some (2,99):=by kernel_rfl
@[go_sem] theorem Tryz.fld111_3:fldP Tryz.prog 111 3=some (3,57):=by kernel_rfl
@[go_sem] theorem Tryz.sz126:szP Tryz.prog 126=some 1:=by kernel_rfl
@[go_sem] theorem Tryz.agg126:aggP Tryz.prog 126=some false:=by kernel_rfl
@[go_sem] theorem Tryz.sli126:sliP Tryz.prog 126=some 189:=by kernel_rfl
@[go_sem] theorem Tryz.sz128:szP Tryz.prog 128=some 3:=by kernel_rfl
@[go_sem] theorem Tryz.zero128:zf4 Tryz.prog 128=some [.str ByteArray.empty,.int .i64 0,.slice .nil []]:=by kernel_rfl
@[go_sem] theorem Tryz.agg128:aggP Tryz.prog 128=some true:=by kernel_rfl
@[go_sem] theorem Tryz.fld128_0:fldP Tryz.prog 128 0=some (0,9):=by kernel_rfl
@[go_sem] theorem Tryz.fld128_1:fldP Tryz.prog 128 1=some (1,3):=by kernel_rfl
@[go_sem] theorem Tryz.fld128_2:fldP Tryz.prog 128 2=some (2,126):=by kernel_rfl
@[go_sem] theorem Tryz.sz158:szP Tryz.prog 158=some 1:=by kernel_rfl
@[go_sem] theorem Tryz.zero158:zf4 Tryz.prog 158=some [.slice .nil []]:=by kernel_rfl
@[go_sem] theorem Tryz.agg158:aggP Tryz.prog 158=some false:=by kernel_rfl
@[go_sem] theorem Tryz.sli158:sliP Tryz.prog 158=some 9:=by kernel_rfl
@[go_sem] theorem Tryz.sz165:szP Tryz.prog 165=some 1:=by kernel_rfl
@[go_sem] theorem Tryz.agg165:aggP Tryz.prog 165=some false:=by kernel_rfl
@[go_sem] theorem Tryz.sli165:sliP Tryz.prog 165=some 201:=by kernel_rfl
@[go_sem] theorem Tryz.sz167:szP Tryz.prog 167=some 2:=by kernel_rfl
@[go_sem] theorem Tryz.zero167:zf4 Tryz.prog 167=some [.slice .nil [],.nilfunc]:=by kernel_rfl
@[go_sem] theorem Tryz.agg167:aggP Tryz.prog 167=some true:=by kernel_rfl
@[go_sem] theorem Tryz.bld167:buildP Tryz.prog 167=some none:=by kernel_rfl
@[go_sem] theorem Tryz.fld167_0:fldP Tryz.prog 167 0=some (0,165):=by kernel_rfl
@[go_sem] theorem Tryz.fld167_1:fldP Tryz.prog 167 1=some (1,50):=by kernel_rfl
@[go_sem] theorem Tryz.sz189:szP Tryz.prog 189=some 2:=by kernel_rfl
@[go_sem] theorem Tryz.by189:zd5 Tryz.prog 189=some 24:=by kernel_rfl
@[go_sem] theorem Tryz.zero189:zf4 Tryz.prog 189=some [.str ByteArray.empty,.int .u8 0]:=by kernel_rfl
@[go_sem] theorem Tryz.agg189:aggP Tryz.prog 189=some true:=by kernel_rfl
@[go_sem] theorem Tryz.fld189_0:fldP Tryz.prog 189 0=some (0,9):=by kernel_rfl
@[go_sem] theorem Tryz.fld189_1:fldP Tryz.prog 189 1=some (1,35):=by kernel_rfl
@[go_sem] theorem Tryz.sz196:szP Tryz.prog 196=some 1:=by kernel_rfl
@[go_sem] theorem Tryz.agg196:aggP Tryz.prog 196=some false:=by kernel_rfl
@[go_sem] theorem Tryz.sz197:szP Tryz.prog 197=some 34:=by kernel_rfl
@[go_sem] theorem Tryz.zero197:zf4 Tryz.prog 197=some [.nilfunc,.nilfunc,.nilfunc,.nilfunc,.nilfunc,.nilfunc,.nilfunc,.nilfunc,.nilfunc,.nilfunc,.nilfunc,.nilfunc,.nilfunc,.nilfunc,.nilfunc,.nilfunc,.nilfunc,.nilfunc,.nilfunc,.nilfunc,.nilfunc,.nilfunc,.nilfunc,.nilfunc,.nilfunc,.nilfunc,.nilfunc,.nilfunc,.nilfunc,.nilfunc,.nilfunc,.nilfunc,.nilfunc,.nilfunc]:=by kernel_rfl
@[go_sem] theorem Tryz.agg197:aggP Tryz.prog 197=some true:=by kernel_rfl
@[go_sem] theorem Tryz.arr197:arrP Tryz.prog 197=some (34,196):=by kernel_rfl
@[go_sem] theorem Tryz.sz201:szP Tryz.prog 201=some 2:=by kernel_rfl
@[go_sem] theorem Tryz.by201:zd5 Tryz.prog 201=some 16:=by kernel_rfl
@[go_sem] theorem Tryz.zero201:zf4 Tryz.prog 201=some [.int .i64 0,.int .u8 0]:=by kernel_rfl
@[go_sem] theorem Tryz.agg201:aggP Tryz.prog 201=some true:=by kernel_rfl
@[go_sem] theorem Tryz.bld201:buildP Tryz.prog 201=some none:=by kernel_rfl
@[go_sem] theorem Tryz.fld201_0:fldP Tryz.prog 201 0=some (0,3):=by kernel_rfl
@[go_sem] theorem Tryz.fld201_1:fldP Tryz.prog 201 1=some (1,35):=by kernel_rfl
open Go.Proofs
theorem Tryz.follows_mixed:Tryz.prog.follows .mixedOrders=true:=by kernel_rfl
theorem mkT [Mo] {N:Nat} {f:FuncId} {c:AC} {rs:List ResultVar} {fn:Func} {code:Code} (hf:Tryz.prog.funcs[f]? =some fn) (hb:fn.body=some code) (hn:(fn.name== "runtime.NumGoroutine")=false) (hN:fn.ntmps=N) (hr:fn.results.toList=rs) (hs:strip code=c) (hl:decide (N≤1000000)=true):Fun1 Tryz.prog f N c rs:=Fun1.mk' Tryz.follows_mixed hf hb hn hN hr hs hl
def c19:CT (Tryz.f19.body.getD .skip):=⟨_,by conv=>lhs; cbv⟩
theorem F19:Fun1 Tryz.prog 19 26 c19.1 [.tmp 4]:=mkT Tryz.func19 rfl (by decide +kernel) Tryz.ntmps19 rfl c19.2 rfl
open Go.Proofs
def rws {α:Type} (enc:α→List D) (xs:List α):List (List D):=xs.map enc
theorem za1 {α:Type} (enc:α→List D) (xs:List α):(rws enc xs).length=xs.length:=by simp[rws]
attribute [go_sem] za1
theorem rws_mt {α:Type} (enc:α→List D):rws enc []=[]:=rfl
theorem rws_at {α:Type} {enc:α→List D} {xs:List α} {i:Nat} (h:i<xs.length):(rws enc xs)[i]?.getD []=enc xs[i]:=by simp[rws,h]
def eI (n:Int):List D:=[.int .i64 n]
abbrev Ty:=Fin 256
def eT (t:Ty):List D:=[.int .u8 (t.val:Int)]
theorem eT_len (n:Ty):(eT n).length=1:=rfl
theorem eT_eq (a b:Ty):((a.val:Int)=(b.val:Int))=(a=b):=by rw[Fin.ext_iff]; simp only[eq_iff_iff]; omega
theorem zf3 {a b:Bool} (h:a=b):DLe (.bool a) (.bool b):=h▸DLe.refl _
theorem take_eq_step {α:Type} {xs ys:List α} {i:Nat} (h:xs.take i=ys.take i) (hx:i<xs.length) (hy:i<ys.length) (he:xs[i]=ys[i]):xs.take (i+1)=ys.take (i+1):=by
 rw[List.take_succ_eq_append_getElem hx,List.take_succ_eq_append_getElem hy,h,he]
theorem equal16 (xs ys:List Int) (o o':Own) (hl:xs.length≤140737488355328):PCall Tryz.prog 19 [.slice o (rws eI xs),.slice o' (rws eI ys)] (.bool (decide (xs=ys))):=by
 refine F19.pcall' rfl fun T hT=> ?_
 simp -implicitDefEqProofs only[go_sem,c19,hT]
 refine br_split (fun h=> ?_) fun h=> ?_
 ·refine zf3 ?_
  simp at h
  simp
  rintro rfl
  exact h rfl
 have hxy:xs.length=ys.length:=by simp at h; omega
 refine loopL F19 (fun i:Nat=>[(0,.slice o (rws eI xs)),(1,.slice o' (rws eI ys)),(12,.int .i64 xs.length),(13,.int .i64 i)]) (fun _=>{}) (fun i=>i≤xs.length∧xs.take i=ys.take i) (fun i=>xs.length-i) 0
  ⟨Nat.zero_le _,rfl⟩ ?_ (St.le.refl _) ?_
 ·simp -implicitDefEqProofs only[go_sem,hT,Int.ofNat_zero]
 rintro i ⟨hi,heq⟩ T hT
 simp -implicitDefEqProofs only[go_sem,hT]
 refine br_split (fun h=> ?_) fun h=> ?_
 ·have h:i<xs.length:=by simpa using h
  simp -implicitDefEqProofs only[go_sem,hT,Int.toNat_natCast,rws_at h,rws_at (show i<ys.length by omega),eI]
  refine⟨⟨by omega,by omega⟩,⟨by omega,by omega⟩, ?_⟩
  refine br_split (fun h'=> ?_) fun h'=> ?_
  ·refine zf3 ?_
   simp at h'
   simp
   rintro rfl
   exact h' rfl
  ·simp at h'
   refine⟨i+1,⟨by omega,take_eq_step heq h (by omega) h'⟩,by omega, ?_,St.le.refl _⟩
   rw[zb7 (by omega) (by omega)]
   simp
 ·have h:¬i<xs.length:=by simpa using h
  refine zf3 ?_
  rw[List.take_of_length_le (by omega),List.take_of_length_le (by omega)] at heq
  simp[heq]
open Go.Proofs
structure Sg where
 ps:List Ty
 r:Ty
 deriving DecidableEq
def eSg (s:Sg):List D:=[.slice .no (rws eT s.ps),.int .u8 s.r.val]
theorem eSg_len (s:Sg):(eSg s).length=2:=rfl
open Go.Proofs
def c57:CT (Tryz.f57.body.getD .skip):=⟨_,by conv=>lhs; cbv⟩
theorem F57:Fun1 Tryz.prog 57 79 c57.1 [.tmp 4]:=mkT Tryz.func57 rfl (by decide +kernel) Tryz.ntmps57 rfl c57.2 rfl
def c51:CT (Tryz.f51.body.getD .skip):=⟨_,by conv=>lhs; cbv⟩
theorem F51:Fun1 Tryz.prog 51 71 c51.1 [.tmp 4]:=mkT Tryz.func51 rfl (by decide +kernel) Tryz.ntmps51 rfl c51.2 rfl
def c81:CT (Tryz.f81.body.getD .skip):=⟨_,by conv=>lhs; cbv⟩
theorem F81:Fun1 Tryz.prog 81 52 c81.1 [.tmp 2,.tmp 3]:=mkT Tryz.func81 rfl (by decide +kernel) Tryz.ntmps81 rfl c81.2 rfl
def c112:CT (Tryz.f112.body.getD .skip):=⟨_,by conv=>lhs; cbv⟩
theorem F112:Fun1 Tryz.prog 112 9 c112.1 [.tmp 3]:=mkT Tryz.func112 rfl (by decide +kernel) Tryz.ntmps112 rfl c112.2 rfl
def c111:CT (Tryz.f111.body.getD .skip):=⟨_,by conv=>lhs; cbv⟩
theorem F111:Fun1 Tryz.prog 111 9 c111.1 [.tmp 4]:=mkT Tryz.func111 rfl (by decide +kernel) Tryz.ntmps111 rfl c111.2 rfl
def c109:CT (Tryz.f109.body.getD .skip):=⟨_,by conv=>lhs; cbv⟩
theorem F109:Fun1 Tryz.prog 109 9 c109.1 [.tmp 4]:=mkT Tryz.func109 rfl (by decide +kernel) Tryz.ntmps109 rfl c109.2 rfl
def c142:CT (Tryz.f142.body.getD .skip):=⟨_,by conv=>lhs; cbv⟩
theorem F142:Fun1 Tryz.prog 142 19 c142.1 [.tmp 4]:=mkT Tryz.func142 rfl (by decide +kernel) Tryz.ntmps142 rfl c142.2 rfl
def c143:CT (Tryz.f143.body.getD .skip):=⟨_,by conv=>lhs; cbv⟩
theorem F143:Fun1 Tryz.prog 143 19 c143.1 [.tmp 4]:=mkT Tryz.func143 rfl (by decide +kernel) Tryz.ntmps143 rfl c143.2 rfl
def c110:CT (Tryz.f110.body.getD .skip):=⟨_,by conv=>lhs; cbv⟩
theorem F110:Fun1 Tryz.prog 110 2 c110.1 [.tmp 0]:=mkT Tryz.func110 rfl (by decide +kernel) Tryz.ntmps110 rfl c110.2 rfl
def c108:CT (Tryz.f108.body.getD .skip):=⟨_,by conv=>lhs; cbv⟩
theorem F108:Fun1 Tryz.prog 108 50 c108.1 [.tmp 2]:=mkT Tryz.func108 rfl (by decide +kernel) Tryz.ntmps108 rfl c108.2 rfl
def c113:CT (Tryz.f113.body.getD .skip):=⟨_,by conv=>lhs; cbv⟩
theorem F113:Fun1 Tryz.prog 113 51 c113.1 [.tmp 4]:=mkT Tryz.func113 rfl (by decide +kernel) Tryz.ntmps113 rfl c113.2 rfl
def c145:CT (Tryz.f145.body.getD .skip):=⟨_,by conv=>lhs; cbv⟩
theorem F145:Fun1 Tryz.prog 145 23 c145.1 [.tmp 4]:=mkT Tryz.func145 rfl (by decide +kernel) Tryz.ntmps145 rfl c145.2 rfl
def c144:CT (Tryz.f144.body.getD .skip):=⟨_,by conv=>lhs; cbv⟩
theorem F144:Fun1 Tryz.prog 144 29 c144.1 []:=mkT Tryz.func144 rfl (by decide +kernel) Tryz.ntmps144 rfl c144.2 rfl
def c146:CT (Tryz.f146.body.getD .skip):=⟨_,by conv=>lhs; cbv⟩
theorem F146:Fun1 Tryz.prog 146 25 c146.1 [.tmp 4]:=mkT Tryz.func146 rfl (by decide +kernel) Tryz.ntmps146 rfl c146.2 rfl
def c115:CT (Tryz.f115.body.getD .skip):=⟨_,by conv=>lhs; cbv⟩
theorem F115:Fun1 Tryz.prog 115 18 c115.1 [.tmp 4]:=mkT Tryz.func115 rfl (by decide +kernel) Tryz.ntmps115 rfl c115.2 rfl
def c83:CT (Tryz.f83.body.getD .skip):=⟨_,by conv=>lhs; cbv⟩
theorem F83:Fun1 Tryz.prog 83 16 c83.1 [.tmp 4]:=mkT Tryz.func83 rfl (by decide +kernel) Tryz.ntmps83 rfl c83.2 rfl
def c82:CT (Tryz.f82.body.getD .skip):=⟨_,by conv=>lhs; cbv⟩
theorem F82:Fun1 Tryz.prog 82 9 c82.1 [.tmp 3]:=mkT Tryz.func82 rfl (by decide +kernel) Tryz.ntmps82 rfl c82.2 rfl
def c84:CT (Tryz.f84.body.getD .skip):=⟨_,by conv=>lhs; cbv⟩
theorem F84:Fun1 Tryz.prog 84 9 c84.1 [.tmp 4]:=mkT Tryz.func84 rfl (by decide +kernel) Tryz.ntmps84 rfl c84.2 rfl
def c114:CT (Tryz.f114.body.getD .skip):=⟨_,by conv=>lhs; cbv⟩
theorem F114:Fun1 Tryz.prog 114 19 c114.1 [.tmp 4]:=mkT Tryz.func114 rfl (by decide +kernel) Tryz.ntmps114 rfl c114.2 rfl
def c86:CT (Tryz.f86.body.getD .skip):=⟨_,by conv=>lhs; cbv⟩
theorem F86:Fun1 Tryz.prog 86 13 c86.1 [.tmp 4]:=mkT Tryz.func86 rfl (by decide +kernel) Tryz.ntmps86 rfl c86.2 rfl
def c58:CT (Tryz.f58.body.getD .skip):=⟨_,by conv=>lhs; cbv⟩
theorem F58:Fun1 Tryz.prog 58 57 c58.1 [.cell 6 38,.tmp 7]:=mkT Tryz.func58 rfl (by decide +kernel) Tryz.ntmps58 rfl c58.2 rfl
def c85:CT (Tryz.f85.body.getD .skip):=⟨_,by conv=>lhs; cbv⟩
theorem F85:Fun1 Tryz.prog 85 13 c85.1 [.cell 2 38,.tmp 3]:=mkT Tryz.func85 rfl (by decide +kernel) Tryz.ntmps85 rfl c85.2 rfl
def c76:CT (Tryz.f76.body.getD .skip):=⟨_,by conv=>lhs; cbv⟩
theorem F76:Fun1 Tryz.prog 76 19 c76.1 [.tmp 2,.tmp 3]:=mkT Tryz.func76 rfl (by decide +kernel) Tryz.ntmps76 rfl c76.2 rfl
def c105:CT (Tryz.f105.body.getD .skip):=⟨_,by conv=>lhs; cbv⟩
theorem F105:Fun1 Tryz.prog 105 92 c105.1 [.tmp 4]:=mkT Tryz.func105 rfl (by decide +kernel) Tryz.ntmps105 rfl c105.2 rfl
def c138:CT (Tryz.f138.body.getD .skip):=⟨_,by conv=>lhs; cbv⟩
theorem F138:Fun1 Tryz.prog 138 55 c138.1 [.tmp 2]:=mkT Tryz.func138 rfl (by decide +kernel) Tryz.ntmps138 rfl c138.2 rfl
def c139:CT (Tryz.f139.body.getD .skip):=⟨_,by conv=>lhs; cbv⟩
theorem F139:Fun1 Tryz.prog 139 12 c139.1 [.tmp 2]:=mkT Tryz.func139 rfl (by decide +kernel) Tryz.ntmps139 rfl c139.2 rfl
def c164:CT (Tryz.f164.body.getD .skip):=⟨_,by conv=>lhs; cbv⟩
theorem F164:Fun1 Tryz.prog 164 16 c164.1 [.tmp 2]:=mkT Tryz.func164 rfl (by decide +kernel) Tryz.ntmps164 rfl c164.2 rfl
def c140:CT (Tryz.f140.body.getD .skip):=⟨_,by conv=>lhs; cbv⟩
theorem F140:Fun1 Tryz.prog 140 19 c140.1 [.tmp 4]:=mkT Tryz.func140 rfl (by decide +kernel) Tryz.ntmps140 rfl c140.2 rfl
def c95:CT (Tryz.f95.body.getD .skip):=⟨_,by conv=>lhs; cbv⟩
theorem F95:Fun1 Tryz.prog 95 29 c95.1 [.tmp 4]:=mkT Tryz.func95 rfl (by decide +kernel) Tryz.ntmps95 rfl c95.2 rfl
def c41:CT (Tryz.f41.body.getD .skip):=⟨_,by conv=>lhs; cbv⟩
theorem F41:Fun1 Tryz.prog 41 31 c41.1 [.tmp 4]:=mkT Tryz.func41 rfl (by decide +kernel) Tryz.ntmps41 rfl c41.2 rfl
def c106:CT (Tryz.f106.body.getD .skip):=⟨_,by conv=>lhs; cbv⟩
theorem F106:Fun1 Tryz.prog 106 16 c106.1 [.tmp 4]:=mkT Tryz.func106 rfl (by decide +kernel) Tryz.ntmps106 rfl c106.2 rfl
def c39:CT (Tryz.f39.body.getD .skip):=⟨_,by conv=>lhs; cbv⟩
theorem F39:Fun1 Tryz.prog 39 19 c39.1 [.tmp 4]:=mkT Tryz.func39 rfl (by decide +kernel) Tryz.ntmps39 rfl c39.2 rfl
def c77:CT (Tryz.f77.body.getD .skip):=⟨_,by conv=>lhs; cbv⟩
theorem F77:Fun1 Tryz.prog 77 36 c77.1 [.tmp 4]:=mkT Tryz.func77 rfl (by decide +kernel) Tryz.ntmps77 rfl c77.2 rfl
def c35:CT (Tryz.f35.body.getD .skip):=⟨_,by conv=>lhs; cbv⟩
theorem F35:Fun1 Tryz.prog 35 49 c35.1 [.cell 6 38,.tmp 7]:=mkT Tryz.func35 rfl (by decide +kernel) Tryz.ntmps35 rfl c35.2 rfl
def c63:CT (Tryz.f63.body.getD .skip):=⟨_,by conv=>lhs; cbv⟩
theorem F63:Fun1 Tryz.prog 63 13 c63.1 [.cell 2 38,.tmp 3]:=mkT Tryz.func63 rfl (by decide +kernel) Tryz.ntmps63 rfl c63.2 rfl
def c64:CT (Tryz.f64.body.getD .skip):=⟨_,by conv=>lhs; cbv⟩
theorem F64:Fun1 Tryz.prog 64 16 c64.1 [.tmp 4]:=mkT Tryz.func64 rfl (by decide +kernel) Tryz.ntmps64 rfl c64.2 rfl
open Go.Proofs
structure Fd where
 name:ByteArray
 ty:Ty
 deriving DecidableEq
structure Cl where
 name:ByteArray
 parent:Int
 fields:List Fd
 deriving DecidableEq
def eF (f:Fd):List D:=[.str f.name,.int .u8 f.ty.val]
def eC (c:Cl):List D:=[.str c.name,.int .i64 c.parent,.slice .no (rws eF c.fields)]
theorem eF_len (f:Fd):(eF f).length=2:=rfl
theorem eC_len (c:Cl):(eC c).length=3:=rfl
def clsOf (n:Nat) (t:Ty):Int:=if 16≤t.val∧t.val-16<n then(t.val:Int)-16 else -1
def validN (n:Nat) (t:Ty):Bool:=decide (t.val≤5∨16≤t.val∧t.val-16<n)
theorem class147 (l:List Cl) (o:Own) (t:Ty):PCall Tryz.prog 115 [.slice o (rws eC l),.int .u8 t.val] (.int .i64 (clsOf l.length t)):=by
 refine F115.pcall' rfl fun T hT=> ?_
 simp -implicitDefEqProofs only[go_sem,c115,hT]
 refine gbr_split (fun h=> ?_) fun h=> ?_
 ·have h1:16≤t.val:=by simp at h; omega
  have h2:((t.val:Int)<16)=False:=by simp; omega
  have h3:IntKind.wrap .u8 ((t.val:Int)-16)=(t.val:Int)-16:=wrap_u8 (by omega) (by omega)
  have h4:IntKind.wrap .i64 ((t.val:Int)-16)=(t.val:Int)-16:=zb7 (by omega) (by omega)
  simp -implicitDefEqProofs only[go_sem,hT,h2,h3,h4]
  refine br_split (fun h=>DLe.of_eq ?_) fun h=>DLe.of_eq ?_
  ·simp at h
   rw[clsOf,if_neg (by omega)]
  ·simp at h
   rw[clsOf,if_pos (by omega)]
 ·have h2:((t.val:Int)<16)=True:=by simp at h; simp; omega
  simp -implicitDefEqProofs only[go_sem,hT,h2]
  refine DLe.of_eq ?_
  simp at h2
  rw[clsOf,if_neg (by omega)]
theorem clsOf_ge (n:Nat) (t:Ty):(0≤clsOf n t)=(16≤t.val∧t.val-16<n):=by
 unfold clsOf
 split <;> rename_i h
 ·simp[h]; omega
 ·simp[h]
theorem valid105 (l:List Cl) (o:Own) (t:Ty):PCall Tryz.prog 86 [.slice o (rws eC l),.int .u8 t.val] (.bool (validN l.length t)):=by
 refine F86.pcall' rfl fun T hT=> ?_
 simp -implicitDefEqProofs only[go_sem,c86,hT]
 refine gbr_split (fun h=> ?_) fun h=> ?_
 ·have h2:((t.val:Int)≤5)=False:=by simp at h; simp; omega
  simp -implicitDefEqProofs only[go_sem,hT,h2]
  refine za3 (class147 l o t) ?_
  simp -implicitDefEqProofs only[go_sem,hT,h2]
  refine zf3 ?_
  simp at h2
  simp[validN,clsOf_ge]
  omega
 ·have h2:((t.val:Int)≤5)=True:=by simp at h; simp; omega
  simp -implicitDefEqProofs only[go_sem,hT,h2]
  refine zf3 ?_
  simp at h2
  simp[validN]
  omega
theorem refValid87 (l:List Cl) (o:Own) (t:Ty):PCall Tryz.prog 39 [.slice o (rws eC l),.int .u8 t.val] (.bool (validN l.length t)):=by
 refine F39.pcall' rfl fun T hT=> ?_
 by_cases h1:t.val≤5
 ·have h2:((t.val:Int)≤5)=True:=by simp; omega
  simp -implicitDefEqProofs only[go_sem,c39,hT,h2]
  refine zf3 ?_
  simp[validN,h1]
 ·have h2:((t.val:Int)≤5)=False:=by simp; omega
  by_cases h3:16≤t.val
  ·have h4:((16:Int)≤t.val)=True:=by simp; omega
   have h5:IntKind.wrap .u8 ((t.val:Int)-16)=(t.val:Int)-16:=wrap_u8 (by omega) (by omega)
   have h6:IntKind.wrap .i64 ((t.val:Int)-16)=(t.val:Int)-16:=zb7 (by omega) (by omega)
   simp -implicitDefEqProofs only[go_sem,c39,hT,h2,h4,h5,h6]
   refine zf3 ?_
   simp[validN,h1,h3]
   omega
  ·have h4:((16:Int)≤t.val)=False:=by simp; omega
   simp -implicitDefEqProofs only[go_sem,c39,hT,h2,h4]
   refine zf3 ?_
   simp[validN,h1,h3]
open Go.Proofs
def storedN (n:Nat) (t:Ty):Bool:=validN n t&&decide (t.val≠0∧t.val≠3)
theorem stored146 (l:List Cl) (o:Own) (t:Ty):PCall Tryz.prog 146 [.slice o (rws eC l),.int .u8 t.val] (.bool (storedN l.length t)):=by
 refine F146.pcall' rfl fun T hT=> ?_
 by_cases h1:(t.val:Int)=1
 ·simp -implicitDefEqProofs only[go_sem,c146,hT,h1]
  exact zf3 (by simp[storedN,validN]; omega)
 by_cases h2:(t.val:Int)=2
 ·simp -implicitDefEqProofs only[go_sem,c146,hT,h1,h2]
  exact zf3 (by simp[storedN,validN]; omega)
 by_cases h3:(t.val:Int)=4
 ·simp -implicitDefEqProofs only[go_sem,c146,hT,h1,h2,h3]
  exact zf3 (by simp[storedN,validN]; omega)
 by_cases h4:(t.val:Int)=5
 ·simp -implicitDefEqProofs only[go_sem,c146,hT,h1,h2,h3,h4]
  exact zf3 (by simp[storedN,validN]; omega)
 simp -implicitDefEqProofs only[go_sem,c146,hT,h1,h2,h3,h4]
 refine za3 (class147 l o t) ?_
 simp -implicitDefEqProofs only[go_sem,hT,h1,h2,h3,h4]
 exact zf3 (by rw[Bool.eq_iff_iff]; simp[storedN,validN,clsOf_ge]; omega)
theorem stored66 (l:List Cl) (o:Own) (t:Ty):PCall Tryz.prog 83 [.slice o (rws eC l),.int .u8 t.val] (.bool (storedN l.length t)):=by
 refine F83.pcall' rfl fun T hT=> ?_
 simp -implicitDefEqProofs only[go_sem,c83,hT]
 refine za3 (valid105 l o t) ?_
 cases hv:validN l.length t
 ·simp -implicitDefEqProofs only[go_sem,hT]
  exact zf3 (by simp[storedN,hv])
 ·by_cases h1:(t.val:Int)=0
  ·simp -implicitDefEqProofs only[go_sem,hT,h1]
   exact zf3 (by rw[Bool.eq_iff_iff]; simp[storedN,hv]; omega)
  ·simp -implicitDefEqProofs only[go_sem,hT,h1]
   exact zf3 (by rw[Bool.eq_iff_iff]; simp[storedN,hv]; omega)
theorem refStored109 (l:List Cl) (o:Own) (t:Ty):PCall Tryz.prog 106 [.slice o (rws eC l),.int .u8 t.val] (.bool (storedN l.length t)):=by
 refine F106.pcall' rfl fun T hT=> ?_
 simp -implicitDefEqProofs only[go_sem,c106,hT]
 refine za3 (refValid87 l o t) ?_
 cases hv:validN l.length t
 ·simp -implicitDefEqProofs only[go_sem,hT]
  exact zf3 (by simp[storedN,hv])
 ·by_cases h1:(t.val:Int)=0
  ·simp -implicitDefEqProofs only[go_sem,hT,h1]
   exact zf3 (by rw[Bool.eq_iff_iff]; simp[storedN,hv]; omega)
  ·simp -implicitDefEqProofs only[go_sem,hT,h1]
   exact zf3 (by rw[Bool.eq_iff_iff]; simp[storedN,hv]; omega)
theorem refStored111 (l:List Cl) (o:Own) (t:Ty):PCall Tryz.prog 64 [.slice o (rws eC l),.int .u8 t.val] (.bool (storedN l.length t)):=by
 refine F64.pcall' rfl fun T hT=> ?_
 simp -implicitDefEqProofs only[go_sem,c64,hT]
 refine za3 (refValid87 l o t) ?_
 cases hv:validN l.length t
 ·simp -implicitDefEqProofs only[go_sem,hT]
  exact zf3 (by simp[storedN,hv])
 ·by_cases h1:(t.val:Int)=0
  ·simp -implicitDefEqProofs only[go_sem,hT,h1]
   exact zf3 (by rw[Bool.eq_iff_iff]; simp[storedN,hv]; omega)
  ·simp -implicitDefEqProofs only[go_sem,hT,h1]
   exact zf3 (by rw[Bool.eq_iff_iff]; simp[storedN,hv]; omega)
def idxFrom {α:Type} (p:α→Bool):List α→Nat→Int
 |[],_=> -1
 |x::xs,i=>if p x then(i:Int) else idxFrom p xs (i+1)
def idxOf {α:Type} (p:α→Bool) (xs:List α):Int:=idxFrom p xs 0
theorem idxFrom_drop {α:Type} {p:α→Bool} {xs:List α} {i:Nat} (h:i<xs.length):idxFrom p (xs.drop i) i=if p xs[i] then(i:Int) else idxFrom p (xs.drop (i+1)) (i+1):=by
 rw[List.drop_eq_getElem_cons h]; rfl
theorem idxFrom_ge {α:Type} {p:α→Bool}:∀{xs:List α} {i:Nat},(0≤idxFrom p xs i)=(xs.any p=true)
 |[],i=>by simp[idxFrom]
 |x::xs,i=>by
  unfold idxFrom
  cases h:p x
  ·simp[h,idxFrom_ge (xs:=xs)]
  ·simp[h]
def Tests {α:Type} (g:FuncId) (fi ca:List D) (one:α→D) (p:α→Bool) (xs:List α) (σ:St):Prop:=
 ∀x∈xs,RCall Tryz.prog g (fi++[one x]++ca) σ fun d s'=>d= .bool (p x)∧s'=σ
theorem idxFunc106 (xs:List Ty) (o:Own) (g:FuncId) (fi ca:List D) (p:Ty→Bool) (σ:St) (hl:xs.length≤140737488355328) (hp:Tests g fi ca (fun t:Ty=>D.int .u8 t.val) p xs σ):
  RCall Tryz.prog 114 [.slice o (rws eT xs),.func (.func g) fi ca] σ fun d s'=>d= .int .i64 (idxOf p xs)∧s'=σ:=by
 refine F114.rcall rfl fun T hT=> ?_
 simp -implicitDefEqProofs only[go_sem,c114,hT]
 refine loopL F114 (fun i:Nat=>[(0,.slice o (rws eT xs)),(1,.func (.func g) fi ca),(7,.int .i64 xs.length),(8,.int .i64 i)]) (fun _=>σ) (fun i=>i≤xs.length∧idxFrom p xs 0=idxFrom p (xs.drop i) i) (fun i=>xs.length-i) 0
  ⟨Nat.zero_le _,rfl⟩ ?_ (St.le.refl _) ?_
 ·simp -implicitDefEqProofs only[go_sem,hT,Int.ofNat_zero]
 rintro i ⟨hi,heq⟩ T hT
 simp -implicitDefEqProofs only[go_sem,hT]
 refine br_split (fun h=> ?_) fun h=> ?_
 ·have h:i<xs.length:=by simpa using h
  simp -implicitDefEqProofs only[go_sem,hT,rws_at h,eT_len,eT]
  refine⟨⟨by omega,by omega⟩, ?_⟩
  refine callB_all (hp xs[i] (by simp)) ?_
  rintro d s' ⟨rfl,rfl⟩
  rw[idxFrom_drop h] at heq
  simp -implicitDefEqProofs only[go_sem,hT]
  refine br_split (fun h'=> ?_) fun h'=> ?_
  ·exact⟨_,_,DLe.refl _,St.le.refl _,by simp[idxOf,heq,h'],rfl⟩
  ·refine⟨i+1,⟨by omega,by simpa[h'] using heq⟩,by omega, ?_,St.le.refl _⟩
   rw[zb7 (by omega) (by omega)]
   simp
 ·have h:¬i<xs.length:=by simpa using h
  refine⟨_,_,DLe.refl _,St.le.refl _, ?_,rfl⟩
  rw[idxOf,heq,List.drop_of_length_le (by omega)]
  rfl
theorem contFunc67 (xs:List Ty) (o:Own) (g:FuncId) (fi ca:List D) (p:Ty→Bool) (σ:St) (hl:xs.length≤140737488355328) (hp:Tests g fi ca (fun t:Ty=>D.int .u8 t.val) p xs σ):
  RCall Tryz.prog 84 [.slice o (rws eT xs),.func (.func g) fi ca] σ fun d s'=>d= .bool (xs.any p)∧s'=σ:=by
 refine F84.rcall rfl fun T hT=> ?_
 simp -implicitDefEqProofs only[go_sem,c84,hT]
 refine callB_all (idxFunc106 xs o g fi ca p σ hl hp) ?_
 rintro d s' ⟨rfl,rfl⟩
 simp -implicitDefEqProofs only[go_sem,hT,idxOf,idxFrom_ge]
 exact⟨_,_,DLe.refl _,St.le.refl _,by rw[D.bool.injEq,Bool.eq_iff_iff]; simp,rfl⟩
open Go.Proofs
def upL (l:List Cl) (c:Nat):List Nat:=
 match l[c]? with
 |some x=>c::(if h:0≤x.parent∧x.parent<c then upL l x.parent.toNat else [])
 |none=>[]
termination_by c
decreasing_by omega
def upI (l:List Cl) (c:Int):List Nat:=if 0≤c then upL l c.toNat else []
theorem upI_step {l:List Cl} {c:Nat} (h:c<l.length):upI l c=c::(if l[c].parent<c then upI l l[c].parent else []):=by
 rw[upI,if_pos (by omega),upL]
 simp only[Int.toNat_natCast,List.getElem?_eq_getElem h]
 unfold upI
 by_cases h1:0≤l[c].parent <;> by_cases h2:l[c].parent<(c:Int) <;> simp[h1,h2]
theorem upI_neg {l:List Cl} {c:Int} (h:c<0):upI l c=[]:=by rw[upI,if_neg (by omega)]
theorem upI_out {l:List Cl} {c:Int} (h:(l.length:Int)≤c):upI l c=[]:=by
 rw[upI,if_pos (by omega),upL,List.getElem?_eq_none (by omega)]
def Runs {α:Type} (Step:α→Nat→Bool→α→Prop):List Nat→α→α→Prop
 |[],a,a'=>a'=a
 |c::cs,a,a''=>∃b a',Step a c b a'∧if b=true then Runs Step cs a' a'' else a''=a'
open Go.Proofs
def byteI (s:ByteArray) (i:Nat):Int:=((s.data.toList[i]?.getD 0).toNat:Int)
theorem byteI_eq (s:ByteArray) (i:Nat):(((s.data.toList[i]?.getD 0).toNat:Nat):Int)=byteI s i:=rfl
def letterI (c:Int):Bool:=decide (97≤c∧c≤122∨65≤c∧c≤90)
def nameByte (s:ByteArray) (i:Nat):Bool:=letterI (byteI s i)||decide (0<i∧(48≤byteI s i∧byteI s i≤57∨byteI s i=95))
def isNameB (s:ByteArray):Bool:=decide (0<s.size∧s.size≤24∧∀i<s.size,nameByte s i=true)
theorem isName99 (s:ByteArray):PCall Tryz.prog 108 [.str s] (.bool (isNameB s)):=by
 refine F108.pcall' rfl fun T hT=> ?_
 by_cases h0:(s.size:Int)=0
 ·simp -implicitDefEqProofs only[go_sem,c108,hT,h0]
  exact zf3 (by rw[Bool.eq_iff_iff]; simp[isNameB]; omega)
 by_cases h1:(24:Int)<s.size
 ·simp -implicitDefEqProofs only[go_sem,c108,hT,h0,h1]
  exact zf3 (by rw[Bool.eq_iff_iff]; simp[isNameB]; omega)
 simp -implicitDefEqProofs only[go_sem,c108,hT,h0,h1]
 refine loopL F108 (fun i:Nat=>[(0,.str s),(14,.int .i64 s.size),(15,.int .i64 i)]) (fun _=>{}) (fun i=>i≤s.size∧∀j<i,nameByte s j=true) (fun i=>s.size-i) 0
  ⟨Nat.zero_le _,by simp⟩ ?_ (St.le.refl _) ?_
 ·simp -implicitDefEqProofs only[go_sem,hT,Int.ofNat_zero]
 rintro i ⟨hi,hok⟩ T hT
 by_cases h:i<s.size
 ·have h2:((i:Int)<s.size)=True:=by simp; omega
  have good:nameByte s i=true→∃y:Nat,(y≤s.size∧∀j<y,nameByte s j=true)∧s.size-y<s.size-i∧D.int .i64 (IntKind.wrap .i64 ((i:Int)+1))=D.int .i64 (y:Int)∧({}:St).le {}:=fun g=>
   ⟨i+1,⟨by omega,fun j hj=>by
    rcases Nat.lt_or_eq_of_le (Nat.le_of_lt_succ hj) with hj|rfl
    ·exact hok j hj
    ·exact g⟩,by omega,by rw[zb7 (by omega) (by omega)]; simp,St.le.refl _⟩
  have bad:nameByte s i=false→DLe (.bool false) (.bool (isNameB s)):=fun g=>zf3 (by
   cases hh:isNameB s with
   |false=>rfl
   |true=>rw[(of_decide_eq_true hh).2.2 i h] at g; cases g)
  simp -implicitDefEqProofs only[go_sem,mmB,hT,h2,byteI_eq]
  refine⟨by omega,br_split (fun h=>good ?_) fun h=>bad ?_⟩
  ·simp at h; simp[nameByte,letterI]; omega
  ·rw[←Bool.not_eq_true] at h ⊢; simp at h; simp[nameByte,letterI]; omega
 ·have h2:((i:Int)<s.size)=False:=by simp; omega
  simp -implicitDefEqProofs only[go_sem,hT,h2]
  refine zf3 ?_
  symm
  exact decide_eq_true ⟨by omega,by omega,fun j hj=>hok j (by omega)⟩
open Go.Proofs
theorem isName148 (s:ByteArray):PCall Tryz.prog 138 [.str s] (.bool (isNameB s)):=by
 refine F138.pcall' rfl fun T hT=> ?_
 by_cases h0:((s.size:Int)<1)
 ·simp -implicitDefEqProofs only[go_sem,mmB,c138,hT,h0]
  exact zf3 (by rw[Bool.eq_iff_iff]; simp[isNameB]; omega)
 by_cases h1:(24:Int)<s.size
 ·simp -implicitDefEqProofs only[go_sem,mmB,c138,hT,h0,h1]
  exact zf3 (by rw[Bool.eq_iff_iff]; simp[isNameB]; omega)
 simp -implicitDefEqProofs only[go_sem,mmB,c138,hT,h0,h1]
 refine loopL F138 (fun i:Nat=>[(0,.str s),(3,.int .i64 i)]) (fun _=>{}) (fun i=>i≤s.size∧∀j<i,nameByte s j=true) (fun i=>s.size-i) 0
  ⟨Nat.zero_le _,by simp⟩ ?_ (St.le.refl _) ?_
 ·simp -implicitDefEqProofs only[go_sem,hT,Int.ofNat_zero]
 rintro i ⟨hi,hok⟩ T hT
 by_cases h:i<s.size
 ·have h2:((i:Int)<s.size)=True:=by simp; omega
  have good:nameByte s i=true→∃y:Nat,(y≤s.size∧∀j<y,nameByte s j=true)∧s.size-y<s.size-i∧D.int .i64 (IntKind.wrap .i64 ((i:Int)+1))=D.int .i64 (y:Int)∧({}:St).le {}:=fun g=>
   ⟨i+1,⟨by omega,fun j hj=>by
    rcases Nat.lt_or_eq_of_le (Nat.le_of_lt_succ hj) with hj|rfl
    ·exact hok j hj
    ·exact g⟩,by omega,by rw[zb7 (by omega) (by omega)]; simp,St.le.refl _⟩
  have bad:nameByte s i=false→DLe (.bool false) (.bool (isNameB s)):=fun g=>zf3 (by
   cases hh:isNameB s with
   |false=>rfl
   |true=>rw[(of_decide_eq_true hh).2.2 i h] at g; cases g)
  simp -implicitDefEqProofs only[go_sem,mmB,hT,h2,byteI_eq]
  refine⟨by omega,br_split (fun h=>bad ?_) fun h=>good ?_⟩
  ·rw[←Bool.not_eq_true]; simp at h; simp[nameByte,letterI]; omega
  ·rw[←Bool.not_eq_true] at h; simp at h; simp[nameByte,letterI]; omega
 ·have h2:((i:Int)<s.size)=False:=by simp; omega
  simp -implicitDefEqProofs only[go_sem,mmB,hT,h2]
  refine zf3 ?_
  symm
  exact decide_eq_true ⟨by omega,by omega,fun j hj=>hok j (by omega)⟩
def wordsL:List ByteArray:=[⟨#[116,111,112]⟩,⟨#[105,110,116]⟩,⟨#[98,111,111,108]⟩,⟨#[110,117,108,108]⟩,⟨#[105,110,116,115]⟩,⟨#[97,110,121]⟩]
def wordOf (t:Nat):ByteArray:=(wordsL[t]?).getD ⟨#[]⟩
def hasN (l:List ByteArray) (x:ByteArray):Bool:=l.any fun y=>decide (y=x)
theorem hasN_mem {l:List ByteArray} {x:ByteArray}:(hasN l x=true)=(x∈l):=by simp[hasN]
theorem hasN_congr {a b:List ByteArray} (h:∀x,x∈a↔x∈b) (x:ByteArray):hasN a x=hasN b x:=by
 rw[Bool.eq_iff_iff,hasN_mem,hasN_mem]; exact h x
def isWordB (s:ByteArray):Bool:=hasN wordsL s
def eY (s:ByteArray):List D:=[.str s]
theorem word183 (t:Ty):PCall Tryz.prog 164 [.int .u8 t.val] (.str (wordOf t.val)):=by
 refine F164.pcall' rfl fun T hT=> ?_
 have six:t.val=0∨t.val=1∨t.val=2∨t.val=3∨t.val=4∨t.val=5∨6≤t.val:=by omega
 rcases six with h|h|h|h|h|h|h
 case inr.inr.inr.inr.inr.inr=>
  have h0:((t.val:Int)=0)=False:=by simp; omega
  have h1:((t.val:Int)=1)=False:=by simp; omega
  have h2:((t.val:Int)=2)=False:=by simp; omega
  have h3:((t.val:Int)=3)=False:=by simp; omega
  have h4:((t.val:Int)=4)=False:=by simp; omega
  have h5:((t.val:Int)=5)=False:=by simp; omega
  simp -implicitDefEqProofs only[go_sem,c164,hT,h0,h1,h2,h3,h4,h5]
  exact DLe.of_eq (by rw[wordOf,List.getElem?_eq_none (by simp[wordsL]; omega)]; rfl)
 all_goals
  rw[h]
  have h':=congrArg (Nat.cast (R:=Int)) h
  simp only[Int.ofNat_zero,Int.ofNat_one,Int.cast_ofNat_Int] at h'
  simp -implicitDefEqProofs only[go_sem,c164,hT,h']
  exact DLe.of_eq rfl
theorem isWord149 (s:ByteArray):PCall Tryz.prog 139 [.str s] (.bool (isWordB s)):=by
 refine F139.pcall' rfl fun T hT=> ?_
 simp -implicitDefEqProofs only[go_sem,c139,hT]
 refine loopL F139 (fun i:Nat=>[(0,.str s),(3,.int .u8 i)]) (fun _=>{}) (fun i=>i≤6∧∀j<i,wordOf j≠s) (fun i=>6-i) 0
  ⟨Nat.zero_le _,by simp⟩ ?_ (St.le.refl _) ?_
 ·simp -implicitDefEqProofs only[go_sem,hT,Int.ofNat_zero]
 rintro i ⟨hi,hok⟩ T hT
 have iff:(isWordB s=true)↔∃j<6,wordOf j=s:=by
  simp only[isWordB,hasN_mem]
  constructor
  ·intro h
   obtain⟨j,hj,he⟩:=List.getElem_of_mem h
   exact⟨j,hj,by rw[wordOf,List.getElem?_eq_getElem hj]; exact he⟩
  ·rintro⟨j,hj,rfl⟩
   rw[wordOf,List.getElem?_eq_getElem (show j<wordsL.length from hj)]
   exact List.getElem_mem _
 by_cases h:i<6
 ·have h2:((i:Int)≤5)=True:=by simp; omega
  simp -implicitDefEqProofs only[go_sem,hT,h2]
  refine za3 (word183 ⟨i,by omega⟩) ?_
  simp -implicitDefEqProofs only[go_sem,hT,h2]
  refine br_split (fun h'=>zf3 ?_) fun h'=> ?_
  ·symm; rw[iff]; exact⟨i,h,of_decide_eq_true h'⟩
  ·refine⟨i+1,⟨by omega,fun j hj=> ?_⟩,by omega, ?_,St.le.refl _⟩
   ·rcases Nat.lt_or_eq_of_le (Nat.le_of_lt_succ hj) with hj|rfl
    ·exact hok j hj
    ·simpa using h'
   ·rw[wrap_u8 (by omega) (by omega)]; simp
 ·have h2:((i:Int)≤5)=False:=by simp; omega
  simp -implicitDefEqProofs only[go_sem,hT,h2]
  refine zf3 ?_
  symm; rw[←Bool.not_eq_true,iff]
  rintro⟨j,hj,he⟩
  exact hok j (by omega) he
theorem words101:PCall Tryz.prog 110 [] (.slice .no (rws eY wordsL)):=by
 refine F110.pcall' rfl fun T hT=> ?_
 simp -implicitDefEqProofs only[go_sem,c110,hT,frz]
 exact DLe.slice _ _
theorem index142 (xs:List ByteArray) (o:Own) (s:ByteArray) (hl:xs.length≤140737488355328):PCall Tryz.prog 142 [.slice o (rws eY xs),.str s] (.int .i64 (idxOf (fun y=>decide (y=s)) xs)):=by
 refine F142.pcall' rfl fun T hT=> ?_
 simp -implicitDefEqProofs only[go_sem,c142,hT]
 refine loopL F142 (fun i:Nat=>[(0,.slice o (rws eY xs)),(1,.str s),(7,.int .i64 xs.length),(8,.int .i64 i)]) (fun _=>{}) (fun i=>i≤xs.length∧idxFrom (fun y=>decide (y=s)) xs 0=idxFrom (fun y=>decide (y=s)) (xs.drop i) i) (fun i=>xs.length-i) 0
  ⟨Nat.zero_le _,rfl⟩ ?_ (St.le.refl _) ?_
 ·simp -implicitDefEqProofs only[go_sem,hT,Int.ofNat_zero]
 rintro i ⟨hi,heq⟩ T hT
 simp -implicitDefEqProofs only[go_sem,hT]
 refine br_split (fun h=> ?_) fun h=> ?_
 ·have h:i<xs.length:=by simpa using h
  simp -implicitDefEqProofs only[go_sem,hT,rws_at h,eY]
  refine⟨⟨by omega,by omega⟩, ?_⟩
  rw[idxFrom_drop h] at heq
  refine br_split (fun h'=> ?_) fun h'=> ?_
  ·have h':xs[i]=s:=(of_decide_eq_true h').symm
   exact DLe.of_eq (by simp[idxOf,heq,h'])
  ·have h':¬xs[i]=s:=fun e=>by simp[e] at h'
   refine⟨i+1,⟨by omega,by simpa[h'] using heq⟩,by omega, ?_,St.le.refl _⟩
   rw[zb7 (by omega) (by omega)]
   simp
 ·have h:¬i<xs.length:=by simpa using h
  refine DLe.of_eq ?_
  rw[idxOf,heq,List.drop_of_length_le (by omega)]
  rfl
theorem contains100 (xs:List ByteArray) (o:Own) (s:ByteArray) (hl:xs.length≤140737488355328):PCall Tryz.prog 109 [.slice o (rws eY xs),.str s] (.bool (hasN xs s)):=by
 refine F109.pcall' rfl fun T hT=> ?_
 simp -implicitDefEqProofs only[go_sem,c109,hT]
 refine za3 (index142 xs o s hl) ?_
 simp -implicitDefEqProofs only[go_sem,hT]
 exact zf3 (by rw[Bool.eq_iff_iff,decide_eq_true_iff,idxOf,idxFrom_ge]; rfl)
theorem has150 (l:List Fd) (o:Own) (s:ByteArray) (hl:l.length≤140737488355328):PCall Tryz.prog 140 [.slice o (rws eF l),.str s] (.bool (hasN (l.map Fd.name) s)):=by
 refine F140.pcall' rfl fun T hT=> ?_
 simp -implicitDefEqProofs only[go_sem,c140,hT]
 refine loopL F140 (fun i:Nat=>[(0,.slice o (rws eF l)),(1,.str s),(5,.int .i64 i)]) (fun _=>{}) (fun i=>i≤l.length∧hasN (l.map Fd.name) s=hasN ((l.drop i).map Fd.name) s) (fun i=>l.length-i) 0
  ⟨Nat.zero_le _,rfl⟩ ?_ (St.le.refl _) ?_
 ·simp -implicitDefEqProofs only[go_sem,hT,Int.ofNat_zero]
 rintro i ⟨hi,heq⟩ T hT
 simp -implicitDefEqProofs only[go_sem,hT]
 refine br_split (fun h=> ?_) fun h=> ?_
 ·have h:i<l.length:=by simpa using h
  simp -implicitDefEqProofs only[go_sem,hT,rws_at h,eF_len,eF]
  refine⟨⟨by omega,by omega⟩, ?_⟩
  rw[List.drop_eq_getElem_cons h] at heq
  refine br_split (fun h'=> ?_) fun h'=> ?_
  ·have h':l[i].name=s:=of_decide_eq_true h'
   exact zf3 (by rw[heq]; simp only[hasN,List.map_cons,List.any_cons,h',decide_true,Bool.true_or])
  ·have h':¬l[i].name=s:=by simpa using h'
   refine⟨i+1,⟨by omega,by rw[heq]; simp only[hasN,List.map_cons,List.any_cons,h',decide_false,Bool.false_or]⟩,by omega, ?_,St.le.refl _⟩
   rw[zb7 (by omega) (by omega)]
   simp
 ·have h:¬i<l.length:=by simpa using h
  refine zf3 ?_
  rw[heq,List.drop_of_length_le (by omega)]
  rfl
open Go.Proofs
def lineF (l:List Cl):Nat→Int→List Nat
 |0,_=>[]
 |k+1,c=>if h:0≤c∧c.toNat<l.length then c.toNat::lineF l k l[c.toNat].parent else []
def lineR (l:List Cl) (c:Int):List Nat:=lineF l (l.length+1) c
def Falls (l:List Cl) (m:Nat):Prop:=∀i (h:i<l.length),i<m→l[i].parent<i
theorem lineF_up {l:List Cl} {m:Nat} (hf:Falls l m):∀(k:Nat) (c:Int),c<m→c<k→lineF l k c=upI l c
 |0,c,_,h=>by rw[upI_neg (by omega)]; rfl
 |k+1,c,hm,h=>by
  unfold lineF
  split
  ·rename_i hc
   obtain⟨n,rfl⟩:∃n:Nat,c=n:=⟨c.toNat,by omega⟩
   simp only[Int.toNat_natCast] at hc ⊢
   have:=hf n hc.2 (by omega)
   rw[upI_step hc.2,if_pos this,lineF_up hf k _ (by omega) (by omega)]
  ·rename_i hc
   by_cases h0:c<0
   ·rw[upI_neg h0]
   ·rw[upI_out (by omega)]
theorem lineR_up {l:List Cl} {m:Nat} (hf:Falls l m) (hm:m≤l.length+1) {c:Int} (h:c<m):lineR l c=upI l c:=
 lineF_up hf _ c h (by omega)
def fieldsAt (l:List Cl) (i:Nat):List Fd:=(l[i]?.map Cl.fields).getD []
def zf8 (l:List Cl) (L:List Nat):List Fd:=L.flatMap (fieldsAt l)
theorem fieldsOn_mem {l:List Cl} {L:List Nat} {f:Fd}:f∈zf8 l L.reverse↔f∈zf8 l L:=by
 simp[zf8]
theorem fieldsOn_len {l:List Cl} {L:List Nat}:(zf8 l L.reverse).length=(zf8 l L).length:=by
 simp only[zf8,List.length_flatMap,List.map_reverse,List.sum_reverse]
def fieldsErr (n:Nat) (ahead:List ByteArray):List ByteArray→List Fd→Nat
 |own,[]=>if 32<ahead.length+own.length then 4 else 0
 |own,f::r=>if isNameB f.name=false then 6 else if hasN ahead f.name||hasN own f.name then 20 else if storedN n f.ty=false then 22 else fieldsErr n ahead (own++[f.name]) r
theorem fieldsErr_congr {n:Nat} {a b:List ByteArray} (hm:∀x,x∈a↔x∈b) (hl:a.length=b.length):∀(own:List ByteArray) (r:List Fd),fieldsErr n a own r=fieldsErr n b own r
 |own,[]=>by simp only[fieldsErr,hl]
 |own,f::r=>by
  simp only[fieldsErr,hasN_congr hm,fieldsErr_congr hm hl]
theorem fieldsErr_len {n:Nat} {a:List ByteArray}:∀(own:List ByteArray) (r:List Fd),fieldsErr n a own r=0→a.length+own.length+r.length≤32
 |own,[],h=>by
  simp only[fieldsErr] at h
  split at h
  ·cases h
  ·simp; omega
 |own,f::r,h=>by
  simp only[fieldsErr] at h
  repeat' split at h
  all_goals first
   |cases h
   |(have:=fieldsErr_len _ _ h; simp at this ⊢; omega)
def namesUp (l:List Cl) (p:Int):List ByteArray:=(zf8 l (upI l p)).map Fd.name
def namesRef (l:List Cl) (p:Int):List ByteArray:=(zf8 l (lineR l p).reverse).map Fd.name
def classErr (isWord:ByteArray→Bool) (l:List Cl) (i:Nat) (x:Cl):Nat:=
 if 32≤i then 4 else if isNameB x.name=false∨isWord x.name=true then 6 else if(l.take i).any (fun y=>decide (y.name=x.name)) then 20
 else if x.parent < -1∨(i:Int)≤x.parent then 21 else fieldsErr l.length (namesUp l x.parent) [] x.fields
def Right (w:ByteArray→Bool) (l:List Cl) (m:Nat):Prop:=∀i (h:i<l.length),i<m→classErr w l i l[i]=0
theorem Right.at {w:ByteArray→Bool} {l:List Cl} {m i:Nat} (hr:Right w l m) (h:i<l.length) (him:i<m):i<32∧ -1≤l[i].parent∧l[i].parent<i∧(namesUp l l[i].parent).length+l[i].fields.length≤32:=by
 have:=hr i h him
 unfold classErr at this
 repeat' split at this
 all_goals first
  |cases this
  |skip
 have h2:=fieldsErr_len _ _ this
 simp at h2
 omega
theorem Right.falls {w:ByteArray→Bool} {l:List Cl} {m:Nat} (hr:Right w l m):Falls l m:=fun i h him=>(hr.at h him).2.2.1
theorem namesUp_len {w:ByteArray→Bool} {l:List Cl} {m:Nat} (hr:Right w l m) (c:Int) (h:c<m):(namesUp l c).length≤32:=by
 by_cases h0:c<0
 ·simp[namesUp,upI_neg h0,zf8]
 ·obtain⟨n,rfl⟩:∃n:Nat,c=n:=⟨c.toNat,by omega⟩
  by_cases hn:n<l.length
  ·have ⟨h1,h2,h3,h4⟩:=hr.at hn (by omega)
   rw[namesUp,upI_step hn,if_pos h3]
   simp only[namesUp,zf8,List.length_map,List.flatMap_cons,List.length_append] at h4 ⊢
   simp only[fieldsAt,List.getElem?_eq_getElem hn,Option.map_some,Option.getD_some] at h4 ⊢
   omega
  ·simp[namesUp,upI_out (show(l.length:Int)≤n by omega),zf8]
theorem namesRef_eq {w:ByteArray→Bool} {l:List Cl} {m:Nat} (hr:Right w l m) (hm:m≤l.length+1) {p:Int} (h:p<m) (own:List ByteArray) (r:List Fd):
  fieldsErr l.length (namesRef l p) own r=fieldsErr l.length (namesUp l p) own r:=by
 refine fieldsErr_congr ?_ ?_ own r
 ·intro x
  simp only[namesRef,namesUp,List.mem_map,fieldsOn_mem,lineR_up hr.falls hm h]
 ·simp only[namesRef,namesUp,List.length_map,fieldsOn_len,lineR_up hr.falls hm h]
def checkFrom (w:ByteArray→Bool) (l:List Cl):Nat→Nat→Nat×Nat
 |0,_=>(0,0)
 |k+1,i=>if h:i<l.length then(if classErr w l i l[i]=0 then checkFrom w l k (i+1) else(i,classErr w l i l[i])) else(0,0)
def checkL (w:ByteArray→Bool) (l:List Cl):Nat×Nat:=checkFrom w l l.length 0
open Go.Proofs
def toI (L:List Nat):List Int:=L.map fun n:Nat=>(n:Int)
theorem lineF_len {l:List Cl}:∀{k:Nat} {c:Int},(lineF l k c).length≤k
 |0,c=>by simp[lineF]
 |k+1,c=>by
  unfold lineF
  split
  ·simp; exact lineF_len
  ·simp
theorem line121 (l:List Cl) (o:Own) (c₀:Int) (hl:l.length*48≤140737488355328):PCall Tryz.prog 41 [.slice o (rws eC l),.int .i64 c₀] (.slice .no (rws eI (toI (lineR l c₀)))):=by
 refine F41.pcall' rfl fun T hT=> ?_
 simp -implicitDefEqProofs only[go_sem,mmB,c41,hT]
 refine loopL F41 (fun x:List Nat×Int×Option Nat=>[(0,.slice o (rws eC l)),(1,.int .i64 x.2.1),(5,grD 1 x.2.2 (rws eI (toI x.1)))]) (fun x=>grS 1 x.1.length x.2.2 {})
  (fun x=>(x.2.2=none→x.1.length=0)∧x.1.length≤l.length+1∧lineR l c₀=x.1++lineF l (l.length+1-x.1.length) x.2.1) (fun x=>l.length+1-x.1.length) ([],c₀,none)
  ⟨fun _=>rfl,by simp,by simp[lineR]⟩ ?_ (St.le.refl _) ?_
 ·simp -implicitDefEqProofs only[go_sem,mmB,hT]
  rfl
 rintro⟨out,c,ob⟩ ⟨hn,ho,heq⟩ T hT
 simp only at hn ho heq hT ⊢
 have hlen:(toI out).length=out.length:=by simp[toI]
 by_cases h:0≤c∧c<l.length∧out.length≤l.length
 ·obtain⟨n,rfl⟩:∃n:Nat,c=n:=⟨c.toNat,by omega⟩
  have h1:((0:Int)≤n)=True:=by simp
  have h2:((n:Int)<l.length)=True:=by simp; omega
  have h3:((out.length:Int)≤l.length)=True:=by simp; omega
  have hin:n<l.length:=by omega
  simp -implicitDefEqProofs only[go_sem,mmB,hT,h1,h2,hlen,h3,frz]
  refine app_gr' Tryz.sli57 Tryz.sz3 Tryz.by3 Tryz.zero3 rfl (n:=out.length) (m:=1) (by rw[za1,hlen]) rfl (St.le.refl _) grN_nil hn (by simp) (by omega) fun o' σ' hbox hle _ hno=> ?_
  simp -implicitDefEqProofs only[go_sem,mmB,hT,rws_at hin,eC,eC_len]
  refine⟨⟨by omega,by omega⟩,(out++[n],l[n].parent,o'),⟨by simpa using hno,by simp; omega, ?_⟩,by simp; omega,⟨rfl, ?_⟩,by simpa using hle⟩
  ·rw[heq,show l.length+1-out.length=(l.length+1-(out++[n]).length)+1 by simp; omega,lineF,dif_pos ⟨by omega,by simpa using hin⟩]
   simp
  ·simp[toI,rws,eI]
 ·have stop:lineF l (l.length+1-out.length) c=[]:=by
   cases hk:l.length+1-out.length with
   |zero=>rfl
   |succ k=>rw[lineF,dif_neg (by omega)]
  rw[stop,List.append_nil] at heq
  have fin:DLe (grD 1 ob (rws eI (toI out))) (.slice .no (rws eI (toI (lineR l c₀)))):=by rw[heq]; exact grD_le
  have hf:(decide (0≤c)&&decide (c<(l.length:Int))&&decide ((out.length:Int)≤l.length))=false:=by
   rw[Bool.eq_false_iff]; simp; omega
  simp -implicitDefEqProofs only[go_sem,mmB,hT,hlen,hf]
  exact fin
end Go.AL
