import Derived.Test.YtjffaachihpjbaaGreatFm
import Derived.Test.YtjffaachihpjbaaGreatFh
set_option linter.unusedSimpArgs false
set_option linter.unusedVariables false
set_option maxRecDepth 100000
set_option maxHeartbeats 4000000
set_option linter.defProp false
namespace Go.AL
open Go.Proofs
theorem stored_valid {n:Nat} {t:Ty} (h:storedN n t=true):validN n t=true:=by
 simp only[storedN,Bool.and_eq_true] at h; exact h.1
theorem ofClass_valid {n:Nat} {a:Int} (h0:0≤a) (h1:a<n) (h32:n≤32):validN n (ofClass a)=true:=by
 obtain⟨k,rfl⟩:∃k:Nat,a=k:=⟨a.toNat,by omega⟩
 rw[ofClass_eq rfl (by omega)]
 simp only[validN,decide_eq_true_eq]; omega
theorem flds_valid {e:En} {i:Ins} (hc:Can e) {f:Fd} (hf:f∈flds e i):validN e.cs.length f.ty=true:=by
 simp only[flds,zf8,List.mem_flatMap,List.mem_reverse] at hf
 obtain⟨k,hk,hf⟩:=hf
 have hlt:=upI_lt hk
 simp only[fieldsAt,List.getElem?_eq_getElem hlt,Option.map_some,Option.getD_some] at hf
 exact stored_valid (right_stored hc.right hlt hf)
theorem someR_mem {t x:Ty} (h:x∈someR t):x=t:=by
 unfold someR at h; split at h
 ·cases h
 ·simpa using h
theorem givesO_valid {e:En} {i:Ins} (hw:WideE e) (hcan:canB e=true) (h34:i.op.val<34) (ho:opndF e i=0) (h4:i.op.val≠4) (h7:i.op.val≠7) (h8:i.op.val≠8):∀t∈givesO e i i.op.val,validN e.cs.length t=true:=by
 have hc:=canB_can hw hcan
 have h32:=hc.cls
 have small:∀{l:List Ty},(∀t∈l,t.val≤5)→∀t∈l,validN e.cs.length t=true:=fun h t ht=>by simp[validN,h t ht]
 have hk34:i.op.val=0∨i.op.val=1∨i.op.val=2∨i.op.val=3∨i.op.val=5∨i.op.val=6∨i.op.val=9∨i.op.val=10∨i.op.val=11∨i.op.val=12∨i.op.val=13∨i.op.val=14∨i.op.val=15∨i.op.val=16∨i.op.val=17∨i.op.val=18∨i.op.val=19∨i.op.val=20∨i.op.val=21∨i.op.val=22∨i.op.val=23∨i.op.val=24∨i.op.val=25∨i.op.val=26∨i.op.val=27∨i.op.val=28∨i.op.val=29∨i.op.val=30∨i.op.val=31∨i.op.val=32∨i.op.val=33:=by omega
 have s1:∀t∈([1]:List Ty),validN e.cs.length t=true:=small (by simp)
 have s2:∀t∈([2]:List Ty),validN e.cs.length t=true:=small (by simp)
 have s3:∀t∈([3]:List Ty),validN e.cs.length t=true:=small (by simp; decide)
 have s4:∀t∈([4]:List Ty),validN e.cs.length t=true:=small (by simp; decide)
 have s0:∀t∈([]:List Ty),validN e.cs.length t=true:=fun t ht=>by cases ht
 have cl:(i.op.val=23∨i.op.val=30)→∀t∈[ofClass i.a],validN e.cs.length t=true:=fun h t ht=>by
  obtain⟨q1,q2⟩:=opnd_cls ho (by omega)
  rw[List.mem_singleton.1 ht]; exact ofClass_valid q1 q2 h32
 rcases hk34 with h|h|h|h|h|h|h|h|h|h|h|h|h|h|h|h|h|h|h|h|h|h|h|h|h|h|h|h|h|h|h <;> rw[h] <;> first
  |exact s0
  |exact s1
  |exact s2
  |exact s3
  |exact s4
  |exact cl (.inl h)
  |exact cl (.inr h)
  |skip
 ·intro t ht
  rw[show givesO e i 21=((e.sgs[i.a.toNat]?).map fun s=>someR s.r).getD [] from rfl] at ht
  cases hk:e.sgs[i.a.toNat]? with
  |none=>rw[hk] at ht; cases ht
  |some s=>
   rw[hk] at ht
   have hx:=someR_mem (by simpa using ht)
   subst hx
   rcases(canB_sig hcan (List.mem_of_getElem? hk)).2 with h0|h0
   ·simp[validN,h0]
   ·exact stored_valid h0
 ·intro t ht
  rw[show givesO e i 24=(((flds e i)[i.b.toNat]?).map fun f=>someR f.ty).getD [] from rfl] at ht
  cases hk:(flds e i)[i.b.toNat]? with
  |none=>rw[hk] at ht; cases ht
  |some s=>
   rw[hk] at ht
   have hx:=someR_mem (by simpa using ht)
   subst hx
   exact flds_valid hc (List.mem_of_getElem? hk)
theorem hadL_head {f:Fr} {n:Nat} (h:0<n):(hadL f n).headD 0=slAt f (f.loc+f.h-n).toNat:=by
 rw[show(hadL f n).headD 0=((hadL f n)[0]?).getD 0 by cases hadL f n <;> rfl,hadL_at h]; rfl
structure Behind (i:Ins) (f:Fr) (n:Nat) (gs:List Ty) (had0:Ty) (R:Fr):Prop where
 loc:R.loc=f.loc
 h:R.h=f.h-n+gs.length
 bare:bareF R=R
 sl:∀k:Nat,k<24→slAt R k=if(k:Int)<f.loc+f.h-n then(if i.op.val=5∧k=i.a.toNat then had0 else slAt f k) else(gs[k-(f.loc+f.h-n).toNat]?).getD 0
theorem behind_get (i:Ins) (f:Fr) (had gs:List Ty) (hs:shapedB f=true) (hb:bareF f=f) (hn:(had.length:Int)≤f.h) (h5:i.op.val=5→0≤i.a∧i.a<f.loc):
  behindF i f had gs=(if i.op.val=22∧0<f.h-had.length then(fr0 0,73) else if f.loc+f.h-had.length+gs.length≤24 then((behindF i f had gs).1,0) else(fr0 0,31))∧
   (¬(i.op.val=22∧0<f.h-had.length)→f.loc+f.h-had.length+gs.length≤24→Behind i f had.length gs (had.headD 0) (behindF i f had gs).1):=by
 obtain⟨s1,s2,s3,s4⟩:=shaped_of hs
 have hB:behindF i f had gs=if i.op.val=22∧0<f.h-had.length then(fr0 0,73) else pushAll gs (if i.op.val=5 then setF (bareF (popN had.length f)) i.a (had.headD 0) else popN had.length f):=by
  rw[behindF,popN_h]
 have hps:=popN_shape hs hn
 have hpb:=popN_bare hb had.length
 have hpl:(popN had.length f).loc=f.loc:=popN_loc
 have hph:(popN had.length f).h=f.h-had.length:=popN_h
 have hpg:∀{k:Nat},k<24→slAt (popN had.length f) k=_:=fun {k} h=>slAt_popN f hb had.length h
 generalize popN had.length f=p at *
 obtain⟨q,hq,q1,q2,q3,q4,q5⟩:∃q,(if i.op.val=5 then setF (bareF p) i.a (had.headD 0) else p)=q∧shapedB q=true∧bareF q=q∧q.loc=f.loc∧q.h=f.h-had.length∧
   ∀k:Nat,k<24→(k:Int)<f.loc+f.h-had.length→slAt q k=if i.op.val=5∧k=i.a.toNat then had.headD 0 else slAt f k:=by
  by_cases o5:i.op.val=5
  ·obtain⟨h6,h7⟩:=h5 o5
   rw[if_pos o5]
   have hsl:∀k,k<24→slAt (setF (bareF p) i.a (had.headD 0)) k=if k=i.a.toNat then had.headD 0 else slAt p k:=fun k hk=>by rw[slAt_set _ hk (by omega),hpb]
   refine⟨_,rfl,by rw[setF_shape,bare_shape]; exact hps,bare_iff.2 fun k hk hle=> ?_,by rw[setF_loc,bare_loc,hpl],by rw[setF_h,bare_h,hph],fun k hk hlt=> ?_⟩
   ·rw[setF_loc,setF_h,bare_loc,bare_h,hpl,hph] at hle
    rw[hsl k hk,if_neg (by omega),hpg hk,if_neg (by omega)]
   ·rw[hsl k hk,hpg hk,if_pos hlt]
    simp only[o5,true_and]
  ·rw[if_neg o5]
   refine⟨_,rfl,hps,hpb,hpl,hph,fun k hk hlt=> ?_⟩
   rw[hpg hk,if_pos hlt,if_neg (fun h=>o5 h.1)]
 rw[hq] at hB
 have hpa:=push_all gs q q1 q2
 have hpg2:=push_get gs q q1 q2
 rw[q3,q4] at hpa hpg2
 by_cases h22:i.op.val=22∧0<f.h-had.length
 ·rw[if_pos h22] at hB ⊢
  exact⟨hB,fun h=>absurd h22 h⟩
 rw[if_neg h22] at hB ⊢
 rw[hB]
 by_cases h24:f.loc+f.h-had.length+gs.length≤24
 ·rw[if_pos h24]
  rw[if_pos (by omega)] at hpa
  obtain⟨p1,p2,p3,p4⟩:=hpg2 (by omega)
  refine⟨hpa,fun _ _=>⟨p1,p2,p3,fun k hk=> ?_⟩⟩
  rw[p4 k hk]
  by_cases hlt:(k:Int)<f.loc+f.h-had.length
  ·rw[if_pos (by omega),if_pos hlt,q5 k hk hlt]
  ·rw[if_neg (by omega),if_neg hlt,show(f.loc+(f.h-had.length)).toNat=(f.loc+f.h-had.length).toNat by omega]
 ·rw[if_neg h24]
  rw[if_neg (by omega)] at hpa
  exact⟨hpa,fun _ h=>absurd h h24⟩
structure Done (e:En) (f:Fr) (i:Ins):Prop where
 can:canB e=true
 chk:checkF e.cs.length f=0
 op:i.op.val<34
 loc:i.op.val=4∨i.op.val=5→0≤i.a∧i.a<f.loc
 opnd:opndF e i=0
 under:((zg0 e i i.op.val).length:Int)≤f.h
 want:wantedAll e.cs (zg0 e i i.op.val) (hadL f (zg0 e i i.op.val).length)=true
 same:i.op.val=16→sameB (hadL f 2)=true
 known:i.op.val=4→slAt f i.a.toNat≠0
 ret:¬(i.op.val=22∧0<f.h-(zg0 e i i.op.val).length)
 over:f.loc+f.h-(zg0 e i i.op.val).length+(givesR e f i (hadL f (zg0 e i i.op.val).length)).length≤24
theorem done_iff {e:En} {f:Fr} {i:Ins}:(applyR e f i).2=0↔Done e f i:=by
 have lo:∀{P:Prop},(locOp i∧¬P)↔¬(i.op.val=4∨i.op.val=5→P):=fun {P}=>by unfold locOp; constructor <;> intro h <;> simp_all
 unfold applyR
 cases hcan:canB e
 ·simp only[if_true]; exact⟨fun h=>by simp at h,fun h=>by rw[h.can] at hcan; cases hcan⟩
 simp only[Bool.true_eq_false,if_false]
 by_cases hck:checkF e.cs.length f=0
 case neg=>rw[if_pos hck]; exact⟨fun h=>absurd h hck,fun h=>absurd h.chk hck⟩
 rw[if_neg (by simpa using hck)]
 by_cases h34:34≤i.op.val
 ·rw[if_pos h34]; exact⟨fun h=>by simp at h,fun h=>by have:=h.op; omega⟩
 rw[if_neg h34]
 by_cases hl:locOp i∧¬(0≤i.a∧i.a<f.loc)
 ·rw[if_pos hl]; exact⟨fun h=>by simp at h,fun h=>absurd h.loc (lo.1 hl)⟩
 rw[if_neg hl]
 have hl':i.op.val=4∨i.op.val=5→0≤i.a∧i.a<f.loc:=Classical.byContradiction fun h=>hl (lo.2 h)
 by_cases h0:opndF e i=0
 case neg=>rw[if_pos h0]; exact⟨fun h=>absurd h h0,fun h=>absurd h.opnd h0⟩
 rw[if_neg (by simpa using h0)]
 unfold applyIn
 by_cases hh:f.h<(zg0 e i i.op.val).length
 ·rw[if_pos hh]; exact⟨fun h=>by simp at h,fun h=>by have:=h.under; omega⟩
 rw[if_neg hh]
 by_cases hw:wantedAll e.cs (zg0 e i i.op.val) (hadL f (zg0 e i i.op.val).length)=true
 case neg=>rw[if_pos (by simpa using hw)]; exact⟨fun h=>by simp at h,fun h=>absurd h.want hw⟩
 rw[if_neg (by simp[hw])]
 by_cases h16:i.op.val=16∧sameB (hadL f 2)=false
 ·rw[if_pos h16]; exact⟨fun h=>by simp at h,fun h=>by have:=h.same h16.1; rw[h16.2] at this; cases this⟩
 rw[if_neg h16]
 have h16':i.op.val=16→sameB (hadL f 2)=true:=fun h=>by
  cases hs:sameB (hadL f 2)
  ·exact absurd ⟨h,hs⟩ h16
  ·rfl
 by_cases h4:i.op.val=4∧slAt f i.a.toNat=0
 ·rw[if_pos h4]; exact⟨fun h=>by simp at h,fun h=>absurd h4.2 (h.known h4.1)⟩
 rw[if_neg h4]
 have hbg:=behind_get i f (hadL f (zg0 e i i.op.val).length) (givesR e f i (hadL f (zg0 e i i.op.val).length)) (checkF_shape hck) (checkF_bare hck) (by rw[hadL_len]; omega) (fun h=>hl' (.inr h))
 rw[hadL_len] at hbg
 rw[hbg.1]
 by_cases h22:i.op.val=22∧0<f.h-(zg0 e i i.op.val).length
 ·rw[if_pos h22]; exact⟨fun h=>by simp at h,fun h=>absurd h22 h.ret⟩
 rw[if_neg h22]
 by_cases h24:f.loc+f.h-(zg0 e i i.op.val).length+(givesR e f i (hadL f (zg0 e i i.op.val).length)).length≤24
 ·rw[if_pos h24]
  exact⟨fun _=>⟨hcan,hck,by omega,hl',h0,by omega,hw,h16',fun h hz=>h4 ⟨h,hz⟩,h22,h24⟩,fun _=>rfl⟩
 ·rw[if_neg h24]; exact⟨fun h=>by simp at h,fun h=>absurd h.over h24⟩
theorem done_eq {e:En} {f:Fr} {i:Ins} (h:Done e f i):applyR e f i=behindF i f (hadL f (zg0 e i i.op.val).length) (givesR e f i (hadL f (zg0 e i i.op.val).length)):=by
 have lo:¬(locOp i∧¬(0≤i.a∧i.a<f.loc)):=fun hl=>hl.2 (h.loc hl.1)
 have n1:¬canB e=false:=by rw[h.can]; simp
 have n2:¬checkF e.cs.length f≠0:=fun hh=>hh h.chk
 have n3:¬34≤i.op.val:=by have:=h.op; omega
 have n4:¬opndF e i≠0:=fun hh=>hh h.opnd
 have n5:¬f.h<(zg0 e i i.op.val).length:=by have:=h.under; omega
 have n6:¬wantedAll e.cs (zg0 e i i.op.val) (hadL f (zg0 e i i.op.val).length)=false:=by rw[h.want]; simp
 have n7:¬(i.op.val=16∧sameB (hadL f 2)=false):=fun hh=>by have:=h.same hh.1; rw[hh.2] at this; cases this
 have n8:¬(i.op.val=4∧slAt f i.a.toNat=0):=fun hh=>h.known hh.1 hh.2
 rw[applyR,if_neg n1,if_neg n2,if_neg n3,if_neg lo,if_neg n4,applyIn,if_neg n5,if_neg n6,if_neg n7,if_neg n8]
theorem done_behind {e:En} {f:Fr} {i:Ins} (h:Done e f i):Behind i f (zg0 e i i.op.val).length (givesR e f i (hadL f (zg0 e i i.op.val).length)) ((hadL f (zg0 e i i.op.val).length).headD 0) (applyR e f i).1:=by
 rw[done_eq h]
 have hbg:=behind_get i f (hadL f (zg0 e i i.op.val).length) (givesR e f i (hadL f (zg0 e i i.op.val).length)) (checkF_shape h.chk) (checkF_bare h.chk) (by rw[hadL_len]; exact h.under) (fun h5=>h.loc (.inr h5))
 rw[hadL_len] at hbg
 exact hbg.2 h.ret h.over
theorem givesR_valid {e:En} {f:Fr} {i:Ins} (hw:WideE e) (h:Done e f i):∀t∈givesR e f i (hadL f (zg0 e i i.op.val).length),validN e.cs.length t=true:=by
 obtain⟨hs,hb,hv⟩:=checkF_iff.1 h.chk
 obtain⟨s1,s2,s3,s4⟩:=shaped_of hs
 have hun:=h.under
 have h0:validN e.cs.length 0=true:=by simp[validN]
 have hh:∀k,validN e.cs.length (((hadL f (zg0 e i i.op.val).length)[k]?).getD 0)=true:=fun k=>by
  by_cases hk:k<(zg0 e i i.op.val).length
  ·rw[hadL_at hk]; exact hv _ (by omega)
  ·rw[List.getElem?_eq_none (by rw[hadL_len]; omega)]; exact h0
 have hd:validN e.cs.length ((hadL f (zg0 e i i.op.val).length).headD 0)=true:=by
  have:=hh 0
  rwa[show((hadL f (zg0 e i i.op.val).length)[0]?).getD 0=(hadL f (zg0 e i i.op.val).length).headD 0 by cases hadL f (zg0 e i i.op.val).length <;> rfl] at this
 intro t ht
 unfold givesR at ht
 split at ht
 ·rename_i h4
  rw[List.mem_singleton.1 ht]
  have:=h.loc (.inl h4)
  exact hv _ (by omega)
 split at ht
 ·simp only[List.mem_cons,List.not_mem_nil,or_false,or_self] at ht; rw[ht]; exact hd
 split at ht
 ·simp only[List.mem_cons,List.not_mem_nil,or_false] at ht
  rcases ht with rfl|rfl
  ·exact hh 1
  ·exact hd
 rename_i n4 n7 n8
 exact givesO_valid hw h.can h.op h.opnd n4 n7 n8 t ht
theorem done_check {e:En} {f:Fr} {i:Ins} (hw:WideE e) (h:Done e f i):checkF e.cs.length (applyR e f i).1=0:=by
 have hb:=done_behind h
 obtain⟨hs,hbf,hv⟩:=checkF_iff.1 h.chk
 obtain⟨s1,s2,s3,s4⟩:=shaped_of hs
 have hun:=h.under
 have hov:=h.over
 have h0:validN e.cs.length 0=true:=by simp[validN]
 refine checkF_iff.2 ⟨?_,hb.bare,fun k hk=> ?_⟩
 ·simp only[shapedB,decide_eq_true_eq,hb.loc,hb.h]; omega
 ·rw[hb.sl k hk]
  split
  ·split
   ·rename_i h5
    by_cases hn:0<(zg0 e i i.op.val).length
    ·rw[hadL_head hn]; exact hv _ (by omega)
    ·rw[show hadL f (zg0 e i i.op.val).length=[] from List.eq_nil_of_length_eq_zero (by rw[hadL_len]; omega)]; exact h0
   ·exact hv k hk
  ·cases hg:(givesR e f i (hadL f (zg0 e i i.op.val).length))[k-(f.loc+f.h-(zg0 e i i.op.val).length).toNat]? with
   |none=>exact h0
   |some t=>exact givesR_valid hw h t (List.mem_of_getElem? hg)
open Go.Proofs
structure SubF (l:List Cl) (a b:Fr):Prop where
 ca:checkF l.length a=0
 cb:checkF l.length b=0
 loc:a.loc=b.loc
 h:a.h=b.h
 sl:∀i,i<24→subB l (slAt a i) (slAt b i)=true
open Go.Proofs
def c27:CT (Tryz.f27.body.getD .skip):=⟨_,by conv=>lhs; cbv⟩
theorem F27:Fun1 Tryz.prog 27 13 c27.1 [.tmp 2]:=mkT Tryz.func27 rfl (by decide +kernel) Tryz.ntmps27 rfl c27.2 rfl
def c47:CT (Tryz.f47.body.getD .skip):=⟨_,by conv=>lhs; cbv⟩
theorem F47:Fun1 Tryz.prog 47 13 c47.1 [.tmp 2]:=mkT Tryz.func47 rfl (by decide +kernel) Tryz.ntmps47 rfl c47.2 rfl
open Go.Proofs
def endsB (op:Nat):Bool:=decide (op=19∨op=22∨op=32)
theorem refEnds41 (t:Ty):PCall Tryz.prog 27 [.int .u8 t.val] (.bool (endsB t.val)):=by
 refine F27.pcall' rfl fun T hT=> ?_
 simp -implicitDefEqProofs only[go_sem,mmB,c27,hT]
 exact zf3 (by rw[Bool.eq_iff_iff]; simp[endsB]; omega)
theorem ends88 (t:Ty):PCall Tryz.prog 47 [.int .u8 t.val] (.bool (endsB t.val)):=by
 refine F47.pcall' rfl fun T hT=> ?_
 simp -implicitDefEqProofs only[go_sem,mmB,c47,hT]
 exact zf3 (by rw[Bool.eq_iff_iff]; simp[endsB]; omega)
open Go.Proofs
theorem eIn_1 (i:Ins):(eIn i)[1]? =some (.int .u8 i.op.val):=rfl
open Go.Proofs
theorem in_0 (i:Ins):(eIn i)[0]? =some (.int .i64 i.pos):=rfl
theorem in_1 (i:Ins):(eIn i)[1]? =some (.int .u8 i.op.val):=rfl
theorem in_2 (i:Ins):(eIn i)[2]? =some (.int .i64 i.a):=rfl
open Go.Proofs
def c156:CT (Tryz.f156.body.getD .skip):=⟨_,by conv=>lhs; cbv⟩
theorem F156:Fun1 Tryz.prog 156 33 c156.1 [.tmp 6]:=mkT Tryz.func156 rfl (by decide +kernel) Tryz.ntmps156 rfl c156.2 rfl
def c44:CT (Tryz.f44.body.getD .skip):=⟨_,by conv=>lhs; cbv⟩
theorem F44:Fun1 Tryz.prog 44 84 c44.1 [.cell 4 67,.tmp 5]:=mkT Tryz.func44 rfl (by decide +kernel) Tryz.ntmps44 rfl c44.2 rfl
def c70:CT (Tryz.f70.body.getD .skip):=⟨_,by conv=>lhs; cbv⟩
theorem F70:Fun1 Tryz.prog 70 30 c70.1 [.tmp 3]:=mkT Tryz.func70 rfl (by decide +kernel) Tryz.ntmps70 rfl c70.2 rfl
def c45:CT (Tryz.f45.body.getD .skip):=⟨_,by conv=>lhs; cbv⟩
theorem F45:Fun1 Tryz.prog 45 9 c45.1 [.tmp 2]:=mkT Tryz.func45 rfl (by decide +kernel) Tryz.ntmps45 rfl c45.2 rfl
def c24:CT (Tryz.f24.body.getD .skip):=⟨_,by conv=>lhs; cbv⟩
theorem F24:Fun1 Tryz.prog 24 73 c24.1 [.cell 4 67,.tmp 5]:=mkT Tryz.func24 rfl (by decide +kernel) Tryz.ntmps24 rfl c24.2 rfl
def c55:CT (Tryz.f55.body.getD .skip):=⟨_,by conv=>lhs; cbv⟩
theorem F55:Fun1 Tryz.prog 55 29 c55.1 [.tmp 4]:=mkT Tryz.func55 rfl (by decide +kernel) Tryz.ntmps55 rfl c55.2 rfl
def c26:CT (Tryz.f26.body.getD .skip):=⟨_,by conv=>lhs; cbv⟩
theorem F26:Fun1 Tryz.prog 26 9 c26.1 [.tmp 2]:=mkT Tryz.func26 rfl (by decide +kernel) Tryz.ntmps26 rfl c26.2 rfl
open Go.Proofs
open Go.Proofs
open Go.Proofs
open Go.Proofs
open Go.Proofs
def c157:AC:=
.seq (rg [oO 3 (.box 22 (tT 0)),oO 6 (.assign (kB 0))])
 (.seq (.block 0 (.seq (rg [oO 11 (.load 22 (tT 3)),oO 12 (.move (tT 1)),oO 13 (cF (.func 86) #[tT 11,tT 12] #[22,35]),oO 14 (.unOp .not 4 (tT 13)),oO 15 (.move (tT 14)),oG 16 (.load 22 (tT 3)) 15 false,oG 17 (.move (tT 2)) 15 false,oG 18 (cF (.func 86) #[tT 16,tT 17] #[22,35]) 15 false,oG 19 (.unOp .not 4 (tT 18)) 15 false,oO 20 (.pick (tT 15) (.const (.bool true)) (tT 19)),oO 10 (.assign (tT 20))])
 (.cond (tT 10) (.seq (rg [oO 6 (.assign (kB 0))])
 (.ret))
 (.seq (rg [oO 22 (.load 22 (tT 3)),oO 23 (.move (tT 1)),oO 24 (.move (tT 2)),oO 25 (cF (.func 177) #[tT 22,tT 23,tT 24] #[22,35,35]),oO 21 (.assign (tT 25))])
 (.cond (tT 21) (.seq (rg [oO 26 (.move (tT 2)),oO 6 (.assign (tT 26))])
 (.ret))
 (.seq (rg [oO 28 (.load 22 (tT 3)),oO 29 (.move (tT 2)),oO 30 (.move (tT 1)),oO 31 (cF (.func 177) #[tT 28,tT 29,tT 30] #[22,35,35]),oO 27 (.assign (tT 31))])
 (.cond (tT 27) (.seq (rg [oO 32 (.move (tT 1)),oO 6 (.assign (tT 32))])
 (.ret))
 (.seq (rg [oO 34 (.move (tT 1)),oO 35 (cF (.func 176) #[tT 34] #[35]),oO 36 (.unOp .not 4 (tT 35)),oO 37 (.move (tT 36)),oG 38 (.move (tT 2)) 37 false,oG 39 (cF (.func 176) #[tT 38] #[35]) 37 false,oG 40 (.unOp .not 4 (tT 39)) 37 false,oO 41 (.pick (tT 37) (.const (.bool true)) (tT 40)),oO 33 (.assign (tT 41))])
 (.cond (tT 33) (.seq (rg [oO 6 (.assign (kB 0))])
 (.ret))
 (.skip))))))))))
 (.seq (rg [oO 7 (.alloc 35),oN (.store 35 (tT 7) (kB 5))])
 (.seq (.seq (.reg true [3] [⟨⟨some 42,.load 22 (tT 3),none⟩,false,true⟩,⟨⟨some 43,.move (tT 1),none⟩,false,true⟩,⟨⟨some 44,cF (.func 115) #[tT 42,tT 43] #[22,35],none⟩,false,true⟩,⟨⟨some 45,.load 22 (tT 3),none⟩,true,true⟩,⟨⟨some 46,.move (tT 2),none⟩,true,true⟩,⟨⟨some 47,cF (.func 115) #[tT 45,tT 46] #[22,35],none⟩,false,true⟩,⟨⟨some 9,.alloc 3,none⟩,true,false⟩])
 (rg [oO 8 (.assign (tT 44)),oN (.store 3 (tT 9) (tT 47))]))
 (.seq (.seq (rg [oO 48 (.move (tT 8)),oO 49 (.binOp .geq 3 (tT 48) (kI 0) 3),oO 50 (.move (tT 49)),oG 51 (.load 3 (tT 9)) 50 true,oG 52 (.binOp .geq 3 (tT 51) (kI 0) 3) 50 true,oO 53 (.pick (tT 50) (tT 52) (.const (.bool false)))])
 (.cond (tT 53) (rg [oO 54 (.load 22 (tT 3)),oO 55 (.move (tT 8)),oO 56 (.makeFunc (.func 178) #[] #[tT 3,tT 9,tT 7]),oO 57 (cF (.func 144) #[tT 54,tT 55,tT 56] #[22,3,120])])
 (.skip)))
 (.seq (rg [oO 58 (.load 35 (tT 7)),oO 6 (.assign (tT 58))])
 .ret)))))
theorem F157:Fun1 Tryz.prog 157 59 c157 [.tmp 6]:=mkT Tryz.func157 rfl (by decide +kernel) Tryz.ntmps157 rfl (by kernel_rfl) rfl
def c178:CT (Tryz.f178.body.getD .skip):=⟨_,by conv=>lhs; cbv⟩
theorem F178:Fun1 Tryz.prog 178 13 c178.1 [.tmp 5]:=mkT Tryz.func178 rfl (by decide +kernel) Tryz.ntmps178 rfl c178.2 rfl
def c141:CT (Tryz.f141.body.getD .skip):=⟨_,by conv=>lhs; cbv⟩
theorem F141:Fun1 Tryz.prog 141 41 c141.1 [.tmp 6]:=mkT Tryz.func141 rfl (by decide +kernel) Tryz.ntmps141 rfl c141.2 rfl
def c165:CT (Tryz.f165.body.getD .skip):=⟨_,by conv=>lhs; cbv⟩
theorem F165:Fun1 Tryz.prog 165 19 c165.1 [.tmp 2]:=mkT Tryz.func165 rfl (by decide +kernel) Tryz.ntmps165 rfl c165.2 rfl
def c122:CT (Tryz.f122.body.getD .skip):=⟨_,by conv=>lhs; cbv⟩
theorem F122:Fun1 Tryz.prog 122 41 c122.1 [.cell 6 38,.tmp 7]:=mkT Tryz.func122 rfl (by decide +kernel) Tryz.ntmps122 rfl c122.2 rfl
def c107:CT (Tryz.f107.body.getD .skip):=⟨_,by conv=>lhs; cbv⟩
theorem F107:Fun1 Tryz.prog 107 61 c107.1 [.cell 6 38,.tmp 7]:=mkT Tryz.func107 rfl (by decide +kernel) Tryz.ntmps107 rfl c107.2 rfl
open Go.Proofs
def mergeT (l:List Cl) (a b:Ty):Ty:=
 if validN l.length a=false∨validN l.length b=false then 0
 else if subB l a b=true then b
 else if subB l b a=true then a
 else if isRefB a=false∨isRefB b=false then 0
 else match (upI l (clsOf l.length a)).find? fun k:Nat=>(upI l (clsOf l.length b)).any fun j=>decide ((j:Int)=(k:Int)) with
  |some k=>ofClass k
  |none=>5
theorem up_le {l:List Cl}:∀(n:Nat) (c:Int),c<n→∀k∈upI l c,(k:Int)≤c∧k<l.length
 |0,c,h,k,hk=>by rw[upI_neg (by omega)] at hk; cases hk
 |n+1,c,h,k,hk=>by
  by_cases h0:c<0
  ·rw[upI_neg h0] at hk; cases hk
  by_cases h1:(l.length:Int)≤c
  ·rw[upI_out h1] at hk; cases hk
  obtain⟨c,rfl⟩:∃c':Nat,c=c':=⟨c.toNat,by omega⟩
  have hc:c<l.length:=by omega
  rw[upI_step hc] at hk
  rcases List.mem_cons.1 hk with rfl|hk
  ·exact⟨by omega,hc⟩
  ·split at hk
   ·rename_i hp
    obtain⟨h2,h3⟩:=up_le n l[c].parent (by omega) k hk
    exact⟨by omega,h3⟩
   ·cases hk
theorem up_mem {l:List Cl} {c:Int} {k:Nat} (hk:k∈upI l c):(k:Int)≤c∧k<l.length:=up_le (c.toNat+1) c (by omega) k hk
theorem up_self {l:List Cl} {c:Nat} (h:c<l.length):c∈upI l (c:Int):=by rw[upI_step h]; exact List.mem_cons_self
theorem up_chain {l:List Cl}:∀(n:Nat) (c:Int),c<n→(upI l c).Pairwise fun x y:Nat=>y∈upI l (x:Int)
 |0,c,h=>by rw[upI_neg (by omega)]; exact List.Pairwise.nil
 |n+1,c,h=>by
  by_cases h0:c<0
  ·rw[upI_neg h0]; exact List.Pairwise.nil
  by_cases h1:(l.length:Int)≤c
  ·rw[upI_out h1]; exact List.Pairwise.nil
  obtain⟨c,rfl⟩:∃c':Nat,c=c':=⟨c.toNat,by omega⟩
  have hc:c<l.length:=by omega
  rw[upI_step hc]
  split
  ·rename_i hp
   refine List.pairwise_cons.2 ⟨fun y hy=> ?_,up_chain n l[c].parent (by omega)⟩
   rw[upI_step hc,if_pos hp]; exact List.mem_cons_of_mem _ hy
  ·exact List.pairwise_cons.2 ⟨fun y hy=>(by cases hy),List.Pairwise.nil⟩
theorem find_up {l:List Cl} {c:Int} {p:Nat→Bool} {k:Nat} (h:(upI l c).find? p=some k):k∈upI l c∧p k=true∧∀j∈upI l c,p j=true→j∈upI l (k:Int):=by
 refine⟨List.mem_of_find?_eq_some h,List.find?_some h,fun j hj hp=> ?_⟩
 have hch:=up_chain (l:=l) (c.toNat+1) c (by omega)
 have hk:=up_mem (List.mem_of_find?_eq_some h)
 generalize upI l c=L at *
 induction L with
 |nil=>cases hj
 |cons x L ih=>
  rw[List.find?_cons] at h
  obtain⟨h1,h2⟩:=List.pairwise_cons.1 hch
  cases hx:p x
  ·rw[hx] at h
   rcases List.mem_cons.1 hj with rfl|hj
   ·rw[hx] at hp; cases hp
   ·exact ih h hj h2
  ·rw[hx] at h
   cases h
   rcases List.mem_cons.1 hj with rfl|hj
   ·exact up_self hk.2
   ·exact h1 j hj
theorem subB_antisymm {l:List Cl} {a b:Ty} (h1:subB l a b=true) (h2:subB l b a=true):a=b:=by
 obtain⟨ha,hb⟩:=subB_valid h1
 rw[subB_iff ha hb] at h1
 rw[subB_iff hb ha] at h2
 simp only[SubP,isRef_iff] at h1 h2
 rcases h1 with h1|h1|⟨h1,h3,h4⟩|⟨h1,h3,h4⟩
 ·exact h1
 ·rcases h2 with h2|h2|⟨h2,h5,h6⟩|⟨h2,h5,h6⟩
  ·exact h2.symm
  ·exact Fin.ext (by omega)
  ·omega
  ·omega
 ·rcases h2 with h2|h2|⟨h2,h5,h6⟩|⟨h2,h5,h6⟩
  ·exact h2.symm
  ·omega
  ·exact Fin.ext (by omega)
  ·have:=(up_mem h6).1; omega
 ·rcases h2 with h2|h2|⟨h2,h5,h6⟩|⟨h2,h5,h6⟩
  ·exact h2.symm
  ·omega
  ·omega
  ·have:=(up_mem h4).1
   have:=(up_mem h6).1
   exact Fin.ext (by omega)
theorem ofClass_val {k:Nat} (h:k<240):(ofClass (k:Int)).val=16+k:=by
 show(16+((k:Int)).toNat)%256=_
 rw[Int.toNat_natCast]; omega
theorem valid_0 (n:Nat):validN n 0=true:=by simp[validN]
theorem valid_5 (n:Nat):validN n 5=true:=decide_eq_true (.inl (by decide))
theorem sub_top {l:List Cl} {a:Ty} (h:validN l.length a=true):subB l a 0=true:=(subB_iff h (valid_0 _)).2 (.inr (.inl rfl))
theorem merge_up {l:List Cl} {a b:Ty} (ha:validN l.length a=true) (hb:validN l.length b=true):subB l a (mergeT l a b)=true∧subB l b (mergeT l a b)=true∧∀t,subB l a t=true→subB l b t=true→subB l (mergeT l a b) t=true:=by
 unfold mergeT
 rw[if_neg (by simp[ha,hb])]
 by_cases h1:subB l a b=true
 ·rw[if_pos h1]; exact⟨h1,subB_refl hb,fun t _ h=>h⟩
 rw[if_neg h1]
 by_cases h2:subB l b a=true
 ·rw[if_pos h2]; exact⟨subB_refl ha,h2,fun t h _=>h⟩
 rw[if_neg h2]
 have n1:¬SubP l a b:=fun h=>h1 ((subB_iff ha hb).2 h)
 have n2:¬SubP l b a:=fun h=>h2 ((subB_iff hb ha).2 h)
 by_cases h3:isRefB a=false∨isRefB b=false
 ·rw[if_pos h3]
  refine⟨sub_top ha,sub_top hb,fun t h4 h5=> ?_⟩
  have ht:=(subB_valid h4).2
  rw[subB_iff ha ht] at h4
  rw[subB_iff hb ht] at h5
  have h3':¬(isRefB a=true∧isRefB b=true):=by rcases h3 with h|h <;> simp[h]
  have:t=0:=by
   simp only[SubP] at h4 h5 n1 n2
   simp only[isRef_iff] at h3' h4 h5 n1 n2
   rcases h4 with rfl|h4|⟨h4,h6,h7⟩|⟨h4,h6,h7⟩
   ·exact absurd h5 n2
   ·exact Fin.ext h4
   ·rcases h5 with rfl|h5|⟨h5,h8,h9⟩|⟨h5,h8,h9⟩
    ·exact absurd (.inr (.inr (.inl ⟨h4,h6,h7⟩))) n1
    ·exact Fin.ext h5
    ·omega
    ·omega
   ·rcases h5 with rfl|h5|⟨h5,h8,h9⟩|⟨h5,h8,h9⟩
    ·exact absurd (.inr (.inr (.inr ⟨h4,h6,h7⟩))) n1
    ·exact Fin.ext h5
    ·omega
    ·omega
  rw[this]; exact sub_top (valid_0 _)
 rw[if_neg h3]
 have hra:isRefB a=true:=by simp only[not_or,Bool.not_eq_false] at h3; exact h3.1
 have hrb:isRefB b=true:=by simp only[not_or,Bool.not_eq_false] at h3; exact h3.2
 have v5:=valid_5 l.length
 have hany:isRefB 5=true:=rfl
 have top5:∀t:Ty,t.val=0→subB l 5 t=true:=fun t ht=>(subB_iff v5 (by simp[validN,ht])).2 (.inr (.inl ht))
 have any5:∀t:Ty,t.val=5→subB l 5 t=true:=fun t ht=>by
  have:t=5:=Fin.ext ht
  rw[this]; exact subB_refl v5
 have nb:a.val≠3∧b.val≠3∧a≠b:=by
  refine⟨fun h=>n1 (.inr (.inr (.inl ⟨.inl h,hra,hrb⟩))),fun h=>n2 (.inr (.inr (.inl ⟨.inl h,hrb,hra⟩))),fun h=>n1 (.inl h)⟩
 have both:∀t,subB l a t=true→subB l b t=true→t.val=0∨t.val=5∨(16≤a.val∧16≤b.val∧16≤t.val∧(t.val-16)∈upI l ((a.val:Int)-16)∧(t.val-16)∈upI l ((b.val:Int)-16)):=fun t h4 h5=>by
  have ht:=(subB_valid h4).2
  rw[subB_iff ha ht] at h4
  rw[subB_iff hb ht] at h5
  rcases h4 with rfl|h4|⟨h4,h6,h7⟩|⟨h4,h6,h7⟩
  ·exact absurd h5 n2
  ·exact .inl h4
  ·have:=nb.1
   exact .inr (.inl (by omega))
  ·rcases h5 with rfl|h5|⟨h5,h8,h9⟩|⟨h5,h8,h9⟩
   ·exact absurd (.inr (.inr (.inr ⟨h4,h6,h7⟩))) n1
   ·exact .inl h5
   ·have:=nb.2.1
    exact .inr (.inl (by omega))
   ·exact .inr (.inr ⟨h4,h5,h6,h7,h9⟩)
 cases hf:(upI l (clsOf l.length a)).find? fun k:Nat=>(upI l (clsOf l.length b)).any fun j=>decide ((j:Int)=(k:Int)) with
 |none=>
  simp only
  refine⟨(subB_iff ha v5).2 (.inr (.inr (.inl ⟨.inr rfl,hra,hany⟩))),(subB_iff hb v5).2 (.inr (.inr (.inl ⟨.inr rfl,hrb,hany⟩))),fun t h4 h5=> ?_⟩
  rcases both t h4 h5 with h|h|⟨h6,h7,h8,h9,h10⟩
  ·exact top5 t h
  ·exact any5 t h
  ·exfalso
   have:=List.find?_eq_none.1 hf (t.val-16) (by rw[clsOf_val ha h6]; exact h9)
   apply this
   rw[List.any_eq_true]
   exact⟨t.val-16,by rw[clsOf_val hb h7]; exact h10,by simp⟩
 |some k=>
  simp only
  obtain⟨m1,m2,m3⟩:=find_up hf
  have h16:16≤a.val:=by
   by_cases h:16≤a.val
   ·exact h
   ·rw[clsOf_no h,upI_neg (by omega)] at m1; cases m1
  rw[clsOf_val ha h16] at m1 m3
  rw[List.any_eq_true] at m2
  obtain⟨j,hj,hd⟩:=m2
  have hjk:j=k:=by simp at hd; omega
  subst hjk
  have h16b:16≤b.val:=by
   by_cases h:16≤b.val
   ·exact h
   ·rw[clsOf_no h,upI_neg (by omega)] at hj; cases hj
  have hk:=up_mem m1
  have hlt:j<240:=by have:=a.isLt; omega
  have hv:=ofClass_val hlt
  have hvalid:validN l.length (ofClass (j:Int))=true:=by simp only[validN,decide_eq_true_eq,hv]; omega
  rw[clsOf_val hb h16b] at hj
  refine⟨(subB_iff ha hvalid).2 (.inr (.inr (.inr ⟨h16,by omega,by rw[hv,show 16+j-16=j by omega]; exact m1⟩))),(subB_iff hb hvalid).2 (.inr (.inr (.inr ⟨h16b,by omega,by rw[hv,show 16+j-16=j by omega]; exact hj⟩))),fun t h4 h5=> ?_⟩
  have ht:=(subB_valid h4).2
  rcases both t h4 h5 with h|h|⟨h6,h7,h8,h9,h10⟩
  ·exact(subB_iff hvalid ht).2 (.inr (.inl h))
  ·exact(subB_iff hvalid ht).2 (.inr (.inr (.inl ⟨.inr h,by rw[isRef_iff]; omega,by rw[isRef_iff]; omega⟩)))
  ·refine(subB_iff hvalid ht).2 (.inr (.inr (.inr ⟨by omega,h8, ?_⟩)))
   rw[hv,show((16+j:Nat):Int)-16=(j:Int) by omega]
   refine m3 _ h9 ?_
   rw[List.any_eq_true]
   exact⟨t.val-16,by rw[clsOf_val hb h16b]; exact h10,by simp⟩
theorem merge_valid {l:List Cl} (a b:Ty):validN l.length (mergeT l a b)=true:=by
 by_cases h:validN l.length a=true∧validN l.length b=true
 ·exact(subB_valid (merge_up h.1 h.2).1).2
 ·unfold mergeT
  rw[if_pos (by cases ha:validN l.length a <;> cases hb:validN l.length b <;> simp_all)]
  exact valid_0 _
open Go.Proofs
def mgB (b3 b9 b7:Nat) (o:Own) (l:List Cl) (y:Int) (out:Ty):St:=((({}:St).set b3 [.slice o (rws eC l)]).set b7 [.int .u8 out.val]).set b9 [.int .i64 y]
def mgStep (l:List Cl) (y:Int) (a:Ty) (c:Nat) (b:Bool) (a':Ty):Prop:=
 if((upI l y).any fun j=>decide ((j:Int)=(c:Int)))=true then b=false∧a'=ofClass c else b=true∧a'=a
theorem mg_runs {l:List Cl} {y:Int}:∀{L:List Nat} {a a':Ty},Runs (mgStep l y) L a a'→a'=match L.find? fun k:Nat=>(upI l y).any fun j=>decide ((j:Int)=(k:Int)) with|some k=>ofClass k|none=>a
 |[],a,a',h=>by simp only[Runs] at h; simp[h]
 |c::L,a,a'',⟨b,a',h1,h⟩=>by
  rw[List.find?_cons]
  unfold mgStep at h1
  split at h1
  ·rename_i hc
   obtain⟨rfl,rfl⟩:=h1
   rw[hc]
   simpa using h
  ·rename_i hc
   obtain⟨rfl,rfl⟩:=h1
   rw[Bool.not_eq_true] at hc
   rw[hc]
   exact mg_runs h
theorem wrap_class {c:Nat} (h:c<240):IntKind.wrap .u8 (16+IntKind.wrap .u8 (c:Int))=((ofClass (c:Int)).val:Int):=by
 rw[ofClass_val h]
 simp only[IntKind.wrap,IntKind.bits,IntKind.signed]
 simp; omega
theorem merge239 {b3 b9 b7:Nat} (h1:b9≠b3) (h2:b7≠b3) (h3:b7≠b9) (o:Own) (l:List Cl) (y:Int) (out:Ty) (c:Nat) (hl:l.length≤140737488355328) (hc:c<240):
  RCall Tryz.prog 178 [.int .i64 c,.ptr b3 0,.ptr b9 0,.ptr b7 0] (mgB b3 b9 b7 o l y out) fun d s'=>∃b a',d= .bool b∧s'=mgB b3 b9 b7 o l y a'∧mgStep l y out c b a':=by
 have k3:(mgB b3 b9 b7 o l y out).box b3=some [.slice o (rws eC l)]:=by simp[mgB,St.set_box,h1,h2,h3,Ne.symm h1,Ne.symm h2,Ne.symm h3]
 have k9:(mgB b3 b9 b7 o l y out).box b9=some [.int .i64 y]:=by simp[mgB,St.set_box,h1,h2,h3,Ne.symm h1,Ne.symm h2,Ne.symm h3]
 have k7:(mgB b3 b9 b7 o l y out).box b7=some [.int .u8 out.val]:=by simp[mgB,St.set_box,h1,h2,h3,Ne.symm h1,Ne.symm h2,Ne.symm h3]
 have hw:=wrap_class hc
 refine F178.rcall rfl fun T hT=> ?_
 simp -implicitDefEqProofs only[go_sem,c178,hT,k3,k9,k7]
 refine za3 (above190 l o y c hl) ?_
 cases hb:(upI l y).any fun j=>decide ((j:Int)=(c:Int))
 ·simp -implicitDefEqProofs only[go_sem,hT,k3,k9,k7]
  exact⟨_,_,DLe.refl _,St.le.refl _,true,out,rfl,rfl,by unfold mgStep; rw[hb]; exact⟨rfl,rfl⟩⟩
 ·simp -implicitDefEqProofs only[go_sem,hT,k3,k9,k7,hw]
  refine⟨_,_,DLe.refl _,St.le.refl _,false,ofClass c,rfl, ?_,by unfold mgStep; rw[hb]; exact⟨rfl,rfl⟩⟩
  unfold mgB
  rw[set_comm (Ne.symm h3),za4]
theorem up_240 {l:List Cl} {a:Ty} {c:Nat} (h:c∈upI l (clsOf l.length a)):c<240:=by
 have h1:=(up_mem h).1
 have h2:=a.isLt
 unfold clsOf at h1
 split at h1 <;> omega
theorem merge220 (l:List Cl) (o:Own) (a b:Ty) (hl:l.length≤140737488355328):PCall Tryz.prog 157 [.slice o (rws eC l),.int .u8 a.val,.int .u8 b.val] (.int .u8 (mergeT l a b).val):=by
 refine F157.pcall' rfl fun T hT=> ?_
 simp -implicitDefEqProofs only[go_sem,c157,hT]
 intro b3
 refine za3 (valid105 l o a) ?_
 cases hva:validN l.length a
 ·simp -implicitDefEqProofs only[go_sem,hT]
  rw[show mergeT l a b=0 by unfold mergeT; rw[if_pos (.inl hva)]]
  exact DLe.refl _
 simp -implicitDefEqProofs only[go_sem,hT]
 refine za3 (valid105 l o b) ?_
 cases hvb:validN l.length b
 ·simp -implicitDefEqProofs only[go_sem,hT]
  rw[show mergeT l a b=0 by unfold mergeT; rw[if_pos (.inr hvb)]]
  exact DLe.refl _
 simp -implicitDefEqProofs only[go_sem,hT]
 have hm0:mergeT l a b=(if subB l a b=true then b else if subB l b a=true then a else if isRefB a=false∨isRefB b=false then 0
   else match (upI l (clsOf l.length a)).find? fun k:Nat=>(upI l (clsOf l.length b)).any fun j=>decide ((j:Int)=(k:Int)) with|some k=>ofClass k|none=>5):=by
  unfold mergeT; rw[if_neg (by simp[hva,hvb])] <;> rfl
 refine za3 (sub164 l o a b hl) ?_
 cases h1:subB l a b
 rotate_left
 ·simp -implicitDefEqProofs only[go_sem,hT]
  rw[hm0,h1]; exact DLe.refl _
 simp -implicitDefEqProofs only[go_sem,hT]
 refine za3 (sub164 l o b a hl) ?_
 cases h2:subB l b a
 rotate_left
 ·simp -implicitDefEqProofs only[go_sem,hT]
  rw[hm0,h1,h2]; exact DLe.refl _
 simp -implicitDefEqProofs only[go_sem,hT]
 refine za3 (isRef163 a) ?_
 cases h3:isRefB a
 ·simp -implicitDefEqProofs only[go_sem,hT]
  rw[hm0,h1,h2,h3]; exact DLe.refl _
 simp -implicitDefEqProofs only[go_sem,hT]
 refine za3 (isRef163 b) ?_
 cases h4:isRefB b
 ·simp -implicitDefEqProofs only[go_sem,hT]
  rw[hm0,h1,h2,h3,h4]; exact DLe.refl _
 rw[h1,h2,h3,h4] at hm0
 simp -implicitDefEqProofs only[go_sem,hT]
 intro b7 n1 n2
 simp -implicitDefEqProofs only[go_sem,hT,n1,n2,za4]
 refine⟨by rintro b rfl; simp[n1,n2], ?_⟩
 refine za3 (class147 l o a) ?_
 simp -implicitDefEqProofs only[go_sem,hT,n1,n2]
 refine za3 (class147 l o b) ?_
 simp -implicitDefEqProofs only[go_sem,hT,n1,n2]
 intro b9 m1 m2 m3 m4
 simp -implicitDefEqProofs only[go_sem,hT,n1,n2,m1,m2,m3,m4,za4]
 have hfind:(match (upI l (clsOf l.length a)).find? fun k:Nat=>(upI l (clsOf l.length b)).any fun j=>decide ((j:Int)=(k:Int)) with|some k=>ofClass k|none=>5)=mergeT l a b:=by rw[hm0]; rfl
 by_cases hx:0≤clsOf l.length a
 rotate_left
 ·have g1:(0≤clsOf l.length a)=False:=eq_false hx
  simp -implicitDefEqProofs only[go_sem,mmB,hT,n1,n2,m1,m2,m3,m4,g1,za4]
  rw[upI_neg (c:=clsOf l.length a) (by omega)] at hfind
  rw[←hfind]
  exact DLe.refl (.int .u8 5)
 have g1:(0≤clsOf l.length a)=True:=eq_true hx
 by_cases hy:0≤clsOf l.length b
 rotate_left
 ·have g2:(0≤clsOf l.length b)=False:=eq_false hy
  simp -implicitDefEqProofs only[go_sem,mmB,hT,n1,n2,m1,m2,m3,m4,g1,g2,za4]
  have hno:(upI l (clsOf l.length a)).find? (fun k:Nat=>(upI l (clsOf l.length b)).any fun j=>decide ((j:Int)=(k:Int)))=none:=by
   rw[List.find?_eq_none]
   intro x _
   rw[upI_neg (by omega)]; simp
  rw[hno] at hfind
  rw[←hfind]
  exact DLe.refl (.int .u8 5)
 have g2:(0≤clsOf l.length b)=True:=eq_true hy
 simp -implicitDefEqProofs only[go_sem,mmB,hT,n1,n2,m1,m2,m3,m4,g1,g2,za4]
 have hst:((({}:St).set b3 [.slice o (rws eC l)]).set b7 [.int .u8 5]).set b9 [.int .i64 (clsOf l.length b)]=mgB b3 b9 b7 o l (clsOf l.length b) 5:=rfl
 rw[hst]
 refine callB_all (climb144' l o 178 [] [.ptr b3 0,.ptr b9 0,.ptr b7 0] (mgB b3 b9 b7 o l (clsOf l.length b)) (mgStep l (clsOf l.length b)) (fun _ L=>∀c∈L,c<240) hl (fun out c rest hc hok=>(merge239 m3 n1 (fun h=>m2 h) o l _ out c hl (hok c (by simp))).mono ?_) 5 (clsOf l.length a) fun c hc=>up_240 hc) ?_
 ·rintro d s' ⟨b',a',rfl,rfl,hs⟩
  exact⟨b',a',rfl,rfl,hs,fun c hc=>hok c (by simp[hc])⟩
 rintro d s' ⟨rfl,a',r,rfl,hruns,_⟩
 have hr:=mg_runs hruns
 rw[hfind] at hr
 subst hr
 simp -implicitDefEqProofs only[go_sem,hT,mgB,n1,n2,m1,m2,m3,m4]
open Go.Proofs
def tyN (i:Nat):Ty:=Fin.ofNat 256 i
theorem tyN_val {i:Nat} (h:i<256):(tyN i).val=i:=Nat.mod_eq_of_lt h
def allT (n i:Nat):List Ty:=((List.range i).map tyN).filter (validN n)
theorem allT_succ (n i:Nat):allT n (i+1)=allT n i++(if validN n (tyN i)=true then [tyN i] else []):=by
 unfold allT
 rw[List.range_succ,List.map_append,List.filter_append]
 congr 1
 simp only[List.map_cons,List.map_nil,List.filter_cons,List.filter_nil]
theorem allT_len (n i:Nat):(allT n i).length≤i:=by
 unfold allT
 refine Nat.le_trans (List.length_filter_le _ _) ?_
 simp
theorem all219 (l:List Cl) (o:Own):PCall Tryz.prog 165 [.slice o (rws eC l)] (.slice .no (rws eT (allT l.length 256))):=by
 refine F165.pcall' rfl fun T hT=> ?_
 simp -implicitDefEqProofs only[go_sem,c165,hT]
 refine loopL F165 (fun x:Nat×Option Nat=>[(0,.slice o (rws eC l)),(4,.int .i64 x.1),(3,grD 1 x.2 (rws eT (allT l.length x.1)))]) (fun x=>grS 1 (allT l.length x.1).length x.2 {}) (fun x=>x.1≤256∧(x.2=none→(allT l.length x.1).length=0)) (fun x=>256-x.1) (0,none)
  ⟨Nat.zero_le _,fun _=>rfl⟩ ?_ (St.le.refl _) ?_
 ·simp -implicitDefEqProofs only[go_sem,hT,Int.ofNat_zero]
  rfl
 clear hT T
 rintro⟨i,ob⟩ ⟨hi,hok⟩ T hT
 simp only at hi hok hT ⊢
 by_cases h:i<256
 ·have h1:((i:Int)<256)=True:=by simp; omega
  have hv:=tyN_val h
  have hw:IntKind.wrap .u8 (i:Int)=((tyN i).val:Int):=by
   rw[hv]; simp only[IntKind.wrap,IntKind.bits,IntKind.signed]; simp; omega
  have hlen:=allT_len l.length i
  have hnext:IntKind.wrap .i64 ((i:Int)+1)=((i+1:Nat):Int):=by rw[zb7 (by omega) (by omega)]; simp
  simp -implicitDefEqProofs only[go_sem,hT,h1,hw]
  refine za3 (refValid87 l o (tyN i)) ?_
  cases hva:validN l.length (tyN i)
  ·simp -implicitDefEqProofs only[go_sem,hT,hnext]
   have hs:allT l.length (i+1)=allT l.length i:=by rw[allT_succ,hva]; simp
   exact⟨(i+1,ob),⟨by omega,by rw[hs]; exact hok⟩,by omega,⟨rfl,by rw[hs]⟩,by simp only; rw[hs]; exact St.le.refl _⟩
  ·simp -implicitDefEqProofs only[go_sem,hT,hw,frz]
   refine app_gr' Tryz.sli44 Tryz.sz35 Tryz.by35 Tryz.zero35 rfl (n:=(allT l.length i).length) (m:=1) (base:={}) (by rw[za1]) rfl (St.le.refl _) grN_nil hok (by simp) (by omega) fun o' σ' hbox hle _ hno=> ?_
   have hs:allT l.length (i+1)=allT l.length i++[tyN i]:=by rw[allT_succ,hva]; simp
   have hl2:(allT l.length (i+1)).length=(allT l.length i).length+1:=by rw[hs]; simp
   simp -implicitDefEqProofs only[go_sem,hT,hnext]
   refine⟨(i+1,o'),⟨by omega,fun h=>absurd (hno h) (by omega)⟩,by omega,⟨rfl, ?_⟩,by simp only; rw[hl2]; exact hle⟩
   rw[hs]; simp[rws,eT]
 ·have h1:((i:Int)<256)=False:=by simp; omega
  obtain rfl:i=256:=by omega
  simp -implicitDefEqProofs only[go_sem,hT,h1]
  exact grD_le
def bestT (l:List Cl) (a b:Ty) (L:List Ty):Ty:=L.foldl (fun best t=>if subB l a t=true∧subB l b t=true∧subB l t best=true then t else best) 0
theorem best_snoc (l:List Cl) (a b t:Ty) (L:List Ty):bestT l a b (L++[t])=if subB l a t=true∧subB l b t=true∧subB l t (bestT l a b L)=true then t else bestT l a b L:=by
 unfold bestT; rw[List.foldl_append]; rfl
theorem best_both {l:List Cl} {a b:Ty} (ha:validN l.length a=true) (hb:validN l.length b=true):∀n:Nat,∀L:List Ty,L.length=n→subB l a (bestT l a b L)=true∧subB l b (bestT l a b L)=true
 |0,L,h=>by obtain rfl:=List.eq_nil_of_length_eq_zero h; exact⟨sub_top ha,sub_top hb⟩
 |n+1,L,h=>by
  have hne:L≠[]:=fun h0=>by rw[h0] at h; cases h
  obtain⟨L',t,rfl⟩:∃L' t,L=L'++[t]:=⟨_,_,(List.dropLast_concat_getLast hne).symm⟩
  have ih:=best_both ha hb n L' (by simpa using h)
  rw[best_snoc]
  split
  ·rename_i hc; exact⟨hc.1,hc.2.1⟩
  ·exact ih
theorem best_merge {l:List Cl} {a b:Ty} (ha:validN l.length a=true) (hb:validN l.length b=true):∀n:Nat,∀L:List Ty,L.length=n→mergeT l a b∈L→bestT l a b L=mergeT l a b
 |0,L,h,hm=>by obtain rfl:=List.eq_nil_of_length_eq_zero h; cases hm
 |n+1,L,h,hm=>by
  have hne:L≠[]:=fun h0=>by rw[h0] at h; cases h
  obtain⟨L',t,rfl⟩:∃L' t,L=L'++[t]:=⟨_,_,(List.dropLast_concat_getLast hne).symm⟩
  obtain⟨m1,m2,m3⟩:=merge_up (l:=l) ha hb
  have hl:L'.length=n:=by simpa using h
  obtain⟨b1,b2⟩:=best_both ha hb n L' hl
  rw[best_snoc]
  split
  ·rename_i hc
   have h1:=m3 t hc.1 hc.2.1
   by_cases hin:mergeT l a b∈L'
   ·rw[best_merge ha hb n L' hl hin] at hc
    exact subB_antisymm hc.2.2 h1
   ·rcases List.mem_append.1 hm with h2|h2
    ·exact absurd h2 hin
    ·simp at h2; exact h2.symm
  ·rename_i hc
   by_cases hin:mergeT l a b∈L'
   ·exact best_merge ha hb n L' hl hin
   ·rcases List.mem_append.1 hm with h2|h2
    ·exact absurd h2 hin
    ·simp at h2
     exfalso; apply hc
     rw[←h2]
     exact⟨m1,m2,m3 _ b1 b2⟩
theorem best_none {l:List Cl} {a b:Ty} (h:validN l.length a=false∨validN l.length b=false) (L:List Ty):bestT l a b L=0:=by
 unfold bestT
 have hs:∀t,¬(subB l a t=true∧subB l b t=true):=fun t ⟨h1,h2⟩=>by
  rcases h with h|h
  ·rw[(subB_valid h1).1] at h; cases h
  ·rw[(subB_valid h2).1] at h; cases h
 induction L with
 |nil=>rfl
 |cons t L ih=>
  rw[List.foldl_cons,if_neg (fun hc=>hs t ⟨hc.1,hc.2.1⟩)]
  exact ih
theorem tyN_self (t:Ty):tyN t.val=t:=Fin.ext (tyN_val t.isLt)
theorem best_all (l:List Cl) (a b:Ty):bestT l a b (allT l.length 256)=mergeT l a b:=by
 by_cases h:validN l.length a=true∧validN l.length b=true
 ·refine best_merge h.1 h.2 _ _ rfl ?_
  unfold allT
  rw[List.mem_filter]
  exact⟨List.mem_map.2 ⟨(mergeT l a b).val,List.mem_range.2 (mergeT l a b).isLt,tyN_self _⟩,merge_valid a b⟩
 ·have h':validN l.length a=false∨validN l.length b=false:=by cases ha:validN l.length a <;> cases hb:validN l.length b <;> simp_all
  rw[best_none h']
  unfold mergeT; rw[if_pos h']
theorem refMerge186 (l:List Cl) (o:Own) (a b:Ty) (hf:Falls l l.length) (hl:l.length*48≤140737488355328):PCall Tryz.prog 141 [.slice o (rws eC l),.int .u8 a.val,.int .u8 b.val] (.int .u8 (mergeT l a b).val):=by
 refine F141.pcall' rfl fun T hT=> ?_
 simp -implicitDefEqProofs only[go_sem,c141,hT]
 refine za3 (all219 l o) ?_
 rw[←best_all]
 have hlen:=allT_len l.length 256
 generalize allT l.length 256=A at *
 simp -implicitDefEqProofs only[go_sem,hT]
 refine loopL F141 (fun i:Nat=>[(0,.slice o (rws eC l)),(1,.int .u8 a.val),(2,.int .u8 b.val),(7,.int .u8 (bestT l a b (A.take i)).val),(8,.slice .no (rws eT A)),(9,.int .i64 i)]) (fun _=>{}) (fun i=>i≤A.length) (fun i=>A.length-i) 0 (Nat.zero_le _) ?_ (St.le.nil _) ?_
 ·simp -implicitDefEqProofs only[go_sem,hT,Int.ofNat_zero]
  rfl
 clear hT T
 intro i hi T hT
 by_cases h:i<A.length
 ·have h1:((i:Int)<A.length)=True:=eq_true (by omega)
  have hR:(rws eT A)[i]?.getD []=eT A[i]:=rws_at h
  have htake:A.take (i+1)=A.take i++[A[i]]:=List.take_succ_eq_append_getElem h
  have hnext:IntKind.wrap .i64 ((i:Int)+1)=((i+1:Nat):Int):=by rw[zb7 (by omega) (by omega)]; simp
  generalize A[i]=t at *
  have hbest:bestT l a b (A.take (i+1))=if subB l a t=true∧subB l b t=true∧subB l t (bestT l a b (A.take i))=true then t else bestT l a b (A.take i):=by rw[htake,best_snoc]
  simp -implicitDefEqProofs only[go_sem,hT,h1,hR,eT,eT_len]
  refine⟨by omega, ?_⟩
  refine za3 (refSub79 l o a t hf hl) ?_
  cases s1:subB l a t
  ·simp -implicitDefEqProofs only[go_sem,hT,hnext]
   exact⟨i+1,by omega,by omega,by rw[hbest,s1]; simp,St.le.refl _⟩
  simp -implicitDefEqProofs only[go_sem,hT]
  refine za3 (refSub79 l o b t hf hl) ?_
  cases s2:subB l b t
  ·simp -implicitDefEqProofs only[go_sem,hT,hnext]
   exact⟨i+1,by omega,by omega,by rw[hbest,s2]; simp,St.le.refl _⟩
  simp -implicitDefEqProofs only[go_sem,hT]
  refine za3 (refSub79 l o t _ hf hl) ?_
  cases s3:subB l t (bestT l a b (A.take i))
  ·simp -implicitDefEqProofs only[go_sem,hT,hnext]
   exact⟨i+1,by omega,by omega,by rw[hbest,s3]; simp,St.le.refl _⟩
  simp -implicitDefEqProofs only[go_sem,hT,hnext]
  exact⟨i+1,by omega,by omega,by rw[hbest,s1,s2,s3]; simp,St.le.refl _⟩
 ·have h1:((i:Int)<A.length)=False:=eq_false (by omega)
  simp -implicitDefEqProofs only[go_sem,hT,h1]
  rw[List.take_of_length_le (by omega)]
  exact DLe.refl _
open Go.Proofs
open Go.Proofs
def alikeF (n:Nat) (a b:Fr):Nat:=if checkF n a≠0 then checkF n a else if checkF n b≠0 then checkF n b else if a.loc=b.loc∧a.h=b.h then 0 else 32
def bXfaA0:=aI @za6 (aI @za5 (aI @fr_0 (aI @fr_1 @gdD)))
theorem alike206 (l:List Cl) (o:Own) (a b:Fr):PCall Tryz.prog 156 [.slice o (rws eC l),.agg (eFr a),.agg (eFr b)] (.int .i64 (alikeF l.length a b)):=by
 refine F156.pcall' rfl fun T hT=> ?_
 simp -implicitDefEqProofs only[go_sem,c156,hT,bXfaA0]
 intro b4 b5 n1 n2
 simp -implicitDefEqProofs only[go_sem,hT,n1,n2,bXfaA0]
 refine za3 (check81 l o a) ?_
 by_cases h1:checkF l.length a=0
 case neg=>
  have h1':((checkF l.length a:Int)=0)=False:=by simp; omega
  rw[show alikeF l.length a b=checkF l.length a by rw[alikeF,if_pos h1]]
  simp -implicitDefEqProofs only[go_sem,mmB,hT,n1,n2,h1',bXfaA0]
  all_goals exact DLe.refl _
 have h1':((checkF l.length a:Int)=0)=True:=by simp; omega
 simp -implicitDefEqProofs only[go_sem,hT,n1,n2,h1',bXfaA0]
 refine za3 (check81 l o b) ?_
 by_cases h2:checkF l.length b=0
 case neg=>
  have h2':((checkF l.length b:Int)=0)=False:=by simp; omega
  rw[show alikeF l.length a b=checkF l.length b by rw[alikeF,if_neg (by simp[h1]),if_pos h2]]
  simp -implicitDefEqProofs only[go_sem,mmB,hT,n1,n2,h2',bXfaA0]
  all_goals exact DLe.refl _
 have h2':((checkF l.length b:Int)=0)=True:=by simp; omega
 have ha:alikeF l.length a b=if a.loc=b.loc∧a.h=b.h then 0 else 32:=by rw[alikeF,if_neg (by simp[h1]),if_neg (by simp[h2])]
 rw[ha,h2]
 by_cases h3:a.loc=b.loc∧a.h=b.h
 ·have hq:(!decide (a.loc=b.loc)|| !decide (a.h=b.h))=false:=by simp[h3]
  rw[if_pos h3]
  simp -implicitDefEqProofs only[go_sem,mmB,hT,za6,za5,fr_0,fr_1,gdD,n1,n2,h2',hq,Int.ofNat_zero]
  all_goals exact DLe.refl _
 ·have hq:(!decide (a.loc=b.loc)|| !decide (a.h=b.h))=true:=by
   by_cases h4:a.loc=b.loc
   ·have:¬a.h=b.h:=fun h=>h3 ⟨h4,h⟩
    simp[h4,this]
   ·simp[h4]
  rw[if_neg h3]
  simp -implicitDefEqProofs only[go_sem,mmB,hT,za6,za5,fr_0,fr_1,gdD,n1,n2,h2',hq,Int.ofNat_zero]
  all_goals exact DLe.refl _
end Go.AL
