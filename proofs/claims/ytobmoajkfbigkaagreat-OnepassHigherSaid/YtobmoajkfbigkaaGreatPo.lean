import Derived.Test.YtobmoajkfbigkaaGreatPn
import Derived.Test.YtobmoajkfbigkaaGreatPh
set_option linter.unusedSimpArgs false
set_option linter.unusedVariables false
set_option maxRecDepth 100000
set_option maxHeartbeats 4000000
set_option linter.defProp false
namespace Go.AL
open Go.Proofs
theorem stored_valid {n:Nat} {t:Ty} (h:storedN n t=true):validN n t=true:=by
 simp only[storedN,Bool.and_eq_true] at h; exact h.1
theorem ofClass_valid {n:Nat} {a:Int} (h0:0≤a) (h1:a<n) (h32:n≤32):validN n (ofClass a)=true:=by
 obtain⟨k,rfl⟩:∃k:Nat,a=k:=⟨a.toNat,by omega⟩
 rw[ofClass_eq rfl (by omega)]
 simp only[validN,decide_eq_true_eq]; omega
theorem flds_valid {e:En} {i:Ins} (hc:Can e) {f:Fd} (hf:f∈flds e i):validN e.cs.length f.ty=true:=by
 simp only[flds,fieldsOn,List.mem_flatMap,List.mem_reverse] at hf
 obtain⟨k,hk,hf⟩:=hf
 have hlt:=upI_lt hk
 simp only[fieldsAt,List.getElem?_eq_getElem hlt,Option.map_some,Option.getD_some] at hf
 exact stored_valid (right_stored hc.right hlt hf)
theorem someR_mem {t x:Ty} (h:x∈someR t):x=t:=by
 unfold someR at h; split at h
 ·cases h
 ·simpa using h
theorem givesO_valid {e:En} {i:Ins} (hw:WideE e) (hcan:canB e=true) (h34:i.op.val<34) (ho:opndF e i=0) (h4:i.op.val≠4) (h7:i.op.val≠7) (h8:i.op.val≠8):∀t∈givesO e i i.op.val,validN e.cs.length t=true:=by
 have hc:=canB_can hw hcan
 have h32:=hc.cls
 have small:∀{l:List Ty},(∀t∈l,t.val≤5)→∀t∈l,validN e.cs.length t=true:=fun h t ht=>by simp[validN,h t ht]
 have hk34:i.op.val=0∨i.op.val=1∨i.op.val=2∨i.op.val=3∨i.op.val=5∨i.op.val=6∨i.op.val=9∨i.op.val=10∨i.op.val=11∨i.op.val=12∨i.op.val=13∨i.op.val=14∨i.op.val=15∨i.op.val=16∨i.op.val=17∨i.op.val=18∨i.op.val=19∨i.op.val=20∨i.op.val=21∨i.op.val=22∨i.op.val=23∨i.op.val=24∨i.op.val=25∨i.op.val=26∨i.op.val=27∨i.op.val=28∨i.op.val=29∨i.op.val=30∨i.op.val=31∨i.op.val=32∨i.op.val=33:=by omega
 have s1:∀t∈([1]:List Ty),validN e.cs.length t=true:=small (by simp)
 have s2:∀t∈([2]:List Ty),validN e.cs.length t=true:=small (by simp)
 have s3:∀t∈([3]:List Ty),validN e.cs.length t=true:=small (by simp; decide)
 have s4:∀t∈([4]:List Ty),validN e.cs.length t=true:=small (by simp; decide)
 have s0:∀t∈([]:List Ty),validN e.cs.length t=true:=fun t ht=>by cases ht
 have cl:(i.op.val=23∨i.op.val=30)→∀t∈[ofClass i.a],validN e.cs.length t=true:=fun h t ht=>by
  obtain⟨q1,q2⟩:=opnd_cls ho (by omega)
  rw[List.mem_singleton.1 ht]; exact ofClass_valid q1 q2 h32
 rcases hk34 with h|h|h|h|h|h|h|h|h|h|h|h|h|h|h|h|h|h|h|h|h|h|h|h|h|h|h|h|h|h|h <;> rw[h] <;> first
  |exact s0
  |exact s1
  |exact s2
  |exact s3
  |exact s4
  |exact cl (.inl h)
  |exact cl (.inr h)
  |skip
 ·intro t ht
  rw[show givesO e i 21=((e.sgs[i.a.toNat]?).map fun s=>someR s.r).getD [] from rfl] at ht
  cases hk:e.sgs[i.a.toNat]? with
  |none=>rw[hk] at ht; cases ht
  |some s=>
   rw[hk] at ht
   have hx:=someR_mem (by simpa using ht)
   subst hx
   rcases(canB_sig hcan (List.mem_of_getElem? hk)).2 with h0|h0
   ·simp[validN,h0]
   ·exact stored_valid h0
 ·intro t ht
  rw[show givesO e i 24=(((flds e i)[i.b.toNat]?).map fun f=>someR f.ty).getD [] from rfl] at ht
  cases hk:(flds e i)[i.b.toNat]? with
  |none=>rw[hk] at ht; cases ht
  |some s=>
   rw[hk] at ht
   have hx:=someR_mem (by simpa using ht)
   subst hx
   exact flds_valid hc (List.mem_of_getElem? hk)
theorem hadL_head {f:Fr} {n:Nat} (h:0<n):(hadL f n).headD 0=slAt f (f.loc+f.h-n).toNat:=by
 rw[show(hadL f n).headD 0=((hadL f n)[0]?).getD 0 by cases hadL f n <;> rfl,hadL_at h]; rfl
structure Behind (i:Ins) (f:Fr) (n:Nat) (gs:List Ty) (had0:Ty) (R:Fr):Prop where
 loc:R.loc=f.loc
 h:R.h=f.h-n+gs.length
 bare:bareF R=R
 sl:∀k:Nat,k<24→slAt R k=if(k:Int)<f.loc+f.h-n then(if i.op.val=5∧k=i.a.toNat then had0 else slAt f k) else(gs[k-(f.loc+f.h-n).toNat]?).getD 0
theorem behind_get (i:Ins) (f:Fr) (had gs:List Ty) (hs:shapedB f=true) (hb:bareF f=f) (hn:(had.length:Int)≤f.h) (h5:i.op.val=5→0≤i.a∧i.a<f.loc):
  behindF i f had gs=(if i.op.val=22∧0<f.h-had.length then(fr0 0,73) else if f.loc+f.h-had.length+gs.length≤24 then((behindF i f had gs).1,0) else(fr0 0,31))∧
   (¬(i.op.val=22∧0<f.h-had.length)→f.loc+f.h-had.length+gs.length≤24→Behind i f had.length gs (had.headD 0) (behindF i f had gs).1):=by
 obtain⟨s1,s2,s3,s4⟩:=shaped_of hs
 have hB:behindF i f had gs=if i.op.val=22∧0<f.h-had.length then(fr0 0,73) else pushAll gs (if i.op.val=5 then setF (bareF (popN had.length f)) i.a (had.headD 0) else popN had.length f):=by
  rw[behindF,popN_h]
 have hps:=popN_shape hs hn
 have hpb:=popN_bare hb had.length
 have hpl:(popN had.length f).loc=f.loc:=popN_loc
 have hph:(popN had.length f).h=f.h-had.length:=popN_h
 have hpg:∀{k:Nat},k<24→slAt (popN had.length f) k=_:=fun {k} h=>slAt_popN f hb had.length h
 generalize popN had.length f=p at *
 obtain⟨q,hq,q1,q2,q3,q4,q5⟩:∃q,(if i.op.val=5 then setF (bareF p) i.a (had.headD 0) else p)=q∧shapedB q=true∧bareF q=q∧q.loc=f.loc∧q.h=f.h-had.length∧
   ∀k:Nat,k<24→(k:Int)<f.loc+f.h-had.length→slAt q k=if i.op.val=5∧k=i.a.toNat then had.headD 0 else slAt f k:=by
  by_cases o5:i.op.val=5
  ·obtain⟨h6,h7⟩:=h5 o5
   rw[if_pos o5]
   have hsl:∀k,k<24→slAt (setF (bareF p) i.a (had.headD 0)) k=if k=i.a.toNat then had.headD 0 else slAt p k:=fun k hk=>by rw[slAt_set _ hk (by omega),hpb]
   refine⟨_,rfl,by rw[setF_shape,bare_shape]; exact hps,bare_iff.2 fun k hk hle=> ?_,by rw[setF_loc,bare_loc,hpl],by rw[setF_h,bare_h,hph],fun k hk hlt=> ?_⟩
   ·rw[setF_loc,setF_h,bare_loc,bare_h,hpl,hph] at hle
    rw[hsl k hk,if_neg (by omega),hpg hk,if_neg (by omega)]
   ·rw[hsl k hk,hpg hk,if_pos hlt]
    simp only[o5,true_and]
  ·rw[if_neg o5]
   refine⟨_,rfl,hps,hpb,hpl,hph,fun k hk hlt=> ?_⟩
   rw[hpg hk,if_pos hlt,if_neg (fun h=>o5 h.1)]
 rw[hq] at hB
 have hpa:=push_all gs q q1 q2
 have hpg2:=push_get gs q q1 q2
 rw[q3,q4] at hpa hpg2
 by_cases h22:i.op.val=22∧0<f.h-had.length
 ·rw[if_pos h22] at hB ⊢
  exact⟨hB,fun h=>absurd h22 h⟩
 rw[if_neg h22] at hB ⊢
 rw[hB]
 by_cases h24:f.loc+f.h-had.length+gs.length≤24
 ·rw[if_pos h24]
  rw[if_pos (by omega)] at hpa
  obtain⟨p1,p2,p3,p4⟩:=hpg2 (by omega)
  refine⟨hpa,fun _ _=>⟨p1,p2,p3,fun k hk=> ?_⟩⟩
  rw[p4 k hk]
  by_cases hlt:(k:Int)<f.loc+f.h-had.length
  ·rw[if_pos (by omega),if_pos hlt,q5 k hk hlt]
  ·rw[if_neg (by omega),if_neg hlt,show(f.loc+(f.h-had.length)).toNat=(f.loc+f.h-had.length).toNat by omega]
 ·rw[if_neg h24]
  rw[if_neg (by omega)] at hpa
  exact⟨hpa,fun _ h=>absurd h h24⟩
structure Done (e:En) (f:Fr) (i:Ins):Prop where
 can:canB e=true
 chk:checkF e.cs.length f=0
 op:i.op.val<34
 loc:i.op.val=4∨i.op.val=5→0≤i.a∧i.a<f.loc
 opnd:opndF e i=0
 under:((takesO e i i.op.val).length:Int)≤f.h
 want:wantedAll e.cs (takesO e i i.op.val) (hadL f (takesO e i i.op.val).length)=true
 same:i.op.val=16→sameB (hadL f 2)=true
 known:i.op.val=4→slAt f i.a.toNat≠0
 ret:¬(i.op.val=22∧0<f.h-(takesO e i i.op.val).length)
 over:f.loc+f.h-(takesO e i i.op.val).length+(givesR e f i (hadL f (takesO e i i.op.val).length)).length≤24
theorem done_iff {e:En} {f:Fr} {i:Ins}:(applyR e f i).2=0↔Done e f i:=by
 have lo:∀{P:Prop},(locOp i∧¬P)↔¬(i.op.val=4∨i.op.val=5→P):=fun {P}=>by unfold locOp; constructor <;> intro h <;> simp_all
 unfold applyR
 cases hcan:canB e
 ·simp only[if_true]; exact⟨fun h=>by simp at h,fun h=>by rw[h.can] at hcan; cases hcan⟩
 simp only[Bool.true_eq_false,if_false]
 by_cases hck:checkF e.cs.length f=0
 case neg=>rw[if_pos hck]; exact⟨fun h=>absurd h hck,fun h=>absurd h.chk hck⟩
 rw[if_neg (by simpa using hck)]
 by_cases h34:34≤i.op.val
 ·rw[if_pos h34]; exact⟨fun h=>by simp at h,fun h=>by have:=h.op; omega⟩
 rw[if_neg h34]
 by_cases hl:locOp i∧¬(0≤i.a∧i.a<f.loc)
 ·rw[if_pos hl]; exact⟨fun h=>by simp at h,fun h=>absurd h.loc (lo.1 hl)⟩
 rw[if_neg hl]
 have hl':i.op.val=4∨i.op.val=5→0≤i.a∧i.a<f.loc:=Classical.byContradiction fun h=>hl (lo.2 h)
 by_cases h0:opndF e i=0
 case neg=>rw[if_pos h0]; exact⟨fun h=>absurd h h0,fun h=>absurd h.opnd h0⟩
 rw[if_neg (by simpa using h0)]
 unfold applyIn
 by_cases hh:f.h<(takesO e i i.op.val).length
 ·rw[if_pos hh]; exact⟨fun h=>by simp at h,fun h=>by have:=h.under; omega⟩
 rw[if_neg hh]
 by_cases hw:wantedAll e.cs (takesO e i i.op.val) (hadL f (takesO e i i.op.val).length)=true
 case neg=>rw[if_pos (by simpa using hw)]; exact⟨fun h=>by simp at h,fun h=>absurd h.want hw⟩
 rw[if_neg (by simp[hw])]
 by_cases h16:i.op.val=16∧sameB (hadL f 2)=false
 ·rw[if_pos h16]; exact⟨fun h=>by simp at h,fun h=>by have:=h.same h16.1; rw[h16.2] at this; cases this⟩
 rw[if_neg h16]
 have h16':i.op.val=16→sameB (hadL f 2)=true:=fun h=>by
  cases hs:sameB (hadL f 2)
  ·exact absurd ⟨h,hs⟩ h16
  ·rfl
 by_cases h4:i.op.val=4∧slAt f i.a.toNat=0
 ·rw[if_pos h4]; exact⟨fun h=>by simp at h,fun h=>absurd h4.2 (h.known h4.1)⟩
 rw[if_neg h4]
 have hbg:=behind_get i f (hadL f (takesO e i i.op.val).length) (givesR e f i (hadL f (takesO e i i.op.val).length)) (checkF_shape hck) (checkF_bare hck) (by rw[hadL_len]; omega) (fun h=>hl' (.inr h))
 rw[hadL_len] at hbg
 rw[hbg.1]
 by_cases h22:i.op.val=22∧0<f.h-(takesO e i i.op.val).length
 ·rw[if_pos h22]; exact⟨fun h=>by simp at h,fun h=>absurd h22 h.ret⟩
 rw[if_neg h22]
 by_cases h24:f.loc+f.h-(takesO e i i.op.val).length+(givesR e f i (hadL f (takesO e i i.op.val).length)).length≤24
 ·rw[if_pos h24]
  exact⟨fun _=>⟨hcan,hck,by omega,hl',h0,by omega,hw,h16',fun h hz=>h4 ⟨h,hz⟩,h22,h24⟩,fun _=>rfl⟩
 ·rw[if_neg h24]; exact⟨fun h=>by simp at h,fun h=>absurd h.over h24⟩
theorem done_eq {e:En} {f:Fr} {i:Ins} (h:Done e f i):applyR e f i=behindF i f (hadL f (takesO e i i.op.val).length) (givesR e f i (hadL f (takesO e i i.op.val).length)):=by
 have lo:¬(locOp i∧¬(0≤i.a∧i.a<f.loc)):=fun hl=>hl.2 (h.loc hl.1)
 have n1:¬canB e=false:=by rw[h.can]; simp
 have n2:¬checkF e.cs.length f≠0:=fun hh=>hh h.chk
 have n3:¬34≤i.op.val:=by have:=h.op; omega
 have n4:¬opndF e i≠0:=fun hh=>hh h.opnd
 have n5:¬f.h<(takesO e i i.op.val).length:=by have:=h.under; omega
 have n6:¬wantedAll e.cs (takesO e i i.op.val) (hadL f (takesO e i i.op.val).length)=false:=by rw[h.want]; simp
 have n7:¬(i.op.val=16∧sameB (hadL f 2)=false):=fun hh=>by have:=h.same hh.1; rw[hh.2] at this; cases this
 have n8:¬(i.op.val=4∧slAt f i.a.toNat=0):=fun hh=>h.known hh.1 hh.2
 rw[applyR,if_neg n1,if_neg n2,if_neg n3,if_neg lo,if_neg n4,applyIn,if_neg n5,if_neg n6,if_neg n7,if_neg n8]
theorem done_behind {e:En} {f:Fr} {i:Ins} (h:Done e f i):Behind i f (takesO e i i.op.val).length (givesR e f i (hadL f (takesO e i i.op.val).length)) ((hadL f (takesO e i i.op.val).length).headD 0) (applyR e f i).1:=by
 rw[done_eq h]
 have hbg:=behind_get i f (hadL f (takesO e i i.op.val).length) (givesR e f i (hadL f (takesO e i i.op.val).length)) (checkF_shape h.chk) (checkF_bare h.chk) (by rw[hadL_len]; exact h.under) (fun h5=>h.loc (.inr h5))
 rw[hadL_len] at hbg
 exact hbg.2 h.ret h.over
theorem givesR_len {e:En} {f:Fr} {i:Ins} {had:List Ty}:(givesR e f i had).length=(givesO e i i.op.val).length:=by
 unfold givesR
 split
 ·rename_i h; rw[h]; rfl
 split
 ·rename_i h; rw[h]; rfl
 split
 ·rename_i h; rw[h]; rfl
 rfl
theorem givesR_valid {e:En} {f:Fr} {i:Ins} (hw:WideE e) (h:Done e f i):∀t∈givesR e f i (hadL f (takesO e i i.op.val).length),validN e.cs.length t=true:=by
 obtain⟨hs,hb,hv⟩:=checkF_iff.1 h.chk
 obtain⟨s1,s2,s3,s4⟩:=shaped_of hs
 have hun:=h.under
 have h0:validN e.cs.length 0=true:=by simp[validN]
 have hh:∀k,validN e.cs.length (((hadL f (takesO e i i.op.val).length)[k]?).getD 0)=true:=fun k=>by
  by_cases hk:k<(takesO e i i.op.val).length
  ·rw[hadL_at hk]; exact hv _ (by omega)
  ·rw[List.getElem?_eq_none (by rw[hadL_len]; omega)]; exact h0
 have hd:validN e.cs.length ((hadL f (takesO e i i.op.val).length).headD 0)=true:=by
  have:=hh 0
  rwa[show((hadL f (takesO e i i.op.val).length)[0]?).getD 0=(hadL f (takesO e i i.op.val).length).headD 0 by cases hadL f (takesO e i i.op.val).length <;> rfl] at this
 intro t ht
 unfold givesR at ht
 split at ht
 ·rename_i h4
  rw[List.mem_singleton.1 ht]
  have:=h.loc (.inl h4)
  exact hv _ (by omega)
 split at ht
 ·simp only[List.mem_cons,List.not_mem_nil,or_false,or_self] at ht; rw[ht]; exact hd
 split at ht
 ·simp only[List.mem_cons,List.not_mem_nil,or_false] at ht
  rcases ht with rfl|rfl
  ·exact hh 1
  ·exact hd
 rename_i n4 n7 n8
 exact givesO_valid hw h.can h.op h.opnd n4 n7 n8 t ht
theorem done_check {e:En} {f:Fr} {i:Ins} (hw:WideE e) (h:Done e f i):checkF e.cs.length (applyR e f i).1=0:=by
 have hb:=done_behind h
 obtain⟨hs,hbf,hv⟩:=checkF_iff.1 h.chk
 obtain⟨s1,s2,s3,s4⟩:=shaped_of hs
 have hun:=h.under
 have hov:=h.over
 have h0:validN e.cs.length 0=true:=by simp[validN]
 refine checkF_iff.2 ⟨?_,hb.bare,fun k hk=> ?_⟩
 ·simp only[shapedB,decide_eq_true_eq,hb.loc,hb.h]; omega
 ·rw[hb.sl k hk]
  split
  ·split
   ·rename_i h5
    by_cases hn:0<(takesO e i i.op.val).length
    ·rw[hadL_head hn]; exact hv _ (by omega)
    ·rw[show hadL f (takesO e i i.op.val).length=[] from List.eq_nil_of_length_eq_zero (by rw[hadL_len]; omega)]; exact h0
   ·exact hv k hk
  ·cases hg:(givesR e f i (hadL f (takesO e i i.op.val).length))[k-(f.loc+f.h-(takesO e i i.op.val).length).toNat]? with
   |none=>exact h0
   |some t=>exact givesR_valid hw h t (List.mem_of_getElem? hg)
open Go.Proofs
theorem wantedAll_iff {l:List Cl} {tk had:List Ty} (hl:tk.length=had.length):wantedAll l tk had=true↔∀k,k<tk.length→wantedB l ((had[k]?).getD 0) ((tk[k]?).getD 0)=true:=by
 unfold wantedAll
 rw[List.all_eq_true]
 constructor
 ·intro h k hk
  have hk':k<had.length:=by omega
  rw[List.getElem?_eq_getElem hk,List.getElem?_eq_getElem hk']
  exact h (tk[k],had[k]) (by
   refine List.mem_of_getElem? (i:=k) ?_
   rw[List.getElem?_zip_eq_some]; simp[hk,hk'])
 ·intro h p hp
  obtain⟨k,hk⟩:=List.getElem?_of_mem hp
  rw[List.getElem?_zip_eq_some] at hk
  obtain⟨h1,h2⟩:=hk
  have:=h k (List.getElem?_eq_some_iff.1 h1).1
  rw[h1,h2] at this
  exact this
structure SubF (l:List Cl) (a b:Fr):Prop where
 ca:checkF l.length a=0
 cb:checkF l.length b=0
 loc:a.loc=b.loc
 h:a.h=b.h
 sl:∀i,i<24→subB l (slAt a i) (slAt b i)=true
theorem subFr_iff {l:List Cl} {a b:Fr}:subFr l a b=true↔SubF l a b:=by
 simp only[subFr,Bool.and_eq_true,decide_eq_true_eq,List.all_eq_true,List.mem_range]
 exact⟨fun⟨⟨h1,h2,h3,h4⟩,h5⟩=>⟨h1,h2,h3,h4,h5⟩,fun h=>⟨⟨h.ca,h.cb,h.loc,h.h⟩,h.sl⟩⟩
theorem had_mono {l:List Cl} {a b:Fr} (h:SubF l a b) {n:Nat} (hn:(n:Int)≤a.h) (k:Nat):subB l (((hadL a n)[k]?).getD 0) (((hadL b n)[k]?).getD 0)=true:=by
 obtain⟨s1,s2,s3,s4⟩:=shaped_of (checkF_shape h.ca)
 by_cases hk:k<n
 ·rw[hadL_at hk,hadL_at hk,←h.loc,←h.h]
  exact h.sl _ (by omega)
 ·rw[List.getElem?_eq_none (by rw[hadL_len]; omega),List.getElem?_eq_none (by rw[hadL_len]; omega)]
  exact subB_zero l
theorem head_mono {l:List Cl} {a b:Fr} (h:SubF l a b) {n:Nat} (hn:(n:Int)≤a.h):subB l ((hadL a n).headD 0) ((hadL b n).headD 0)=true:=by
 have e:∀L:List Ty,L.headD 0=(L[0]?).getD 0:=fun L=>by cases L <;> rfl
 rw[e,e]; exact had_mono h hn 0
theorem mono {e:En} {f g:Fr} {i:Ins} (hw:WideE e) (hd:Done e g i) (hs:SubF e.cs f g):Done e f i∧SubF e.cs (applyR e f i).1 (applyR e g i).1:=by
 obtain⟨s1,s2,s3,s4⟩:=shaped_of (checkF_shape hs.ca)
 have hloc:=hs.loc
 have hh:=hs.h
 have hun:((takesO e i i.op.val).length:Int)≤f.h:=by rw[hh]; exact hd.under
 have hl:i.op.val=4∨i.op.val=5→0≤i.a∧i.a<f.loc:=fun h=>by have:=hd.loc h; omega
 have h16:i.op.val=16→(takesO e i i.op.val).length=2:=fun h=>by rw[h]; rfl
 have df:Done e f i:=by
  refine⟨hd.can,hs.ca,hd.op,hl,hd.opnd,hun, ?_,fun h=> ?_,fun h=> ?_,by rw[hh]; exact hd.ret, ?_⟩
  ·rw[wantedAll_iff (by rw[hadL_len])]
   intro k hk
   have:=(wantedAll_iff (by rw[hadL_len])).1 hd.want k hk
   exact wanted_mono (had_mono hs hun k) this
  ·have h2:=h16 h
   rw[h2] at hun
   have:=hd.same h
   simp only[sameB,decide_eq_true_eq] at this ⊢
   obtain⟨t1,t2⟩:=this
   have e0:=small_mono (had_mono hs hun 0) t2
   have e1:=small_mono (had_mono hs hun 1) (by rw[←t1]; exact t2)
   rw[e0,e1]
   exact⟨t1,t2⟩
  ·have:=hl (.inl h)
   exact known_mono (hs.sl _ (by omega)) (hd.known h)
  ·have:=hd.over
   rw[givesR_len] at this ⊢
   omega
 refine⟨df,done_check hw df,done_check hw hd, ?_, ?_,fun k hk=> ?_⟩
 ·rw[(done_behind df).loc,(done_behind hd).loc,hloc]
 ·rw[(done_behind df).h,(done_behind hd).h,givesR_len,givesR_len,hh]
 ·rw[(done_behind df).sl k hk,(done_behind hd).sl k hk,hloc,hh]
  split
  ·split
   ·exact head_mono hs hun
   ·exact hs.sl k hk
  ·generalize k-(g.loc+g.h-(takesO e i i.op.val).length).toNat=j
   have hv:=givesR_valid hw df
   unfold givesR at hv ⊢
   split
   ·rename_i h4
    have:=hl (.inl h4)
    cases j with
    |zero=>exact hs.sl _ (by omega)
    |succ j=>simp only[List.getElem?_cons_succ,List.getElem?_nil,Option.getD_none]; exact subB_zero _
   rename_i n4
   rw[if_neg n4] at hv
   split
   ·match j with
    |0=>exact head_mono hs hun
    |1=>exact head_mono hs hun
    |j+2=>simp only[List.getElem?_cons_succ,List.getElem?_nil,Option.getD_none]; exact subB_zero _
   rename_i n7
   rw[if_neg n7] at hv
   split
   ·match j with
    |0=>exact had_mono hs hun 1
    |1=>exact head_mono hs hun
    |j+2=>simp only[List.getElem?_cons_succ,List.getElem?_nil,Option.getD_none]; exact subB_zero _
   rename_i n8
   rw[if_neg n8] at hv
   cases hg:(givesO e i i.op.val)[j]? with
   |none=>exact subB_zero _
   |some t=>exact subB_refl (hv t (List.mem_of_getElem? hg))
open Go.Proofs
def c21:CT (Tryz.f21.body.getD .skip):=⟨_,by conv=>lhs; cbv⟩
theorem F21:Fun1 Tryz.prog 21 13 c21.1 [.tmp 2]:=mkT Tryz.func21 rfl (by decide +kernel) Tryz.ntmps21 rfl c21.2 rfl
def c85:CT (Tryz.f85.body.getD .skip):=⟨_,by conv=>lhs; cbv⟩
theorem F85:Fun1 Tryz.prog 85 13 c85.1 [.tmp 2]:=mkT Tryz.func85 rfl (by decide +kernel) Tryz.ntmps85 rfl c85.2 rfl
open Go.Proofs
def c206:CT (Tryz.f206.body.getD .skip):=⟨_,by conv=>lhs; cbv⟩
theorem F206:Fun1 Tryz.prog 206 33 c206.1 [.tmp 6]:=mkT Tryz.func206 rfl (by decide +kernel) Tryz.ntmps206 rfl c206.2 rfl
def c171:CT (Tryz.f171.body.getD .skip):=⟨_,by conv=>lhs; cbv⟩
theorem F171:Fun1 Tryz.prog 171 28 c171.1 [.tmp 6]:=mkT Tryz.func171 rfl (by decide +kernel) Tryz.ntmps171 rfl c171.2 rfl
def c82:CT (Tryz.f82.body.getD .skip):=⟨_,by conv=>lhs; cbv⟩
theorem F82:Fun1 Tryz.prog 82 84 c82.1 [.cell 4 38,.tmp 5]:=mkT Tryz.func82 rfl (by decide +kernel) Tryz.ntmps82 rfl c82.2 rfl
def c127:CT (Tryz.f127.body.getD .skip):=⟨_,by conv=>lhs; cbv⟩
theorem F127:Fun1 Tryz.prog 127 30 c127.1 [.tmp 3]:=mkT Tryz.func127 rfl (by decide +kernel) Tryz.ntmps127 rfl c127.2 rfl
def c83:CT (Tryz.f83.body.getD .skip):=⟨_,by conv=>lhs; cbv⟩
theorem F83:Fun1 Tryz.prog 83 9 c83.1 [.tmp 2]:=mkT Tryz.func83 rfl (by decide +kernel) Tryz.ntmps83 rfl c83.2 rfl
def c19:CT (Tryz.f19.body.getD .skip):=⟨_,by conv=>lhs; cbv⟩
theorem F19:Fun1 Tryz.prog 19 73 c19.1 [.cell 4 38,.tmp 5]:=mkT Tryz.func19 rfl (by decide +kernel) Tryz.ntmps19 rfl c19.2 rfl
def c64:CT (Tryz.f64.body.getD .skip):=⟨_,by conv=>lhs; cbv⟩
theorem F64:Fun1 Tryz.prog 64 29 c64.1 [.tmp 4]:=mkT Tryz.func64 rfl (by decide +kernel) Tryz.ntmps64 rfl c64.2 rfl
def c22:CT (Tryz.f22.body.getD .skip):=⟨_,by conv=>lhs; cbv⟩
theorem F22:Fun1 Tryz.prog 22 9 c22.1 [.tmp 2]:=mkT Tryz.func22 rfl (by decide +kernel) Tryz.ntmps22 rfl c22.2 rfl
open Go.Proofs
def c31:CT (Tryz.f31.body.getD .skip):=⟨_,by conv=>lhs; cbv⟩
theorem F31:Fun1 Tryz.prog 31 27 c31.1 [.cell 2 52,.tmp 3,.tmp 4]:=mkT Tryz.func31 rfl (by decide +kernel) Tryz.ntmps31 rfl c31.2 rfl
def c72:CT (Tryz.f72.body.getD .skip):=⟨_,by conv=>lhs; cbv⟩
theorem F72:Fun1 Tryz.prog 72 68 c72.1 [.tmp 2,.tmp 3,.tmp 4,.tmp 5]:=mkT Tryz.func72 rfl (by decide +kernel) Tryz.ntmps72 rfl c72.2 rfl
def c116:CT (Tryz.f116.body.getD .skip):=⟨_,by conv=>lhs; cbv⟩
theorem F116:Fun1 Tryz.prog 116 56 c116.1 [.tmp 2,.tmp 3,.tmp 4,.tmp 5]:=mkT Tryz.func116 rfl (by decide +kernel) Tryz.ntmps116 rfl c116.2 rfl
def c117:CT (Tryz.f117.body.getD .skip):=⟨_,by conv=>lhs; cbv⟩
theorem F117:Fun1 Tryz.prog 117 140 c117.1 [.cell 8 86,.tmp 9,.tmp 10]:=mkT Tryz.func117 rfl (by decide +kernel) Tryz.ntmps117 rfl c117.2 rfl
def c108:CT (Tryz.f108.body.getD .skip):=⟨_,by conv=>lhs; cbv⟩
theorem F108:Fun1 Tryz.prog 108 17 c108.1 [.tmp 4]:=mkT Tryz.func108 rfl (by decide +kernel) Tryz.ntmps108 rfl c108.2 rfl
def c149:CT (Tryz.f149.body.getD .skip):=⟨_,by conv=>lhs; cbv⟩
theorem F149:Fun1 Tryz.prog 149 13 c149.1 [.tmp 2]:=mkT Tryz.func149 rfl (by decide +kernel) Tryz.ntmps149 rfl c149.2 rfl
def c134:CT (Tryz.f134.body.getD .skip):=⟨_,by conv=>lhs; cbv⟩
theorem F134:Fun1 Tryz.prog 134 52 c134.1 [.tmp 2,.tmp 3,.tmp 4]:=mkT Tryz.func134 rfl (by decide +kernel) Tryz.ntmps134 rfl c134.2 rfl
def c167:CT (Tryz.f167.body.getD .skip):=⟨_,by conv=>lhs; cbv⟩
theorem F167:Fun1 Tryz.prog 167 13 c167.1 [.tmp 2]:=mkT Tryz.func167 rfl (by decide +kernel) Tryz.ntmps167 rfl c167.2 rfl
def c135:CT (Tryz.f135.body.getD .skip):=⟨_,by conv=>lhs; cbv⟩
theorem F135:Fun1 Tryz.prog 135 19 c135.1 [.tmp 2]:=mkT Tryz.func135 rfl (by decide +kernel) Tryz.ntmps135 rfl c135.2 rfl
def c165:CT (Tryz.f165.body.getD .skip):=⟨_,by conv=>lhs; cbv⟩
theorem F165:Fun1 Tryz.prog 165 20 c165.1 [.tmp 4]:=mkT Tryz.func165 rfl (by decide +kernel) Tryz.ntmps165 rfl c165.2 rfl
def c204:CT (Tryz.f204.body.getD .skip):=⟨_,by conv=>lhs; cbv⟩
theorem F204:Fun1 Tryz.prog 204 13 c204.1 [.tmp 2]:=mkT Tryz.func204 rfl (by decide +kernel) Tryz.ntmps204 rfl c204.2 rfl
def c205:AC:=
.seq (rg [oO 2 (.alloc 86),oO 3 (.assign (kI 0)),oO 4 (.assign (kI 0))])
 (.seq (.reg true [0] [⟨⟨some 12,.build 86 #[],none⟩,false,true⟩,⟨⟨some 13,.move (tT 0),none⟩,true,true⟩,⟨⟨some 14,.nilCheck (tT 13),none⟩,true,true⟩,⟨⟨some 15,.fieldAddr 199 (tT 14) 0,none⟩,true,true⟩,⟨⟨some 16,.load 26 (tT 15),none⟩,true,true⟩,⟨⟨some 17,.move (tT 0),none⟩,true,true⟩,⟨⟨some 18,.nilCheck (tT 17),none⟩,true,true⟩,⟨⟨some 19,.fieldAddr 199 (tT 18) 1,none⟩,true,true⟩,⟨⟨some 20,.load 3 (tT 19),none⟩,true,true⟩,oO 5 (.alloc 86),oN (.store 86 (tT 5) (tT 12)),oO 6 (.assign (tT 16)),oO 7 (.assign (tT 20))])
 (.seq (.seq (rg [oO 21 (.move (tT 6)),oO 22 (cB .len #[tT 21] #[26]),oO 23 (.move (tT 7)),oO 24 (.binOp .sub 3 (tT 22) (tT 23) 3),oO 25 (.binOp .lss 3 (tT 24) (kI 2) 3)])
 (.cond (tT 25) (.seq (rg [oO 26 (.load 86 (tT 5)),oO 27 (.move (tT 6)),oO 28 (cB .len #[tT 27] #[26]),oN (.store 86 (tT 2) (tT 26)),oO 3 (.assign (tT 28)),oO 4 (.assign (kI 2))])
 (.ret))
 (.skip)))
 (.seq (rg [oO 29 (.move (tT 6)),oO 30 (.move (tT 7)),oO 31 (.slice 26 (tT 29) (some (tT 30)) none none),oO 32 (cF (.func 167) #[tT 31] #[26]),oO 33 (.build 86 #[(0,.tmp 32)]),oO 8 (.alloc 86),oN (.store 86 (tT 8) (tT 33))])
 (.seq (.seq (.reg true [] [⟨⟨some 34,.move (tT 0),none⟩,false,true⟩,⟨⟨some 35,.nilCheck (tT 34),none⟩,false,true⟩,⟨⟨some 36,.fieldAddr 199 (tT 35) 2,none⟩,false,true⟩,⟨⟨some 37,.load 3 (tT 36),none⟩,false,true⟩,oO 38 (.fieldAddr 86 (tT 8) 0),oO 39 (.load 3 (tT 38)),oO 40 (cF (.func 165) #[tT 37,tT 39] #[3,3]),oO 9 (.assign (tT 40))])
 (.seq (rg [oO 41 (.move (tT 9)),oO 42 (.binOp .neq 32 (tT 41) (kI 0) 32)])
 (.cond (tT 42) (.seq (rg [oO 43 (.load 86 (tT 5)),oO 44 (.move (tT 7)),oO 45 (.move (tT 9)),oN (.store 86 (tT 2) (tT 43)),oO 3 (.assign (tT 44)),oO 4 (.assign (tT 45))])
 (.ret))
 (.skip))))
 (.seq (rg [oO 46 (.move (tT 7)),oO 47 (.binOp .add 3 (tT 46) (kI 2) 3),oO 7 (.assign (tT 47))])
 (.seq (.seq (rg [oO 48 (.move (tT 7)),oO 49 (.move (tT 6)),oO 50 (cB .len #[tT 49] #[26]),oO 51 (.binOp .eql 3 (tT 48) (tT 50) 3)])
 (.cond (tT 51) (.seq (rg [oO 52 (.load 86 (tT 5)),oO 53 (.move (tT 7)),oN (.store 86 (tT 2) (tT 52)),oO 3 (.assign (tT 53)),oO 4 (.assign (kI 2))])
 (.ret))
 (.skip)))
 (.seq (.seq (rg [oO 54 (.move (tT 6)),oO 55 (.move (tT 7)),oO 56 (.indexAddr 26 (tT 54) (tT 55)),oO 57 (.load 5 (tT 56)),oO 58 (.binOp .gtr 5 (tT 57) (kB 1) 5)])
 (.cond (tT 58) (.seq (rg [oO 59 (.load 86 (tT 5)),oO 60 (.move (tT 7)),oN (.store 86 (tT 2) (tT 59)),oO 3 (.assign (tT 60)),oO 4 (.assign (kI 63))])
 (.ret))
 (.skip)))
 (.seq (.seq (rg [oO 61 (.move (tT 6)),oO 62 (.move (tT 7)),oO 63 (.indexAddr 26 (tT 61) (tT 62)),oO 64 (.load 5 (tT 63)),oO 65 (.binOp .eql 5 (tT 64) (kB 0) 5)])
 (.cond (tT 65) (.seq (rg [oO 66 (.fieldAddr 86 (tT 8) 1),oN (.store 4 (tT 66) (.const (.bool true)))])
 (.seq (rg [oO 67 (.load 86 (tT 8)),oO 68 (.move (tT 7)),oO 69 (.binOp .add 3 (tT 68) (kI 1) 3),oN (.store 86 (tT 2) (tT 67)),oO 3 (.assign (tT 69)),oO 4 (.assign (kI 0))])
 (.ret)))
 (.skip)))
 (.seq (rg [oO 70 (.move (tT 7)),oO 71 (.binOp .add 3 (tT 70) (kI 1) 3),oO 7 (.assign (tT 71))])
 (.seq (.seq (rg [oO 72 (.move (tT 7)),oO 73 (.move (tT 6)),oO 74 (cB .len #[tT 73] #[26]),oO 75 (.binOp .eql 3 (tT 72) (tT 74) 3)])
 (.cond (tT 75) (.seq (rg [oO 76 (.load 86 (tT 5)),oO 77 (.move (tT 7)),oN (.store 86 (tT 2) (tT 76)),oO 3 (.assign (tT 77)),oO 4 (.assign (kI 2))])
 (.ret))
 (.skip)))
 (.seq (.seq (.reg true [6] [⟨⟨some 78,.move (tT 6),none⟩,false,true⟩,⟨⟨some 79,.indexAddr 26 (tT 78) (kI 3),none⟩,false,true⟩,⟨⟨some 80,.load 5 (tT 79),none⟩,false,true⟩,⟨⟨some 81,.convert 5 3 (tT 80),none⟩,false,true⟩,⟨⟨some 82,.move (tT 6),none⟩,true,true⟩,⟨⟨some 83,.move (tT 7),none⟩,true,true⟩,⟨⟨some 84,.indexAddr 26 (tT 82) (tT 83),none⟩,true,true⟩,⟨⟨some 85,.load 5 (tT 84),none⟩,true,true⟩,⟨⟨some 86,.convert 5 3 (tT 85),none⟩,true,true⟩,oO 87 (.fieldAddr 86 (tT 8) 2),oO 88 (.fieldAddr 84 (tT 87) 0),oN (.store 3 (tT 88) (tT 81))])
 (rg [oO 89 (.fieldAddr 86 (tT 8) 2),oO 90 (.fieldAddr 84 (tT 89) 1),oN (.store 3 (tT 90) (tT 86))]))
 (.seq (rg [oO 91 (.fieldAddr 86 (tT 8) 2),oO 92 (.fieldAddr 84 (tT 91) 0),oO 93 (.load 3 (tT 92)),oO 94 (.fieldAddr 86 (tT 8) 2),oO 95 (.fieldAddr 84 (tT 94) 1),oO 96 (.load 3 (tT 95)),oO 97 (.binOp .add 3 (tT 93) (tT 96) 3),oO 10 (.assign (tT 97))])
 (.seq (.seq (rg [oO 98 (.move (tT 10)),oO 99 (.binOp .gtr 3 (tT 98) (kI 24) 3)])
 (.cond (tT 99) (.seq (rg [oO 100 (.load 86 (tT 5)),oO 101 (.move (tT 7)),oN (.store 86 (tT 2) (tT 100)),oO 3 (.assign (tT 101)),oO 4 (.assign (kI 65))])
 (.ret))
 (.skip)))
 (.seq (rg [oO 102 (.move (tT 7)),oO 103 (.binOp .add 3 (tT 102) (kI 1) 3),oO 7 (.assign (tT 103))])
 (.seq (.seq (rg [oO 104 (.move (tT 10)),oO 105 (.move (kI 0))])
 (.block 0 (.loop (.seq (rg [oO 106 (.binOp .lss 3 (tT 105) (tT 104) 3)])
 (.seq (.cond (tT 106) (.skip)
 (.exit 0))
 (.seq (.block 1 (.seq (rg [oO 107 (.move (tT 105)),oO 11 (.assign (tT 107))])
 (.seq (.seq (rg [oO 108 (.move (tT 7)),oO 109 (.move (tT 6)),oO 110 (cB .len #[tT 109] #[26]),oO 111 (.binOp .eql 3 (tT 108) (tT 110) 3)])
 (.cond (tT 111) (.seq (rg [oO 112 (.load 86 (tT 5)),oO 113 (.move (tT 7)),oN (.store 86 (tT 2) (tT 112)),oO 3 (.assign (tT 113)),oO 4 (.assign (kI 2))])
 (.ret))
 (.skip)))
 (.seq (.seq (rg [oO 114 (.move (tT 6)),oO 115 (.move (tT 7)),oO 116 (.indexAddr 26 (tT 114) (tT 115)),oO 117 (.load 5 (tT 116)),oO 118 (cF (.func 204) #[tT 117] #[81]),oO 119 (.unOp .not 4 (tT 118))])
 (.cond (tT 119) (.seq (rg [oO 120 (.load 86 (tT 5)),oO 121 (.move (tT 7)),oN (.store 86 (tT 2) (tT 120)),oO 3 (.assign (tT 121)),oO 4 (.assign (kI 62))])
 (.ret))
 (.skip)))
 (.seq (rg [oO 122 (.move (tT 11)),oO 123 (.move (tT 6)),oO 124 (.move (tT 7)),oO 125 (.indexAddr 26 (tT 123) (tT 124)),oO 126 (.load 5 (tT 125)),oO 127 (.fieldAddr 86 (tT 8) 2),oO 128 (.fieldAddr 84 (tT 127) 2),oO 129 (.indexAddr 82 (tT 128) (tT 122)),oN (.store 81 (tT 129) (tT 126))])
 (rg [oO 130 (.move (tT 7)),oO 131 (.binOp .add 3 (tT 130) (kI 1) 3),oO 7 (.assign (tT 131))]))))))
 (rg [oO 132 (.binOp .add 3 (tT 105) (kI 1) 3),oO 105 (.move (tT 132))])))))))
 (.seq (rg [oO 133 (.load 86 (tT 8)),oO 134 (.move (tT 7)),oN (.store 86 (tT 2) (tT 133)),oO 3 (.assign (tT 134)),oO 4 (.assign (kI 0))])
 .ret))))))))))))))))
theorem F205:Fun1 Tryz.prog 205 135 c205 [.cell 2 86,.tmp 3,.tmp 4]:=mkT Tryz.func205 rfl (by decide +kernel) Tryz.ntmps205 rfl (by kernel_rfl) rfl
def c169:CT (Tryz.f169.body.getD .skip):=⟨_,by conv=>lhs; cbv⟩
theorem F169:Fun1 Tryz.prog 169 107 c169.1 [.cell 2 86,.tmp 3,.tmp 4]:=mkT Tryz.func169 rfl (by decide +kernel) Tryz.ntmps169 rfl c169.2 rfl
def c136:CT (Tryz.f136.body.getD .skip):=⟨_,by conv=>lhs; cbv⟩
theorem F136:Fun1 Tryz.prog 136 4 c136.1 [.tmp 2]:=mkT Tryz.func136 rfl (by decide +kernel) Tryz.ntmps136 rfl c136.2 rfl
open Go.Proofs
def c94:CT (Tryz.f94.body.getD .skip):=⟨_,by conv=>lhs; cbv⟩
def c106:CT (Tryz.f106.body.getD .skip):=⟨_,by conv=>lhs; cbv⟩
theorem F106:Fun1 Tryz.prog 106 20 c106.1 [.tmp 4]:=mkT Tryz.func106 rfl (by decide +kernel) Tryz.ntmps106 rfl c106.2 rfl
def c61:CT (Tryz.f61.body.getD .skip):=⟨_,by conv=>lhs; cbv⟩
theorem F61:Fun1 Tryz.prog 61 112 c61.1 [.tmp 2,.tmp 3]:=mkT Tryz.func61 rfl (by decide +kernel) Tryz.ntmps61 rfl c61.2 rfl
def c62:CT (Tryz.f62.body.getD .skip):=⟨_,by conv=>lhs; cbv⟩
theorem F62:Fun1 Tryz.prog 62 192 c62.1 [.tmp 2,.tmp 3]:=mkT Tryz.func62 rfl (by decide +kernel) Tryz.ntmps62 rfl c62.2 rfl
def c18:CT (Tryz.f18.body.getD .skip):=⟨_,by conv=>lhs; cbv⟩
theorem F18:Fun1 Tryz.prog 18 168 c18.1 [.cell 8 31,.tmp 9,.tmp 10]:=mkT Tryz.func18 rfl (by decide +kernel) Tryz.ntmps18 rfl c18.2 rfl
def c93:CT (Tryz.f93.body.getD .skip):=⟨_,by conv=>lhs; cbv⟩
theorem F93:Fun1 Tryz.prog 93 8 c93.1 []:=mkT Tryz.func93 rfl (by decide +kernel) Tryz.ntmps93 rfl c93.2 rfl
def c95:CT (Tryz.f95.body.getD .skip):=⟨_,by conv=>lhs; cbv⟩
theorem F95:Fun1 Tryz.prog 95 9 c95.1 []:=mkT Tryz.func95 rfl (by decide +kernel) Tryz.ntmps95 rfl c95.2 rfl
def c53:CT (Tryz.f53.body.getD .skip):=⟨_,by conv=>lhs; cbv⟩
theorem F53:Fun1 Tryz.prog 53 87 c53.1 [.tmp 8]:=mkT Tryz.func53 rfl (by decide +kernel) Tryz.ntmps53 rfl c53.2 rfl
def c55:CT (Tryz.f55.body.getD .skip):=⟨_,by conv=>lhs; cbv⟩
theorem F55:Fun1 Tryz.prog 55 43 c55.1 []:=mkT Tryz.func55 rfl (by decide +kernel) Tryz.ntmps55 rfl c55.2 rfl
def c98:CT (Tryz.f98.body.getD .skip):=⟨_,by conv=>lhs; cbv⟩
theorem F98:Fun1 Tryz.prog 98 109 c98.1 [.tmp 4]:=mkT Tryz.func98 rfl (by decide +kernel) Tryz.ntmps98 rfl c98.2 rfl
def c99:CT (Tryz.f99.body.getD .skip):=⟨_,by conv=>lhs; cbv⟩
theorem F99:Fun1 Tryz.prog 99 114 c99.1 [.tmp 4]:=mkT Tryz.func99 rfl (by decide +kernel) Tryz.ntmps99 rfl c99.2 rfl
def c141:CT (Tryz.f141.body.getD .skip):=⟨_,by conv=>lhs; cbv⟩
theorem F141:Fun1 Tryz.prog 141 61 c141.1 [.cell 4 86,.tmp 5]:=mkT Tryz.func141 rfl (by decide +kernel) Tryz.ntmps141 rfl c141.2 rfl
def c142:CT (Tryz.f142.body.getD .skip):=⟨_,by conv=>lhs; cbv⟩
theorem F142:Fun1 Tryz.prog 142 28 c142.1 []:=mkT Tryz.func142 rfl (by decide +kernel) Tryz.ntmps142 rfl c142.2 rfl
def c143:CT (Tryz.f143.body.getD .skip):=⟨_,by conv=>lhs; cbv⟩
theorem F143:Fun1 Tryz.prog 143 62 c143.1 [.cell 4 38]:=mkT Tryz.func143 rfl (by decide +kernel) Tryz.ntmps143 rfl c143.2 rfl
def c145:CT (Tryz.f145.body.getD .skip):=⟨_,by conv=>lhs; cbv⟩
theorem F145:Fun1 Tryz.prog 145 46 c145.1 []:=mkT Tryz.func145 rfl (by decide +kernel) Tryz.ntmps145 rfl c145.2 rfl
open Go.Proofs
def c51:CT (Tryz.f51.body.getD .skip):=⟨_,by conv=>lhs; cbv⟩
def c92:CT (Tryz.f92.body.getD .skip):=⟨_,by conv=>lhs; cbv⟩
def c52:CT (Tryz.f52.body.getD .skip):=⟨_,by conv=>lhs; cbv⟩
theorem F52:Fun1 Tryz.prog 52 22 c52.1 []:=mkT Tryz.func52 rfl (by decide +kernel) Tryz.ntmps52 rfl c52.2 rfl
def c54:CT (Tryz.f54.body.getD .skip):=⟨_,by conv=>lhs; cbv⟩
theorem F54:Fun1 Tryz.prog 54 8 c54.1 [.tmp 3]:=mkT Tryz.func54 rfl (by decide +kernel) Tryz.ntmps54 rfl c54.2 rfl
def c15:CT (Tryz.f15.body.getD .skip):=⟨_,by conv=>lhs; cbv⟩
theorem F15:Fun1 Tryz.prog 15 22 c15.1 [.cell 8 31,.tmp 9,.tmp 10]:=mkT Tryz.func15 rfl (by decide +kernel) Tryz.ntmps15 rfl c15.2 rfl
open Go.Proofs
def c17:CT (Tryz.f17.body.getD .skip):=⟨_,by conv=>lhs; cbv⟩
theorem F17:Fun1 Tryz.prog 17 8 c17.1 [.tmp 2]:=mkT Tryz.func17 rfl (by decide +kernel) Tryz.ntmps17 rfl c17.2 rfl
open Go.Proofs
open Go.Proofs
open Go.Proofs
open Go.Proofs
open Go.Proofs
def c220:AC:=
.seq (rg [oO 3 (.box 22 (tT 0)),oO 6 (.assign (kB 0))])
 (.seq (.block 0 (.seq (rg [oO 11 (.load 22 (tT 3)),oO 12 (.move (tT 1)),oO 13 (cF (.func 139) #[tT 11,tT 12] #[22,81]),oO 14 (.unOp .not 4 (tT 13)),oO 15 (.move (tT 14)),oG 16 (.load 22 (tT 3)) 15 false,oG 17 (.move (tT 2)) 15 false,oG 18 (cF (.func 139) #[tT 16,tT 17] #[22,81]) 15 false,oG 19 (.unOp .not 4 (tT 18)) 15 false,oO 20 (.pick (tT 15) (.const (.bool true)) (tT 19)),oO 10 (.assign (tT 20))])
 (.cond (tT 10) (.seq (rg [oO 6 (.assign (kB 0))])
 (.ret))
 (.seq (rg [oO 22 (.load 22 (tT 3)),oO 23 (.move (tT 1)),oO 24 (.move (tT 2)),oO 25 (cF (.func 207) #[tT 22,tT 23,tT 24] #[22,81,81]),oO 21 (.assign (tT 25))])
 (.cond (tT 21) (.seq (rg [oO 26 (.move (tT 2)),oO 6 (.assign (tT 26))])
 (.ret))
 (.seq (rg [oO 28 (.load 22 (tT 3)),oO 29 (.move (tT 2)),oO 30 (.move (tT 1)),oO 31 (cF (.func 207) #[tT 28,tT 29,tT 30] #[22,81,81]),oO 27 (.assign (tT 31))])
 (.cond (tT 27) (.seq (rg [oO 32 (.move (tT 1)),oO 6 (.assign (tT 32))])
 (.ret))
 (.seq (rg [oO 34 (.move (tT 1)),oO 35 (cF (.func 227) #[tT 34] #[81]),oO 36 (.unOp .not 4 (tT 35)),oO 37 (.move (tT 36)),oG 38 (.move (tT 2)) 37 false,oG 39 (cF (.func 227) #[tT 38] #[81]) 37 false,oG 40 (.unOp .not 4 (tT 39)) 37 false,oO 41 (.pick (tT 37) (.const (.bool true)) (tT 40)),oO 33 (.assign (tT 41))])
 (.cond (tT 33) (.seq (rg [oO 6 (.assign (kB 0))])
 (.ret))
 (.skip))))))))))
 (.seq (rg [oO 7 (.alloc 81),oN (.store 81 (tT 7) (kB 5))])
 (.seq (.seq (.reg true [3] [⟨⟨some 42,.load 22 (tT 3),none⟩,false,true⟩,⟨⟨some 43,.move (tT 1),none⟩,false,true⟩,⟨⟨some 44,cF (.func 170) #[tT 42,tT 43] #[22,81],none⟩,false,true⟩,⟨⟨some 45,.load 22 (tT 3),none⟩,true,true⟩,⟨⟨some 46,.move (tT 2),none⟩,true,true⟩,⟨⟨some 47,cF (.func 170) #[tT 45,tT 46] #[22,81],none⟩,false,true⟩,⟨⟨some 9,.alloc 3,none⟩,true,false⟩])
 (rg [oO 8 (.assign (tT 44)),oN (.store 3 (tT 9) (tT 47))]))
 (.seq (.seq (rg [oO 48 (.move (tT 8)),oO 49 (.binOp .geq 3 (tT 48) (kI 0) 3),oO 50 (.move (tT 49)),oG 51 (.load 3 (tT 9)) 50 true,oG 52 (.binOp .geq 3 (tT 51) (kI 0) 3) 50 true,oO 53 (.pick (tT 50) (tT 52) (.const (.bool false)))])
 (.cond (tT 53) (rg [oO 54 (.load 22 (tT 3)),oO 55 (.move (tT 8)),oO 56 (.makeFunc (.func 239) #[] #[tT 3,tT 9,tT 7]),oO 57 (cF (.func 189) #[tT 54,tT 55,tT 56] #[22,3,188])])
 (.skip)))
 (.seq (rg [oO 58 (.load 81 (tT 7)),oO 6 (.assign (tT 58))])
 .ret)))))
theorem F220:Fun1 Tryz.prog 220 59 c220 [.tmp 6]:=mkT Tryz.func220 rfl (by decide +kernel) Tryz.ntmps220 rfl (by kernel_rfl) rfl
def c239:CT (Tryz.f239.body.getD .skip):=⟨_,by conv=>lhs; cbv⟩
theorem F239:Fun1 Tryz.prog 239 13 c239.1 [.tmp 5]:=mkT Tryz.func239 rfl (by decide +kernel) Tryz.ntmps239 rfl c239.2 rfl
def c192:CT (Tryz.f192.body.getD .skip):=⟨_,by conv=>lhs; cbv⟩
theorem F192:Fun1 Tryz.prog 192 41 c192.1 [.cell 6 84,.tmp 7]:=mkT Tryz.func192 rfl (by decide +kernel) Tryz.ntmps192 rfl c192.2 rfl
open Go.Proofs
def mergeT (l:List Cl) (a b:Ty):Ty:=
 if validN l.length a=false∨validN l.length b=false then 0
 else if subB l a b=true then b
 else if subB l b a=true then a
 else if isRefB a=false∨isRefB b=false then 0
 else match (upI l (clsOf l.length a)).find? fun k:Nat=>(upI l (clsOf l.length b)).any fun j=>decide ((j:Int)=(k:Int)) with
  |some k=>ofClass k
  |none=>5
theorem up_le {l:List Cl}:∀(n:Nat) (c:Int),c<n→∀k∈upI l c,(k:Int)≤c∧k<l.length
 |0,c,h,k,hk=>by rw[upI_neg (by omega)] at hk; cases hk
 |n+1,c,h,k,hk=>by
  by_cases h0:c<0
  ·rw[upI_neg h0] at hk; cases hk
  by_cases h1:(l.length:Int)≤c
  ·rw[upI_out h1] at hk; cases hk
  obtain⟨c,rfl⟩:∃c':Nat,c=c':=⟨c.toNat,by omega⟩
  have hc:c<l.length:=by omega
  rw[upI_step hc] at hk
  rcases List.mem_cons.1 hk with rfl|hk
  ·exact⟨by omega,hc⟩
  ·split at hk
   ·rename_i hp
    obtain⟨h2,h3⟩:=up_le n l[c].parent (by omega) k hk
    exact⟨by omega,h3⟩
   ·cases hk
theorem up_mem {l:List Cl} {c:Int} {k:Nat} (hk:k∈upI l c):(k:Int)≤c∧k<l.length:=up_le (c.toNat+1) c (by omega) k hk
theorem up_self {l:List Cl} {c:Nat} (h:c<l.length):c∈upI l (c:Int):=by rw[upI_step h]; exact List.mem_cons_self
theorem up_chain {l:List Cl}:∀(n:Nat) (c:Int),c<n→(upI l c).Pairwise fun x y:Nat=>y∈upI l (x:Int)
 |0,c,h=>by rw[upI_neg (by omega)]; exact List.Pairwise.nil
 |n+1,c,h=>by
  by_cases h0:c<0
  ·rw[upI_neg h0]; exact List.Pairwise.nil
  by_cases h1:(l.length:Int)≤c
  ·rw[upI_out h1]; exact List.Pairwise.nil
  obtain⟨c,rfl⟩:∃c':Nat,c=c':=⟨c.toNat,by omega⟩
  have hc:c<l.length:=by omega
  rw[upI_step hc]
  split
  ·rename_i hp
   refine List.pairwise_cons.2 ⟨fun y hy=> ?_,up_chain n l[c].parent (by omega)⟩
   rw[upI_step hc,if_pos hp]; exact List.mem_cons_of_mem _ hy
  ·exact List.pairwise_cons.2 ⟨fun y hy=>(by cases hy),List.Pairwise.nil⟩
theorem find_up {l:List Cl} {c:Int} {p:Nat→Bool} {k:Nat} (h:(upI l c).find? p=some k):k∈upI l c∧p k=true∧∀j∈upI l c,p j=true→j∈upI l (k:Int):=by
 refine⟨List.mem_of_find?_eq_some h,List.find?_some h,fun j hj hp=> ?_⟩
 have hch:=up_chain (l:=l) (c.toNat+1) c (by omega)
 have hk:=up_mem (List.mem_of_find?_eq_some h)
 generalize upI l c=L at *
 induction L with
 |nil=>cases hj
 |cons x L ih=>
  rw[List.find?_cons] at h
  obtain⟨h1,h2⟩:=List.pairwise_cons.1 hch
  cases hx:p x
  ·rw[hx] at h
   rcases List.mem_cons.1 hj with rfl|hj
   ·rw[hx] at hp; cases hp
   ·exact ih h hj h2
  ·rw[hx] at h
   cases h
   rcases List.mem_cons.1 hj with rfl|hj
   ·exact up_self hk.2
   ·exact h1 j hj
theorem subB_antisymm {l:List Cl} {a b:Ty} (h1:subB l a b=true) (h2:subB l b a=true):a=b:=by
 obtain⟨ha,hb⟩:=subB_valid h1
 rw[subB_iff ha hb] at h1
 rw[subB_iff hb ha] at h2
 simp only[SubP,isRef_iff] at h1 h2
 rcases h1 with h1|h1|⟨h1,h3,h4⟩|⟨h1,h3,h4⟩
 ·exact h1
 ·rcases h2 with h2|h2|⟨h2,h5,h6⟩|⟨h2,h5,h6⟩
  ·exact h2.symm
  ·exact Fin.ext (by omega)
  ·omega
  ·omega
 ·rcases h2 with h2|h2|⟨h2,h5,h6⟩|⟨h2,h5,h6⟩
  ·exact h2.symm
  ·omega
  ·exact Fin.ext (by omega)
  ·have:=(up_mem h6).1; omega
 ·rcases h2 with h2|h2|⟨h2,h5,h6⟩|⟨h2,h5,h6⟩
  ·exact h2.symm
  ·omega
  ·omega
  ·have:=(up_mem h4).1
   have:=(up_mem h6).1
   exact Fin.ext (by omega)
theorem ofClass_val {k:Nat} (h:k<240):(ofClass (k:Int)).val=16+k:=by
 show(16+((k:Int)).toNat)%256=_
 rw[Int.toNat_natCast]; omega
theorem valid_0 (n:Nat):validN n 0=true:=by simp[validN]
theorem valid_5 (n:Nat):validN n 5=true:=decide_eq_true (.inl (by decide))
theorem sub_top {l:List Cl} {a:Ty} (h:validN l.length a=true):subB l a 0=true:=(subB_iff h (valid_0 _)).2 (.inr (.inl rfl))
theorem merge_up {l:List Cl} {a b:Ty} (ha:validN l.length a=true) (hb:validN l.length b=true):subB l a (mergeT l a b)=true∧subB l b (mergeT l a b)=true∧∀t,subB l a t=true→subB l b t=true→subB l (mergeT l a b) t=true:=by
 unfold mergeT
 rw[if_neg (by simp[ha,hb])]
 by_cases h1:subB l a b=true
 ·rw[if_pos h1]; exact⟨h1,subB_refl hb,fun t _ h=>h⟩
 rw[if_neg h1]
 by_cases h2:subB l b a=true
 ·rw[if_pos h2]; exact⟨subB_refl ha,h2,fun t h _=>h⟩
 rw[if_neg h2]
 have n1:¬SubP l a b:=fun h=>h1 ((subB_iff ha hb).2 h)
 have n2:¬SubP l b a:=fun h=>h2 ((subB_iff hb ha).2 h)
 by_cases h3:isRefB a=false∨isRefB b=false
 ·rw[if_pos h3]
  refine⟨sub_top ha,sub_top hb,fun t h4 h5=> ?_⟩
  have ht:=(subB_valid h4).2
  rw[subB_iff ha ht] at h4
  rw[subB_iff hb ht] at h5
  have h3':¬(isRefB a=true∧isRefB b=true):=by rcases h3 with h|h <;> simp[h]
  have:t=0:=by
   simp only[SubP] at h4 h5 n1 n2
   simp only[isRef_iff] at h3' h4 h5 n1 n2
   rcases h4 with rfl|h4|⟨h4,h6,h7⟩|⟨h4,h6,h7⟩
   ·exact absurd h5 n2
   ·exact Fin.ext h4
   ·rcases h5 with rfl|h5|⟨h5,h8,h9⟩|⟨h5,h8,h9⟩
    ·exact absurd (.inr (.inr (.inl ⟨h4,h6,h7⟩))) n1
    ·exact Fin.ext h5
    ·omega
    ·omega
   ·rcases h5 with rfl|h5|⟨h5,h8,h9⟩|⟨h5,h8,h9⟩
    ·exact absurd (.inr (.inr (.inr ⟨h4,h6,h7⟩))) n1
    ·exact Fin.ext h5
    ·omega
    ·omega
  rw[this]; exact sub_top (valid_0 _)
 rw[if_neg h3]
 have hra:isRefB a=true:=by simp only[not_or,Bool.not_eq_false] at h3; exact h3.1
 have hrb:isRefB b=true:=by simp only[not_or,Bool.not_eq_false] at h3; exact h3.2
 have v5:=valid_5 l.length
 have hany:isRefB 5=true:=rfl
 have top5:∀t:Ty,t.val=0→subB l 5 t=true:=fun t ht=>(subB_iff v5 (by simp[validN,ht])).2 (.inr (.inl ht))
 have any5:∀t:Ty,t.val=5→subB l 5 t=true:=fun t ht=>by
  have:t=5:=Fin.ext ht
  rw[this]; exact subB_refl v5
 have nb:a.val≠3∧b.val≠3∧a≠b:=by
  refine⟨fun h=>n1 (.inr (.inr (.inl ⟨.inl h,hra,hrb⟩))),fun h=>n2 (.inr (.inr (.inl ⟨.inl h,hrb,hra⟩))),fun h=>n1 (.inl h)⟩
 have both:∀t,subB l a t=true→subB l b t=true→t.val=0∨t.val=5∨(16≤a.val∧16≤b.val∧16≤t.val∧(t.val-16)∈upI l ((a.val:Int)-16)∧(t.val-16)∈upI l ((b.val:Int)-16)):=fun t h4 h5=>by
  have ht:=(subB_valid h4).2
  rw[subB_iff ha ht] at h4
  rw[subB_iff hb ht] at h5
  rcases h4 with rfl|h4|⟨h4,h6,h7⟩|⟨h4,h6,h7⟩
  ·exact absurd h5 n2
  ·exact .inl h4
  ·have:=nb.1
   exact .inr (.inl (by omega))
  ·rcases h5 with rfl|h5|⟨h5,h8,h9⟩|⟨h5,h8,h9⟩
   ·exact absurd (.inr (.inr (.inr ⟨h4,h6,h7⟩))) n1
   ·exact .inl h5
   ·have:=nb.2.1
    exact .inr (.inl (by omega))
   ·exact .inr (.inr ⟨h4,h5,h6,h7,h9⟩)
 cases hf:(upI l (clsOf l.length a)).find? fun k:Nat=>(upI l (clsOf l.length b)).any fun j=>decide ((j:Int)=(k:Int)) with
 |none=>
  simp only
  refine⟨(subB_iff ha v5).2 (.inr (.inr (.inl ⟨.inr rfl,hra,hany⟩))),(subB_iff hb v5).2 (.inr (.inr (.inl ⟨.inr rfl,hrb,hany⟩))),fun t h4 h5=> ?_⟩
  rcases both t h4 h5 with h|h|⟨h6,h7,h8,h9,h10⟩
  ·exact top5 t h
  ·exact any5 t h
  ·exfalso
   have:=List.find?_eq_none.1 hf (t.val-16) (by rw[clsOf_val ha h6]; exact h9)
   apply this
   rw[List.any_eq_true]
   exact⟨t.val-16,by rw[clsOf_val hb h7]; exact h10,by simp⟩
 |some k=>
  simp only
  obtain⟨m1,m2,m3⟩:=find_up hf
  have h16:16≤a.val:=by
   by_cases h:16≤a.val
   ·exact h
   ·rw[clsOf_no h,upI_neg (by omega)] at m1; cases m1
  rw[clsOf_val ha h16] at m1 m3
  rw[List.any_eq_true] at m2
  obtain⟨j,hj,hd⟩:=m2
  have hjk:j=k:=by simp at hd; omega
  subst hjk
  have h16b:16≤b.val:=by
   by_cases h:16≤b.val
   ·exact h
   ·rw[clsOf_no h,upI_neg (by omega)] at hj; cases hj
  have hk:=up_mem m1
  have hlt:j<240:=by have:=a.isLt; omega
  have hv:=ofClass_val hlt
  have hvalid:validN l.length (ofClass (j:Int))=true:=by simp only[validN,decide_eq_true_eq,hv]; omega
  rw[clsOf_val hb h16b] at hj
  refine⟨(subB_iff ha hvalid).2 (.inr (.inr (.inr ⟨h16,by omega,by rw[hv,show 16+j-16=j by omega]; exact m1⟩))),(subB_iff hb hvalid).2 (.inr (.inr (.inr ⟨h16b,by omega,by rw[hv,show 16+j-16=j by omega]; exact hj⟩))),fun t h4 h5=> ?_⟩
  have ht:=(subB_valid h4).2
  rcases both t h4 h5 with h|h|⟨h6,h7,h8,h9,h10⟩
  ·exact(subB_iff hvalid ht).2 (.inr (.inl h))
  ·exact(subB_iff hvalid ht).2 (.inr (.inr (.inl ⟨.inr h,by rw[isRef_iff]; omega,by rw[isRef_iff]; omega⟩)))
  ·refine(subB_iff hvalid ht).2 (.inr (.inr (.inr ⟨by omega,h8, ?_⟩)))
   rw[hv,show((16+j:Nat):Int)-16=(j:Int) by omega]
   refine m3 _ h9 ?_
   rw[List.any_eq_true]
   exact⟨t.val-16,by rw[clsOf_val hb h16b]; exact h10,by simp⟩
theorem merge_valid {l:List Cl} (a b:Ty):validN l.length (mergeT l a b)=true:=by
 by_cases h:validN l.length a=true∧validN l.length b=true
 ·exact(subB_valid (merge_up h.1 h.2).1).2
 ·unfold mergeT
  rw[if_pos (by cases ha:validN l.length a <;> cases hb:validN l.length b <;> simp_all)]
  exact valid_0 _
open Go.Proofs
def mgB (b3 b9 b7:Nat) (o:Own) (l:List Cl) (y:Int) (out:Ty):St:=((({}:St).set b3 [.slice o (rws eC l)]).set b7 [.int .u8 out.val]).set b9 [.int .i64 y]
def mgStep (l:List Cl) (y:Int) (a:Ty) (c:Nat) (b:Bool) (a':Ty):Prop:=
 if((upI l y).any fun j=>decide ((j:Int)=(c:Int)))=true then b=false∧a'=ofClass c else b=true∧a'=a
theorem mg_runs {l:List Cl} {y:Int}:∀{L:List Nat} {a a':Ty},Runs (mgStep l y) L a a'→a'=match L.find? fun k:Nat=>(upI l y).any fun j=>decide ((j:Int)=(k:Int)) with|some k=>ofClass k|none=>a
 |[],a,a',h=>by simp only[Runs] at h; simp[h]
 |c::L,a,a'',⟨b,a',h1,h⟩=>by
  rw[List.find?_cons]
  unfold mgStep at h1
  split at h1
  ·rename_i hc
   obtain⟨rfl,rfl⟩:=h1
   rw[hc]
   simpa using h
  ·rename_i hc
   obtain⟨rfl,rfl⟩:=h1
   rw[Bool.not_eq_true] at hc
   rw[hc]
   exact mg_runs h
theorem wrap_class {c:Nat} (h:c<240):IntKind.wrap .u8 (16+IntKind.wrap .u8 (c:Int))=((ofClass (c:Int)).val:Int):=by
 rw[ofClass_val h]
 simp only[IntKind.wrap,IntKind.bits,IntKind.signed]
 simp; omega
theorem merge239 {b3 b9 b7:Nat} (h1:b9≠b3) (h2:b7≠b3) (h3:b7≠b9) (o:Own) (l:List Cl) (y:Int) (out:Ty) (c:Nat) (hl:l.length≤140737488355328) (hc:c<240):
  RCall Tryz.prog 239 [.int .i64 c,.ptr b3 0,.ptr b9 0,.ptr b7 0] (mgB b3 b9 b7 o l y out) fun d s'=>∃b a',d= .bool b∧s'=mgB b3 b9 b7 o l y a'∧mgStep l y out c b a':=by
 have k3:(mgB b3 b9 b7 o l y out).box b3=some [.slice o (rws eC l)]:=by simp[mgB,St.set_box,h1,h2,h3,Ne.symm h1,Ne.symm h2,Ne.symm h3]
 have k9:(mgB b3 b9 b7 o l y out).box b9=some [.int .i64 y]:=by simp[mgB,St.set_box,h1,h2,h3,Ne.symm h1,Ne.symm h2,Ne.symm h3]
 have k7:(mgB b3 b9 b7 o l y out).box b7=some [.int .u8 out.val]:=by simp[mgB,St.set_box,h1,h2,h3,Ne.symm h1,Ne.symm h2,Ne.symm h3]
 have hw:=wrap_class hc
 refine F239.rcall rfl fun T hT=> ?_
 simp -implicitDefEqProofs only[go_sem,c239,hT,k3,k9,k7]
 refine za3 (above190 l o y c hl) ?_
 cases hb:(upI l y).any fun j=>decide ((j:Int)=(c:Int))
 ·simp -implicitDefEqProofs only[go_sem,hT,k3,k9,k7]
  exact⟨_,_,DLe.refl _,St.le.refl _,true,out,rfl,rfl,by unfold mgStep; rw[hb]; exact⟨rfl,rfl⟩⟩
 ·simp -implicitDefEqProofs only[go_sem,hT,k3,k9,k7,hw]
  refine⟨_,_,DLe.refl _,St.le.refl _,false,ofClass c,rfl, ?_,by unfold mgStep; rw[hb]; exact⟨rfl,rfl⟩⟩
  unfold mgB
  rw[set_comm (Ne.symm h3),za2]
theorem up_240 {l:List Cl} {a:Ty} {c:Nat} (h:c∈upI l (clsOf l.length a)):c<240:=by
 have h1:=(up_mem h).1
 have h2:=a.isLt
 unfold clsOf at h1
 split at h1 <;> omega
theorem merge220 (l:List Cl) (o:Own) (a b:Ty) (hl:l.length≤140737488355328):PCall Tryz.prog 220 [.slice o (rws eC l),.int .u8 a.val,.int .u8 b.val] (.int .u8 (mergeT l a b).val):=by
 refine F220.pcall' rfl fun T hT=> ?_
 simp -implicitDefEqProofs only[go_sem,c220,hT]
 intro b3
 refine za3 (valid105 l o a) ?_
 cases hva:validN l.length a
 ·simp -implicitDefEqProofs only[go_sem,hT]
  rw[show mergeT l a b=0 by unfold mergeT; rw[if_pos (.inl hva)]]
  exact DLe.refl _
 simp -implicitDefEqProofs only[go_sem,hT]
 refine za3 (valid105 l o b) ?_
 cases hvb:validN l.length b
 ·simp -implicitDefEqProofs only[go_sem,hT]
  rw[show mergeT l a b=0 by unfold mergeT; rw[if_pos (.inr hvb)]]
  exact DLe.refl _
 simp -implicitDefEqProofs only[go_sem,hT]
 have hm0:mergeT l a b=(if subB l a b=true then b else if subB l b a=true then a else if isRefB a=false∨isRefB b=false then 0
   else match (upI l (clsOf l.length a)).find? fun k:Nat=>(upI l (clsOf l.length b)).any fun j=>decide ((j:Int)=(k:Int)) with|some k=>ofClass k|none=>5):=by
  unfold mergeT; rw[if_neg (by simp[hva,hvb])] <;> rfl
 refine za3 (sub164 l o a b hl) ?_
 cases h1:subB l a b
 rotate_left
 ·simp -implicitDefEqProofs only[go_sem,hT]
  rw[hm0,h1]; exact DLe.refl _
 simp -implicitDefEqProofs only[go_sem,hT]
 refine za3 (sub164 l o b a hl) ?_
 cases h2:subB l b a
 rotate_left
 ·simp -implicitDefEqProofs only[go_sem,hT]
  rw[hm0,h1,h2]; exact DLe.refl _
 simp -implicitDefEqProofs only[go_sem,hT]
 refine za3 (isRef163 a) ?_
 cases h3:isRefB a
 ·simp -implicitDefEqProofs only[go_sem,hT]
  rw[hm0,h1,h2,h3]; exact DLe.refl _
 simp -implicitDefEqProofs only[go_sem,hT]
 refine za3 (isRef163 b) ?_
 cases h4:isRefB b
 ·simp -implicitDefEqProofs only[go_sem,hT]
  rw[hm0,h1,h2,h3,h4]; exact DLe.refl _
 rw[h1,h2,h3,h4] at hm0
 simp -implicitDefEqProofs only[go_sem,hT]
 intro b7 n1 n2
 simp -implicitDefEqProofs only[go_sem,hT,n1,n2,za2]
 refine⟨by rintro b rfl; simp[n1,n2], ?_⟩
 refine za3 (class147 l o a) ?_
 simp -implicitDefEqProofs only[go_sem,hT,n1,n2]
 refine za3 (class147 l o b) ?_
 simp -implicitDefEqProofs only[go_sem,hT,n1,n2]
 intro b9 m1 m2 m3 m4
 simp -implicitDefEqProofs only[go_sem,hT,n1,n2,m1,m2,m3,m4,za2]
 have hfind:(match (upI l (clsOf l.length a)).find? fun k:Nat=>(upI l (clsOf l.length b)).any fun j=>decide ((j:Int)=(k:Int)) with|some k=>ofClass k|none=>5)=mergeT l a b:=by rw[hm0]; rfl
 by_cases hx:0≤clsOf l.length a
 rotate_left
 ·have g1:(0≤clsOf l.length a)=False:=eq_false hx
  simp -implicitDefEqProofs only[go_sem,mmB,hT,n1,n2,m1,m2,m3,m4,g1,za2]
  rw[upI_neg (c:=clsOf l.length a) (by omega)] at hfind
  rw[←hfind]
  exact DLe.refl (.int .u8 5)
 have g1:(0≤clsOf l.length a)=True:=eq_true hx
 by_cases hy:0≤clsOf l.length b
 rotate_left
 ·have g2:(0≤clsOf l.length b)=False:=eq_false hy
  simp -implicitDefEqProofs only[go_sem,mmB,hT,n1,n2,m1,m2,m3,m4,g1,g2,za2]
  have hno:(upI l (clsOf l.length a)).find? (fun k:Nat=>(upI l (clsOf l.length b)).any fun j=>decide ((j:Int)=(k:Int)))=none:=by
   rw[List.find?_eq_none]
   intro x _
   rw[upI_neg (by omega)]; simp
  rw[hno] at hfind
  rw[←hfind]
  exact DLe.refl (.int .u8 5)
 have g2:(0≤clsOf l.length b)=True:=eq_true hy
 simp -implicitDefEqProofs only[go_sem,mmB,hT,n1,n2,m1,m2,m3,m4,g1,g2,za2]
 have hst:((({}:St).set b3 [.slice o (rws eC l)]).set b7 [.int .u8 5]).set b9 [.int .i64 (clsOf l.length b)]=mgB b3 b9 b7 o l (clsOf l.length b) 5:=rfl
 rw[hst]
 refine callB_all (climb144' l o 239 [] [.ptr b3 0,.ptr b9 0,.ptr b7 0] (mgB b3 b9 b7 o l (clsOf l.length b)) (mgStep l (clsOf l.length b)) (fun _ L=>∀c∈L,c<240) hl (fun out c rest hc hok=>(merge239 m3 n1 (fun h=>m2 h) o l _ out c hl (hok c (by simp))).mono ?_) 5 (clsOf l.length a) fun c hc=>up_240 hc) ?_
 ·rintro d s' ⟨b',a',rfl,rfl,hs⟩
  exact⟨b',a',rfl,rfl,hs,fun c hc=>hok c (by simp[hc])⟩
 rintro d s' ⟨rfl,a',r,rfl,hruns,_⟩
 have hr:=mg_runs hruns
 rw[hfind] at hr
 subst hr
 simp -implicitDefEqProofs only[go_sem,hT,mgB,n1,n2,m1,m2,m3,m4]
open Go.Proofs
def tyN (i:Nat):Ty:=Fin.ofNat 256 i
theorem tyN_val {i:Nat} (h:i<256):(tyN i).val=i:=Nat.mod_eq_of_lt h
theorem tyN_self (t:Ty):tyN t.val=t:=Fin.ext (tyN_val t.isLt)
open Go.Proofs
def endsB (op:Nat):Bool:=decide (op=19∨op=22∨op=32)
theorem refEnds41 (t:Ty):PCall Tryz.prog 21 [.int .u8 t.val] (.bool (endsB t.val)):=by
 refine F21.pcall' rfl fun T hT=> ?_
 simp -implicitDefEqProofs only[go_sem,mmB,c21,hT]
 exact zf1 (by rw[Bool.eq_iff_iff]; simp[endsB]; omega)
theorem ends88 (t:Ty):PCall Tryz.prog 85 [.int .u8 t.val] (.bool (endsB t.val)):=by
 refine F85.pcall' rfl fun T hT=> ?_
 simp -implicitDefEqProofs only[go_sem,mmB,c85,hT]
 exact zf1 (by rw[Bool.eq_iff_iff]; simp[endsB]; omega)
open Go.Proofs
open Go.Proofs
end Go.AL
