import Derived.Test.YtobmoajkfbigkaaGreatSs
import Derived.Test.YtobmoajkfbigkaaGreatSm
set_option linter.unusedSimpArgs false
set_option linter.unusedVariables false
set_option maxRecDepth 100000
set_option maxHeartbeats 4000000
set_option linter.defProp false
namespace Go.AL
open Go.Proofs
theorem app_grx {P:Program} {N:Nat} {T:Env} {σ:St} {K:Env→St→Prop} {d:Option Nat} {t e:TypeId} {s by':Nat} {z:List D} (h1:sliP P t=some e) (h2:szP P e=some s) (h3:zc3 P e=some by') (h4:zf2 P e=some z) (hz:(z.length==s&&decide (0<s)&&decide (0<by'))=true)
  {o:Option Nat} {es ys:List (List D)} {ow:Own} {n m:Nat} (hn:es.length=n) (hm:ys.length=m) (ho:grN o σ) (ho0:o=none→n=0) (hy:∀r∈ys,r.length=s) (hy0:ys≠[]) (hl:(n+m)*by'≤140737488355328)
  (hk:∀b',¬σ.has b'→putK N d (grD s (some b') (es++ys)) K T (grS s (n+m) (some b') σ)):
  appendA P N d t t (grD s o es) (.slice ow ys) K T (grS s n o σ):=by
 subst hn; subst hm
 simp only[Bool.and_eq_true,beq_iff_eq,decide_eq_true_eq] at hz
 cases o with
 |none=>
  obtain rfl:es=[]:=List.eq_nil_of_length_eq_zero (ho0 rfl)
  show appendA P N d t t (.slice .nil []) (.slice ow ys) K T σ
  simp only[app_nil,h1,h2,h3,h4,Option.map_some,true_and]
  refine⟨hz.1.1,hz.1.2,hz.2,hy,hl,fun h=>absurd h hy0,fun _ b' hb'=> ?_⟩
  have:=hk b' hb'
  simpa[grD,grS] using this
 |some b=>
  have hb:=ho b rfl
  have hd:(σ.setBuf b s es.length).dropBuf b=σ:=by
   ext x
   ·rfl
   ·simp only[St.dropBuf,St.setBuf]
    by_cases h:x=b
    ·subst h
     have:σ.buf x=none:=by
      cases hx:σ.buf x with
      |none=>rfl
      |some y=>exact absurd (.inr (.inl (by simp[hx]))) hb
     simp[this]
    ·simp[h]
   ·rfl
  show appendA P N d t t (.slice (.buf b s) es) (.slice ow ys) K T (σ.setBuf b s es.length)
  simp only[app_buf,h1,h2,h3,h4,Option.map_some,true_and]
  refine⟨hz.1.1,hz.1.2,hz.2,hy,hl,by simp[St.setBuf],fun b' hb'=> ?_⟩
  rw[hd] at hb' ⊢
  exact hk b' hb'
theorem not_mp {σ:St} {b:Nat} (h:¬σ.has b):σ.mp b=none:=by
 cases hx:σ.mp b with
 |none=>rfl
 |some o=>exact absurd (has_mp hx) h
theorem not_buf {σ:St} {b:Nat} (h:¬σ.has b):σ.buf b=none:=by
 cases hx:σ.buf b with
 |none=>rfl
 |some y=>exact absurd (.inr (by simp[hx])) h
section
variable {e : En} {b : List Ty} {l : List Ey} {s : PS} {o : Option Nat} {q nx : Nat} {g : FuncId} {ca : List D} {FS : List Nat → St → Prop} {asked : List Nat} {sf : St}
theorem apply144 (e:En) (f:Fr) (i:Ins) (hw:WideE e):PCall Tryz.prog 144 [.agg (eEn e),.agg (eFr f),.agg (eIn i)] (.tup [.agg (eFr (applyR e f i).1),.int .i64 (applyR e f i).2]):=by
 rw[←apply_eq e f i hw]; exact apply39 e f i hw
def doesR (e:En) (b:List Ty) (l:List Ey) (s:PS) (nx:Nat) (fd:D) (q:Nat) (FS:List Nat→St→Prop) (asked:List Nat) (d:D) (s':St):Prop:=
 ∃s2,fetD e b l s= .ok s2∧d= .int .i64 s2.p∧∃o' sf',FS (asked++List.range' s.p (zf1 (decF b s.p).1.op.val)) sf'∧offL sf' (L0 e b l nx fd s2 o' q)∧o'≠some q∧(o'=none→s2.fet=[])∧s'=putL sf' (L0 e b l nx fd s2 o' q)
def doesP (e:En) (b:List Ty) (l:List Ey) (s:PS) (FS:List Nat→St→Prop) (asked:List Nat) (d:D) (s':St):Prop:=
 ∃a w,fetD e b l s= .no a w∧d=refD a w∧∃j,s.p+j≤b.length∧FS (asked++List.range' s.p j) s'
def bYgdD0:=aI @zb4 (aI @za8 (aI @zb7 (aI @za5 (aI @za4 (aI @zb0 (aI @zb1 (aI @za7 (aI @zb6 (aI @za9 (aI @ze1 (aI @anD (aI @za2 (aI @za6 (aI @ey_0 (aI @ey_1 (aI @ey_d2 (aI @in_1 (aI @in_2 @zf9))))))))))))))))))
def bYgdD1:=aI @grS_set (aI @e_len (aI @e_0 (aI @e_3 (aI @e_4 (aI @e_5 (aI @e_7 (aI @e_8 (aI @e_35 (aI @e_en (aI @e_fr (aI @e_snx (aI @e_scmp (aI @e_sfr (aI @e_slive (aI @e_sfet (aI @zc2 (aI @gdD (aI @ldD (aI @zb4 (aI @za8 (aI @zb7 (aI @za5 (aI @za4 (aI @zb0 (aI @zb1 (aI @za7 (aI @zb6 (aI @za9 (aI @ze1 (aI @anD (aI @za2 (aI @za6 (aI @ey_0 (aI @ey_1 (aI @ey_d2 (aI @in_1 (aI @in_2 @zf9)))))))))))))))))))))))))))))))))))))
def bYgdD2:=aI @e_len (aI @e_0 (aI @e_3 (aI @e_4 (aI @e_5 (aI @e_7 (aI @e_8 (aI @e_35 (aI @e_en (aI @e_fr (aI @e_snx (aI @e_scmp (aI @e_sfr (aI @e_slive (aI @e_sfet (aI @zc2 (aI @gdD (aI @ldD (aI @zb4 (aI @za8 (aI @zb7 (aI @za5 (aI @za4 (aI @zb0 (aI @zb1 (aI @za7 (aI @zb6 (aI @za9 (aI @ze1 (aI @anD (aI @za2 (aI @za6 (aI @ey_0 (aI @ey_1 (aI @ey_d2 (aI @in_1 (aI @in_2 @zf9))))))))))))))))))))))))))))))))))))
def bYgdD3:=aI @e_len (aI @e_0 (aI @e_3 (aI @e_4 (aI @e_5 (aI @e_7 (aI @e_8 (aI @e_35 (aI @e_en (aI @e_fr (aI @e_snx (aI @e_scmp (aI @e_sfr (aI @e_slive (aI @e_sfet (aI @zc2 (aI @gdD (aI @ldD (aI @zb4 (aI @za8 (aI @zb7 (aI @za5 (aI @za4 (aI @zb0 (aI @zb1 (aI @za7 (aI @zb6 (aI @za9 (aI @ze1 (aI @anD (aI @za2 (aI @za6 (aI @ey_0 (aI @ey_1 (aI @ey_d2 (aI @in_1 (aI @in_2 (aI @zf9 @Int.ofNat_zero)))))))))))))))))))))))))))))))))))))
theorem does99 (hw:WideE e) (hl:Ents l) (hF:FetchOk g ca b FS) (hb:b.length≤4096) (hp:s.p<b.length) (hc:s.cmp≤100000) (hs:FS asked sf) (ha:Asc s.p asked) (hoff:offL sf (L0 e b l nx (.func (.func g) [] ca) s o q)) (hoq:o≠some q) (ho:o=none→s.fet=[]) (hfe:s.fet.length≤4096) (hlv:s.live=true)
  (hnx:nx=cnt l ((s.p:Int)+1)):
  XCall Tryz.prog 99 [.ptr q 0,.int .i64 s.p] (putL sf (L0 e b l nx (.func (.func g) [] ca) s o q)) (doesR e b l s nx (.func (.func g) [] ca) q FS asked) (doesP e b l s FS asked):=by
 obtain⟨fd,hfd⟩:∃fd,D.func (.func g) [] ca=fd:=⟨_,rfl⟩
 have hin:=instr143 (e:=e) (l:=l) (s:=s) (nx:=nx) hF hb hp hs ha hoff hoq
 rw[hfd] at hin hoff ⊢
 refine F99.xcall rfl fun T hT=> ?_
 simp -implicitDefEqProofs only[go_sem,c99,hT,forall_eq,bYgdD0]
 refine callB_allX hin (fun d s' hR=> ?_) fun d s' hR=> ?_
 rotate_left
 ·obtain⟨hd,rfl,j,hj,hfs⟩:=hR
  have hno:fetD e b l s= .no s.p (decF b s.p).2:=by unfold fetD; rw[if_pos hd]
  simp -implicitDefEqProofs only[go_sem]
  exact⟨_,s',DLe.refl _,St.le.refl _,_,_,hno,rfl,j,hj,hfs⟩
 obtain⟨hd,rfl,sf',hfs,hof,rfl⟩:=hR
 have hfD:fetD e b l s=match strayE l s.p (s.p+zf1 (decF b s.p).1.op.val) with
 |some x=> .no x.pos 93
 |none=>
  if(applyR e s.fr (decF b s.p).1).2≠0 then .no s.p (applyR e s.fr (decF b s.p).1).2
  else if jumpsB (decF b s.p).1.op.val=true then
   match jumpD e.cs l b.length s.p (decF b s.p).1.a (applyR e s.fr (decF b s.p).1).1 with
   |some w=> .no s.p w
   |none=>endD b.length s.p (s.p+zf1 (decF b s.p).1.op.val) (decF b s.p).1.op.val (applyR e s.fr (decF b s.p).1).1 (s.cmp+1) (s.fet++[s.p])
  else endD b.length s.p (s.p+zf1 (decF b s.p).1.op.val) (decF b s.p).1.op.val (applyR e s.fr (decF b s.p).1).1 s.cmp (s.fet++[s.p]):=by unfold fetD; rw[if_neg (by simp[hd])]; rfl
 obtain⟨d1,d2,d3,d4⟩:=decF_ok hd
 have hpos:(decF b s.p).1.pos=s.p:=by rw[d2]; rfl
 rw[show doesR e b l s nx fd q FS asked=fun d s'=>∃s2,fetD e b l s= .ok s2∧d= .int .i64 s2.p∧∃o' sf',FS (asked++List.range' s.p (zf1 (decF b s.p).1.op.val)) sf'∧offL sf' (L0 e b l nx fd s2 o' q)∧o'≠some q∧(o'=none→s2.fet=[])∧s'=putL sf' (L0 e b l nx fd s2 o' q) from rfl]
 have hle0:zf1 (decF b s.p).1.op.val≤b.length-s.p:=by omega
 clear d2
 generalize (decF b s.p).1=I at *
 simp -implicitDefEqProofs only[go_sem,hT,forall_eq,bYgdD0]
 intro b5 hb5
 have hsq:¬sf'.has q:=hof.1
 have hso:grN o sf':=hof.2.1
 have hLe:putL sf' (L0 e b l nx fd s o q)=grS 1 s.fet.length o (sf'.set q (eP e b.length l nx fd s o)):=rfl
 rw[hLe] at hb5 ⊢
 have n5:b5≠q:=fun h=>hb5 (by rw[h,grS_has,set_has]; exact .inr (.inl rfl))
 have hs5:¬sf'.has b5:=fun h=>hb5 (by rw[grS_has,set_has]; exact .inr (.inr h))
 have ho5:o≠some b5:=fun h=>hb5 (by rw[grS_has]; exact .inl h)
 have hq0:((sf'.set q (eP e b.length l nx fd s o)).set b5 (eIn I)).box q=some (eP e b.length l nx fd s o):=by rw[St.set_box,if_neg (Ne.symm n5),St.set_box,if_pos rfl]
 simp -implicitDefEqProofs only[go_sem,hT,hq0,forall_eq,n5,Ne.symm n5,bYgdD1]
 have hgo:grN o ((sf'.set q (eP e b.length l nx fd s o)).set b5 (eIn I)):=fun x hx hh=>by
  rw[set_has,set_has] at hh
  rcases hh with h|h|h
  ·exact ho5 (h▸hx)
  ·exact hoq (h▸hx)
  ·exact hso x hx h
 refine app_grx Tryz.sli29 Tryz.sz3 Tryz.by3 Tryz.zero3 rfl (n:=s.fet.length) (m:=1) (by simp[rws]) rfl hgo (fun h=>by rw[ho h]; rfl) (by simp) (by simp) (by omega) fun b' hb'=> ?_
 have hrow:rws eN s.fet++[[frz (D.int .i64 s.p)]]=rws eN (s.fet++[s.p]):=by simp[rws,eN,frz]
 have hb'q:b'≠q:=fun h=>hb' (by rw[h,set_has,set_has]; exact .inr (.inl rfl))
 have hb's:¬sf'.has b':=fun h=>hb' (by rw[set_has,set_has]; exact .inr (.inr h))
 simp -implicitDefEqProofs only[go_sem,hT,hq0,forall_eq,n5,Ne.symm n5,hrow,bYgdD1]
 have wb:IntKind.wrap .i64 ((s.p:Int)+(zf1 I.op.val:Int))=((s.p+zf1 I.op.val:Nat):Int):=wrapN (by omega) (by omega)
 obtain⟨q1,hq1⟩:∃q1,s.p+zf1 I.op.val=q1:=⟨_,rfl⟩
 rw[hq1] at wb hfD
 refine za3 (size125 I.op) ?_
 obtain⟨S1,hS1⟩:∃S1,grS 1 (s.fet.length+1) (some b') (((sf'.set q (eP e b.length l nx fd s o)).set b5 (eIn I)).set q (eP e b.length l nx fd {s with fet:=s.fet++[s.p]} (some b')))=S1:=⟨_,rfl⟩
 have kq:S1.box q=some (eP e b.length l nx fd {s with fet:=s.fet++[s.p]} (some b')):=by rw[←hS1,grS_boxa,St.set_box,if_pos rfl]
 have k5:S1.box b5=some (eIn I):=by rw[←hS1,grS_boxa,St.set_box,if_neg n5,St.set_box,if_pos rfl]
 have kbf:S1.buf q=none:=by
  rw[←hS1]
  show(if q=b' then _ else sf'.buf q)=none
  rw[if_neg (Ne.symm hb'q)]; exact not_buf hsq
 have kmp:S1.mp q=none:=by
  rw[←hS1]
  exact not_mp (σ:=sf') hsq
 have hfin:∀(s2:PS) (S:St),s2.fet=s.fet++[s.p]→St.le (S1.set q (eP e b.length l nx fd s2 (some b'))) S→St.le (putL sf' (L0 e b l nx fd s2 (some b') q)) S:=fun s2 S h2 h=>by
  refine St.le.trans ?_ h
  rw[←hS1,grS_set,za2]
  show St.le (grS 1 s2.fet.length (some b') (sf'.set q (eP e b.length l nx fd s2 (some b')))) _
  rw[set_comm (Ne.symm n5),za2,h2,List.length_append]
  exact le_grS (le_set (le_add hs5))
 have hoffin:∀s2:PS,offL sf' (L0 e b l nx fd s2 (some b') q):=fun s2=>⟨hsq,fun x hx=>by cases hx; exact hb's,trivial⟩
 have hsfle:St.le sf' S1:=by
  rw[←hS1]
  exact le_putL (l:=[.bx q _,.bx b5 _,.bx q _,.gr 1 _ (some b')]) (St.le.refl sf') ⟨hsq,hs5,hsq,fun x hx=>(by cases hx; exact hb's),trivial⟩
 rw[hS1]
 have hlen:=hl.len
 have hcl:=cnt_le l ((s.p:Int)+1)
 have hstr:=strayE_cnt hl.rise s.p q1
 rw[←hnx] at hstr hcl
 by_cases h1:nx<l.length
 case neg=>
  rw[List.getElem?_eq_none (by omega)] at hstr
  have p1:((nx:Int)<l.length)=False:=eq_false (by omega)
  simp -implicitDefEqProofs only[go_sem,hT,kq,k5,forall_eq,n5,Ne.symm n5,wb,p1,bYgdD2]
  simp only[Option.bind_none] at hstr
  rw[hstr] at hfD
  refine za3 (apply144 e s.fr I hw) ?_
  obtain⟨R,hR⟩:∃R,applyR e s.fr I=R:=⟨_,rfl⟩
  obtain⟨f',err⟩:=R
  rw[hR] at hfD ⊢
  simp -implicitDefEqProofs only[go_sem,hT,kq,k5,forall_eq,n5,Ne.symm n5,bYgdD2]
  intro b7 hb7
  have m7:b7≠q:=fun h=>hb7 (by rw[h]; exact .inl (by simp[kq]))
  have m5:b7≠b5:=fun h=>hb7 (by rw[h]; exact .inl (by simp[k5]))
  have hsf7:St.le sf' (S1.set b7 (eFr f')):=hsfle.trans (le_add hb7)
  by_cases h3:err=0
  case neg=>
   simp only[h3,ne_eq,not_false_eq_true,if_true] at hfD
   refine callB_nilX (must95_no s.p err h3) (fun d s' h=>h.elim) fun d s' h=>⟨h.2, ?_⟩
   rw[h.1]
   simp -implicitDefEqProofs only[go_sem]
   exact⟨_,sf',DLe.refl _,hsf7,_,_,hfD,rfl,_,by omega,hfs⟩
  subst h3
  simp only[ne_eq,not_true_eq_false,if_false] at hfD
  simp -implicitDefEqProofs only[go_sem,hT,kq,k5,forall_eq,n5,Ne.symm n5,m7,Ne.symm m7,m5,Ne.symm m5,bYgdD3]
  refine za3 (must95_ok s.p) ?_
  simp -implicitDefEqProofs only[go_sem,hT,kq,k5,forall_eq,n5,Ne.symm n5,m7,Ne.symm m7,m5,Ne.symm m5,bYgdD2]
  refine za3 (jumps83 I.op) ?_
  obtain⟨S2,hS2⟩:∃S2,(S1.set b7 (eFr f')).set q (eP e b.length l nx fd {s with fr:=f',fet:=s.fet++[s.p]} (some b'))=S2:=⟨_,rfl⟩
  have jq:S2.box q=some (eP e b.length l nx fd {s with fr:=f',fet:=s.fet++[s.p]} (some b')):=by rw[←hS2,St.set_box,if_pos rfl]
  have j5:S2.box b5=some (eIn I):=by rw[←hS2,St.set_box,if_neg n5,St.set_box,if_neg (Ne.symm m5),k5]
  have jbf:S2.buf q=none:=by rw[←hS2]; exact kbf
  have hfin2:∀(s2:PS),s2.fet=s.fet++[s.p]→St.le (putL sf' (L0 e b l nx fd s2 (some b') q)) (S2.set q (eP e b.length l nx fd s2 (some b'))):=fun s2 h2=>hfin s2 _ h2 (by
   rw[←hS2,za2]; exact le_set (le_add hb7))
  have hsf0:St.le sf' S2:=by rw[←hS2]; exact le_off hsf7 hsq
  have hsf2:∀c,St.le sf' (S2.set q c):=fun c=>le_off hsf0 hsq
  rw[hS2]
  cases hj:jumpsB I.op.val with
  |false=>
   simp only[hj,Bool.false_eq_true,if_false] at hfD
   simp -implicitDefEqProofs only[go_sem,hT,jq,j5,forall_eq,n5,Ne.symm n5,m7,Ne.symm m7,m5,Ne.symm m5,hj,bYgdD2]
   refine za3 (ends88 I.op) ?_
   cases he:endsB I.op.val with
   |true=>
    simp only[endD,he,if_true] at hfD
    simp -implicitDefEqProofs only[go_sem,hT,jq,j5,forall_eq,n5,Ne.symm n5,m7,Ne.symm m7,m5,Ne.symm m5,he,bYgdD2]
    exact⟨_,_,DLe.refl _,hfin2 ⟨q1,f',false,s.cmp,s.fet++[s.p]⟩ rfl,_,hfD,rfl,some b',sf',hfs,hoffin _,fun h=>hb'q (Option.some.inj h),(fun h=>nomatch h),rfl⟩
   |false=>
    by_cases h6:b.length≤q1
    ·have g6:((b.length:Int)≤q1)=True:=eq_true (by omega)
     simp only[endD,he,Bool.false_eq_true,if_false,h6,if_true] at hfD
     simp -implicitDefEqProofs only[go_sem,hT,jq,j5,forall_eq,n5,Ne.symm n5,m7,Ne.symm m7,m5,Ne.symm m5,he,g6,bYgdD2]
     refine callB_pan (refuse93 s.p 51) ?_
     simp -implicitDefEqProofs only[go_sem]
     exact⟨_,sf',DLe.refl _,hsf2 _,_,_,hfD,rfl,_,by omega,hfs⟩
    ·have g6:((b.length:Int)≤q1)=False:=eq_false (by omega)
     simp only[endD,he,Bool.false_eq_true,if_false,h6] at hfD
     simp -implicitDefEqProofs only[go_sem,hT,jq,j5,forall_eq,n5,Ne.symm n5,m7,Ne.symm m7,m5,Ne.symm m5,he,g6,bYgdD2]
     exact⟨_,_,DLe.refl _,hfin2 ⟨q1,f',true,s.cmp,s.fet++[s.p]⟩ rfl,_,hfD,rfl,some b',sf',hfs,hoffin _,fun h=>hb'q (Option.some.inj h),(fun h=>nomatch h),rfl⟩
  |true=>
   simp only[hj,if_true] at hfD
   simp -implicitDefEqProofs only[go_sem,hT,jq,j5,forall_eq,n5,Ne.symm n5,m7,Ne.symm m7,m5,Ne.symm m5,hj,bYgdD2]
   refine callB_boxX (b:=q) (hm:=by rw[←hS2]; exact kmp) jq jbf (jump145 e b.length l nx fd _ (some b') q I hw hl hc) (fun d s' hR=> ?_) fun d s' hR=> ?_
   rotate_left
   ·obtain⟨w,hj2,rfl⟩:=hR
    simp -implicitDefEqProofs only[go_sem]
    rw[show jumpD e.cs l b.length s.p I.a f'=some w from hj2] at hfD
    rw[hpos]
    exact⟨_,sf',DLe.refl _,del_le hsf0 hsq,_,_,hfD,rfl,_,by omega,hfs⟩
   obtain⟨hj2,rfl,rfl⟩:=hR
   refine⟨_,rfl, ?_⟩
   have jq2:(S2.set q (eP e b.length l nx fd {s with fr:=f',fet:=s.fet++[s.p],cmp:=s.cmp+1} (some b'))).box q=some (eP e b.length l nx fd {s with fr:=f',fet:=s.fet++[s.p],cmp:=s.cmp+1} (some b')):=by rw[St.set_box,if_pos rfl]
   have j52:(S2.set q (eP e b.length l nx fd {s with fr:=f',fet:=s.fet++[s.p],cmp:=s.cmp+1} (some b'))).box b5=some (eIn I):=by rw[St.set_box,if_neg n5,j5]
   rw[show jumpD e.cs l b.length s.p I.a f'=none from hj2] at hfD
   simp only at hfD
   simp -implicitDefEqProofs only[go_sem,hT,jq2,j52,forall_eq,n5,Ne.symm n5,m7,Ne.symm m7,m5,Ne.symm m5,bYgdD2]
   refine za3 (ends88 I.op) ?_
   cases he:endsB I.op.val with
   |true=>
    simp only[endD,he,if_true] at hfD
    simp -implicitDefEqProofs only[go_sem,hT,jq2,j52,forall_eq,n5,Ne.symm n5,m7,Ne.symm m7,m5,Ne.symm m5,he,bYgdD2]
    exact⟨_,_,DLe.refl _,hfin2 ⟨q1,f',false,s.cmp+1,s.fet++[s.p]⟩ rfl,_,hfD,rfl,some b',sf',hfs,hoffin _,fun h=>hb'q (Option.some.inj h),(fun h=>nomatch h),rfl⟩
   |false=>
    by_cases h6:b.length≤q1
    ·have g6:((b.length:Int)≤q1)=True:=eq_true (by omega)
     simp only[endD,he,Bool.false_eq_true,if_false,h6,if_true] at hfD
     simp -implicitDefEqProofs only[go_sem,hT,jq2,j52,forall_eq,n5,Ne.symm n5,m7,Ne.symm m7,m5,Ne.symm m5,he,g6,bYgdD2]
     refine callB_pan (refuse93 s.p 51) ?_
     simp -implicitDefEqProofs only[go_sem]
     exact⟨_,sf',DLe.refl _,hsf2 _,_,_,hfD,rfl,_,by omega,hfs⟩
    ·have g6:((b.length:Int)≤q1)=False:=eq_false (by omega)
     simp only[endD,he,Bool.false_eq_true,if_false,h6] at hfD
     simp -implicitDefEqProofs only[go_sem,hT,jq2,j52,forall_eq,n5,Ne.symm n5,m7,Ne.symm m7,m5,Ne.symm m5,he,g6,bYgdD2]
     exact⟨_,_,DLe.refl _,hfin2 ⟨q1,f',true,s.cmp+1,s.fet++[s.p]⟩ rfl,_,hfD,rfl,some b',sf',hfs,hoffin _,fun h=>hb'q (Option.some.inj h),(fun h=>nomatch h),rfl⟩
 have p1:((nx:Int)<l.length)=True:=eq_true (by omega)
 have p0:(0≤(nx:Int))=True:=eq_true (by omega)
 have hat:=getEy h1
 rw[List.getElem?_eq_getElem h1] at hstr
 by_cases h2:l[nx].pos<q1
 ·simp only[Option.bind_some,if_pos h2] at hstr
  rw[hstr] at hfD
  simp -implicitDefEqProofs only[go_sem,hT,kq,k5,forall_eq,n5,Ne.symm n5,wb,p1,p0,hat,h2,bYgdD2]
  refine callB_pan (refuse93 l[nx].pos 93) ?_
  simp -implicitDefEqProofs only[go_sem]
  exact⟨_,sf',DLe.refl _,hsfle,_,_,hfD,rfl,_,by omega,hfs⟩
 simp only[Option.bind_some,if_neg h2] at hstr
 simp -implicitDefEqProofs only[go_sem,hT,kq,k5,forall_eq,n5,Ne.symm n5,wb,p1,p0,hat,h2,bYgdD2]
 rw[hstr] at hfD
 refine za3 (apply144 e s.fr I hw) ?_
 obtain⟨R,hR⟩:∃R,applyR e s.fr I=R:=⟨_,rfl⟩
 obtain⟨f',err⟩:=R
 rw[hR] at hfD ⊢
 simp -implicitDefEqProofs only[go_sem,hT,kq,k5,forall_eq,n5,Ne.symm n5,bYgdD2]
 intro b7 hb7
 have m7:b7≠q:=fun h=>hb7 (by rw[h]; exact .inl (by simp[kq]))
 have m5:b7≠b5:=fun h=>hb7 (by rw[h]; exact .inl (by simp[k5]))
 have hsf7:St.le sf' (S1.set b7 (eFr f')):=hsfle.trans (le_add hb7)
 by_cases h3:err=0
 case neg=>
  simp only[h3,ne_eq,not_false_eq_true,if_true] at hfD
  refine callB_nilX (must95_no s.p err h3) (fun d s' h=>h.elim) fun d s' h=>⟨h.2, ?_⟩
  rw[h.1]
  simp -implicitDefEqProofs only[go_sem]
  exact⟨_,sf',DLe.refl _,hsf7,_,_,hfD,rfl,_,by omega,hfs⟩
 subst h3
 simp only[ne_eq,not_true_eq_false,if_false] at hfD
 simp -implicitDefEqProofs only[go_sem,hT,kq,k5,forall_eq,n5,Ne.symm n5,m7,Ne.symm m7,m5,Ne.symm m5,bYgdD3]
 refine za3 (must95_ok s.p) ?_
 simp -implicitDefEqProofs only[go_sem,hT,kq,k5,forall_eq,n5,Ne.symm n5,m7,Ne.symm m7,m5,Ne.symm m5,bYgdD2]
 refine za3 (jumps83 I.op) ?_
 obtain⟨S2,hS2⟩:∃S2,(S1.set b7 (eFr f')).set q (eP e b.length l nx fd {s with fr:=f',fet:=s.fet++[s.p]} (some b'))=S2:=⟨_,rfl⟩
 have jq:S2.box q=some (eP e b.length l nx fd {s with fr:=f',fet:=s.fet++[s.p]} (some b')):=by rw[←hS2,St.set_box,if_pos rfl]
 have j5:S2.box b5=some (eIn I):=by rw[←hS2,St.set_box,if_neg n5,St.set_box,if_neg (Ne.symm m5),k5]
 have jbf:S2.buf q=none:=by rw[←hS2]; exact kbf
 have hfin2:∀(s2:PS),s2.fet=s.fet++[s.p]→St.le (putL sf' (L0 e b l nx fd s2 (some b') q)) (S2.set q (eP e b.length l nx fd s2 (some b'))):=fun s2 h2=>hfin s2 _ h2 (by
  rw[←hS2,za2]; exact le_set (le_add hb7))
 have hsf0:St.le sf' S2:=by rw[←hS2]; exact le_off hsf7 hsq
 have hsf2:∀c,St.le sf' (S2.set q c):=fun c=>le_off hsf0 hsq
 rw[hS2]
 cases hj:jumpsB I.op.val with
 |false=>
  simp only[hj,Bool.false_eq_true,if_false] at hfD
  simp -implicitDefEqProofs only[go_sem,hT,jq,j5,forall_eq,n5,Ne.symm n5,m7,Ne.symm m7,m5,Ne.symm m5,hj,bYgdD2]
  refine za3 (ends88 I.op) ?_
  cases he:endsB I.op.val with
  |true=>
   simp only[endD,he,if_true] at hfD
   simp -implicitDefEqProofs only[go_sem,hT,jq,j5,forall_eq,n5,Ne.symm n5,m7,Ne.symm m7,m5,Ne.symm m5,he,bYgdD2]
   exact⟨_,_,DLe.refl _,hfin2 ⟨q1,f',false,s.cmp,s.fet++[s.p]⟩ rfl,_,hfD,rfl,some b',sf',hfs,hoffin _,fun h=>hb'q (Option.some.inj h),(fun h=>nomatch h),rfl⟩
  |false=>
   by_cases h6:b.length≤q1
   ·have g6:((b.length:Int)≤q1)=True:=eq_true (by omega)
    simp only[endD,he,Bool.false_eq_true,if_false,h6,if_true] at hfD
    simp -implicitDefEqProofs only[go_sem,hT,jq,j5,forall_eq,n5,Ne.symm n5,m7,Ne.symm m7,m5,Ne.symm m5,he,g6,bYgdD2]
    refine callB_pan (refuse93 s.p 51) ?_
    simp -implicitDefEqProofs only[go_sem]
    exact⟨_,sf',DLe.refl _,hsf2 _,_,_,hfD,rfl,_,by omega,hfs⟩
   ·have g6:((b.length:Int)≤q1)=False:=eq_false (by omega)
    simp only[endD,he,Bool.false_eq_true,if_false,h6] at hfD
    simp -implicitDefEqProofs only[go_sem,hT,jq,j5,forall_eq,n5,Ne.symm n5,m7,Ne.symm m7,m5,Ne.symm m5,he,g6,bYgdD2]
    exact⟨_,_,DLe.refl _,hfin2 ⟨q1,f',true,s.cmp,s.fet++[s.p]⟩ rfl,_,hfD,rfl,some b',sf',hfs,hoffin _,fun h=>hb'q (Option.some.inj h),(fun h=>nomatch h),rfl⟩
 |true=>
  simp only[hj,if_true] at hfD
  simp -implicitDefEqProofs only[go_sem,hT,jq,j5,forall_eq,n5,Ne.symm n5,m7,Ne.symm m7,m5,Ne.symm m5,hj,bYgdD2]
  refine callB_boxX (b:=q) (hm:=by rw[←hS2]; exact kmp) jq jbf (jump145 e b.length l nx fd _ (some b') q I hw hl hc) (fun d s' hR=> ?_) fun d s' hR=> ?_
  rotate_left
  ·obtain⟨w,hj2,rfl⟩:=hR
   simp -implicitDefEqProofs only[go_sem]
   rw[show jumpD e.cs l b.length s.p I.a f'=some w from hj2] at hfD
   rw[hpos]
   exact⟨_,sf',DLe.refl _,del_le hsf0 hsq,_,_,hfD,rfl,_,by omega,hfs⟩
  obtain⟨hj2,rfl,rfl⟩:=hR
  refine⟨_,rfl, ?_⟩
  have jq2:(S2.set q (eP e b.length l nx fd {s with fr:=f',fet:=s.fet++[s.p],cmp:=s.cmp+1} (some b'))).box q=some (eP e b.length l nx fd {s with fr:=f',fet:=s.fet++[s.p],cmp:=s.cmp+1} (some b')):=by rw[St.set_box,if_pos rfl]
  have j52:(S2.set q (eP e b.length l nx fd {s with fr:=f',fet:=s.fet++[s.p],cmp:=s.cmp+1} (some b'))).box b5=some (eIn I):=by rw[St.set_box,if_neg n5,j5]
  rw[show jumpD e.cs l b.length s.p I.a f'=none from hj2] at hfD
  simp only at hfD
  simp -implicitDefEqProofs only[go_sem,hT,jq2,j52,forall_eq,n5,Ne.symm n5,m7,Ne.symm m7,m5,Ne.symm m5,bYgdD2]
  refine za3 (ends88 I.op) ?_
  cases he:endsB I.op.val with
  |true=>
   simp only[endD,he,if_true] at hfD
   simp -implicitDefEqProofs only[go_sem,hT,jq2,j52,forall_eq,n5,Ne.symm n5,m7,Ne.symm m7,m5,Ne.symm m5,he,bYgdD2]
   exact⟨_,_,DLe.refl _,hfin2 ⟨q1,f',false,s.cmp+1,s.fet++[s.p]⟩ rfl,_,hfD,rfl,some b',sf',hfs,hoffin _,fun h=>hb'q (Option.some.inj h),(fun h=>nomatch h),rfl⟩
  |false=>
   by_cases h6:b.length≤q1
   ·have g6:((b.length:Int)≤q1)=True:=eq_true (by omega)
    simp only[endD,he,Bool.false_eq_true,if_false,h6,if_true] at hfD
    simp -implicitDefEqProofs only[go_sem,hT,jq2,j52,forall_eq,n5,Ne.symm n5,m7,Ne.symm m7,m5,Ne.symm m5,he,g6,bYgdD2]
    refine callB_pan (refuse93 s.p 51) ?_
    simp -implicitDefEqProofs only[go_sem]
    exact⟨_,sf',DLe.refl _,hsf2 _,_,_,hfD,rfl,_,by omega,hfs⟩
   ·have g6:((b.length:Int)≤q1)=False:=eq_false (by omega)
    simp only[endD,he,Bool.false_eq_true,if_false,h6] at hfD
    simp -implicitDefEqProofs only[go_sem,hT,jq2,j52,forall_eq,n5,Ne.symm n5,m7,Ne.symm m7,m5,Ne.symm m5,he,g6,bYgdD2]
    exact⟨_,_,DLe.refl _,hfin2 ⟨q1,f',true,s.cmp+1,s.fet++[s.p]⟩ rfl,_,hfD,rfl,some b',sf',hfs,hoffin _,fun h=>hb'q (Option.some.inj h),(fun h=>nomatch h),rfl⟩
end
open Go.Proofs
theorem cnt_gap {l:List Ey} {p q:Nat} (hpq:p<q) (h:∀x∈l,¬((p:Int)<x.pos∧x.pos<q)):cnt l q=cnt l ((p:Int)+1):=by
 unfold cnt
 apply List.countP_congr
 intro x hx
 have:=h x hx
 simp only[decide_eq_true_eq]
 omega
theorem next_gap {l:List Ey} (n p:Nat) (hl:Ents l):∀x∈l,¬((p:Int)<x.pos∧x.pos<(nextP l n p:Int)):=by
 intro x hx ⟨h1,h2⟩
 rw[nextP_cnt hl.rise] at h2
 obtain⟨i,hi,rfl⟩:=List.getElem_of_mem hx
 have hci:cnt l ((p:Int)+1)≤i:=by
  have:=(cnt_iff hl.rise (a:=(p:Int)+1) hi)
  omega
 have hlt:cnt l ((p:Int)+1)<l.length:=by omega
 rw[List.getElem?_eq_getElem hlt] at h2
 simp only at h2
 have hle:l[cnt l ((p:Int)+1)].pos≤l[i].pos:=by
  by_cases he:cnt l ((p:Int)+1)=i
  ·simp only[he]; omega
  ·have:=List.pairwise_iff_getElem.1 hl.rise _ i hlt hi (by omega); omega
 have:=(hl.rng _ (List.getElem_mem hlt)).1
 split at h2 <;> omega
def askD (b:List Ty) (fet:List Nat):List Nat:=fet.flatMap fun a=>List.range' a (zf1 (decF b a).1.op.val)
section
variable {e : En} {b : List Ty} {l : List Ey} {q : Nat} {g : FuncId} {ca : List D} {FS : List Nat → St → Prop} {sf : St} {s0 : PS}
def runR (e:En) (b:List Ty) (l:List Ey) (s0:PS) (fd:D) (q:Nat) (FS:List Nat→St→Prop) (d:D) (s':St):Prop:=
 ∃s2,runD e b l (b.length+1) s0= .ok s2∧lateE l b.length=none∧d= .tup []∧∃nx o sf',FS (askD b s2.fet) sf'∧offL sf' (L0 e b l nx fd s2 o q)∧s'=putL sf' (L0 e b l nx fd s2 o q)
def runP (e:En) (b:List Ty) (l:List Ey) (s0:PS) (FS:List Nat→St→Prop) (d:D) (s':St):Prop:=
 ∃a w,(runD e b l (b.length+1) s0= .no a w∨∃s2 x,runD e b l (b.length+1) s0= .ok s2∧lateE l b.length=some x∧a=x.pos∧w=93)∧d=refD a w∧∃az,FS az s'∧Asc b.length az
def bYgdE0:=aI @e_len (aI @e_0 (aI @e_3 (aI @e_4 (aI @e_5 (aI @e_7 (aI @e_8 (aI @e_35 (aI @e_en (aI @e_fr (aI @zc2 (aI @gdD (aI @ldD (aI @zb4 (aI @za8 (aI @zb7 (aI @anD (aI @za2 (aI @za6 (aI @ey_0 @ey_1)))))))))))))))))))
theorem run55 (hw:WideE e) (hl:Ents l) (hF:FetchOk g ca b FS) (hb:b.length≤4096) (hs:FS [] sf) (h0:s0.p=0) (h1:s0.cmp=0) (h2:s0.fet=[]) (hoff:offL sf (L0 e b l 0 (.func (.func g) [] ca) s0 none q)):
  XCall Tryz.prog 55 [.ptr q 0] (putL sf (L0 e b l 0 (.func (.func g) [] ca) s0 none q)) (runR e b l s0 (.func (.func g) [] ca) q FS) (runP e b l s0 FS):=by
 obtain⟨fd,hfd⟩:∃fd,D.func (.func g) [] ca=fd:=⟨_,rfl⟩
 obtain⟨RR,hRR⟩:∃RR,runD e b l (b.length+1) s0=RR:=⟨_,rfl⟩
 have hlen:=hl.len
 have hc0:cnt l ((0:Nat):Int)=0:=cnt_zero fun y hy=>by have:=(hl.rng y hy).1; omega
 have hqb:∀(sf:St) (nx:Nat) (s:PS) (o:Option Nat),(putL sf (L0 e b l nx fd s o q)).box q=some (eP e b.length l nx fd s o):=fun sf nx s o=>by
  show(grS 1 s.fet.length o (sf.set q _)).box q=_
  rw[grS_boxa,St.set_box,if_pos rfl]
 rw[hfd] at hoff ⊢
 refine F55.xcall rfl fun T hT=> ?_
 simp -implicitDefEqProofs only[go_sem,c55,hT,zb4,za8,zb7,anD,za2,forall_eq,za6,ey_0,ey_1]
 refine loopL F55 (fun x:PS×Option Nat×St=>[(0,.ptr q 0),(2,.int .i64 x.1.p)]) (fun x=>putL x.2.2 (L0 e b l (cnt l x.1.p) fd x.1 x.2.1 q))
  (fun x=>(∃k,b.length<x.1.p+k∧runD e b l k x.1=RR)∧x.1.cmp≤2*x.1.p∧x.1.fet.length≤x.1.p∧x.1.p≤b.length∧(x.2.1=none→x.1.fet=[])∧x.2.1≠some q∧offL x.2.2 (L0 e b l (cnt l x.1.p) fd x.1 x.2.1 q)∧FS (askD b x.1.fet) x.2.2∧Asc x.1.p (askD b x.1.fet))
  (fun x=>b.length-x.1.p) (s0,none,sf) ⟨⟨b.length+1,by simp only; omega,hRR⟩,by simp only; omega,by simp[h2],by simp only; omega,fun _=>h2,by simp,by simp only[h0,hc0]; exact hoff,by simp only[h2]; exact hs,by simp only[h2]; exact⟨List.Pairwise.nil,by simp[askD]⟩⟩ ?_ ?_ ?_
 ·simp -implicitDefEqProofs only[go_sem,hT,Int.ofNat_zero,h0]
 ·simp only[h0,hc0]; exact St.le.refl _
 clear hT T
 rintro⟨s,o,sx⟩ ⟨⟨k,hk,hrun⟩,hcmp,hfet,hpb,hon,hoq,hof,hfs,hasc⟩ T hT
 simp only at hk hrun hcmp hfet hpb hon hoq hof hfs hasc hT ⊢
 have kq:=hqb sx (cnt l s.p) s o
 by_cases hpl:s.p<b.length
 case neg=>
  have p1:((s.p:Int)<b.length)=False:=eq_false (by omega)
  have hok:RR= .ok s:=by
   rw[←hrun]
   cases k with
   |zero=>omega
   |succ k=>rw[runD,if_pos (by omega)]
  have hpn:s.p=b.length:=by omega
  have hlate:lateE l b.length=l[cnt l s.p]? :=by rw[hpn]; exact find_ge hl.rise _
  by_cases h4:cnt l s.p<l.length
  ·have p2:((cnt l s.p:Int)<l.length)=True:=eq_true (by omega)
   have p3:(0≤(cnt l s.p:Int))=True:=eq_true (by omega)
   have hat:=getEy h4
   simp -implicitDefEqProofs only[go_sem,hT,kq,forall_eq,p1,p2,p3,hat,bYgdE0]
   refine callB_pan (refuse93 l[cnt l s.p].pos 93) ?_
   simp -implicitDefEqProofs only[go_sem]
   exact⟨_,sx,DLe.refl _,le_putL (St.le.refl _) hof,_,_,.inr ⟨s,l[cnt l s.p],hRR.trans hok,by rw[hlate,List.getElem?_eq_getElem h4],rfl,rfl⟩,rfl,_,hfs,hpn▸hasc⟩
  ·have p2:((cnt l s.p:Int)<l.length)=False:=eq_false (by omega)
   simp -implicitDefEqProofs only[go_sem,hT,kq,forall_eq,p1,p2,bYgdE0]
   exact⟨_,_,DLe.refl _,St.le.refl _,s,hRR.trans hok,by rw[hlate,List.getElem?_eq_none (by omega)],rfl,_,_,_,hfs,hof,rfl⟩
 have p1:((s.p:Int)<b.length)=True:=eq_true (by omega)
 obtain⟨kk,rfl⟩:∃kk,k=kk+1:=⟨k-1,by omega⟩
 rw[runD,if_neg (by omega)] at hrun
 have kbf:(putL sx (L0 e b l (cnt l s.p) fd s o q)).buf q=none:=by
  cases o with
  |none=>show sx.buf q=none; exact not_buf hof.1
  |some x=>
   show(if q=x then _ else sx.buf q)=none
   rw[if_neg (fun h=>hoq (by rw[h])),not_buf hof.1]
 simp -implicitDefEqProofs only[go_sem,hT,kq,forall_eq,p1,bYgdE0]
 refine callB_boxX (b:=q) (hm:=by cases o <;> exact not_mp (σ:=sx) hof.1) kq kbf (come98 e b.length l fd s o q hw hl hb hpl (by omega)) (fun d s' hR=> ?_) fun d s' hR=> ?_
 rotate_left
 ·obtain⟨w,hcm,rfl⟩:=hR
  rw[hcm] at hrun
  simp -implicitDefEqProofs only[go_sem]
  exact⟨_,sx,DLe.refl _,del_le (le_putL (St.le.refl _) hof) hof.1,_,_,.inl (hRR.trans hrun.symm),rfl,_,hfs,hasc.mono (by omega)⟩
 obtain⟨s2,on,hcm,rfl,rfl⟩:=hR
 refine⟨_,rfl, ?_⟩
 have hcg:∀z:Nat,s.p<z→(∀x∈l,¬((s.p:Int)<x.pos∧x.pos<(z:Int)))→cnt l ((s.p:Int)+1)=cnt l z:=fun z h h'=>(cnt_gap h h').symm
 have hset:s2.fet=s.fet→(putL sx (L0 e b l (cnt l s.p) fd s o q)).set q (eP e b.length l (cnt l ((s.p:Int)+1)) fd s2 o)=putL sx (L0 e b l (cnt l ((s.p:Int)+1)) fd s2 o q):=fun h=>by
  show(grS 1 s.fet.length o (sx.set q _)).set q _=grS 1 s2.fet.length o (sx.set q _)
  rw[grS_set,za2,h]
 have kq2:=hqb sx (cnt l ((s.p:Int)+1)) s2 o
 rw[hcm] at hrun
 cases on with
 |false=>
  obtain⟨c1,c2,_⟩:=come_off hcm
  have hnp:=nextP_gt (l:=l) hpl
  have e1:s2.p=nextP l b.length s.p:=by rw[c2]
  have e2:s2.cmp=s.cmp:=by rw[c2]
  have e3:s2.fet=s.fet:=by rw[c2]
  have e4:s2.live=false:=by rw[c2]; exact c1
  rw[hset e3]
  simp -implicitDefEqProofs only[go_sem,hT,kq2,forall_eq,e4,bYgdE0]
  have hg:cnt l ((s.p:Int)+1)=cnt l s2.p:=hcg s2.p (by omega) (by rw[e1]; exact next_gap _ _ hl)
  have hoff2:offL sx (L0 e b l (cnt l s2.p) fd s2 o q):=by
   show offL sx [.bx q _,.gr 1 s2.fet.length o]
   rw[e3]; exact hof
  refine⟨(s2,o,sx),⟨⟨kk,by simp only; omega,hrun⟩,by simp only; omega,by simp only; rw[e3]; omega,by simp only; omega,by simp only; rw[e3]; exact hon,hoq,hoff2,by simp only; rw[e3]; exact hfs,by simp only; rw[e3]; exact hasc.mono (by omega)⟩,by simp only; omega,by simp only, ?_⟩
  simp only
  rw[hg]; exact St.le.refl _
 |true=>
  obtain⟨c1,c2,c3,c4,_⟩:=come_on hcm
  have c5:s2.cmp≤s.cmp+1:=by split at c4 <;> omega
  clear c4
  have c6:s2.fet.length=s.fet.length:=by rw[c3]
  rw[hset c3]
  simp -implicitDefEqProofs only[go_sem,hT,kq2,forall_eq,c2,bYgdE0]
  have hof2:offL sx (L0 e b l (cnt l ((s.p:Int)+1)) fd s2 o q):=hof
  have hdo:=does99 (e:=e) (l:=l) (s:=s2) (nx:=cnt l ((s.p:Int)+1)) (o:=o) (q:=q) hw hl hF hb (by omega) (by omega) hfs (by rw[c1]; exact hasc) (by rw[hfd]; exact hof2) hoq (by rw[c3]; exact hon) (by omega) c2 (by rw[c1])
  rw[hfd,c1] at hdo
  refine callB_allX hdo (fun d s' hR=> ?_) fun d s' hR=> ?_
  rotate_left
  ·obtain⟨a,w,hfn,rfl,j,hj,hfj⟩:=hR
   rw[c1] at hfj hj
   simp only[hfn] at hrun
   simp -implicitDefEqProofs only[go_sem]
   exact⟨_,s',DLe.refl _,St.le.refl _,_,_,.inl (hRR.trans hrun.symm),rfl,_,hfj,(asc_more hasc).mono hj⟩
  obtain⟨s3,hfm,rfl,o',sf',hfs',hof',ho1,ho2,rfl⟩:=hR
  simp only[hfm] at hrun
  obtain⟨f1,f2,_,_,_,f6⟩:=fet_ok hfm
  obtain⟨_,_,f7,f8⟩:=decF_ok f1
  rw[c1] at f1 f2 f7 f8 hfs'
  have e1:s3.p=s.p+zf1 (decF b s.p).1.op.val:=by rw[f6,c1]
  have e2:s3.cmp≤s2.cmp+1:=by rw[f6]; simp only; split <;> omega
  have e3:s3.fet=s.fet++[s.p]:=by rw[f6,c1,c3]
  have e4:s3.fet.length=s.fet.length+1:=by rw[e3]; simp
  have e5:askD b s3.fet=askD b s.fet++List.range' s.p (zf1 (decF b s.p).1.op.val):=by rw[e3]; simp[askD]
  simp -implicitDefEqProofs only[go_sem,hT,forall_eq,bYgdE0]
  have hg:cnt l ((s.p:Int)+1)=cnt l s3.p:=hcg s3.p (by omega) (by rw[e1]; exact stray_none f2)
  refine⟨(s3,o',sf'),⟨⟨kk,by simp only; omega,hrun⟩,by simp only; omega,by simp only; omega,by simp only; omega,ho2,ho1,hof',by simp only; rw[e5]; exact hfs',by simp only; rw[e5,e1]; exact asc_more hasc⟩,by simp only; omega,by simp only, ?_⟩
  simp only
  rw[hg]; exact St.le.refl _
end
open Go.Proofs
theorem sigsErr_zero {c:Nat}:∀{l:List Sg},sigsErr c l=0↔l.all (sigMayB c)=true
 |[]=>by simp[sigsErr]
 |s::r=>by
  rw[sigsErr,List.all_cons,Bool.and_eq_true,←sigsErr_zero (l:=r)]
  by_cases h8:8<s.ps.length
  ·rw[if_pos h8]
   have:sigMayB c s=false:=by unfold sigMayB; rw[decide_eq_false (by omega)]; rfl
   simp[this]
  ·rw[if_neg h8]
   cases hs:sigMayB c s <;> simp
theorem may_can (e:En) (n:Int):mayE e n≠0↔(canB e=false∨n<(psOf e).length∨16<n):=by
 by_cases hc:canB e=true
 ·obtain⟨hs,h0,hps,hp8,hst⟩:=can_sig hc
  have hm:mayE e n=(startF e.cs.length (psOf e) n).2:=by
   unfold canB at hc
   simp only[Bool.and_eq_true,decide_eq_true_eq] at hc
   unfold mayE
   rw[if_neg (by simp[hc.1.1]),if_neg (by have:=hc.1.2.1; omega),if_neg (by simp[sigsErr_zero.2 hc.2]),dif_pos ⟨h0,hs⟩,hps]
  rw[hm]
  constructor
  ·intro h
   by_cases h1:n<(psOf e).length
   ·exact .inr (.inl h1)
   by_cases h2:16<n
   ·exact .inr (.inr h2)
   exact absurd (start_ok hc h1 h2) h
  ·rintro(h|h|h)
   ·rw[hc] at h; cases h
   ·unfold startF; rw[if_pos (.inr (.inr (.inr (.inl h))))]; decide
   ·unfold startF; rw[if_pos (.inr (.inl h))]; decide
 ·have hcf:canB e=false:=by simpa using hc
  refine⟨fun _=> .inl hcf,fun _ h=> ?_⟩
  unfold mayE at h
  split at h; · rename_i h1; exact h1 h
  rename_i h1
  split at h; · cases h
  rename_i h2
  split at h; · rename_i h3; exact h3 h
  rename_i h3
  split at h
  ·rename_i h4
   refine hc ?_
   unfold canB
   simp only[Bool.and_eq_true,decide_eq_true_eq]
   exact⟨⟨Classical.not_not.1 h1,by omega,h4.1,by omega⟩,sigsErr_zero.1 (Classical.not_not.1 h3)⟩
  ·cases h
def beginR (e:En) (n:Int) (m:Nat) (c:List Ty) (d:D) (s':St):Prop:=
 beginD e n m c=none∧∃q,d= .ptr q 0∧s'=({}:St).set q (eP e m (decC c).1.es 0 .nilfunc (startS e n) none)
def beginP (e:En) (n:Int) (m:Nat) (c:List Ty) (d:D) (s':St):Prop:=∃a w,beginD e n m c=some (a,w)∧d=refD a w∧s'={}
def bYgdF0:=aI @ct_len (aI @ct_0 (aI @ct_1 (aI @zb4 (aI @za8 (aI @zb7 (aI @za5 (aI @za4 (aI @zb0 (aI @zb1 (aI @za7 (aI @anD (aI @za2 (aI @ey_0 (aI @ey_1 (aI @ey_d2 (aI @zc2 (aI @gdD (aI @ldD @za6))))))))))))))))))
def bYgdF1:=aI @ct_len (aI @ct_0 (aI @ct_1 (aI @zb4 (aI @za8 (aI @zb7 (aI @za5 (aI @za4 (aI @zb0 (aI @zb1 (aI @za7 (aI @anD (aI @za2 (aI @ey_0 (aI @ey_1 (aI @ey_d2 (aI @zc2 (aI @gdD (aI @ldD (aI @za6 @Int.ofNat_zero)))))))))))))))))))
theorem begin53 (e:En) (n:Int) (m:Nat) (c:List Ty) (o2:Own) (hw:WideE e) (hc:c.length≤140737488355328) (hm:m≤9223372036854775807):
  XCall Tryz.prog 53 [.agg (eEn e),.int .i64 n,.int .i64 m,.slice o2 (rws eT c)] {} (beginR e n m c) (beginP e n m c):=by
 have hmc:=may_can e n
 have en1:(eEn e)[1]? =some (.slice .no (rws eSg e.sgs)):=rfl
 have en0:(eEn e)[0]? =some (.slice .no (rws eC e.cs)):=rfl
 have en2:(eEn e)[2]? =some (.int .i64 e.fn):=rfl
 refine F53.xcall rfl fun T hT=> ?_
 simp -implicitDefEqProofs only[go_sem,c53,hT,forall_eq,en0,en1,en2,bYgdF0]
 intro b4
 refine za3 (may31 e n hw) ?_
 by_cases h0:mayE e n=0
 case neg=>
  have hb:beginD e n m c=some (0,1):=by unfold beginD; rw[if_pos (hmc.1 h0)]
  have q0:((mayE e n:Int)=0)=False:=eq_false (by omega)
  simp -implicitDefEqProofs only[go_sem,hT,forall_eq,en0,en1,en2,q0,bYgdF0]
  refine callB_pan (refuse93 0 1) ?_
  simp -implicitDefEqProofs only[go_sem]
  exact⟨_,{},DLe.refl _,St.le.nil _,_,_,hb,rfl,rfl⟩
 have hno:¬(canB e=false∨n<(psOf e).length∨16<n):=fun h=>hmc.2 h h0
 have hb0:beginD e n m c=(if 4096<m then some ((0:Int),4) else if m=0 then some (0,51) else if(decC c).2.2≠0 then some ((decC c).2.1,(decC c).2.2) else match badE e (decC c).1.es with
  |some x=>some (x.pos,65)
  |none=>if((decC c).1.loc:Int)≠n then some (0,32) else none):=by
  unfold beginD; rw[if_neg hno]; rfl
 rw[h0]
 simp -implicitDefEqProofs only[go_sem,hT,forall_eq,en0,en1,en2,bYgdF1]
 have hcan:canB e=true:=by
  cases h:canB e with
  |true=>rfl
  |false=>exact absurd (.inl h) hno
 have h1:¬n<(psOf e).length:=fun h=>hno (.inr (.inl h))
 have h2:¬16<n:=fun h=>hno (.inr (.inr h))
 by_cases h3:4096<m
 ·have g3:((4096:Int)<m)=True:=eq_true (by omega)
  rw[if_pos h3] at hb0
  simp -implicitDefEqProofs only[go_sem,hT,forall_eq,g3,bYgdF0]
  refine callB_pan (refuse93 0 4) ?_
  simp -implicitDefEqProofs only[go_sem]
  exact⟨_,{},DLe.refl _,St.le.nil _,_,_,hb0,rfl,rfl⟩
 have g3:((4096:Int)<m)=False:=eq_false (by omega)
 rw[if_neg h3] at hb0
 by_cases h4:m=0
 ·have g4:((m:Int)=0)=True:=eq_true (by omega)
  rw[if_pos h4] at hb0
  simp -implicitDefEqProofs only[go_sem,hT,forall_eq,g3,g4,bYgdF0]
  refine callB_pan (refuse93 0 51) ?_
  simp -implicitDefEqProofs only[go_sem]
  exact⟨_,{},DLe.refl _,St.le.nil _,_,_,hb0,rfl,rfl⟩
 have g4:((m:Int)=0)=False:=eq_false (by omega)
 rw[if_neg h4] at hb0
 simp -implicitDefEqProofs only[go_sem,hT,forall_eq,g3,g4,bYgdF0]
 refine za3 (decode94 c o2 hc) ?_
 obtain⟨hr1,hr2,hr3,hr4⟩:=decC_rise c
 by_cases h5:(decC c).2.2=0
 case neg=>
  rw[if_pos h5] at hb0
  simp -implicitDefEqProofs only[go_sem,hT,forall_eq,bYgdF0]
  intro b9 m1 m2
  refine callB_nilX (must95_no (decC c).2.1 (decC c).2.2 h5) (fun d s' h=>h.elim) fun d s' h=>⟨h.2, ?_⟩
  rw[h.1]
  simp -implicitDefEqProofs only[go_sem]
  exact⟨_,{},DLe.refl _,St.le.nil _,_,_,hb0,rfl,rfl⟩
 rw[if_neg (by simp[h5])] at hb0
 have hEnts:Ents (decC c).1.es:=⟨hr1,hr2,hr3⟩
 have hbR:beginR e n m c=fun d s'=>beginD e n m c=none∧∃q,d= .ptr q 0∧s'=({}:St).set q (eP e m (decC c).1.es 0 .nilfunc (startS e n) none):=rfl
 rw[hbR,h5]
 obtain⟨CC,hCC⟩:∃CC,(decC c).1=CC:=⟨_,rfl⟩
 rw[hCC] at hb0 hEnts ⊢
 simp -implicitDefEqProofs only[go_sem,hT,forall_eq,bYgdF1]
 intro b9 m1 m2
 refine za3 (must95_ok (decC c).2.1) ?_
 simp -implicitDefEqProofs only[go_sem,hT,forall_eq,m1,m2,bYgdF0]
 obtain⟨S1,hS1⟩:∃S1,(({}:St).set b4 (eEn e)).set b9 (eCt CC)=S1:=⟨_,rfl⟩
 have k4:S1.box b4=some (eEn e):=by rw[←hS1]; simp[St.set,m1,m2]
 have k9:S1.box b9=some (eCt CC):=by rw[←hS1]; simp[St.set]
 rw[hS1]
 have hEl:=hEnts.len
 refine loopL F53 (fun i:Nat=>[(1,.int .i64 n),(2,.int .i64 m),(4,.ptr b4 0),(9,.ptr b9 0),(38,.slice .no (rws eEy CC.es)),(39,.int .i64 CC.es.length),(40,.int .i64 i)]) (fun _=>S1) (fun i=>i≤CC.es.length∧∀x∈CC.es.take i,(!x.dead&&decide (checkF e.cs.length x.fr≠0))=false) (fun i=>CC.es.length-i) 0 ⟨by omega,by simp⟩ ?_ (St.le.refl _) ?_
 ·simp -implicitDefEqProofs only[go_sem,hT,Int.ofNat_zero]
 clear hT T
 rintro i ⟨hi,hn⟩ T hT
 by_cases h:i<CC.es.length
 ·have p1:((i:Int)<CC.es.length)=True:=eq_true (by omega)
  have p0:(0≤(i:Int))=True:=eq_true (by omega)
  have hax:=getEy h
  have w1:IntKind.wrap .i64 ((i:Int)+1)=((i+1:Nat):Int):=wrapN (by omega) (by omega)
  simp -implicitDefEqProofs only[go_sem,hT,forall_eq,k4,k9,en0,en1,en2,p1,p0,hax,w1,bYgdF0]
  intro b13 hb13
  have n16:b13≠b4:=fun h=>hb13 (by rw[h]; exact .inl (by simp[k4]))
  have n17:b13≠b9:=fun h=>hb13 (by rw[h]; exact .inl (by simp[k9]))
  cases hd:CC.es[i].dead with
  |true=>
   simp -implicitDefEqProofs only[go_sem,hT,forall_eq,k4,k9,en0,en1,en2,n16,Ne.symm n16,n17,Ne.symm n17,p1,p0,hax,w1,hd,bYgdF0]
   exact⟨i+1,⟨by omega,take_more h hn (by simp[hd])⟩,by omega,rfl,le_add hb13⟩
  |false=>
   simp -implicitDefEqProofs only[go_sem,hT,forall_eq,k4,k9,en0,en1,en2,n16,Ne.symm n16,n17,Ne.symm n17,p1,p0,hax,w1,hd,bYgdF0]
   refine za3 (check81 e.cs .no CC.es[i].fr) ?_
   by_cases hz:checkF e.cs.length CC.es[i].fr=0
   ·have qz:((checkF e.cs.length CC.es[i].fr:Int)=0)=True:=eq_true (by omega)
    simp -implicitDefEqProofs only[go_sem,hT,forall_eq,k4,k9,en0,en1,en2,n16,Ne.symm n16,n17,Ne.symm n17,p1,p0,hax,w1,hd,qz,bYgdF0]
    exact⟨i+1,⟨by omega,take_more h hn (by simp[hd,hz])⟩,by omega,rfl,le_add hb13⟩
   ·have qz:((checkF e.cs.length CC.es[i].fr:Int)=0)=False:=eq_false (by omega)
    rw[bad_some h hn (by simp[hd,hz])] at hb0
    simp -implicitDefEqProofs only[go_sem,hT,forall_eq,k4,k9,en0,en1,en2,n16,Ne.symm n16,n17,Ne.symm n17,p1,p0,hax,w1,hd,qz,bYgdF0]
    refine callB_pan (refuse93 CC.es[i].pos 65) ?_
    simp -implicitDefEqProofs only[go_sem]
    exact⟨_,{},DLe.refl _,St.le.nil _,_,_,hb0,rfl,rfl⟩
 have p1:((i:Int)<CC.es.length)=False:=eq_false (by omega)
 rw[show CC.es.take i=CC.es from List.take_of_length_le (by omega)] at hn
 have hbad:badE e CC.es=none:=find_none hn
 rw[hbad] at hb0
 clear hn
 simp -implicitDefEqProofs only[go_sem,hT,forall_eq,k4,k9,en0,en1,en2,p1,bYgdF0]
 by_cases h7:(CC.loc:Int)=n
 case neg=>
  simp -implicitDefEqProofs only[go_sem,hT,forall_eq,k4,k9,en0,en1,en2,p1,h7,bYgdF0]
  refine callB_pan (refuse93 0 32) ?_
  simp -implicitDefEqProofs only[go_sem]
  exact⟨_,{},DLe.refl _,St.le.nil _,_,_,hb0.trans (by simp[h7]),rfl,rfl⟩
 have hbn:beginD e n m c=none:=hb0.trans (by simp[h7])
 obtain⟨hs,h0',hps,hp8,hst⟩:=can_sig hcan
 have hat:(rws eSg e.sgs)[e.fn.toNat]?.getD []=eSg e.sgs[e.fn.toNat]:=rws_at hs
 have hs1:(e.fn<e.sgs.length)=True:=by simp; omega
 have hs0:(0≤e.fn)=True:=by simp[h0']
 have sg0:(eSg e.sgs[e.fn.toNat])[0]? =some (.slice .no (rws eT (psOf e))):=by rw[hps]; rfl
 have sgl:(eSg e.sgs[e.fn.toNat]).length=2:=rfl
 simp -implicitDefEqProofs only[go_sem,hT,forall_eq,k4,k9,en0,en1,en2,hat,hs1,hs0,sg0,sgl,p1,h7,bYgdF0]
 refine za3 (start68 e.cs .no .no (psOf e) n (by omega)) ?_
 have hso:=start_ok hcan h1 h2
 have hss:startS e n=⟨0,(startF e.cs.length (psOf e) n).1,true,0,[]⟩:=rfl
 generalize startF e.cs.length (psOf e) n=F at *
 obtain⟨f,er⟩:=F
 simp only at hso hss
 subst hso
 simp -implicitDefEqProofs only[go_sem,hT,forall_eq,k4,k9,en0,en1,en2,hat,hs1,hs0,sg0,sgl,bYgdF1]
 intro b14 hb14
 have n16:b14≠b4:=fun h=>hb14 (by rw[h]; exact .inl (by simp[k4]))
 have n17:b14≠b9:=fun h=>hb14 (by rw[h]; exact .inl (by simp[k9]))
 refine za3 (must95_ok 0) ?_
 simp -implicitDefEqProofs only[go_sem,hT,forall_eq,k4,k9,en0,en1,en2,n16,Ne.symm n16,n17,Ne.symm n17,hat,hs1,hs0,sg0,sgl,bYgdF1]
 simp -implicitDefEqProofs only[go_sem,hT,ct_len,ct_0,ct_1,zb4,za8,zb7,za5,za4,zb0,zb1,za7,anD,za2,ey_0,ey_1,ey_d2,forall_eq,zc2,gdD,ldD,za6,k4,k9,en0,en1,en2,n16,Ne.symm n16,n17,Ne.symm n17,hat,hs1,hs0,sg0,sgl,eEn,fr_ta,fr_da,fr_db,fr_la,Int.ofNat_zero]
 intro q hq1 hq2 hq3
 have hQ:D.slice Own.no (rws eC e.cs)::D.slice Own.no (rws eSg e.sgs)::D.int IntKind.i64 e.fn::D.int IntKind.i64 m::D.slice Own.no (rws eEy CC.es)::D.int IntKind.i64 0::D.nilfunc::D.slice Own.nil []::D.int IntKind.i64 0::(eFr f++[D.bool true])=eP e m CC.es 0 .nilfunc (startS e n) none:=by rw[hss]; rfl
 rw[hQ]
 exact⟨_,({}:St).set q (eP e m CC.es 0 .nilfunc (startS e n) none),DLe.refl _,le_set (St.le.nil _),hbn,q,rfl,rfl⟩
end Go.AL
