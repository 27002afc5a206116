import Derived.Test.YtobmoajkfbigkaaGreatRzb
import Derived.Test.YtobmoajkfbigkaaGreatRz
import Derived.Test.YtobmoajkfbigkaaGreatRu
import Derived.Test.YtobmoajkfbigkaaGreatRw
import Derived.Test.YtobmoajkfbigkaaGreatRza
set_option linter.unusedSimpArgs false
set_option linter.unusedVariables false
set_option maxRecDepth 100000
set_option maxHeartbeats 4000000
set_option linter.defProp false
namespace Go.AL
open Go.Proofs
theorem d28 (x:Ey):(eEy x).drop 28=[]:=List.drop_eq_nil_of_le (by rw[zb4]; exact Nat.le_refl _)
theorem ents_rise (s:IS) (n:Nat):Rise (entsD s n):=by
 unfold Rise
 rw[ents_adrs,List.pairwise_map]
 exact(List.Pairwise.filter _ List.pairwise_lt_range).imp fun h=>by simp only; omega
theorem find_ents {s:IS} {n a:Nat} (ha:a<n):findE (entsD s n) a=if hasB s a=true then some ⟨(a:Int),false,frA s a⟩ else none:=by
 by_cases h:hasB s a=true
 ·rw[if_pos h]
  exact findE_of (ents_rise s n) (y:=⟨(a:Int),false,frA s a⟩) (ents_mem.2 ⟨a,ha,h,rfl⟩)
 ·rw[if_neg h]
  unfold findE
  rw[List.find?_eq_none]
  intro y hy
  obtain⟨x,_,hx,rfl⟩:=ents_mem.1 hy
  simp only[decide_eq_true_eq]
  intro he
  have:x=a:=by omega
  subst this
  exact h hx
def certA (b:List Ty) (s:IS) (a:Nat):List Ey:=((List.range a).filter (wantL b (adrs s b.length))).map (entA s)
theorem certA_succ (b:List Ty) (s:IS) (a:Nat):certA b s (a+1)=if wantL b (adrs s b.length) a=true then certA b s a++[entA s a] else certA b s a:=by
 unfold certA
 rw[List.range_succ,List.filter_append,List.map_append]
 split
 ·rename_i h; simp[h]
 ·rename_i h; simp[h]
theorem certA_len (b:List Ty) (s:IS) (a:Nat):(certA b s a).length≤a:=by
 unfold certA
 rw[List.length_map]
 have:=List.length_filter_le (wantL b (adrs s b.length)) (List.range a)
 rw[List.length_range] at this; exact this
def marksL (b:List Ty) (m:Nat) (L:List Nat):List Bool:=(List.range m).map (wantL b L)
theorem marksL_len {b:List Ty} {m:Nat} {L:List Nat}:(marksL b m L).length=m:=by simp[marksL]
def bYhpI0:=aI @gdD (aI @eCz_len (aI @zf9 (aI @eCz_0 (aI @eCz_1 (aI @za2 (aI @ey_0 (aI @zb4 @za8)))))))
def bYhpI1:=aI @gdD (aI @eCz_len (aI @zf9 (aI @eCz_0 (aI @eCz_1 (aI @za2 (aI @ey_0 (aI @zb4 (aI @za8 (aI @zb7 (aI @zb0 (aI @eIn_0 (aI @eIn_1 (aI @eIn_2 (aI @ze1 @anD))))))))))))))
theorem refCert88 {e:En} {lc:Int} {b:List Ty} {r:IS} (h:LastP e lc b r) (loc:Int) (o:Own) (hb:b.length≤4096):
  PCall Tryz.prog 88 [.int .i64 loc,.slice o (rws eT b),.slice .no (rws eEy (entsD r b.length))] (.agg (eCz loc (certE b r))):=by
 have hents:=ents_adrs r b.length
 have hEl:(entsD r b.length).length=(adrs r b.length).length:=by rw[hents,List.length_map]
 have hAl:(adrs r b.length).length≤b.length:=by
  have:=List.length_filter_le (fun a=>(r.has[a]?).getD false) (List.range b.length)
  rw[List.length_range] at this; exact this
 have w1:IntKind.wrap .i64 ((b.length:Int)+1)=((b.length+1:Nat):Int):=by rw[zc2 (by omega) (by omega)]; simp
 refine F88.pcallM rfl fun T hT=> ?_
 simp -implicitDefEqProofs only[go_sem,c88,hT,Nat.mul_one,Nat.add_zero,Nat.zero_add,w1,bYhpI0]
 intro b6
 refine⟨by omega,by omega,fun q n1 n2=> ?_⟩
 have hW0:fl eBo (List.replicate (b.length+1) false)=fl eBo (marksL b (b.length+1) []):=by
  congr 1
  unfold marksL
  apply List.ext_getElem
  ·simp
  ·intro i h1 h2; simp[wantL]
 have hadr:∀i (hi:i<(adrs r b.length).length),(rws eEy (entsD r b.length))[i]?.getD []=eEy ⟨((adrs r b.length)[i]:Int),false,(r.fr[(adrs r b.length)[i]]?).getD (fr0 0)⟩:=fun i hi=>by
  rw[rws_at (by rw[hEl]; exact hi)]
  congr 1
  simp[hents]
 refine loopL F88 (fun i:Nat=>[(0,.int .i64 loc),(1,.slice o (rws eT b)),(2,.slice .no (rws eEy (entsD r b.length))),(6,.ptr b6 0),(7,.int .i64 b.length),(8,.bsl q 0 (b.length+1) (b.length+1)),(9,.int .i64 i)])
  (fun i=>(({}:St).set b6 [.int .i64 0,.slice .nil []]).set q (fl eBo (marksL b (b.length+1) ((adrs r b.length).take i)))) (fun i=>i≤(adrs r b.length).length) (fun i=>(adrs r b.length).length-i) 0 (Nat.zero_le _) ?_ (by rw[List.take_zero,←hW0]; exact St.le.refl _) ?_
 ·simp -implicitDefEqProofs only[go_sem,hT,Nat.mul_one,Nat.add_zero,Nat.zero_add,bYhpI0]
  rfl
 clear hT T
 rintro i hi T hT
 by_cases h1:i<(adrs r b.length).length
 ·have g5:((i:Int)<(entsD r b.length).length)=True:=eq_true (by omega)
  have w3:IntKind.wrap .i64 ((i:Int)+1)=((i+1:Nat):Int):=by rw[zc2 (by omega) (by omega)]; simp
  have hget:=hadr i h1
  have hnext:(adrs r b.length).take (i+1)=(adrs r b.length).take i++[(adrs r b.length)[i]]:=by rw[List.take_add_one,List.getElem?_eq_getElem h1]; rfl
  obtain⟨hd,hj,hz⟩:=last_leads h (List.getElem_mem h1)
  obtain⟨hxl,_⟩:=adrs_mem.1 (List.getElem_mem h1)
  have hms:=marks_step (L:=(adrs r b.length).take i) (x:=(adrs r b.length)[i]) (m:=b.length+1) (fun h=>by have:=hj h; omega) (fun _=>by omega)
  rw[←hnext] at hms
  have hfold:∀L,(List.range (b.length+1)).map (wantL b L)=marksL b (b.length+1) L:=fun _=>rfl
  simp only[hfold] at hms
  generalize hx:(adrs r b.length)[i]=x at *
  obtain⟨W,hW⟩:∃W,marksL b (b.length+1) ((adrs r b.length).take i)=W:=⟨_,rfl⟩
  have hWl:W.length=b.length+1:=by rw[←hW,marksL_len]
  rw[hW] at hms ⊢
  have hdec:=decF_ok hd
  have hpos:(insA b x).pos=x:=by unfold insA; rw[hdec.2.1]; rfl
  have hd0:(((decF b x).2:Nat):Int)=0:=by omega
  simp -implicitDefEqProofs only[go_sem,hT,Nat.mul_one,Nat.add_zero,Nat.zero_add,g5,hget,bYhpI0]
  refine⟨by omega,za3 (refDecode19 b o x (by omega) (by omega)) ?_⟩
  change _ at hpos
  have hI:(decF b x).1=insA b x:=rfl
  rw[hI]
  simp only[szA] at hms hz
  generalize insA b x=I at *
  have hput:∀(V:List Bool) (k:Nat),V.length=b.length+1→k<b.length+1→(fl eBo V).take k++[D.bool true]++(fl eBo V).drop (k+1)=fl eBo (V.set k true):=fun V k hV hk=>by
   have:=fl_set (enc:=eBo) (s:=1) (fun _=>rfl) (xs:=V) (i:=k) (by omega) true
   simpa[eBo] using this
  simp -implicitDefEqProofs only[go_sem,hT,Nat.mul_one,Nat.add_zero,Nat.zero_add,bYhpI1]
  intro b10 m1 m2 m3 m4
  refine za3 (refJumps22 I.op) ?_
  have hset:∀(A B:List D),(((({}:St).set b6 [.int .i64 0,.slice .nil []]).set q A).set b10 (eIn I)).set q B=((({}:St).set b6 [.int .i64 0,.slice .nil []]).set q B).set b10 (eIn I):=fun A B=>by
   rw[set_comm m1,za2]
  have hle:∀(A:List D),St.le ((({}:St).set b6 [.int .i64 0,.slice .nil []]).set q A) (((({}:St).set b6 [.int .i64 0,.slice .nil []]).set q A).set b10 (eIn I)):=fun A=>le_add fun hh=>by
   rcases set_has.1 hh with hh|hh
   ·exact m1 hh
   ·rcases set_has.1 hh with hh|hh
    ·exact m3 hh
    ·exact St.not_has_nil _ hh
  have hsz6:=sizeOp_le I.op.val
  have w4:IntKind.wrap .i64 ((x:Int)+zf1 I.op.val)=((x+zf1 I.op.val:Nat):Int):=by rw[zc2 (by omega) (by omega)]; simp
  have flL:∀V:List Bool,V.length=b.length+1→(fl eBo V).length=b.length+1:=fun V hV=>by rw[fl_len (s:=1) (fun _=>rfl),hV]; omega
  cases hjj:jumpsB I.op.val
  ·rw[hjj] at hms
   simp only[Bool.false_eq_true,if_false] at hms
   cases hee:endsB I.op.val
   ·rw[hee] at hms
    simp only[Bool.false_eq_true,if_false] at hms
    simp -implicitDefEqProofs only[go_sem,hT,Nat.mul_one,Nat.add_zero,Nat.zero_add,m1,m2,m3,m4,n1,n2,bYhpI1]
    refine za3 (refEnds41 I.op) ?_
    simp -implicitDefEqProofs only[go_sem,hT,Nat.mul_one,Nat.add_zero,Nat.zero_add,m1,m2,m3,m4,n1,n2,hee,w3,bYhpI1]
    exact⟨i+1,by omega,by omega,rfl,by rw[hms]; exact hle _⟩
   ·rw[hee] at hms
    simp only[if_true] at hms
    simp -implicitDefEqProofs only[go_sem,hT,Nat.mul_one,Nat.add_zero,Nat.zero_add,m1,m2,m3,m4,n1,n2,bYhpI1]
    refine za3 (refEnds41 I.op) ?_
    simp -implicitDefEqProofs only[go_sem,hT,Nat.mul_one,Nat.add_zero,Nat.zero_add,m1,m2,m3,m4,n1,n2,hee,w3,bYhpI1]
    refine⟨fun c hc hh=>hh.1 hc,za3 (refSize74 I.op) ?_⟩
    simp -implicitDefEqProofs only[go_sem,hT,Nat.mul_one,Nat.add_zero,Nat.zero_add,m1,m2,m3,m4,n1,n2,hpos,w4,w3,hset,hput W (x+zf1 I.op.val) hWl (by omega),flL W hWl,bYhpI1]
    exact⟨⟨by omega,by omega⟩,by omega,i+1,by omega,by omega,rfl,by rw[hms]; exact hle _⟩
  ·obtain⟨ja,hja⟩:∃ja:Nat,I.a=ja:=⟨I.a.toNat,by have:=hj hjj; omega⟩
   have hjl:=hj hjj
   rw[hjj] at hms
   simp only[if_true,hja,Int.toNat_natCast] at hms
   simp -implicitDefEqProofs only[go_sem,hT,Nat.mul_one,Nat.add_zero,Nat.zero_add,m1,m2,m3,m4,n1,n2,hja,hset,hput W ja hWl (by omega),flL W hWl,bYhpI1]
   refine⟨⟨by omega,by omega⟩,by omega,za3 (refEnds41 I.op) ?_⟩
   cases hee:endsB I.op.val
   ·rw[hee] at hms
    simp only[Bool.false_eq_true,if_false] at hms
    simp -implicitDefEqProofs only[go_sem,hT,Nat.mul_one,Nat.add_zero,Nat.zero_add,m1,m2,m3,m4,n1,n2,hee,w3,bYhpI1]
    exact⟨i+1,by omega,by omega,rfl,by rw[hms]; exact hle _⟩
   ·rw[hee] at hms
    simp only[if_true] at hms
    simp -implicitDefEqProofs only[go_sem,hT,Nat.mul_one,Nat.add_zero,Nat.zero_add,m1,m2,m3,m4,n1,n2,hee,w3,bYhpI1]
    refine⟨fun c hc hh=>hh.1 hc,za3 (refSize74 I.op) ?_⟩
    simp -implicitDefEqProofs only[go_sem,hT,Nat.mul_one,Nat.add_zero,Nat.zero_add,m1,m2,m3,m4,n1,n2,hpos,w4,w3,hset,hput (W.set ja true) (x+zf1 I.op.val) (by simpa using hWl) (by omega),flL (W.set ja true) (by simpa using hWl),bYhpI1]
    exact⟨⟨by omega,by omega⟩,by omega,i+1,by omega,by omega,rfl,by rw[hms]; exact hle _⟩
 have g5:((i:Int)<(entsD r b.length).length)=False:=eq_false (by omega)
 have hAll:(adrs r b.length).take i=adrs r b.length:=List.take_of_length_le (by omega)
 rw[hAll]
 simp -implicitDefEqProofs only[go_sem,hT,Nat.mul_one,Nat.add_zero,Nat.zero_add,g5,bYhpI0]
 intro b12 z1 z2 z3 z4 b13 y1 y2 y3 y4 y5 y6
 have hWl:(marksL b (b.length+1) (adrs r b.length)).length=b.length+1:=marksL_len
 have hWat:∀a,a<b.length→(fl eBo (marksL b (b.length+1) (adrs r b.length)))[a]? =some (.bool (wantL b (adrs r b.length) a)):=fun a ha=>by
  rw[fl_boAt (by omega)]
  congr 2
  simp[marksL,show a<b.length+1 by omega]
 generalize marksL b (b.length+1) (adrs r b.length)=W at hWl hWat ⊢
 obtain⟨B,hB⟩:∃B:Option Nat→List Ey→St,B=fun o C=>(((({}:St).set b6 [.int .i64 0,.slice .nil []]).set q (fl eBo W)).set b13 [.int .i64 0,.slice .no (rws eEy (entsD r b.length))]).set b12 [.int .i64 loc,grD 28 o (rws eEy C)]:=⟨_,rfl⟩
 have hBq:∀o C,(B o C).box q=some (fl eBo W):=fun o C=>by rw[hB]; simp[St.set_box,n1,n2,z1,z2,z3,z4,y1,y2,y3,y4,y5,y6]
 have hB13:∀o C,(B o C).box b13=some [.int .i64 0,.slice .no (rws eEy (entsD r b.length))]:=fun o C=>by rw[hB]; simp[St.set_box,n1,n2,z1,z2,z3,z4,y1,y2,y3,y4,y5,y6]
 have hB12:∀o C,(B o C).box b12=some [.int .i64 loc,grD 28 o (rws eEy C)]:=fun o C=>by rw[hB]; simp[St.set_box,n1,n2,z1,z2,z3,z4,y1,y2,y3,y4,y5,y6]
 have hB6:∀o C,(B o C).box b6=some [.int .i64 0,.slice .nil []]:=fun o C=>by rw[hB]; simp[St.set_box,n1,n2,z1,z2,z3,z4,y1,y2,y3,y4,y5,y6]
 have hBs:∀o C o' C',(B o C).set b12 [.int .i64 loc,grD 28 o' (rws eEy C')]=B o' C':=fun o C o' C'=>by rw[hB]; simp only; rw[za2]
 refine loopL F88 (fun x:Nat×Option Nat=>[(6,.ptr b6 0),(7,.int .i64 b.length),(8,.bsl q 0 (b.length+1) (b.length+1)),(12,.ptr b12 0),(13,.ptr b13 0),(14,.int .i64 x.1)])
  (fun x=>grS 28 (certA b r x.1).length x.2 (B x.2 (certA b r x.1))) (fun x=>x.1≤b.length∧(x.2=none→(certA b r x.1).length=0)∧grN x.2 (B x.2 (certA b r x.1))) (fun x=>b.length-x.1) (0,none) ⟨Nat.zero_le _,fun _=>rfl,grN_none⟩ ?_ ?_ ?_
 ·simp -implicitDefEqProofs only[go_sem,hT,Nat.mul_one,Nat.add_zero,Nat.zero_add,bYhpI0]
  rfl
 ·rw[hB]
  show St.le ((((({}:St).set b6 [.int .i64 0,.slice .nil []]).set q (fl eBo W)).set b13 [.int .i64 0,.slice .no (rws eEy (entsD r b.length))]).set b12 [.int .i64 loc,.slice .nil []]) _
  rw[set_comm y1]
  exact St.le.refl _
 clear hT T
 rintro⟨a,o2⟩ ⟨ha,hno,hgn⟩ T hT
 simp only at ha hno hgn hT ⊢
 have hcl:=certA_len b r a
 have hcs:=certA_succ b r a
 by_cases h2:a<b.length
 ·have g6:((a:Int)<b.length)=True:=eq_true (by omega)
  have w3:IntKind.wrap .i64 ((a:Int)+1)=((a+1:Nat):Int):=by rw[zc2 (by omega) (by omega)]; simp
  have hat:=hWat a h2
  cases hw:wantL b (adrs r b.length) a with
  |false=>
   rw[hw] at hat
   simp only[hw,Bool.false_eq_true,if_false] at hcs
   simp -implicitDefEqProofs only[go_sem,hT,gdD,Nat.mul_one,Nat.add_zero,Nat.zero_add,eCz_len,zf9,eCz_0,eCz_1,za2,ey_0,zb4,za8,g6,grS_boxa,hBq,hat,w3]
   exact⟨⟨by omega,by omega⟩,(a+1,o2),⟨by simp only; omega,by simp only[hcs]; exact hno,by simp only[hcs]; exact hgn⟩,by simp only; omega,rfl,by simp only[hcs]; exact St.le.refl _⟩
  |true=>
   rw[hw] at hat
   simp only[hw,if_true] at hcs
   simp -implicitDefEqProofs only[go_sem,hT,gdD,Nat.mul_one,Nat.add_zero,Nat.zero_add,eCz_len,zf9,eCz_0,eCz_1,za2,ey_0,zb4,za8,g6,grS_boxa,hBq,hat,hB13]
   have hfe:=find_ents (s:=r) (n:=b.length) h2
   obtain⟨C,hC⟩:∃C,certA b r a=C:=⟨_,rfl⟩
   rw[hC] at hcs hno hgn hcl ⊢
   have fin:∀(b15:Nat) (c15:List D) (x:Ey) (hx:x=entA r a) (K:Env→St→Prop) (T':Env) (d:Option Nat),¬(grS 28 C.length o2 (B o2 C)).has b15→
     (∀o3 σ',σ'.box=(((B o2 C).set b15 c15)).box→St.le (grS 28 (C++[entA r a]).length o3 ((B o2 C).set b15 c15)) σ'→grN o3 (B o2 C)→o3≠none→putK 87 d (grD 28 o3 (rws eEy (C++[entA r a]))) K T' σ')→
     appendA Tryz.prog 87 d 50 50 (grD 28 o2 (rws eEy C)) (.slice .exact [eEy x]) K T' (grS 28 C.length o2 ((B o2 C).set b15 c15)):=fun b15 c15 x hx K T' d hb15 hk=>by
    subst hx
    refine app_gr' (ow:= .exact) Tryz.sli50 Tryz.sz86 Tryz.by86 Tryz.zero86 rfl (n:=C.length) (m:=1) (base:=(B o2 C).set b15 c15) (by rw[za0]) rfl (St.le.refl _) (fun c hc hh=> ?_) hno (by simp[zb4]) (by omega) fun o3 σ' hbox hle hg hnn=> ?_
    ·rcases set_has.1 hh with rfl|hh
     ·exact hb15 (by rw[grS_has]; exact .inl hc)
     ·exact hgn c hc hh
    ·have e1:rws eEy C++[eEy (entA r a)]=rws eEy (C++[entA r a]):=by simp[rws]
     have e2:C.length+1=(C++[entA r a]).length:=by simp
     rw[e1]
     rw[e2] at hle
     refine hk o3 σ' ?_ hle (fun c hc hh=>hg c hc (set_has.2 (.inr hh))) fun h=>by have:=hnn h; omega
     rw[hbox]; rw[grS_box]
   have hBh:∀o C o' C' x,(B o C).has x↔(B o' C').has x:=fun o C o' C' x=>by rw[hB]; simp only[set_has]
   have last:∀(b15:Nat) (c15:List D) (o3:Option Nat) (σ':St),¬(grS 28 C.length o2 (B o2 C)).has b15→o3≠none→St.le (grS 28 (C++[entA r a]).length o3 ((B o2 C).set b15 c15)) σ'→
     St.le (grS 28 (C++[entA r a]).length o3 (B o3 (C++[entA r a]))) (σ'.set b12 [.int .i64 loc,grD 28 o3 (rws eEy (C++[entA r a]))]):=fun b15 c15 o3 σ' hb15 hn3 hle=>by
    have hb12:b15≠b12:=fun he=>hb15 (by rw[he,grS_has]; exact .inr (.inl (by rw[hB12]; simp)))
    have h15:¬(B o3 (C++[entA r a])).has b15:=fun hh=>hb15 (by rw[grS_has]; exact .inr ((hBh _ _ _ _ _).1 hh))
    have h1:=le_set (b:=b12) (cs:=[.int .i64 loc,grD 28 o3 (rws eEy (C++[entA r a]))]) hle
    rw[grS_set,set_comm hb12,hBs] at h1
    refine St.le.trans ?_ h1
    cases o3 with
    |none=>exact absurd rfl hn3
    |some c=>exact le_setBuf (le_add h15)
   cases hh:hasB r a with
   |true=>
    rw[hh,if_pos rfl] at hfe
    have hat1:atE (entsD r b.length) a=(⟨(a:Int),false,frA r a⟩,true):=by unfold atE; rw[hfe]
    have hent:(⟨(a:Int),false,frA r a⟩:Ey)=entA r a:=by unfold entA; rw[if_pos hh]
    refine⟨⟨by omega,by omega⟩,za3 (at131 0 _ (a:Int) (by omega)) ?_⟩
    rw[hat1,hent]
    simp -implicitDefEqProofs only[go_sem,hT,Nat.mul_one,Nat.add_zero,Nat.zero_add,bYhpI0]
    intro b15 hb15
    have hb12:¬b12=b15:=fun he=>hb15 (by rw[←he,grS_has]; exact .inr (.inl (by rw[hB12]; simp)))
    simp -implicitDefEqProofs only[go_sem,hT,gdD,Nat.mul_one,Nat.add_zero,Nat.zero_add,eCz_len,zf9,eCz_0,eCz_1,za2,ey_0,zb4,za8,hb12,Ne.symm hb12,hB12,frz,eEy_frz,grS_set,d28,anD]
    refine fin b15 _ _ rfl _ _ _ hb15 fun o3 σ' hbox hle hg hn3=> ?_
    have k12:σ'.box b12=some [.int .i64 loc,grD 28 o2 (rws eEy C)]:=by rw[hbox,St.set_box,if_neg hb12,hB12]
    simp -implicitDefEqProofs only[go_sem,hT,Nat.mul_one,Nat.add_zero,Nat.zero_add,k12,w3,bYhpI0]
    exact⟨(a+1,o3),⟨by simp only; omega,fun h=>absurd h hn3,by simp only[hcs]; exact fun c hc hh=>hg c hc ((hBh _ _ _ _ _).1 hh)⟩,by simp only; omega,rfl,by simp only[hcs]; exact last b15 _ o3 σ' hb15 hn3 hle⟩
   |false=>
    rw[hh,if_neg (by simp)] at hfe
    have hat1:atE (entsD r b.length) a=(ey0,false):=by unfold atE; rw[hfe]
    have hent:(⟨(a:Int),true,fr0 0⟩:Ey)=entA r a:=by unfold entA; rw[if_neg (by rw[hh]; simp)]
    refine⟨⟨by omega,by omega⟩,za3 (at131 0 _ (a:Int) (by omega)) ?_⟩
    rw[hat1]
    simp -implicitDefEqProofs only[go_sem,hT,gdD,Nat.mul_one,Nat.add_zero,Nat.zero_add,eCz_len,zf9,eCz_0,eCz_1,za2,ey_0,zb4,za8,ey_dead,hent]
    intro b15 hb15
    have hb12:¬b12=b15:=fun he=>hb15 (by rw[←he,grS_has]; exact .inr (.inl (by rw[hB12]; simp)))
    simp -implicitDefEqProofs only[go_sem,hT,gdD,Nat.mul_one,Nat.add_zero,Nat.zero_add,eCz_len,zf9,eCz_0,eCz_1,za2,ey_0,zb4,za8,hb12,Ne.symm hb12,hB12,frz,eEy_frz,grS_set,d28,anD]
    refine fin b15 _ _ rfl _ _ _ hb15 fun o3 σ' hbox hle hg hn3=> ?_
    have k12:σ'.box b12=some [.int .i64 loc,grD 28 o2 (rws eEy C)]:=by rw[hbox,St.set_box,if_neg hb12,hB12]
    simp -implicitDefEqProofs only[go_sem,hT,Nat.mul_one,Nat.add_zero,Nat.zero_add,k12,w3,bYhpI0]
    exact⟨(a+1,o3),⟨by simp only; omega,fun h=>absurd h hn3,by simp only[hcs]; exact fun c hc hh=>hg c hc ((hBh _ _ _ _ _).1 hh)⟩,by simp only; omega,rfl,by simp only[hcs]; exact last b15 _ o3 σ' hb15 hn3 hle⟩
 have g6:((a:Int)<b.length)=False:=eq_false (by omega)
 obtain rfl:a=b.length:=by omega
 simp -implicitDefEqProofs only[go_sem,hT,gdD,Nat.mul_one,Nat.add_zero,Nat.zero_add,eCz_len,zf9,eCz_0,eCz_1,za2,ey_0,zb4,za8,g6,grS_boxa,hB12,hB6,grS_set]
 exact DLe.agg (.cons (DLe.refl _) (.cons grD_le .nil))
open Go.Proofs
def bYhpJ0:=aI @zb3 (aI @za7 @gdD)
theorem refEmit44 (e:En) (loc:Int) (b:List Ty) (o:Own) (hw:WideE e) (hb:b.length≤140737488355328):
  PCall Tryz.prog 44 [.agg (eEn e),.int .i64 loc,.slice o (rws eT b)] (.tup [.slice .no (rws eT (emitD e loc b).1),.int .i64 (emitD e loc b).2.1,.int .i64 (emitD e loc b).2.2]):=by
 refine F44.pcallM rfl fun T hT=> ?_
 simp -implicitDefEqProofs only[go_sem,c44,hT,Nat.mul_one,Nat.add_zero,Nat.zero_add,bYhpJ0]
 refine fun b3=>za3 (infer26 e loc b o hw hb) ?_
 by_cases h0:(inferD e loc b).2.2=0
 case neg=>
  have g0:(((inferD e loc b).2.2:Int)=0)=False:=eq_false (by omega)
  rw[show emitD e loc b=([],(inferD e loc b).2.1,(inferD e loc b).2.2) by unfold emitD; rw[if_pos h0]]
  simp -implicitDefEqProofs only[go_sem,hT,Nat.mul_one,Nat.add_zero,Nat.zero_add,g0,bYhpJ0]
  exact DLe.tup (.cons (DLe.slice _ _) (.cons (DLe.refl _) (.cons (DLe.refl _) .nil)))
 have g0:(((inferD e loc b).2.2:Int)=0)=True:=eq_true (by omega)
 obtain⟨hm,hb4,r,hr,hlast,hinf⟩:=infer_last hw h0
 rw[show emitD e loc b=((encC loc (certE b r)).1,0,(encC loc (certE b r)).2) by unfold emitD; rw[if_neg (by omega),hr]]
 rw[hinf]
 simp -implicitDefEqProofs only[go_sem,hT,Nat.mul_one,Nat.add_zero,Nat.zero_add,bYhpJ0]
 refine za3 (refCert88 hlast loc o hb4) ?_
 simp -implicitDefEqProofs only[go_sem,hT,Nat.mul_one,Nat.add_zero,Nat.zero_add,bYhpJ0]
 refine za3 (refEncode25 loc (certE b r) (by have:=cert_len b r; omega)) ?_
 simp -implicitDefEqProofs only[go_sem,hT,Nat.mul_one,Nat.add_zero,Nat.zero_add,bYhpJ0]
open Go.Proofs
theorem enc_len (loc:Int) (es:List Ey) (h:es.length≤4096):(encC loc es).1.length≤200000:=by
 unfold encC
 split
 ·simp
 ·have:=flat_len loc.toNat es
  simp only[encB,headB,List.length_append,List.length_cons,List.length_nil]; omega
theorem emit_len (e:En) (loc:Int) (b:List Ty) (hw:WideE e):(emitD e loc b).1.length≤200000:=by
 unfold emitD
 split
 ·simp
 ·rename_i h
  obtain⟨_,hb,_⟩:=infer_last hw (Classical.not_not.1 h)
  exact enc_len _ _ (by have:=cert_len b (goneD e loc b).1; omega)
open Go.Proofs
def bYhrC0:=aI @zb3 (aI @za7 @anD)
theorem law14 (e:En) (loc:Int) (b:List Ty) (hw:WideE e) (hb:b.length≤140737488351232):PCall Tryz.prog 14 [.agg (eEn e),.int .i64 loc,.slice .no (rws eT b)] (.bool true):=by
 have hlen:=emit_len e loc b hw
 have hemit:=emit43 e loc b hw (by omega)
 have href:=refEmit44 e loc b .no hw (by omega)
 have htk:=@emit_taken e loc b hw
 have hcheck:=check15 e loc b (emitD e loc b).1 .no .no hw (by omega) (by omega)
 generalize emitD e loc b=r at *
 obtain⟨ct,a,w⟩:=r
 simp only at hlen hemit href htk hcheck
 generalize checkD e loc b ct=g at *
 obtain⟨gh,a2,w2⟩:=g
 simp only at htk hcheck
 refine F14.pcallM rfl fun T hT=> ?_
 simp -implicitDefEqProofs only[go_sem,c14,hT,bYhrC0]
 intro b3
 refine za3 (env30 e hw) ?_
 simp -implicitDefEqProofs only[go_sem,hT,bYhrC0]
 refine za3 (clone17p b .no (by simp[nilOk]) (by omega)) ?_
 simp -implicitDefEqProofs only[go_sem,hT,bYhrC0]
 refine za3 hemit ?_
 simp -implicitDefEqProofs only[go_sem,hT,bYhrC0]
 refine za3 href ?_
 have e0:((w:Int)=w)=True:=eq_true rfl
 have e1:((a:Int)=a)=True:=eq_true rfl
 by_cases hz:w=0
 rotate_left
 ·have z1:((w:Int)=0)=False:=eq_false (by omega)
  simp -implicitDefEqProofs only[go_sem,hT,z1,e0,e1,bYhrC0]
  done
 obtain⟨k1,k2⟩:=Prod.mk.inj (htk hz)
 subst hz
 subst k1
 subst k2
 simp -implicitDefEqProofs only[go_sem,hT,zb3,za7,anD,e0,e1,Int.ofNat_zero]
 refine za3 (env30 e hw) ?_
 simp -implicitDefEqProofs only[go_sem,hT,bYhrC0]
 refine za3 (clone17p b .no (by simp[nilOk]) (by omega)) ?_
 simp -implicitDefEqProofs only[go_sem,hT,bYhrC0]
 refine za3 hcheck ?_
 simp -implicitDefEqProofs only[go_sem,hT,zb3,za7,anD,Int.ofNat_zero]
end Go.AL
