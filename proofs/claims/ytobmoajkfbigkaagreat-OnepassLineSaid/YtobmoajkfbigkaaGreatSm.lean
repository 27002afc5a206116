import Derived.Test.YtobmoajkfbigkaaGreatSl
set_option linter.unusedSimpArgs false
set_option linter.unusedVariables false
set_option maxRecDepth 100000
set_option maxHeartbeats 4000000
set_option linter.defProp false
namespace Go.AL
open Go.Proofs
def Mt (w:Wn) (t:Ty):Prop:=(w.kind=0∧t.val=255)∨(w.kind=1∧t.val=254)∨(w.kind=2∧t.val=253)∨(w.kind=4∧w.t=t∧t.val<253)
theorem fits_wanted {l:List Cl} {w:Wn} {t:Ty} (h:Mt w t) (x first:Ty):fitsB l w x first=wantedB l x t:=by
 rcases h with⟨h1,h2⟩|⟨h1,h2⟩|⟨h1,h2⟩|⟨h1,h2,h3⟩
 ·simp[fitsB,wantedB,h1,h2]
 ·simp[fitsB,wantedB,h1,h2]
 ·simp[fitsB,wantedB,h1,h2]
 ·subst h2
  rw[fitsB,if_neg (by omega),if_neg (by omega),if_neg (by omega),if_pos h1,wantedB,if_neg (by omega),if_neg (by omega),if_neg (by omega)]
theorem mt_all {l:List Cl} {ws:List Wn} {ts:List Ty} (h:All2 Mt ws ts) (first:Ty):∀had:List Ty,((ws.zip had).all fun p=>fitsB l p.1 p.2 first)=((ts.zip had).all fun p=>wantedB l p.2 p.1):=by
 induction h with
 |nil=>intro had; simp
 |cons h1 _ ih=>
  intro had
  cases had with
  |nil=>simp
  |cons x had=>simp only[List.zip_cons_cons,List.all_cons,fits_wanted h1,ih]
theorem fitsAll_wanted {l:List Cl} {ws:List Wn} {ts:List Ty} (h:All2 Mt ws ts) (had:List Ty):fitsAll l ws had=wantedAll l ts had:=mt_all h _ had
theorem fitsAll_same {l:List Cl} (a b:Ty):fitsAll l [⟨3,0⟩,⟨3,0⟩] [a,b]=sameB [a,b]:=by
 simp only[fitsAll,sameB,List.zip_cons_cons,List.zip_nil_left,List.all_cons,List.all_nil,List.headD_cons,Bool.and_true,fitsB]
 rw[Bool.eq_iff_iff]
 simp only[Fin.ext_iff]
 simp
 omega
theorem wantedAll_any {l:List Cl} (a b:Ty):wantedAll l [255,255] [a,b]=true:=by
 have h:(255:Ty).val=255:=rfl
 simp[wantedAll,wantedB,h]
theorem stored_lt {n:Nat} {t:Ty} (hn:n≤32) (h:storedN n t=true):t.val<253:=by
 simp only[storedN,validN,Bool.and_eq_true,decide_eq_true_eq] at h; omega
theorem canB_sig {e:En} (h:canB e=true) {s:Sg} (hs:s∈e.sgs):(∀t∈s.ps,storedN e.cs.length t=true)∧(s.r.val=0∨storedN e.cs.length s.r=true):=by
 simp only[canB,Bool.and_eq_true] at h
 have:=List.all_eq_true.1 h.2 s hs
 simp only[sigMayB,Bool.and_eq_true,decide_eq_true_eq,Bool.or_eq_true,Bool.not_eq_true',List.any_eq_false] at this
 exact⟨fun t ht=>by simpa using this.1.2 t ht,this.2⟩
theorem ofClass_lt {e:En} (hc:Can e) {a:Int} (h1:a<e.cs.length):(ofClass a).val<253:=by
 have h32:=hc.cls
 simp only[ofClass,Fin.ofNat]; omega
theorem flds_lt {e:En} {i:Ins} (hc:Can e) {f:Fd} (hf:f∈flds e i):f.ty.val<253:=by
 have h32:=hc.cls
 simp only[flds,fieldsOn,List.mem_flatMap,List.mem_reverse] at hf
 obtain⟨k,hk,hf⟩:=hf
 have hlt:=upI_lt hk
 simp only[fieldsAt,List.getElem?_eq_getElem hlt,Option.map_some,Option.getD_some] at hf
 exact stored_lt h32 (right_stored hc.right hlt hf)
theorem mt4 {t:Ty} (h:t.val<253):Mt ⟨4,t⟩ t:= .inr (.inr (.inr ⟨rfl,rfl,h⟩))
theorem mt_map {ts:List Ty} (h:∀t∈ts,t.val<253):All2 Mt (ts.map fun t=>(⟨4,t⟩:Wn)) ts:=by
 induction ts with
 |nil=>exact .nil
 |cons t ts ih=>exact .cons (mt4 (h t (by simp))) (ih fun x hx=>h x (by simp[hx]))
theorem mt0:Mt ⟨0,0⟩ 255:= .inl ⟨rfl,rfl⟩
theorem mt1:Mt ⟨1,0⟩ 254:= .inr (.inl ⟨rfl,rfl⟩)
theorem mt2:Mt ⟨2,0⟩ 253:= .inr (.inr (.inl ⟨rfl,rfl⟩))
structure Agree (e:En) (i:Ins) (F:Ef):Prop where
 takes:i.op.val≠16→All2 Mt F.takes (takesO e i i.op.val)
 same:i.op.val=16→F.takes=[⟨3,0⟩,⟨3,0⟩]
 gives:∀had,i.op.val≠4→givesV F.gives had=(if i.op.val=7 then [had.headD 0,had.headD 0] else if i.op.val=8 then [(had[1]?).getD 0,had.headD 0] else givesO e i i.op.val)
theorem opnd_eq_call {e:En} {i:Ins} (h:i.op.val=21):opndF e i=if 0≤i.a∧i.a.toNat<e.sgs.length then 0 else 71:=by rw[opndF,if_pos h]
theorem opnd_eq_cls {e:En} {i:Ins} (h:i.op.val=23∨i.op.val=30∨i.op.val=31):opndF e i=if 0≤i.a∧i.a<e.cs.length then 0 else 72:=by
 have h1:¬i.op.val=21:=by omega
 rw[opndF,if_neg h1,if_pos h]
theorem opnd_eq_fld {e:En} {i:Ins} (h:i.op.val=24∨i.op.val=25):opndF e i=if(0≤i.a∧i.a<e.cs.length)∧0≤i.b∧i.b.toNat<(fieldsOn e.cs (upI e.cs i.a).reverse).length then 0 else 72:=by
 have h1:¬i.op.val=21:=by omega
 have h2:¬(i.op.val=23∨i.op.val=30∨i.op.val=31):=by omega
 rw[opndF,if_neg h1,if_neg h2,if_pos h]
theorem told_agree (e:En) (i:Ins) (hw:WideE e) (hcan:canB e=true) (h34:i.op.val<34):(toldF e i).2=opndF e i∧(opndF e i=0→Agree e i (toldF e i).1):=by
 have hc:=canB_can hw hcan
 have h32:=hc.cls
 rw[toldF,if_neg (by omega)]
 have hk34:i.op.val=0∨i.op.val=1∨i.op.val=2∨i.op.val=3∨i.op.val=4∨i.op.val=5∨i.op.val=6∨i.op.val=7∨i.op.val=8∨i.op.val=9∨i.op.val=10∨i.op.val=11∨i.op.val=12∨i.op.val=13∨i.op.val=14∨i.op.val=15∨i.op.val=16∨i.op.val=17∨i.op.val=18∨i.op.val=19∨i.op.val=20∨i.op.val=21∨i.op.val=22∨i.op.val=23∨i.op.val=24∨i.op.val=25∨i.op.val=26∨i.op.val=27∨i.op.val=28∨i.op.val=29∨i.op.val=30∨i.op.val=31∨i.op.val=32∨i.op.val=33:=by omega
 have op0:(¬i.op.val=21∧¬(i.op.val=23∨i.op.val=30∨i.op.val=31)∧¬(i.op.val=24∨i.op.val=25))→opndF e i=0:=fun⟨h1,h2,h3⟩=>by rw[opndF,if_neg h1,if_neg h2,if_neg h3]
 have fx:∀ws g ts gs,tlOf i.op.val= .fixed ws g→(¬i.op.val=21∧¬(i.op.val=23∨i.op.val=30∨i.op.val=31)∧¬(i.op.val=24∨i.op.val=25))→i.op.val≠16→takesO e i i.op.val=ts→givesO e i i.op.val=gs→
   All2 Mt ws ts→(i.op.val≠4→∀had,givesV g had=(if i.op.val=7 then [had.headD 0,had.headD 0] else if i.op.val=8 then [(had[1]?).getD 0,had.headD 0] else gs))→
   (tellF e i (tlOf i.op.val)).2=opndF e i∧(opndF e i=0→Agree e i (tellF e i (tlOf i.op.val)).1):=fun ws g ts gs h1 h2 h3 h4 h5 h6 h7=>by
  rw[h1,op0 h2]
  exact⟨rfl,fun _=>⟨fun _=>by rw[h4]; exact h6,fun h=>absurd h h3,fun had hn=>by rw[h5]; exact h7 hn had⟩⟩
 have g1:Mt wi 1:=mt4 (by decide)
 have g2:Mt wb 2:=mt4 (by decide)
 have g4:Mt wr 4:=mt4 (by decide)
 rcases hk34 with h|h|h|h|h|h|h|h|h|h|h|h|h|h|h|h|h|h|h|h|h|h|h|h|h|h|h|h|h|h|h|h|h|h
 ·exact fx _ _ _ _ (by rw[h]; rfl) (by omega) (by omega) (by rw[h]) (by rw[h]) (by first|exact .nil|exact .cons g1 .nil|exact .cons g2 .nil|exact .cons g4 .nil|exact .cons g1 (.cons g1 .nil)|exact .cons mt0 .nil|exact .cons mt1 .nil|exact .cons mt0 (.cons mt0 .nil)|exact .cons mt2 (.cons mt2 .nil)|exact .cons g4 (.cons g1 .nil)|exact .cons g4 (.cons g1 (.cons g1 .nil))) (fun hn had=>by first|exact absurd h hn|(rw[h]; rfl))
 ·exact fx _ _ _ _ (by rw[h]; rfl) (by omega) (by omega) (by rw[h]) (by rw[h]) (by first|exact .nil|exact .cons g1 .nil|exact .cons g2 .nil|exact .cons g4 .nil|exact .cons g1 (.cons g1 .nil)|exact .cons mt0 .nil|exact .cons mt1 .nil|exact .cons mt0 (.cons mt0 .nil)|exact .cons mt2 (.cons mt2 .nil)|exact .cons g4 (.cons g1 .nil)|exact .cons g4 (.cons g1 (.cons g1 .nil))) (fun hn had=>by first|exact absurd h hn|(rw[h]; rfl))
 ·exact fx _ _ _ _ (by rw[h]; rfl) (by omega) (by omega) (by rw[h]) (by rw[h]) (by first|exact .nil|exact .cons g1 .nil|exact .cons g2 .nil|exact .cons g4 .nil|exact .cons g1 (.cons g1 .nil)|exact .cons mt0 .nil|exact .cons mt1 .nil|exact .cons mt0 (.cons mt0 .nil)|exact .cons mt2 (.cons mt2 .nil)|exact .cons g4 (.cons g1 .nil)|exact .cons g4 (.cons g1 (.cons g1 .nil))) (fun hn had=>by first|exact absurd h hn|(rw[h]; rfl))
 ·exact fx _ _ _ _ (by rw[h]; rfl) (by omega) (by omega) (by rw[h]) (by rw[h]) (by first|exact .nil|exact .cons g1 .nil|exact .cons g2 .nil|exact .cons g4 .nil|exact .cons g1 (.cons g1 .nil)|exact .cons mt0 .nil|exact .cons mt1 .nil|exact .cons mt0 (.cons mt0 .nil)|exact .cons mt2 (.cons mt2 .nil)|exact .cons g4 (.cons g1 .nil)|exact .cons g4 (.cons g1 (.cons g1 .nil))) (fun hn had=>by first|exact absurd h hn|(rw[h]; rfl))
 ·exact fx _ _ _ _ (by rw[h]; rfl) (by omega) (by omega) (by rw[h]) (by rw[h]) (by first|exact .nil|exact .cons g1 .nil|exact .cons g2 .nil|exact .cons g4 .nil|exact .cons g1 (.cons g1 .nil)|exact .cons mt0 .nil|exact .cons mt1 .nil|exact .cons mt0 (.cons mt0 .nil)|exact .cons mt2 (.cons mt2 .nil)|exact .cons g4 (.cons g1 .nil)|exact .cons g4 (.cons g1 (.cons g1 .nil))) (fun hn had=>by first|exact absurd h hn|(rw[h]; rfl))
 ·exact fx _ _ _ _ (by rw[h]; rfl) (by omega) (by omega) (by rw[h]) (by rw[h]) (by first|exact .nil|exact .cons g1 .nil|exact .cons g2 .nil|exact .cons g4 .nil|exact .cons g1 (.cons g1 .nil)|exact .cons mt0 .nil|exact .cons mt1 .nil|exact .cons mt0 (.cons mt0 .nil)|exact .cons mt2 (.cons mt2 .nil)|exact .cons g4 (.cons g1 .nil)|exact .cons g4 (.cons g1 (.cons g1 .nil))) (fun hn had=>by first|exact absurd h hn|(rw[h]; rfl))
 ·exact fx _ _ _ _ (by rw[h]; rfl) (by omega) (by omega) (by rw[h]) (by rw[h]) (by first|exact .nil|exact .cons g1 .nil|exact .cons g2 .nil|exact .cons g4 .nil|exact .cons g1 (.cons g1 .nil)|exact .cons mt0 .nil|exact .cons mt1 .nil|exact .cons mt0 (.cons mt0 .nil)|exact .cons mt2 (.cons mt2 .nil)|exact .cons g4 (.cons g1 .nil)|exact .cons g4 (.cons g1 (.cons g1 .nil))) (fun hn had=>by first|exact absurd h hn|(rw[h]; rfl))
 ·exact fx _ _ _ _ (by rw[h]; rfl) (by omega) (by omega) (by rw[h]) (by rw[h]) (by first|exact .nil|exact .cons g1 .nil|exact .cons g2 .nil|exact .cons g4 .nil|exact .cons g1 (.cons g1 .nil)|exact .cons mt0 .nil|exact .cons mt1 .nil|exact .cons mt0 (.cons mt0 .nil)|exact .cons mt2 (.cons mt2 .nil)|exact .cons g4 (.cons g1 .nil)|exact .cons g4 (.cons g1 (.cons g1 .nil))) (fun hn had=>by first|exact absurd h hn|(rw[h]; rfl))
 ·exact fx _ _ _ _ (by rw[h]; rfl) (by omega) (by omega) (by rw[h]) (by rw[h]) (by first|exact .nil|exact .cons g1 .nil|exact .cons g2 .nil|exact .cons g4 .nil|exact .cons g1 (.cons g1 .nil)|exact .cons mt0 .nil|exact .cons mt1 .nil|exact .cons mt0 (.cons mt0 .nil)|exact .cons mt2 (.cons mt2 .nil)|exact .cons g4 (.cons g1 .nil)|exact .cons g4 (.cons g1 (.cons g1 .nil))) (fun hn had=>by first|exact absurd h hn|(rw[h]; rfl))
 ·exact fx _ _ _ _ (by rw[h]; rfl) (by omega) (by omega) (by rw[h]) (by rw[h]) (by first|exact .nil|exact .cons g1 .nil|exact .cons g2 .nil|exact .cons g4 .nil|exact .cons g1 (.cons g1 .nil)|exact .cons mt0 .nil|exact .cons mt1 .nil|exact .cons mt0 (.cons mt0 .nil)|exact .cons mt2 (.cons mt2 .nil)|exact .cons g4 (.cons g1 .nil)|exact .cons g4 (.cons g1 (.cons g1 .nil))) (fun hn had=>by first|exact absurd h hn|(rw[h]; rfl))
 ·exact fx _ _ _ _ (by rw[h]; rfl) (by omega) (by omega) (by rw[h]) (by rw[h]) (by first|exact .nil|exact .cons g1 .nil|exact .cons g2 .nil|exact .cons g4 .nil|exact .cons g1 (.cons g1 .nil)|exact .cons mt0 .nil|exact .cons mt1 .nil|exact .cons mt0 (.cons mt0 .nil)|exact .cons mt2 (.cons mt2 .nil)|exact .cons g4 (.cons g1 .nil)|exact .cons g4 (.cons g1 (.cons g1 .nil))) (fun hn had=>by first|exact absurd h hn|(rw[h]; rfl))
 ·exact fx _ _ _ _ (by rw[h]; rfl) (by omega) (by omega) (by rw[h]) (by rw[h]) (by first|exact .nil|exact .cons g1 .nil|exact .cons g2 .nil|exact .cons g4 .nil|exact .cons g1 (.cons g1 .nil)|exact .cons mt0 .nil|exact .cons mt1 .nil|exact .cons mt0 (.cons mt0 .nil)|exact .cons mt2 (.cons mt2 .nil)|exact .cons g4 (.cons g1 .nil)|exact .cons g4 (.cons g1 (.cons g1 .nil))) (fun hn had=>by first|exact absurd h hn|(rw[h]; rfl))
 ·exact fx _ _ _ _ (by rw[h]; rfl) (by omega) (by omega) (by rw[h]) (by rw[h]) (by first|exact .nil|exact .cons g1 .nil|exact .cons g2 .nil|exact .cons g4 .nil|exact .cons g1 (.cons g1 .nil)|exact .cons mt0 .nil|exact .cons mt1 .nil|exact .cons mt0 (.cons mt0 .nil)|exact .cons mt2 (.cons mt2 .nil)|exact .cons g4 (.cons g1 .nil)|exact .cons g4 (.cons g1 (.cons g1 .nil))) (fun hn had=>by first|exact absurd h hn|(rw[h]; rfl))
 ·exact fx _ _ _ _ (by rw[h]; rfl) (by omega) (by omega) (by rw[h]) (by rw[h]) (by first|exact .nil|exact .cons g1 .nil|exact .cons g2 .nil|exact .cons g4 .nil|exact .cons g1 (.cons g1 .nil)|exact .cons mt0 .nil|exact .cons mt1 .nil|exact .cons mt0 (.cons mt0 .nil)|exact .cons mt2 (.cons mt2 .nil)|exact .cons g4 (.cons g1 .nil)|exact .cons g4 (.cons g1 (.cons g1 .nil))) (fun hn had=>by first|exact absurd h hn|(rw[h]; rfl))
 ·exact fx _ _ _ _ (by rw[h]; rfl) (by omega) (by omega) (by rw[h]) (by rw[h]) (by first|exact .nil|exact .cons g1 .nil|exact .cons g2 .nil|exact .cons g4 .nil|exact .cons g1 (.cons g1 .nil)|exact .cons mt0 .nil|exact .cons mt1 .nil|exact .cons mt0 (.cons mt0 .nil)|exact .cons mt2 (.cons mt2 .nil)|exact .cons g4 (.cons g1 .nil)|exact .cons g4 (.cons g1 (.cons g1 .nil))) (fun hn had=>by first|exact absurd h hn|(rw[h]; rfl))
 ·exact fx _ _ _ _ (by rw[h]; rfl) (by omega) (by omega) (by rw[h]) (by rw[h]) (by first|exact .nil|exact .cons g1 .nil|exact .cons g2 .nil|exact .cons g4 .nil|exact .cons g1 (.cons g1 .nil)|exact .cons mt0 .nil|exact .cons mt1 .nil|exact .cons mt0 (.cons mt0 .nil)|exact .cons mt2 (.cons mt2 .nil)|exact .cons g4 (.cons g1 .nil)|exact .cons g4 (.cons g1 (.cons g1 .nil))) (fun hn had=>by first|exact absurd h hn|(rw[h]; rfl))
 ·have ht:tlOf i.op.val= .fixed [⟨3,0⟩,⟨3,0⟩] (.const [2]):=by rw[h]; rfl
  rw[ht,op0 (by omega)]
  exact⟨rfl,fun _=>⟨fun h'=>absurd h h',fun _=>rfl,fun had _=>by rw[h]; rfl⟩⟩
 ·exact fx _ _ _ _ (by rw[h]; rfl) (by omega) (by omega) (by rw[h]) (by rw[h]) (by first|exact .nil|exact .cons g1 .nil|exact .cons g2 .nil|exact .cons g4 .nil|exact .cons g1 (.cons g1 .nil)|exact .cons mt0 .nil|exact .cons mt1 .nil|exact .cons mt0 (.cons mt0 .nil)|exact .cons mt2 (.cons mt2 .nil)|exact .cons g4 (.cons g1 .nil)|exact .cons g4 (.cons g1 (.cons g1 .nil))) (fun hn had=>by first|exact absurd h hn|(rw[h]; rfl))
 ·exact fx _ _ _ _ (by rw[h]; rfl) (by omega) (by omega) (by rw[h]) (by rw[h]) (by first|exact .nil|exact .cons g1 .nil|exact .cons g2 .nil|exact .cons g4 .nil|exact .cons g1 (.cons g1 .nil)|exact .cons mt0 .nil|exact .cons mt1 .nil|exact .cons mt0 (.cons mt0 .nil)|exact .cons mt2 (.cons mt2 .nil)|exact .cons g4 (.cons g1 .nil)|exact .cons g4 (.cons g1 (.cons g1 .nil))) (fun hn had=>by first|exact absurd h hn|(rw[h]; rfl))
 ·exact fx _ _ _ _ (by rw[h]; rfl) (by omega) (by omega) (by rw[h]) (by rw[h]) (by first|exact .nil|exact .cons g1 .nil|exact .cons g2 .nil|exact .cons g4 .nil|exact .cons g1 (.cons g1 .nil)|exact .cons mt0 .nil|exact .cons mt1 .nil|exact .cons mt0 (.cons mt0 .nil)|exact .cons mt2 (.cons mt2 .nil)|exact .cons g4 (.cons g1 .nil)|exact .cons g4 (.cons g1 (.cons g1 .nil))) (fun hn had=>by first|exact absurd h hn|(rw[h]; rfl))
 ·exact fx _ _ _ _ (by rw[h]; rfl) (by omega) (by omega) (by rw[h]) (by rw[h]) (by first|exact .nil|exact .cons g1 .nil|exact .cons g2 .nil|exact .cons g4 .nil|exact .cons g1 (.cons g1 .nil)|exact .cons mt0 .nil|exact .cons mt1 .nil|exact .cons mt0 (.cons mt0 .nil)|exact .cons mt2 (.cons mt2 .nil)|exact .cons g4 (.cons g1 .nil)|exact .cons g4 (.cons g1 (.cons g1 .nil))) (fun hn had=>by first|exact absurd h hn|(rw[h]; rfl))
 ·have ht:tlOf i.op.val= .call:=by rw[h]; rfl
  rw[ht]
  simp only[tellF]
  by_cases hq:0≤i.a∧i.a.toNat<e.sgs.length
  ·rw[dif_pos hq,opnd_eq_call h,if_pos hq]
   have hget:e.sgs[i.a.toNat]? =some e.sgs[i.a.toNat]:=List.getElem?_eq_getElem hq.2
   have hsg:=canB_sig hcan (List.getElem_mem hq.2)
   generalize e.sgs[i.a.toNat]=s at *
   refine⟨rfl,fun _=>⟨fun _=> ?_,fun h'=>by omega,fun had _=> ?_⟩⟩
   ·rw[h,show takesO e i 21=((e.sgs[i.a.toNat]?).map Sg.ps).getD [] from rfl,hget]
    exact mt_map fun t ht=>stored_lt h32 (hsg.1 t ht)
   ·rw[h,if_neg (show ¬(21:Nat)=7 by omega),if_neg (show ¬(21:Nat)=8 by omega),show givesO e i 21=((e.sgs[i.a.toNat]?).map fun s=>someR s.r).getD [] from rfl,hget]
    simp only[givesV,Option.map_some,Option.getD_some,someR]
  ·rw[dif_neg hq,opnd_eq_call h,if_neg hq]
   exact⟨rfl,fun h'=>by cases h'⟩
 ·have ht:tlOf i.op.val= .ret:=by rw[h]; rfl
  rw[ht,op0 (by omega)]
  simp only[tellF,dif_pos hc.fn1]
  have hget:e.sgs[e.fn.toNat]? =some (e.sgs[e.fn.toNat]'hc.fn1):=List.getElem?_eq_getElem hc.fn1
  have hsg:=canB_sig hcan (List.getElem_mem hc.fn1)
  generalize e.sgs[e.fn.toNat]'hc.fn1=s at *
  refine⟨trivial,fun _=>⟨fun _=> ?_,fun h'=>by omega,fun had _=>by rw[h]; rfl⟩⟩
  rw[h,show takesO e i 22=((e.sgs[e.fn.toNat]?).map fun s=>someR s.r).getD [] from rfl,hget]
  simp only[Option.map_some,Option.getD_some,someR]
  split
  ·exact .nil
  ·rename_i h0
   exact .cons (mt4 (stored_lt h32 (hsg.2.resolve_left h0))) .nil
 ·have ht:tlOf i.op.val= .classed [] true:=by rw[h]; rfl
  rw[ht]
  simp only[tellF]
  by_cases hq:0≤i.a∧i.a<e.cs.length
  ·rw[if_neg (show ¬(i.a<0∨(e.cs.length:Int)≤i.a) by omega),opnd_eq_cls (by omega),if_pos hq]
   exact⟨rfl,fun _=>⟨fun _=>by rw[h]; exact .nil,fun h'=>by omega,fun had _=>by rw[h]; rfl⟩⟩
  ·rw[if_pos (show i.a<0∨(e.cs.length:Int)≤i.a by omega),opnd_eq_cls (by omega),if_neg hq]
   exact⟨rfl,fun h'=>by cases h'⟩
 ·have ht:tlOf i.op.val= .field false:=by rw[h]; rfl
  rw[ht]
  simp only[tellF]
  by_cases hq:(0≤i.a∧i.a<e.cs.length)∧0≤i.b∧i.b.toNat<(fieldsOn e.cs (upI e.cs i.a).reverse).length
  ·rw[dif_pos hq,opnd_eq_fld (by omega),if_pos hq]
   have hmem:(fieldsOn e.cs (upI e.cs i.a).reverse)[i.b.toNat]'hq.2.2∈flds e i:=List.getElem_mem _
   have hget:(flds e i)[i.b.toNat]? =some ((fieldsOn e.cs (upI e.cs i.a).reverse)[i.b.toNat]'hq.2.2):=List.getElem?_eq_getElem hq.2.2
   have hlt:=flds_lt hc hmem
   have hne:=flds_stored hc hmem
   generalize (fieldsOn e.cs (upI e.cs i.a).reverse)[i.b.toNat]'hq.2.2=fd at *
   refine⟨rfl,fun _=>⟨fun _=> ?_,fun h'=>by omega,fun had _=> ?_⟩⟩
   ·rw[h]; exact .cons (mt4 (ofClass_lt hc hq.1.2)) .nil
   ·rw[h]; rw[show givesO e i 24=(((flds e i)[i.b.toNat]?).map fun f=>someR f.ty).getD [] from rfl,hget]
    simp only[Bool.false_eq_true,if_false,givesV,Option.map_some,Option.getD_some,someR]
    rw[if_neg hne]; rfl
  ·rw[dif_neg hq,opnd_eq_fld (by omega),if_neg hq]
   exact⟨rfl,fun h'=>by cases h'⟩
 ·have ht:tlOf i.op.val= .field true:=by rw[h]; rfl
  rw[ht]
  simp only[tellF]
  by_cases hq:(0≤i.a∧i.a<e.cs.length)∧0≤i.b∧i.b.toNat<(fieldsOn e.cs (upI e.cs i.a).reverse).length
  ·rw[dif_pos hq,opnd_eq_fld (by omega),if_pos hq]
   have hmem:(fieldsOn e.cs (upI e.cs i.a).reverse)[i.b.toNat]'hq.2.2∈flds e i:=List.getElem_mem _
   have hget:(flds e i)[i.b.toNat]? =some ((fieldsOn e.cs (upI e.cs i.a).reverse)[i.b.toNat]'hq.2.2):=List.getElem?_eq_getElem hq.2.2
   have hlt:=flds_lt hc hmem
   have hne:=flds_stored hc hmem
   generalize (fieldsOn e.cs (upI e.cs i.a).reverse)[i.b.toNat]'hq.2.2=fd at *
   refine⟨rfl,fun _=>⟨fun _=> ?_,fun h'=>by omega,fun had _=> ?_⟩⟩
   ·rw[h]; rw[show takesO e i 25=[ofClass i.a,(((flds e i)[i.b.toNat]?).map Fd.ty).getD 0] from rfl,hget]
    exact .cons (mt4 (ofClass_lt hc hq.1.2)) (.cons (mt4 hlt) .nil)
   ·rw[h]; rfl
  ·rw[dif_neg hq,opnd_eq_fld (by omega),if_neg hq]
   exact⟨rfl,fun h'=>by cases h'⟩
 ·exact fx _ _ _ _ (by rw[h]; rfl) (by omega) (by omega) (by rw[h]) (by rw[h]) (by first|exact .nil|exact .cons g1 .nil|exact .cons g2 .nil|exact .cons g4 .nil|exact .cons g1 (.cons g1 .nil)|exact .cons mt0 .nil|exact .cons mt1 .nil|exact .cons mt0 (.cons mt0 .nil)|exact .cons mt2 (.cons mt2 .nil)|exact .cons g4 (.cons g1 .nil)|exact .cons g4 (.cons g1 (.cons g1 .nil))) (fun hn had=>by first|exact absurd h hn|(rw[h]; rfl))
 ·exact fx _ _ _ _ (by rw[h]; rfl) (by omega) (by omega) (by rw[h]) (by rw[h]) (by first|exact .nil|exact .cons g1 .nil|exact .cons g2 .nil|exact .cons g4 .nil|exact .cons g1 (.cons g1 .nil)|exact .cons mt0 .nil|exact .cons mt1 .nil|exact .cons mt0 (.cons mt0 .nil)|exact .cons mt2 (.cons mt2 .nil)|exact .cons g4 (.cons g1 .nil)|exact .cons g4 (.cons g1 (.cons g1 .nil))) (fun hn had=>by first|exact absurd h hn|(rw[h]; rfl))
 ·exact fx _ _ _ _ (by rw[h]; rfl) (by omega) (by omega) (by rw[h]) (by rw[h]) (by first|exact .nil|exact .cons g1 .nil|exact .cons g2 .nil|exact .cons g4 .nil|exact .cons g1 (.cons g1 .nil)|exact .cons mt0 .nil|exact .cons mt1 .nil|exact .cons mt0 (.cons mt0 .nil)|exact .cons mt2 (.cons mt2 .nil)|exact .cons g4 (.cons g1 .nil)|exact .cons g4 (.cons g1 (.cons g1 .nil))) (fun hn had=>by first|exact absurd h hn|(rw[h]; rfl))
 ·exact fx _ _ _ _ (by rw[h]; rfl) (by omega) (by omega) (by rw[h]) (by rw[h]) (by first|exact .nil|exact .cons g1 .nil|exact .cons g2 .nil|exact .cons g4 .nil|exact .cons g1 (.cons g1 .nil)|exact .cons mt0 .nil|exact .cons mt1 .nil|exact .cons mt0 (.cons mt0 .nil)|exact .cons mt2 (.cons mt2 .nil)|exact .cons g4 (.cons g1 .nil)|exact .cons g4 (.cons g1 (.cons g1 .nil))) (fun hn had=>by first|exact absurd h hn|(rw[h]; rfl))
 ·have ht:tlOf i.op.val= .classed [⟨2,0⟩] true:=by rw[h]; rfl
  rw[ht]
  simp only[tellF]
  by_cases hq:0≤i.a∧i.a<e.cs.length
  ·rw[if_neg (show ¬(i.a<0∨(e.cs.length:Int)≤i.a) by omega),opnd_eq_cls (by omega),if_pos hq]
   exact⟨rfl,fun _=>⟨fun _=>by rw[h]; exact .cons mt2 .nil,fun h'=>by omega,fun had _=>by rw[h]; rfl⟩⟩
  ·rw[if_pos (show i.a<0∨(e.cs.length:Int)≤i.a by omega),opnd_eq_cls (by omega),if_neg hq]
   exact⟨rfl,fun h'=>by cases h'⟩
 ·have ht:tlOf i.op.val= .classed [⟨2,0⟩] false:=by rw[h]; rfl
  rw[ht]
  simp only[tellF]
  by_cases hq:0≤i.a∧i.a<e.cs.length
  ·rw[if_neg (show ¬(i.a<0∨(e.cs.length:Int)≤i.a) by omega),opnd_eq_cls (by omega),if_pos hq]
   exact⟨rfl,fun _=>⟨fun _=>by rw[h]; exact .cons mt2 .nil,fun h'=>by omega,fun had _=>by rw[h]; rfl⟩⟩
  ·rw[if_pos (show i.a<0∨(e.cs.length:Int)≤i.a by omega),opnd_eq_cls (by omega),if_neg hq]
   exact⟨rfl,fun h'=>by cases h'⟩
 ·exact fx _ _ _ _ (by rw[h]; rfl) (by omega) (by omega) (by rw[h]) (by rw[h]) (by first|exact .nil|exact .cons g1 .nil|exact .cons g2 .nil|exact .cons g4 .nil|exact .cons g1 (.cons g1 .nil)|exact .cons mt0 .nil|exact .cons mt1 .nil|exact .cons mt0 (.cons mt0 .nil)|exact .cons mt2 (.cons mt2 .nil)|exact .cons g4 (.cons g1 .nil)|exact .cons g4 (.cons g1 (.cons g1 .nil))) (fun hn had=>by first|exact absurd h hn|(rw[h]; rfl))
 ·exact fx _ _ _ _ (by rw[h]; rfl) (by omega) (by omega) (by rw[h]) (by rw[h]) (by first|exact .nil|exact .cons g1 .nil|exact .cons g2 .nil|exact .cons g4 .nil|exact .cons g1 (.cons g1 .nil)|exact .cons mt0 .nil|exact .cons mt1 .nil|exact .cons mt0 (.cons mt0 .nil)|exact .cons mt2 (.cons mt2 .nil)|exact .cons g4 (.cons g1 .nil)|exact .cons g4 (.cons g1 (.cons g1 .nil))) (fun hn had=>by first|exact absurd h hn|(rw[h]; rfl))
theorem apply_eq (e:En) (f:Fr) (i:Ins) (hw:WideE e):applyF e f i=applyR e f i:=by
 unfold applyF applyR
 cases hcan:canB e
 ·rfl
 simp only[Bool.true_eq_false,if_false]
 by_cases hck:checkF e.cs.length f=0
 case neg=>rw[if_pos hck,if_pos hck]
 have nck:¬checkF e.cs.length f≠0:=fun h=>h hck
 rw[if_neg nck,if_neg nck]
 by_cases h34:34≤i.op.val
 ·have:(toldF e i).2=40:=by rw[toldF,if_pos h34]
  rw[if_pos (show(toldF e i).2≠0 by omega),if_pos h34,this]
 obtain⟨h1,h2⟩:=told_agree e i hw hcan (by omega)
 rw[if_neg h34,h1]
 have hop:locOp i→opndF e i=0:=fun h=>by unfold locOp at h; rw[opndF,if_neg (by omega),if_neg (by omega),if_neg (by omega)]
 by_cases hl:locOp i∧¬(0≤i.a∧i.a<f.loc)
 ·rw[if_neg (show ¬opndF e i≠0 from fun h=>h (hop hl.1)),if_pos hl,if_pos hl]
 rw[if_neg hl,if_neg hl]
 by_cases h0:opndF e i=0
 case neg=>rw[if_pos h0,if_pos h0]
 have n0:¬opndF e i≠0:=fun h=>h h0
 rw[if_neg n0,if_neg n0]
 have ha:=h2 h0
 generalize (toldF e i).1=F at *
 have hlen:F.takes.length=(takesO e i i.op.val).length:=by
  by_cases h16:i.op.val=16
  ·rw[ha.same h16,h16]; rfl
  ·exact(ha.takes h16).length_eq
 unfold applyIn
 by_cases hh:f.h<(takesO e i i.op.val).length
 ·have:takenF e.cs f F.takes=([],30):=by rw[takenF,hlen,if_pos hh]
  rw[this,if_pos hh,if_pos (by simp)]
 rw[if_neg hh]
 have htk:takenF e.cs f F.takes=if fitsAll e.cs F.takes (hadL f F.takes.length)=false then([],70) else(hadL f F.takes.length,0):=by rw[takenF,hlen,if_neg hh]
 have hfw:fitsAll e.cs F.takes (hadL f F.takes.length)=true↔wantedAll e.cs (takesO e i i.op.val) (hadL f (takesO e i i.op.val).length)=true∧¬(i.op.val=16∧sameB (hadL f 2)=false):=by
  by_cases h16:i.op.val=16
  ·rw[ha.same h16,h16,show takesO e i 16=[255,255] from rfl]
   have e1:fitsAll e.cs [⟨3,0⟩,⟨3,0⟩] (hadL f 2)=sameB (hadL f 2):=fitsAll_same _ _
   have e2:wantedAll e.cs [255,255] (hadL f 2)=true:=wantedAll_any _ _
   simp only[List.length_cons,List.length_nil,e1,e2]
   simp
  ·rw[fitsAll_wanted (ha.takes h16),hlen]; simp[h16]
 by_cases hf:fitsAll e.cs F.takes (hadL f F.takes.length)=true
 case neg=>
  have hf':fitsAll e.cs F.takes (hadL f F.takes.length)=false:=by simpa using hf
  rw[htk,if_pos hf',if_pos (by simp)]
  by_cases hwa:wantedAll e.cs (takesO e i i.op.val) (hadL f (takesO e i i.op.val).length)=false
  ·rw[if_pos hwa]
  ·rw[if_neg hwa,if_pos (Classical.byContradiction fun hn=>hf (hfw.2 ⟨by simpa using hwa,hn⟩))]
 obtain⟨w1,w2⟩:=hfw.1 hf
 have nf:¬fitsAll e.cs F.takes (hadL f F.takes.length)=false:=fun h=>by rw[hf] at h; cases h
 have nw:¬wantedAll e.cs (takesO e i i.op.val) (hadL f (takesO e i i.op.val).length)=false:=fun h=>by rw[w1] at h; cases h
 rw[if_neg nf,hlen] at htk
 rw[htk]
 rw[if_neg nw,if_neg w2]
 simp only[ne_eq,not_true_eq_false,if_false]
 by_cases o4:i.op.val=4
 ·rw[if_pos o4]
  by_cases hz:slAt f i.a.toNat=0
  ·rw[if_pos hz,if_pos ⟨o4,hz⟩]
  ·rw[if_neg hz,if_neg (fun h=>hz h.2),givesR,if_pos o4]
 ·rw[if_neg o4,if_neg (fun h=>o4 h.1),ha.gives _ o4,givesR,if_neg o4]
open Go.Proofs
open Go.Proofs
def subFr (l:List Cl) (a b:Fr):Bool:=decide (checkF l.length a=0∧checkF l.length b=0∧a.loc=b.loc∧a.h=b.h)&&(List.range 24).all fun i=>subB l (slAt a i) (slAt b i)
theorem subB_zero (l:List Cl):subB l 0 0=true:=by simp[subB,validN]
open Go.Proofs
theorem upI_trans {l:List Cl}:∀(n:Nat) (c:Int),c<n→∀k∈upI l c,∀x∈upI l k,x∈upI l c
 |0,c,h,k,hk,x,hx=>by rw[upI_neg (by omega)] at hk; cases hk
 |n+1,c,h,k,hk,x,hx=>by
  by_cases h0:c<0
  ·rw[upI_neg h0] at hk; cases hk
  obtain⟨m,rfl⟩:∃m:Nat,c=m:=⟨c.toNat,by omega⟩
  by_cases hm:m<l.length
  ·rw[upI_step hm] at hk ⊢
   rcases List.mem_cons.1 hk with rfl|hk
   ·rw[upI_step hm] at hx; exact hx
   ·by_cases hp:l[m].parent<m
    ·rw[if_pos hp] at hk ⊢
     exact List.mem_cons_of_mem _ (upI_trans n _ (by omega) k hk x hx)
    ·rw[if_neg hp] at hk; cases hk
  ·rw[upI_out (by omega)] at hk; cases hk
theorem subB_valid {l:List Cl} {a b:Ty} (h:subB l a b=true):validN l.length a=true∧validN l.length b=true:=by
 unfold subB at h
 split at h
 ·cases h
 ·rename_i h1
  cases ha:validN l.length a
  ·exact absurd (.inl ha) h1
  cases hb:validN l.length b
  ·exact absurd (.inr hb) h1
  exact⟨rfl,rfl⟩
theorem subB_refl {l:List Cl} {a:Ty} (h:validN l.length a=true):subB l a a=true:=by
 rw[subB,if_neg (by simp[h]),if_pos (.inl rfl)]
def SubP (l:List Cl) (a b:Ty):Prop:=
 a=b∨b.val=0∨((a.val=3∨b.val=5)∧isRefB a=true∧isRefB b=true)∨(16≤a.val∧16≤b.val∧(b.val-16)∈upI l ((a.val:Int)-16))
theorem subB_iff {l:List Cl} {a b:Ty} (ha:validN l.length a=true) (hb:validN l.length b=true):subB l a b=true↔SubP l a b:=by
 have key:∀h16:16≤b.val,((upI l ((a.val:Int)-16)).any fun k=>decide ((k:Int)=(b.val:Int)-16))=true↔(b.val-16)∈upI l ((a.val:Int)-16):=fun h16=>by
  rw[List.any_eq_true]
  constructor
  ·rintro⟨k,hk,hd⟩
   have:k=b.val-16:=by simp at hd; omega
   rw[←this]; exact hk
  ·intro h; exact⟨_,h,by simp; omega⟩
 unfold subB SubP
 rw[if_neg (by simp[ha,hb])]
 by_cases h1:a=b∨b.val=0
 ·rw[if_pos h1]
  simp only[true_iff]
  rcases h1 with h|h
  ·exact .inl h
  ·exact .inr (.inl h)
 rw[if_neg h1]
 simp only[not_or] at h1
 by_cases h2:a.val=3∨b.val=5
 ·rw[if_pos h2]
  simp only[Bool.and_eq_true]
  constructor
  ·intro h; exact .inr (.inr (.inl ⟨h2,h⟩))
  ·rintro(h|h|⟨_,h⟩|⟨h3,h4,h5⟩)
   ·exact absurd h h1.1
   ·exact absurd h h1.2
   ·exact h
   ·omega
 rw[if_neg h2]
 simp only[Bool.and_eq_true,decide_eq_true_eq]
 constructor
 ·rintro⟨⟨h3,h4⟩,h5⟩
  exact .inr (.inr (.inr ⟨h3,h4,(key h4).1 h5⟩))
 ·rintro(h|h|⟨h,_⟩|⟨h3,h4,h5⟩)
  ·exact absurd h h1.1
  ·exact absurd h h1.2
  ·exact absurd h h2
  ·exact⟨⟨h3,h4⟩,(key h4).2 h5⟩
theorem isRef_iff {t:Ty}:isRefB t=true↔t.val=3∨t.val=4∨t.val=5∨16≤t.val:=by simp[isRefB]
theorem subB_trans {l:List Cl} {a b c:Ty} (h1:subB l a b=true) (h2:subB l b c=true):subB l a c=true:=by
 obtain⟨va,vb⟩:=subB_valid h1
 obtain⟨_,vc⟩:=subB_valid h2
 rw[subB_iff va vb] at h1
 rw[subB_iff vb vc] at h2
 rw[subB_iff va vc]
 rcases h1 with rfl|h1|⟨h1,h3,h4⟩|⟨h1,h3,h4⟩
 ·exact h2
 ·rcases h2 with rfl|h2|⟨h2,h5,h6⟩|⟨h2,h5,h6⟩
  ·exact .inr (.inl h1)
  ·exact .inr (.inl h2)
  ·rw[isRef_iff] at h5; omega
  ·omega
 ·rcases h2 with rfl|h2|⟨h2,h5,h6⟩|⟨h2,h5,h6⟩
  ·exact .inr (.inr (.inl ⟨h1,h3,h4⟩))
  ·exact .inr (.inl h2)
  ·rcases h1 with h1|h1
   ·exact .inr (.inr (.inl ⟨.inl h1,h3,h6⟩))
   ·rcases h2 with h2|h2
    ·omega
    ·exact .inr (.inr (.inl ⟨.inr h2,h3,h6⟩))
  ·rcases h1 with h1|h1
   ·exact .inr (.inr (.inl ⟨.inl h1,h3,isRef_iff.2 (by omega)⟩))
   ·
    simp only[validN,decide_eq_true_eq] at vb
    omega
 ·rcases h2 with rfl|h2|⟨h2,h5,h6⟩|⟨h2,h5,h6⟩
  ·exact .inr (.inr (.inr ⟨h1,h3,h4⟩))
  ·exact .inr (.inl h2)
  ·rcases h2 with h2|h2
   ·omega
   ·exact .inr (.inr (.inl ⟨.inr h2,isRef_iff.2 (by omega),h6⟩))
  ·refine .inr (.inr (.inr ⟨h1,h5, ?_⟩))
   rw[show((b.val:Int)-16)=((b.val-16:Nat):Int) by omega] at h6
   exact upI_trans a.val _ (by omega) _ h4 _ h6
theorem wanted_mono {l:List Cl} {a b w:Ty} (h:subB l a b=true) (hw:wantedB l b w=true):wantedB l a w=true:=by
 obtain⟨va,vb⟩:=subB_valid h
 have hp:=(subB_iff va vb).1 h
 unfold wantedB at hw ⊢
 split
 ·rfl
 rename_i h1
 rw[if_neg h1] at hw
 split
 ·rename_i h2
  rw[if_pos h2] at hw
  simp only[decide_eq_true_eq] at hw ⊢
  intro ha
  rcases hp with rfl|hp|⟨_,hp,_⟩|⟨hp,_⟩
  ·exact hw ha
  ·exact hw hp
  ·rw[isRef_iff] at hp; omega
  ·omega
 rename_i h2
 rw[if_neg h2] at hw
 split
 ·rename_i h3
  rw[if_pos h3] at hw
  rcases hp with rfl|hp|⟨_,hp,_⟩|⟨hp,_⟩
  ·exact hw
  ·rw[isRef_iff] at hw; omega
  ·exact hp
  ·exact isRef_iff.2 (by omega)
 rename_i h3
 rw[if_neg h3] at hw
 exact subB_trans h hw
theorem known_mono {l:List Cl} {a b:Ty} (h:subB l a b=true) (hb:b≠0):a≠0:=by
 have h1:wantedB l b 254=true:=by
  have e:(254:Ty).val=254:=rfl
  rw[wantedB,if_neg (by omega),if_pos e]
  simp only[decide_eq_true_eq]
  intro h0; exact hb (Fin.ext h0)
 have h2:=wanted_mono h h1
 have e:(254:Ty).val=254:=rfl
 rw[wantedB,if_neg (by omega),if_pos e] at h2
 simp only[decide_eq_true_eq] at h2
 intro h0; subst h0; exact h2 rfl
theorem small_mono {l:List Cl} {a b:Ty} (h:subB l a b=true) (hb:b.val=1∨b.val=2):a=b:=by
 obtain⟨va,vb⟩:=subB_valid h
 rcases(subB_iff va vb).1 h with h|h|⟨_,_,h⟩|⟨_,h,_⟩
 ·exact h
 ·omega
 ·rw[isRef_iff] at h; omega
 ·omega
theorem slAt_bare (f:Fr) {i:Nat} (h:i<24):slAt (bareF f) i=if(i:Int)<f.loc+f.h then slAt f i else 0:=by
 rw[slAt_lt _ h,slAt_lt _ h]; simp[bareF]
theorem slAt_set (f:Fr) {a:Int} {t:Ty} {i:Nat} (h:i<24) (ha:a.toNat<24):slAt (setF f a t) i=if i=a.toNat then t else slAt f i:=by
 rw[slAt_lt _ h,slAt_lt _ h]
 simp only[setF,dif_pos ha,Vector.getElem_set]
 by_cases he:a.toNat=i
 ·rw[if_pos he,if_pos he.symm]
 ·rw[if_neg he,if_neg (fun h=>he h.symm)]
theorem fr_ext {f g:Fr} (h1:f.loc=g.loc) (h2:f.h=g.h) (h3:∀i,i<24→slAt f i=slAt g i):f=g:=by
 obtain⟨a,b,c⟩:=f
 obtain⟨a',b',c'⟩:=g
 simp only at h1 h2
 subst h1; subst h2
 simp only[Fr.mk.injEq,true_and]
 apply Vector.ext
 intro i hi
 have:=h3 i hi
 rw[slAt_lt _ hi,slAt_lt _ hi] at this
 exact this
theorem checkF_iff {n:Nat} {f:Fr}:checkF n f=0↔shapedB f=true∧bareF f=f∧∀i,i<24→validN n (slAt f i)=true:=by
 have hv:(f.sl.toList.any fun t=> !validN n t)=false↔∀i,i<24→validN n (slAt f i)=true:=by
  rw[List.any_eq_false]
  constructor
  ·intro h i hi
   have:=h (slAt f i) (by rw[slAt_lt f hi]; simp)
   simpa using this
  ·intro h t ht
   obtain⟨j,hj,rfl⟩:=List.mem_iff_getElem.1 ht
   have hj24:j<24:=by simpa using hj
   have:=h j hj24
   rw[slAt_lt f hj24] at this
   simpa using this
 rw[←hv]
 unfold checkF
 cases hs:shapedB f
 ·simp
 by_cases hb:bareF f=f
 ·rw[if_neg (by simp[hb])]
  cases (f.sl.toList.any fun t=> !validN n t) <;> simp[hb]
 ·rw[if_pos (.inr hb)]; simp[hb]
theorem slAt_popN (f:Fr) (hb:bareF f=f):∀(k:Nat) {i:Nat},i<24→slAt (popN k f) i=if(i:Int)<f.loc+f.h-k then slAt f i else 0
 |0,i,h=>by
  split
  ·rfl
  ·exact bare_iff.1 hb i h (by omega)
 |k+1,i,h=>by
  rw[popN,popF,slAt_bare _ h]
  simp only[popN_loc,popN_h]
  have:=slAt_popN f hb k h
  by_cases h1:(i:Int)<f.loc+f.h-(k+1:Nat)
  ·rw[if_pos (by omega),if_pos h1]
   rw[if_pos (by omega)] at this
   exact this
  ·rw[if_neg (by omega),if_neg h1]
theorem slAt_sl {f g:Fr} (h:f.sl=g.sl) (i:Nat):slAt f i=slAt g i:=by unfold slAt; rw[h]
theorem slAt_mk (f:Fr) (a b:Int) (i:Nat):slAt (⟨a,b,f.sl⟩:Fr) i=slAt f i:=slAt_sl (f:=⟨a,b,f.sl⟩) (g:=f) rfl i
theorem push_all:∀(gs:List Ty) (f:Fr),shapedB f=true→bareF f=f→pushAll gs f=if f.loc+f.h+gs.length≤24 then((pushAll gs f).1,0) else(fr0 0,31)
 |[],f,hs,hb=>by
  have:=shaped_of hs
  rw[if_pos (by simp; omega)]; rfl
 |t::gs,f,hs,hb=>by
  have hsh:=shaped_of hs
  rw[pushAll]
  by_cases h24:f.loc+f.h=24
  ·rw[show pushF f t=(fr0 0,31) by rw[pushF,if_pos h24]]
   rw[if_pos (by simp),if_neg (by simp; omega)]
  ·have hp:pushF f t=(⟨f.loc,f.h+1,(setF (bareF f) (f.loc+f.h) t).sl⟩,0):=by rw[pushF,if_neg h24]
   rw[hp]
   simp only[ne_eq,not_true_eq_false,if_false]
   have hsl:∀i,i<24→slAt (⟨f.loc,f.h+1,(setF (bareF f) (f.loc+f.h) t).sl⟩:Fr) i=if i=(f.loc+f.h).toNat then t else slAt f i:=fun i hi=>by
    rw[slAt_mk,slAt_set _ hi (by omega),hb]
   have hs':shapedB (⟨f.loc,f.h+1,(setF (bareF f) (f.loc+f.h) t).sl⟩:Fr)=true:=by simp only[shapedB,decide_eq_true_eq]; omega
   have hb':bareF (⟨f.loc,f.h+1,(setF (bareF f) (f.loc+f.h) t).sl⟩:Fr)=⟨f.loc,f.h+1,(setF (bareF f) (f.loc+f.h) t).sl⟩:=bare_iff.2 fun i hi hle=>by
    simp only at hle
    rw[hsl i hi,if_neg (by omega)]
    exact bare_iff.1 hb i hi (by omega)
   have ih:=push_all gs _ hs' hb'
   rw[ih]
   simp only[List.length_cons]
   by_cases hc:f.loc+f.h+(gs.length+1:Nat)≤24
   ·rw[if_pos (by omega),if_pos hc]
   ·rw[if_neg (by omega),if_neg hc]
theorem push_get:∀(gs:List Ty) (f:Fr),shapedB f=true→bareF f=f→f.loc+f.h+gs.length≤24→(pushAll gs f).1.loc=f.loc∧(pushAll gs f).1.h=f.h+gs.length∧bareF (pushAll gs f).1=(pushAll gs f).1∧∀i,i<24→slAt (pushAll gs f).1 i=if(i:Int)<f.loc+f.h then slAt f i else(gs[i-(f.loc+f.h).toNat]?).getD 0
 |[],f,hs,hb,h=>by
  refine⟨rfl,by simp[pushAll],hb,fun i hi=> ?_⟩
  split
  ·rfl
  ·simp only[List.getElem?_nil,Option.getD_none]
   exact bare_iff.1 hb i hi (by omega)
 |t::gs,f,hs,hb,h=>by
  have hsh:=shaped_of hs
  simp only[List.length_cons] at h
  have h24:¬f.loc+f.h=24:=by omega
  have hp:pushF f t=(⟨f.loc,f.h+1,(setF (bareF f) (f.loc+f.h) t).sl⟩,0):=by rw[pushF,if_neg h24]
  have hsl:∀i,i<24→slAt (⟨f.loc,f.h+1,(setF (bareF f) (f.loc+f.h) t).sl⟩:Fr) i=if i=(f.loc+f.h).toNat then t else slAt f i:=fun i hi=>by
   rw[slAt_mk,slAt_set _ hi (by omega),hb]
  have hs':shapedB (⟨f.loc,f.h+1,(setF (bareF f) (f.loc+f.h) t).sl⟩:Fr)=true:=by simp only[shapedB,decide_eq_true_eq]; omega
  have hb':bareF (⟨f.loc,f.h+1,(setF (bareF f) (f.loc+f.h) t).sl⟩:Fr)=⟨f.loc,f.h+1,(setF (bareF f) (f.loc+f.h) t).sl⟩:=bare_iff.2 fun i hi hle=>by
   simp only at hle
   rw[hsl i hi,if_neg (by omega)]
   exact bare_iff.1 hb i hi (by omega)
  obtain⟨i1,i2,i3,i4⟩:=push_get gs _ hs' hb' (by simp only; omega)
  rw[pushAll,hp]
  simp only[ne_eq,not_true_eq_false,if_false] at i1 i2 i3 i4 ⊢
  refine⟨i1,by rw[i2,List.length_cons]; omega,i3,fun i hi=> ?_⟩
  rw[i4 i hi,hsl i hi]
  by_cases h1:(i:Int)<f.loc+f.h
  ·rw[if_pos (by omega),if_pos h1,if_neg (by omega)]
  ·by_cases h2:i=(f.loc+f.h).toNat
   ·rw[if_pos (by omega),if_neg h1,if_pos h2,h2]; simp
   ·rw[if_neg (by omega),if_neg h1]
    rw[show i-(f.loc+f.h).toNat=(i-(f.loc+(f.h+1)).toNat)+1 by omega]
    simp
open Go.Proofs
theorem stored_valid {n:Nat} {t:Ty} (h:storedN n t=true):validN n t=true:=by
 simp only[storedN,Bool.and_eq_true] at h; exact h.1
theorem ofClass_valid {n:Nat} {a:Int} (h0:0≤a) (h1:a<n) (h32:n≤32):validN n (ofClass a)=true:=by
 obtain⟨k,rfl⟩:∃k:Nat,a=k:=⟨a.toNat,by omega⟩
 rw[ofClass_eq rfl (by omega)]
 simp only[validN,decide_eq_true_eq]; omega
theorem flds_valid {e:En} {i:Ins} (hc:Can e) {f:Fd} (hf:f∈flds e i):validN e.cs.length f.ty=true:=by
 simp only[flds,fieldsOn,List.mem_flatMap,List.mem_reverse] at hf
 obtain⟨k,hk,hf⟩:=hf
 have hlt:=upI_lt hk
 simp only[fieldsAt,List.getElem?_eq_getElem hlt,Option.map_some,Option.getD_some] at hf
 exact stored_valid (right_stored hc.right hlt hf)
theorem someR_mem {t x:Ty} (h:x∈someR t):x=t:=by
 unfold someR at h; split at h
 ·cases h
 ·simpa using h
theorem givesO_valid {e:En} {i:Ins} (hw:WideE e) (hcan:canB e=true) (h34:i.op.val<34) (ho:opndF e i=0) (h4:i.op.val≠4) (h7:i.op.val≠7) (h8:i.op.val≠8):∀t∈givesO e i i.op.val,validN e.cs.length t=true:=by
 have hc:=canB_can hw hcan
 have h32:=hc.cls
 have small:∀{l:List Ty},(∀t∈l,t.val≤5)→∀t∈l,validN e.cs.length t=true:=fun h t ht=>by simp[validN,h t ht]
 have hk34:i.op.val=0∨i.op.val=1∨i.op.val=2∨i.op.val=3∨i.op.val=5∨i.op.val=6∨i.op.val=9∨i.op.val=10∨i.op.val=11∨i.op.val=12∨i.op.val=13∨i.op.val=14∨i.op.val=15∨i.op.val=16∨i.op.val=17∨i.op.val=18∨i.op.val=19∨i.op.val=20∨i.op.val=21∨i.op.val=22∨i.op.val=23∨i.op.val=24∨i.op.val=25∨i.op.val=26∨i.op.val=27∨i.op.val=28∨i.op.val=29∨i.op.val=30∨i.op.val=31∨i.op.val=32∨i.op.val=33:=by omega
 have s1:∀t∈([1]:List Ty),validN e.cs.length t=true:=small (by simp)
 have s2:∀t∈([2]:List Ty),validN e.cs.length t=true:=small (by simp)
 have s3:∀t∈([3]:List Ty),validN e.cs.length t=true:=small (by simp; decide)
 have s4:∀t∈([4]:List Ty),validN e.cs.length t=true:=small (by simp; decide)
 have s0:∀t∈([]:List Ty),validN e.cs.length t=true:=fun t ht=>by cases ht
 have cl:(i.op.val=23∨i.op.val=30)→∀t∈[ofClass i.a],validN e.cs.length t=true:=fun h t ht=>by
  obtain⟨q1,q2⟩:=opnd_cls ho (by omega)
  rw[List.mem_singleton.1 ht]; exact ofClass_valid q1 q2 h32
 rcases hk34 with h|h|h|h|h|h|h|h|h|h|h|h|h|h|h|h|h|h|h|h|h|h|h|h|h|h|h|h|h|h|h <;> rw[h] <;> first
  |exact s0
  |exact s1
  |exact s2
  |exact s3
  |exact s4
  |exact cl (.inl h)
  |exact cl (.inr h)
  |skip
 ·intro t ht
  rw[show givesO e i 21=((e.sgs[i.a.toNat]?).map fun s=>someR s.r).getD [] from rfl] at ht
  cases hk:e.sgs[i.a.toNat]? with
  |none=>rw[hk] at ht; cases ht
  |some s=>
   rw[hk] at ht
   have hx:=someR_mem (by simpa using ht)
   subst hx
   rcases(canB_sig hcan (List.mem_of_getElem? hk)).2 with h0|h0
   ·simp[validN,h0]
   ·exact stored_valid h0
 ·intro t ht
  rw[show givesO e i 24=(((flds e i)[i.b.toNat]?).map fun f=>someR f.ty).getD [] from rfl] at ht
  cases hk:(flds e i)[i.b.toNat]? with
  |none=>rw[hk] at ht; cases ht
  |some s=>
   rw[hk] at ht
   have hx:=someR_mem (by simpa using ht)
   subst hx
   exact flds_valid hc (List.mem_of_getElem? hk)
theorem hadL_head {f:Fr} {n:Nat} (h:0<n):(hadL f n).headD 0=slAt f (f.loc+f.h-n).toNat:=by
 rw[show(hadL f n).headD 0=((hadL f n)[0]?).getD 0 by cases hadL f n <;> rfl,hadL_at h]; rfl
structure Behind (i:Ins) (f:Fr) (n:Nat) (gs:List Ty) (had0:Ty) (R:Fr):Prop where
 loc:R.loc=f.loc
 h:R.h=f.h-n+gs.length
 bare:bareF R=R
 sl:∀k:Nat,k<24→slAt R k=if(k:Int)<f.loc+f.h-n then(if i.op.val=5∧k=i.a.toNat then had0 else slAt f k) else(gs[k-(f.loc+f.h-n).toNat]?).getD 0
theorem behind_get (i:Ins) (f:Fr) (had gs:List Ty) (hs:shapedB f=true) (hb:bareF f=f) (hn:(had.length:Int)≤f.h) (h5:i.op.val=5→0≤i.a∧i.a<f.loc):
  behindF i f had gs=(if i.op.val=22∧0<f.h-had.length then(fr0 0,73) else if f.loc+f.h-had.length+gs.length≤24 then((behindF i f had gs).1,0) else(fr0 0,31))∧
   (¬(i.op.val=22∧0<f.h-had.length)→f.loc+f.h-had.length+gs.length≤24→Behind i f had.length gs (had.headD 0) (behindF i f had gs).1):=by
 obtain⟨s1,s2,s3,s4⟩:=shaped_of hs
 have hB:behindF i f had gs=if i.op.val=22∧0<f.h-had.length then(fr0 0,73) else pushAll gs (if i.op.val=5 then setF (bareF (popN had.length f)) i.a (had.headD 0) else popN had.length f):=by
  rw[behindF,popN_h]
 have hps:=popN_shape hs hn
 have hpb:=popN_bare hb had.length
 have hpl:(popN had.length f).loc=f.loc:=popN_loc
 have hph:(popN had.length f).h=f.h-had.length:=popN_h
 have hpg:∀{k:Nat},k<24→slAt (popN had.length f) k=_:=fun {k} h=>slAt_popN f hb had.length h
 generalize popN had.length f=p at *
 obtain⟨q,hq,q1,q2,q3,q4,q5⟩:∃q,(if i.op.val=5 then setF (bareF p) i.a (had.headD 0) else p)=q∧shapedB q=true∧bareF q=q∧q.loc=f.loc∧q.h=f.h-had.length∧
   ∀k:Nat,k<24→(k:Int)<f.loc+f.h-had.length→slAt q k=if i.op.val=5∧k=i.a.toNat then had.headD 0 else slAt f k:=by
  by_cases o5:i.op.val=5
  ·obtain⟨h6,h7⟩:=h5 o5
   rw[if_pos o5]
   have hsl:∀k,k<24→slAt (setF (bareF p) i.a (had.headD 0)) k=if k=i.a.toNat then had.headD 0 else slAt p k:=fun k hk=>by rw[slAt_set _ hk (by omega),hpb]
   refine⟨_,rfl,by rw[setF_shape,bare_shape]; exact hps,bare_iff.2 fun k hk hle=> ?_,by rw[setF_loc,bare_loc,hpl],by rw[setF_h,bare_h,hph],fun k hk hlt=> ?_⟩
   ·rw[setF_loc,setF_h,bare_loc,bare_h,hpl,hph] at hle
    rw[hsl k hk,if_neg (by omega),hpg hk,if_neg (by omega)]
   ·rw[hsl k hk,hpg hk,if_pos hlt]
    simp only[o5,true_and]
  ·rw[if_neg o5]
   refine⟨_,rfl,hps,hpb,hpl,hph,fun k hk hlt=> ?_⟩
   rw[hpg hk,if_pos hlt,if_neg (fun h=>o5 h.1)]
 rw[hq] at hB
 have hpa:=push_all gs q q1 q2
 have hpg2:=push_get gs q q1 q2
 rw[q3,q4] at hpa hpg2
 by_cases h22:i.op.val=22∧0<f.h-had.length
 ·rw[if_pos h22] at hB ⊢
  exact⟨hB,fun h=>absurd h22 h⟩
 rw[if_neg h22] at hB ⊢
 rw[hB]
 by_cases h24:f.loc+f.h-had.length+gs.length≤24
 ·rw[if_pos h24]
  rw[if_pos (by omega)] at hpa
  obtain⟨p1,p2,p3,p4⟩:=hpg2 (by omega)
  refine⟨hpa,fun _ _=>⟨p1,p2,p3,fun k hk=> ?_⟩⟩
  rw[p4 k hk]
  by_cases hlt:(k:Int)<f.loc+f.h-had.length
  ·rw[if_pos (by omega),if_pos hlt,q5 k hk hlt]
  ·rw[if_neg (by omega),if_neg hlt,show(f.loc+(f.h-had.length)).toNat=(f.loc+f.h-had.length).toNat by omega]
 ·rw[if_neg h24]
  rw[if_neg (by omega)] at hpa
  exact⟨hpa,fun _ h=>absurd h h24⟩
structure Done (e:En) (f:Fr) (i:Ins):Prop where
 can:canB e=true
 chk:checkF e.cs.length f=0
 op:i.op.val<34
 loc:i.op.val=4∨i.op.val=5→0≤i.a∧i.a<f.loc
 opnd:opndF e i=0
 under:((takesO e i i.op.val).length:Int)≤f.h
 want:wantedAll e.cs (takesO e i i.op.val) (hadL f (takesO e i i.op.val).length)=true
 same:i.op.val=16→sameB (hadL f 2)=true
 known:i.op.val=4→slAt f i.a.toNat≠0
 ret:¬(i.op.val=22∧0<f.h-(takesO e i i.op.val).length)
 over:f.loc+f.h-(takesO e i i.op.val).length+(givesR e f i (hadL f (takesO e i i.op.val).length)).length≤24
theorem done_iff {e:En} {f:Fr} {i:Ins}:(applyR e f i).2=0↔Done e f i:=by
 have lo:∀{P:Prop},(locOp i∧¬P)↔¬(i.op.val=4∨i.op.val=5→P):=fun {P}=>by unfold locOp; constructor <;> intro h <;> simp_all
 unfold applyR
 cases hcan:canB e
 ·simp only[if_true]; exact⟨fun h=>by simp at h,fun h=>by rw[h.can] at hcan; cases hcan⟩
 simp only[Bool.true_eq_false,if_false]
 by_cases hck:checkF e.cs.length f=0
 case neg=>rw[if_pos hck]; exact⟨fun h=>absurd h hck,fun h=>absurd h.chk hck⟩
 rw[if_neg (by simpa using hck)]
 by_cases h34:34≤i.op.val
 ·rw[if_pos h34]; exact⟨fun h=>by simp at h,fun h=>by have:=h.op; omega⟩
 rw[if_neg h34]
 by_cases hl:locOp i∧¬(0≤i.a∧i.a<f.loc)
 ·rw[if_pos hl]; exact⟨fun h=>by simp at h,fun h=>absurd h.loc (lo.1 hl)⟩
 rw[if_neg hl]
 have hl':i.op.val=4∨i.op.val=5→0≤i.a∧i.a<f.loc:=Classical.byContradiction fun h=>hl (lo.2 h)
 by_cases h0:opndF e i=0
 case neg=>rw[if_pos h0]; exact⟨fun h=>absurd h h0,fun h=>absurd h.opnd h0⟩
 rw[if_neg (by simpa using h0)]
 unfold applyIn
 by_cases hh:f.h<(takesO e i i.op.val).length
 ·rw[if_pos hh]; exact⟨fun h=>by simp at h,fun h=>by have:=h.under; omega⟩
 rw[if_neg hh]
 by_cases hw:wantedAll e.cs (takesO e i i.op.val) (hadL f (takesO e i i.op.val).length)=true
 case neg=>rw[if_pos (by simpa using hw)]; exact⟨fun h=>by simp at h,fun h=>absurd h.want hw⟩
 rw[if_neg (by simp[hw])]
 by_cases h16:i.op.val=16∧sameB (hadL f 2)=false
 ·rw[if_pos h16]; exact⟨fun h=>by simp at h,fun h=>by have:=h.same h16.1; rw[h16.2] at this; cases this⟩
 rw[if_neg h16]
 have h16':i.op.val=16→sameB (hadL f 2)=true:=fun h=>by
  cases hs:sameB (hadL f 2)
  ·exact absurd ⟨h,hs⟩ h16
  ·rfl
 by_cases h4:i.op.val=4∧slAt f i.a.toNat=0
 ·rw[if_pos h4]; exact⟨fun h=>by simp at h,fun h=>absurd h4.2 (h.known h4.1)⟩
 rw[if_neg h4]
 have hbg:=behind_get i f (hadL f (takesO e i i.op.val).length) (givesR e f i (hadL f (takesO e i i.op.val).length)) (checkF_shape hck) (checkF_bare hck) (by rw[hadL_len]; omega) (fun h=>hl' (.inr h))
 rw[hadL_len] at hbg
 rw[hbg.1]
 by_cases h22:i.op.val=22∧0<f.h-(takesO e i i.op.val).length
 ·rw[if_pos h22]; exact⟨fun h=>by simp at h,fun h=>absurd h22 h.ret⟩
 rw[if_neg h22]
 by_cases h24:f.loc+f.h-(takesO e i i.op.val).length+(givesR e f i (hadL f (takesO e i i.op.val).length)).length≤24
 ·rw[if_pos h24]
  exact⟨fun _=>⟨hcan,hck,by omega,hl',h0,by omega,hw,h16',fun h hz=>h4 ⟨h,hz⟩,h22,h24⟩,fun _=>rfl⟩
 ·rw[if_neg h24]; exact⟨fun h=>by simp at h,fun h=>absurd h.over h24⟩
theorem done_eq {e:En} {f:Fr} {i:Ins} (h:Done e f i):applyR e f i=behindF i f (hadL f (takesO e i i.op.val).length) (givesR e f i (hadL f (takesO e i i.op.val).length)):=by
 have lo:¬(locOp i∧¬(0≤i.a∧i.a<f.loc)):=fun hl=>hl.2 (h.loc hl.1)
 have n1:¬canB e=false:=by rw[h.can]; simp
 have n2:¬checkF e.cs.length f≠0:=fun hh=>hh h.chk
 have n3:¬34≤i.op.val:=by have:=h.op; omega
 have n4:¬opndF e i≠0:=fun hh=>hh h.opnd
 have n5:¬f.h<(takesO e i i.op.val).length:=by have:=h.under; omega
 have n6:¬wantedAll e.cs (takesO e i i.op.val) (hadL f (takesO e i i.op.val).length)=false:=by rw[h.want]; simp
 have n7:¬(i.op.val=16∧sameB (hadL f 2)=false):=fun hh=>by have:=h.same hh.1; rw[hh.2] at this; cases this
 have n8:¬(i.op.val=4∧slAt f i.a.toNat=0):=fun hh=>h.known hh.1 hh.2
 rw[applyR,if_neg n1,if_neg n2,if_neg n3,if_neg lo,if_neg n4,applyIn,if_neg n5,if_neg n6,if_neg n7,if_neg n8]
theorem done_behind {e:En} {f:Fr} {i:Ins} (h:Done e f i):Behind i f (takesO e i i.op.val).length (givesR e f i (hadL f (takesO e i i.op.val).length)) ((hadL f (takesO e i i.op.val).length).headD 0) (applyR e f i).1:=by
 rw[done_eq h]
 have hbg:=behind_get i f (hadL f (takesO e i i.op.val).length) (givesR e f i (hadL f (takesO e i i.op.val).length)) (checkF_shape h.chk) (checkF_bare h.chk) (by rw[hadL_len]; exact h.under) (fun h5=>h.loc (.inr h5))
 rw[hadL_len] at hbg
 exact hbg.2 h.ret h.over
theorem givesR_len {e:En} {f:Fr} {i:Ins} {had:List Ty}:(givesR e f i had).length=(givesO e i i.op.val).length:=by
 unfold givesR
 split
 ·rename_i h; rw[h]; rfl
 split
 ·rename_i h; rw[h]; rfl
 split
 ·rename_i h; rw[h]; rfl
 rfl
theorem givesR_valid {e:En} {f:Fr} {i:Ins} (hw:WideE e) (h:Done e f i):∀t∈givesR e f i (hadL f (takesO e i i.op.val).length),validN e.cs.length t=true:=by
 obtain⟨hs,hb,hv⟩:=checkF_iff.1 h.chk
 obtain⟨s1,s2,s3,s4⟩:=shaped_of hs
 have hun:=h.under
 have h0:validN e.cs.length 0=true:=by simp[validN]
 have hh:∀k,validN e.cs.length (((hadL f (takesO e i i.op.val).length)[k]?).getD 0)=true:=fun k=>by
  by_cases hk:k<(takesO e i i.op.val).length
  ·rw[hadL_at hk]; exact hv _ (by omega)
  ·rw[List.getElem?_eq_none (by rw[hadL_len]; omega)]; exact h0
 have hd:validN e.cs.length ((hadL f (takesO e i i.op.val).length).headD 0)=true:=by
  have:=hh 0
  rwa[show((hadL f (takesO e i i.op.val).length)[0]?).getD 0=(hadL f (takesO e i i.op.val).length).headD 0 by cases hadL f (takesO e i i.op.val).length <;> rfl] at this
 intro t ht
 unfold givesR at ht
 split at ht
 ·rename_i h4
  rw[List.mem_singleton.1 ht]
  have:=h.loc (.inl h4)
  exact hv _ (by omega)
 split at ht
 ·simp only[List.mem_cons,List.not_mem_nil,or_false,or_self] at ht; rw[ht]; exact hd
 split at ht
 ·simp only[List.mem_cons,List.not_mem_nil,or_false] at ht
  rcases ht with rfl|rfl
  ·exact hh 1
  ·exact hd
 rename_i n4 n7 n8
 exact givesO_valid hw h.can h.op h.opnd n4 n7 n8 t ht
theorem done_check {e:En} {f:Fr} {i:Ins} (hw:WideE e) (h:Done e f i):checkF e.cs.length (applyR e f i).1=0:=by
 have hb:=done_behind h
 obtain⟨hs,hbf,hv⟩:=checkF_iff.1 h.chk
 obtain⟨s1,s2,s3,s4⟩:=shaped_of hs
 have hun:=h.under
 have hov:=h.over
 have h0:validN e.cs.length 0=true:=by simp[validN]
 refine checkF_iff.2 ⟨?_,hb.bare,fun k hk=> ?_⟩
 ·simp only[shapedB,decide_eq_true_eq,hb.loc,hb.h]; omega
 ·rw[hb.sl k hk]
  split
  ·split
   ·rename_i h5
    by_cases hn:0<(takesO e i i.op.val).length
    ·rw[hadL_head hn]; exact hv _ (by omega)
    ·rw[show hadL f (takesO e i i.op.val).length=[] from List.eq_nil_of_length_eq_zero (by rw[hadL_len]; omega)]; exact h0
   ·exact hv k hk
  ·cases hg:(givesR e f i (hadL f (takesO e i i.op.val).length))[k-(f.loc+f.h-(takesO e i i.op.val).length).toNat]? with
   |none=>exact h0
   |some t=>exact givesR_valid hw h t (List.mem_of_getElem? hg)
end Go.AL
