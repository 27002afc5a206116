import Derived.Test.YtobmoajkfbigkaaGreatLm
import Derived.Test.YtobmoajkfbigkaaGreatLh
set_option linter.unusedSimpArgs false
set_option linter.unusedVariables false
set_option maxRecDepth 100000
set_option maxHeartbeats 4000000
set_option linter.defProp false
namespace Go.AL
open Go.Proofs
def Mt (w:Wn) (t:Ty):Prop:=(w.kind=0∧t.val=255)∨(w.kind=1∧t.val=254)∨(w.kind=2∧t.val=253)∨(w.kind=4∧w.t=t∧t.val<253)
theorem fits_wanted {l:List Cl} {w:Wn} {t:Ty} (h:Mt w t) (x first:Ty):fitsB l w x first=wantedB l x t:=by
 rcases h with⟨h1,h2⟩|⟨h1,h2⟩|⟨h1,h2⟩|⟨h1,h2,h3⟩
 ·simp[fitsB,wantedB,h1,h2]
 ·simp[fitsB,wantedB,h1,h2]
 ·simp[fitsB,wantedB,h1,h2]
 ·subst h2
  rw[fitsB,if_neg (by omega),if_neg (by omega),if_neg (by omega),if_pos h1,wantedB,if_neg (by omega),if_neg (by omega),if_neg (by omega)]
theorem mt_all {l:List Cl} {ws:List Wn} {ts:List Ty} (h:All2 Mt ws ts) (first:Ty):∀had:List Ty,((ws.zip had).all fun p=>fitsB l p.1 p.2 first)=((ts.zip had).all fun p=>wantedB l p.2 p.1):=by
 induction h with
 |nil=>intro had; simp
 |cons h1 _ ih=>
  intro had
  cases had with
  |nil=>simp
  |cons x had=>simp only[List.zip_cons_cons,List.all_cons,fits_wanted h1,ih]
theorem fitsAll_wanted {l:List Cl} {ws:List Wn} {ts:List Ty} (h:All2 Mt ws ts) (had:List Ty):fitsAll l ws had=wantedAll l ts had:=mt_all h _ had
theorem fitsAll_same {l:List Cl} (a b:Ty):fitsAll l [⟨3,0⟩,⟨3,0⟩] [a,b]=sameB [a,b]:=by
 simp only[fitsAll,sameB,List.zip_cons_cons,List.zip_nil_left,List.all_cons,List.all_nil,List.headD_cons,Bool.and_true,fitsB]
 rw[Bool.eq_iff_iff]
 simp only[Fin.ext_iff]
 simp
 omega
theorem wantedAll_any {l:List Cl} (a b:Ty):wantedAll l [255,255] [a,b]=true:=by
 have h:(255:Ty).val=255:=rfl
 simp[wantedAll,wantedB,h]
theorem stored_lt {n:Nat} {t:Ty} (hn:n≤32) (h:storedN n t=true):t.val<253:=by
 simp only[storedN,validN,Bool.and_eq_true,decide_eq_true_eq] at h; omega
theorem canB_sig {e:En} (h:canB e=true) {s:Sg} (hs:s∈e.sgs):(∀t∈s.ps,storedN e.cs.length t=true)∧(s.r.val=0∨storedN e.cs.length s.r=true):=by
 simp only[canB,Bool.and_eq_true] at h
 have:=List.all_eq_true.1 h.2 s hs
 simp only[sigMayB,Bool.and_eq_true,decide_eq_true_eq,Bool.or_eq_true,Bool.not_eq_true',List.any_eq_false] at this
 exact⟨fun t ht=>by simpa using this.1.2 t ht,this.2⟩
theorem ofClass_lt {e:En} (hc:Can e) {a:Int} (h1:a<e.cs.length):(ofClass a).val<253:=by
 have h32:=hc.cls
 simp only[ofClass,Fin.ofNat]; omega
theorem flds_lt {e:En} {i:Ins} (hc:Can e) {f:Fd} (hf:f∈flds e i):f.ty.val<253:=by
 have h32:=hc.cls
 simp only[flds,fieldsOn,List.mem_flatMap,List.mem_reverse] at hf
 obtain⟨k,hk,hf⟩:=hf
 have hlt:=upI_lt hk
 simp only[fieldsAt,List.getElem?_eq_getElem hlt,Option.map_some,Option.getD_some] at hf
 exact stored_lt h32 (right_stored hc.right hlt hf)
theorem mt4 {t:Ty} (h:t.val<253):Mt ⟨4,t⟩ t:= .inr (.inr (.inr ⟨rfl,rfl,h⟩))
theorem mt_map {ts:List Ty} (h:∀t∈ts,t.val<253):All2 Mt (ts.map fun t=>(⟨4,t⟩:Wn)) ts:=by
 induction ts with
 |nil=>exact .nil
 |cons t ts ih=>exact .cons (mt4 (h t (by simp))) (ih fun x hx=>h x (by simp[hx]))
theorem mt0:Mt ⟨0,0⟩ 255:= .inl ⟨rfl,rfl⟩
theorem mt1:Mt ⟨1,0⟩ 254:= .inr (.inl ⟨rfl,rfl⟩)
theorem mt2:Mt ⟨2,0⟩ 253:= .inr (.inr (.inl ⟨rfl,rfl⟩))
structure Agree (e:En) (i:Ins) (F:Ef):Prop where
 takes:i.op.val≠16→All2 Mt F.takes (takesO e i i.op.val)
 same:i.op.val=16→F.takes=[⟨3,0⟩,⟨3,0⟩]
 gives:∀had,i.op.val≠4→givesV F.gives had=(if i.op.val=7 then [had.headD 0,had.headD 0] else if i.op.val=8 then [(had[1]?).getD 0,had.headD 0] else givesO e i i.op.val)
theorem opnd_eq_call {e:En} {i:Ins} (h:i.op.val=21):opndF e i=if 0≤i.a∧i.a.toNat<e.sgs.length then 0 else 71:=by rw[opndF,if_pos h]
theorem opnd_eq_cls {e:En} {i:Ins} (h:i.op.val=23∨i.op.val=30∨i.op.val=31):opndF e i=if 0≤i.a∧i.a<e.cs.length then 0 else 72:=by
 have h1:¬i.op.val=21:=by omega
 rw[opndF,if_neg h1,if_pos h]
theorem opnd_eq_fld {e:En} {i:Ins} (h:i.op.val=24∨i.op.val=25):opndF e i=if(0≤i.a∧i.a<e.cs.length)∧0≤i.b∧i.b.toNat<(fieldsOn e.cs (upI e.cs i.a).reverse).length then 0 else 72:=by
 have h1:¬i.op.val=21:=by omega
 have h2:¬(i.op.val=23∨i.op.val=30∨i.op.val=31):=by omega
 rw[opndF,if_neg h1,if_neg h2,if_pos h]
theorem told_agree (e:En) (i:Ins) (hw:WideE e) (hcan:canB e=true) (h34:i.op.val<34):(toldF e i).2=opndF e i∧(opndF e i=0→Agree e i (toldF e i).1):=by
 have hc:=canB_can hw hcan
 have h32:=hc.cls
 rw[toldF,if_neg (by omega)]
 have hk34:i.op.val=0∨i.op.val=1∨i.op.val=2∨i.op.val=3∨i.op.val=4∨i.op.val=5∨i.op.val=6∨i.op.val=7∨i.op.val=8∨i.op.val=9∨i.op.val=10∨i.op.val=11∨i.op.val=12∨i.op.val=13∨i.op.val=14∨i.op.val=15∨i.op.val=16∨i.op.val=17∨i.op.val=18∨i.op.val=19∨i.op.val=20∨i.op.val=21∨i.op.val=22∨i.op.val=23∨i.op.val=24∨i.op.val=25∨i.op.val=26∨i.op.val=27∨i.op.val=28∨i.op.val=29∨i.op.val=30∨i.op.val=31∨i.op.val=32∨i.op.val=33:=by omega
 have op0:(¬i.op.val=21∧¬(i.op.val=23∨i.op.val=30∨i.op.val=31)∧¬(i.op.val=24∨i.op.val=25))→opndF e i=0:=fun⟨h1,h2,h3⟩=>by rw[opndF,if_neg h1,if_neg h2,if_neg h3]
 have fx:∀ws g ts gs,tlOf i.op.val= .fixed ws g→(¬i.op.val=21∧¬(i.op.val=23∨i.op.val=30∨i.op.val=31)∧¬(i.op.val=24∨i.op.val=25))→i.op.val≠16→takesO e i i.op.val=ts→givesO e i i.op.val=gs→
   All2 Mt ws ts→(i.op.val≠4→∀had,givesV g had=(if i.op.val=7 then [had.headD 0,had.headD 0] else if i.op.val=8 then [(had[1]?).getD 0,had.headD 0] else gs))→
   (tellF e i (tlOf i.op.val)).2=opndF e i∧(opndF e i=0→Agree e i (tellF e i (tlOf i.op.val)).1):=fun ws g ts gs h1 h2 h3 h4 h5 h6 h7=>by
  rw[h1,op0 h2]
  exact⟨rfl,fun _=>⟨fun _=>by rw[h4]; exact h6,fun h=>absurd h h3,fun had hn=>by rw[h5]; exact h7 hn had⟩⟩
 have g1:Mt wi 1:=mt4 (by decide)
 have g2:Mt wb 2:=mt4 (by decide)
 have g4:Mt wr 4:=mt4 (by decide)
 rcases hk34 with h|h|h|h|h|h|h|h|h|h|h|h|h|h|h|h|h|h|h|h|h|h|h|h|h|h|h|h|h|h|h|h|h|h
 ·exact fx _ _ _ _ (by rw[h]; rfl) (by omega) (by omega) (by rw[h]) (by rw[h]) (by first|exact .nil|exact .cons g1 .nil|exact .cons g2 .nil|exact .cons g4 .nil|exact .cons g1 (.cons g1 .nil)|exact .cons mt0 .nil|exact .cons mt1 .nil|exact .cons mt0 (.cons mt0 .nil)|exact .cons mt2 (.cons mt2 .nil)|exact .cons g4 (.cons g1 .nil)|exact .cons g4 (.cons g1 (.cons g1 .nil))) (fun hn had=>by first|exact absurd h hn|(rw[h]; rfl))
 ·exact fx _ _ _ _ (by rw[h]; rfl) (by omega) (by omega) (by rw[h]) (by rw[h]) (by first|exact .nil|exact .cons g1 .nil|exact .cons g2 .nil|exact .cons g4 .nil|exact .cons g1 (.cons g1 .nil)|exact .cons mt0 .nil|exact .cons mt1 .nil|exact .cons mt0 (.cons mt0 .nil)|exact .cons mt2 (.cons mt2 .nil)|exact .cons g4 (.cons g1 .nil)|exact .cons g4 (.cons g1 (.cons g1 .nil))) (fun hn had=>by first|exact absurd h hn|(rw[h]; rfl))
 ·exact fx _ _ _ _ (by rw[h]; rfl) (by omega) (by omega) (by rw[h]) (by rw[h]) (by first|exact .nil|exact .cons g1 .nil|exact .cons g2 .nil|exact .cons g4 .nil|exact .cons g1 (.cons g1 .nil)|exact .cons mt0 .nil|exact .cons mt1 .nil|exact .cons mt0 (.cons mt0 .nil)|exact .cons mt2 (.cons mt2 .nil)|exact .cons g4 (.cons g1 .nil)|exact .cons g4 (.cons g1 (.cons g1 .nil))) (fun hn had=>by first|exact absurd h hn|(rw[h]; rfl))
 ·exact fx _ _ _ _ (by rw[h]; rfl) (by omega) (by omega) (by rw[h]) (by rw[h]) (by first|exact .nil|exact .cons g1 .nil|exact .cons g2 .nil|exact .cons g4 .nil|exact .cons g1 (.cons g1 .nil)|exact .cons mt0 .nil|exact .cons mt1 .nil|exact .cons mt0 (.cons mt0 .nil)|exact .cons mt2 (.cons mt2 .nil)|exact .cons g4 (.cons g1 .nil)|exact .cons g4 (.cons g1 (.cons g1 .nil))) (fun hn had=>by first|exact absurd h hn|(rw[h]; rfl))
 ·exact fx _ _ _ _ (by rw[h]; rfl) (by omega) (by omega) (by rw[h]) (by rw[h]) (by first|exact .nil|exact .cons g1 .nil|exact .cons g2 .nil|exact .cons g4 .nil|exact .cons g1 (.cons g1 .nil)|exact .cons mt0 .nil|exact .cons mt1 .nil|exact .cons mt0 (.cons mt0 .nil)|exact .cons mt2 (.cons mt2 .nil)|exact .cons g4 (.cons g1 .nil)|exact .cons g4 (.cons g1 (.cons g1 .nil))) (fun hn had=>by first|exact absurd h hn|(rw[h]; rfl))
 ·exact fx _ _ _ _ (by rw[h]; rfl) (by omega) (by omega) (by rw[h]) (by rw[h]) (by first|exact .nil|exact .cons g1 .nil|exact .cons g2 .nil|exact .cons g4 .nil|exact .cons g1 (.cons g1 .nil)|exact .cons mt0 .nil|exact .cons mt1 .nil|exact .cons mt0 (.cons mt0 .nil)|exact .cons mt2 (.cons mt2 .nil)|exact .cons g4 (.cons g1 .nil)|exact .cons g4 (.cons g1 (.cons g1 .nil))) (fun hn had=>by first|exact absurd h hn|(rw[h]; rfl))
 ·exact fx _ _ _ _ (by rw[h]; rfl) (by omega) (by omega) (by rw[h]) (by rw[h]) (by first|exact .nil|exact .cons g1 .nil|exact .cons g2 .nil|exact .cons g4 .nil|exact .cons g1 (.cons g1 .nil)|exact .cons mt0 .nil|exact .cons mt1 .nil|exact .cons mt0 (.cons mt0 .nil)|exact .cons mt2 (.cons mt2 .nil)|exact .cons g4 (.cons g1 .nil)|exact .cons g4 (.cons g1 (.cons g1 .nil))) (fun hn had=>by first|exact absurd h hn|(rw[h]; rfl))
 ·exact fx _ _ _ _ (by rw[h]; rfl) (by omega) (by omega) (by rw[h]) (by rw[h]) (by first|exact .nil|exact .cons g1 .nil|exact .cons g2 .nil|exact .cons g4 .nil|exact .cons g1 (.cons g1 .nil)|exact .cons mt0 .nil|exact .cons mt1 .nil|exact .cons mt0 (.cons mt0 .nil)|exact .cons mt2 (.cons mt2 .nil)|exact .cons g4 (.cons g1 .nil)|exact .cons g4 (.cons g1 (.cons g1 .nil))) (fun hn had=>by first|exact absurd h hn|(rw[h]; rfl))
 ·exact fx _ _ _ _ (by rw[h]; rfl) (by omega) (by omega) (by rw[h]) (by rw[h]) (by first|exact .nil|exact .cons g1 .nil|exact .cons g2 .nil|exact .cons g4 .nil|exact .cons g1 (.cons g1 .nil)|exact .cons mt0 .nil|exact .cons mt1 .nil|exact .cons mt0 (.cons mt0 .nil)|exact .cons mt2 (.cons mt2 .nil)|exact .cons g4 (.cons g1 .nil)|exact .cons g4 (.cons g1 (.cons g1 .nil))) (fun hn had=>by first|exact absurd h hn|(rw[h]; rfl))
 ·exact fx _ _ _ _ (by rw[h]; rfl) (by omega) (by omega) (by rw[h]) (by rw[h]) (by first|exact .nil|exact .cons g1 .nil|exact .cons g2 .nil|exact .cons g4 .nil|exact .cons g1 (.cons g1 .nil)|exact .cons mt0 .nil|exact .cons mt1 .nil|exact .cons mt0 (.cons mt0 .nil)|exact .cons mt2 (.cons mt2 .nil)|exact .cons g4 (.cons g1 .nil)|exact .cons g4 (.cons g1 (.cons g1 .nil))) (fun hn had=>by first|exact absurd h hn|(rw[h]; rfl))
 ·exact fx _ _ _ _ (by rw[h]; rfl) (by omega) (by omega) (by rw[h]) (by rw[h]) (by first|exact .nil|exact .cons g1 .nil|exact .cons g2 .nil|exact .cons g4 .nil|exact .cons g1 (.cons g1 .nil)|exact .cons mt0 .nil|exact .cons mt1 .nil|exact .cons mt0 (.cons mt0 .nil)|exact .cons mt2 (.cons mt2 .nil)|exact .cons g4 (.cons g1 .nil)|exact .cons g4 (.cons g1 (.cons g1 .nil))) (fun hn had=>by first|exact absurd h hn|(rw[h]; rfl))
 ·exact fx _ _ _ _ (by rw[h]; rfl) (by omega) (by omega) (by rw[h]) (by rw[h]) (by first|exact .nil|exact .cons g1 .nil|exact .cons g2 .nil|exact .cons g4 .nil|exact .cons g1 (.cons g1 .nil)|exact .cons mt0 .nil|exact .cons mt1 .nil|exact .cons mt0 (.cons mt0 .nil)|exact .cons mt2 (.cons mt2 .nil)|exact .cons g4 (.cons g1 .nil)|exact .cons g4 (.cons g1 (.cons g1 .nil))) (fun hn had=>by first|exact absurd h hn|(rw[h]; rfl))
 ·exact fx _ _ _ _ (by rw[h]; rfl) (by omega) (by omega) (by rw[h]) (by rw[h]) (by first|exact .nil|exact .cons g1 .nil|exact .cons g2 .nil|exact .cons g4 .nil|exact .cons g1 (.cons g1 .nil)|exact .cons mt0 .nil|exact .cons mt1 .nil|exact .cons mt0 (.cons mt0 .nil)|exact .cons mt2 (.cons mt2 .nil)|exact .cons g4 (.cons g1 .nil)|exact .cons g4 (.cons g1 (.cons g1 .nil))) (fun hn had=>by first|exact absurd h hn|(rw[h]; rfl))
 ·exact fx _ _ _ _ (by rw[h]; rfl) (by omega) (by omega) (by rw[h]) (by rw[h]) (by first|exact .nil|exact .cons g1 .nil|exact .cons g2 .nil|exact .cons g4 .nil|exact .cons g1 (.cons g1 .nil)|exact .cons mt0 .nil|exact .cons mt1 .nil|exact .cons mt0 (.cons mt0 .nil)|exact .cons mt2 (.cons mt2 .nil)|exact .cons g4 (.cons g1 .nil)|exact .cons g4 (.cons g1 (.cons g1 .nil))) (fun hn had=>by first|exact absurd h hn|(rw[h]; rfl))
 ·exact fx _ _ _ _ (by rw[h]; rfl) (by omega) (by omega) (by rw[h]) (by rw[h]) (by first|exact .nil|exact .cons g1 .nil|exact .cons g2 .nil|exact .cons g4 .nil|exact .cons g1 (.cons g1 .nil)|exact .cons mt0 .nil|exact .cons mt1 .nil|exact .cons mt0 (.cons mt0 .nil)|exact .cons mt2 (.cons mt2 .nil)|exact .cons g4 (.cons g1 .nil)|exact .cons g4 (.cons g1 (.cons g1 .nil))) (fun hn had=>by first|exact absurd h hn|(rw[h]; rfl))
 ·exact fx _ _ _ _ (by rw[h]; rfl) (by omega) (by omega) (by rw[h]) (by rw[h]) (by first|exact .nil|exact .cons g1 .nil|exact .cons g2 .nil|exact .cons g4 .nil|exact .cons g1 (.cons g1 .nil)|exact .cons mt0 .nil|exact .cons mt1 .nil|exact .cons mt0 (.cons mt0 .nil)|exact .cons mt2 (.cons mt2 .nil)|exact .cons g4 (.cons g1 .nil)|exact .cons g4 (.cons g1 (.cons g1 .nil))) (fun hn had=>by first|exact absurd h hn|(rw[h]; rfl))
 ·have ht:tlOf i.op.val= .fixed [⟨3,0⟩,⟨3,0⟩] (.const [2]):=by rw[h]; rfl
  rw[ht,op0 (by omega)]
  exact⟨rfl,fun _=>⟨fun h'=>absurd h h',fun _=>rfl,fun had _=>by rw[h]; rfl⟩⟩
 ·exact fx _ _ _ _ (by rw[h]; rfl) (by omega) (by omega) (by rw[h]) (by rw[h]) (by first|exact .nil|exact .cons g1 .nil|exact .cons g2 .nil|exact .cons g4 .nil|exact .cons g1 (.cons g1 .nil)|exact .cons mt0 .nil|exact .cons mt1 .nil|exact .cons mt0 (.cons mt0 .nil)|exact .cons mt2 (.cons mt2 .nil)|exact .cons g4 (.cons g1 .nil)|exact .cons g4 (.cons g1 (.cons g1 .nil))) (fun hn had=>by first|exact absurd h hn|(rw[h]; rfl))
 ·exact fx _ _ _ _ (by rw[h]; rfl) (by omega) (by omega) (by rw[h]) (by rw[h]) (by first|exact .nil|exact .cons g1 .nil|exact .cons g2 .nil|exact .cons g4 .nil|exact .cons g1 (.cons g1 .nil)|exact .cons mt0 .nil|exact .cons mt1 .nil|exact .cons mt0 (.cons mt0 .nil)|exact .cons mt2 (.cons mt2 .nil)|exact .cons g4 (.cons g1 .nil)|exact .cons g4 (.cons g1 (.cons g1 .nil))) (fun hn had=>by first|exact absurd h hn|(rw[h]; rfl))
 ·exact fx _ _ _ _ (by rw[h]; rfl) (by omega) (by omega) (by rw[h]) (by rw[h]) (by first|exact .nil|exact .cons g1 .nil|exact .cons g2 .nil|exact .cons g4 .nil|exact .cons g1 (.cons g1 .nil)|exact .cons mt0 .nil|exact .cons mt1 .nil|exact .cons mt0 (.cons mt0 .nil)|exact .cons mt2 (.cons mt2 .nil)|exact .cons g4 (.cons g1 .nil)|exact .cons g4 (.cons g1 (.cons g1 .nil))) (fun hn had=>by first|exact absurd h hn|(rw[h]; rfl))
 ·exact fx _ _ _ _ (by rw[h]; rfl) (by omega) (by omega) (by rw[h]) (by rw[h]) (by first|exact .nil|exact .cons g1 .nil|exact .cons g2 .nil|exact .cons g4 .nil|exact .cons g1 (.cons g1 .nil)|exact .cons mt0 .nil|exact .cons mt1 .nil|exact .cons mt0 (.cons mt0 .nil)|exact .cons mt2 (.cons mt2 .nil)|exact .cons g4 (.cons g1 .nil)|exact .cons g4 (.cons g1 (.cons g1 .nil))) (fun hn had=>by first|exact absurd h hn|(rw[h]; rfl))
 ·have ht:tlOf i.op.val= .call:=by rw[h]; rfl
  rw[ht]
  simp only[tellF]
  by_cases hq:0≤i.a∧i.a.toNat<e.sgs.length
  ·rw[dif_pos hq,opnd_eq_call h,if_pos hq]
   have hget:e.sgs[i.a.toNat]? =some e.sgs[i.a.toNat]:=List.getElem?_eq_getElem hq.2
   have hsg:=canB_sig hcan (List.getElem_mem hq.2)
   generalize e.sgs[i.a.toNat]=s at *
   refine⟨rfl,fun _=>⟨fun _=> ?_,fun h'=>by omega,fun had _=> ?_⟩⟩
   ·rw[h,show takesO e i 21=((e.sgs[i.a.toNat]?).map Sg.ps).getD [] from rfl,hget]
    exact mt_map fun t ht=>stored_lt h32 (hsg.1 t ht)
   ·rw[h,if_neg (show ¬(21:Nat)=7 by omega),if_neg (show ¬(21:Nat)=8 by omega),show givesO e i 21=((e.sgs[i.a.toNat]?).map fun s=>someR s.r).getD [] from rfl,hget]
    simp only[givesV,Option.map_some,Option.getD_some,someR]
  ·rw[dif_neg hq,opnd_eq_call h,if_neg hq]
   exact⟨rfl,fun h'=>by cases h'⟩
 ·have ht:tlOf i.op.val= .ret:=by rw[h]; rfl
  rw[ht,op0 (by omega)]
  simp only[tellF,dif_pos hc.fn1]
  have hget:e.sgs[e.fn.toNat]? =some (e.sgs[e.fn.toNat]'hc.fn1):=List.getElem?_eq_getElem hc.fn1
  have hsg:=canB_sig hcan (List.getElem_mem hc.fn1)
  generalize e.sgs[e.fn.toNat]'hc.fn1=s at *
  refine⟨trivial,fun _=>⟨fun _=> ?_,fun h'=>by omega,fun had _=>by rw[h]; rfl⟩⟩
  rw[h,show takesO e i 22=((e.sgs[e.fn.toNat]?).map fun s=>someR s.r).getD [] from rfl,hget]
  simp only[Option.map_some,Option.getD_some,someR]
  split
  ·exact .nil
  ·rename_i h0
   exact .cons (mt4 (stored_lt h32 (hsg.2.resolve_left h0))) .nil
 ·have ht:tlOf i.op.val= .classed [] true:=by rw[h]; rfl
  rw[ht]
  simp only[tellF]
  by_cases hq:0≤i.a∧i.a<e.cs.length
  ·rw[if_neg (show ¬(i.a<0∨(e.cs.length:Int)≤i.a) by omega),opnd_eq_cls (by omega),if_pos hq]
   exact⟨rfl,fun _=>⟨fun _=>by rw[h]; exact .nil,fun h'=>by omega,fun had _=>by rw[h]; rfl⟩⟩
  ·rw[if_pos (show i.a<0∨(e.cs.length:Int)≤i.a by omega),opnd_eq_cls (by omega),if_neg hq]
   exact⟨rfl,fun h'=>by cases h'⟩
 ·have ht:tlOf i.op.val= .field false:=by rw[h]; rfl
  rw[ht]
  simp only[tellF]
  by_cases hq:(0≤i.a∧i.a<e.cs.length)∧0≤i.b∧i.b.toNat<(fieldsOn e.cs (upI e.cs i.a).reverse).length
  ·rw[dif_pos hq,opnd_eq_fld (by omega),if_pos hq]
   have hmem:(fieldsOn e.cs (upI e.cs i.a).reverse)[i.b.toNat]'hq.2.2∈flds e i:=List.getElem_mem _
   have hget:(flds e i)[i.b.toNat]? =some ((fieldsOn e.cs (upI e.cs i.a).reverse)[i.b.toNat]'hq.2.2):=List.getElem?_eq_getElem hq.2.2
   have hlt:=flds_lt hc hmem
   have hne:=flds_stored hc hmem
   generalize (fieldsOn e.cs (upI e.cs i.a).reverse)[i.b.toNat]'hq.2.2=fd at *
   refine⟨rfl,fun _=>⟨fun _=> ?_,fun h'=>by omega,fun had _=> ?_⟩⟩
   ·rw[h]; exact .cons (mt4 (ofClass_lt hc hq.1.2)) .nil
   ·rw[h]; rw[show givesO e i 24=(((flds e i)[i.b.toNat]?).map fun f=>someR f.ty).getD [] from rfl,hget]
    simp only[Bool.false_eq_true,if_false,givesV,Option.map_some,Option.getD_some,someR]
    rw[if_neg hne]; rfl
  ·rw[dif_neg hq,opnd_eq_fld (by omega),if_neg hq]
   exact⟨rfl,fun h'=>by cases h'⟩
 ·have ht:tlOf i.op.val= .field true:=by rw[h]; rfl
  rw[ht]
  simp only[tellF]
  by_cases hq:(0≤i.a∧i.a<e.cs.length)∧0≤i.b∧i.b.toNat<(fieldsOn e.cs (upI e.cs i.a).reverse).length
  ·rw[dif_pos hq,opnd_eq_fld (by omega),if_pos hq]
   have hmem:(fieldsOn e.cs (upI e.cs i.a).reverse)[i.b.toNat]'hq.2.2∈flds e i:=List.getElem_mem _
   have hget:(flds e i)[i.b.toNat]? =some ((fieldsOn e.cs (upI e.cs i.a).reverse)[i.b.toNat]'hq.2.2):=List.getElem?_eq_getElem hq.2.2
   have hlt:=flds_lt hc hmem
   have hne:=flds_stored hc hmem
   generalize (fieldsOn e.cs (upI e.cs i.a).reverse)[i.b.toNat]'hq.2.2=fd at *
   refine⟨rfl,fun _=>⟨fun _=> ?_,fun h'=>by omega,fun had _=> ?_⟩⟩
   ·rw[h]; rw[show takesO e i 25=[ofClass i.a,(((flds e i)[i.b.toNat]?).map Fd.ty).getD 0] from rfl,hget]
    exact .cons (mt4 (ofClass_lt hc hq.1.2)) (.cons (mt4 hlt) .nil)
   ·rw[h]; rfl
  ·rw[dif_neg hq,opnd_eq_fld (by omega),if_neg hq]
   exact⟨rfl,fun h'=>by cases h'⟩
 ·exact fx _ _ _ _ (by rw[h]; rfl) (by omega) (by omega) (by rw[h]) (by rw[h]) (by first|exact .nil|exact .cons g1 .nil|exact .cons g2 .nil|exact .cons g4 .nil|exact .cons g1 (.cons g1 .nil)|exact .cons mt0 .nil|exact .cons mt1 .nil|exact .cons mt0 (.cons mt0 .nil)|exact .cons mt2 (.cons mt2 .nil)|exact .cons g4 (.cons g1 .nil)|exact .cons g4 (.cons g1 (.cons g1 .nil))) (fun hn had=>by first|exact absurd h hn|(rw[h]; rfl))
 ·exact fx _ _ _ _ (by rw[h]; rfl) (by omega) (by omega) (by rw[h]) (by rw[h]) (by first|exact .nil|exact .cons g1 .nil|exact .cons g2 .nil|exact .cons g4 .nil|exact .cons g1 (.cons g1 .nil)|exact .cons mt0 .nil|exact .cons mt1 .nil|exact .cons mt0 (.cons mt0 .nil)|exact .cons mt2 (.cons mt2 .nil)|exact .cons g4 (.cons g1 .nil)|exact .cons g4 (.cons g1 (.cons g1 .nil))) (fun hn had=>by first|exact absurd h hn|(rw[h]; rfl))
 ·exact fx _ _ _ _ (by rw[h]; rfl) (by omega) (by omega) (by rw[h]) (by rw[h]) (by first|exact .nil|exact .cons g1 .nil|exact .cons g2 .nil|exact .cons g4 .nil|exact .cons g1 (.cons g1 .nil)|exact .cons mt0 .nil|exact .cons mt1 .nil|exact .cons mt0 (.cons mt0 .nil)|exact .cons mt2 (.cons mt2 .nil)|exact .cons g4 (.cons g1 .nil)|exact .cons g4 (.cons g1 (.cons g1 .nil))) (fun hn had=>by first|exact absurd h hn|(rw[h]; rfl))
 ·exact fx _ _ _ _ (by rw[h]; rfl) (by omega) (by omega) (by rw[h]) (by rw[h]) (by first|exact .nil|exact .cons g1 .nil|exact .cons g2 .nil|exact .cons g4 .nil|exact .cons g1 (.cons g1 .nil)|exact .cons mt0 .nil|exact .cons mt1 .nil|exact .cons mt0 (.cons mt0 .nil)|exact .cons mt2 (.cons mt2 .nil)|exact .cons g4 (.cons g1 .nil)|exact .cons g4 (.cons g1 (.cons g1 .nil))) (fun hn had=>by first|exact absurd h hn|(rw[h]; rfl))
 ·have ht:tlOf i.op.val= .classed [⟨2,0⟩] true:=by rw[h]; rfl
  rw[ht]
  simp only[tellF]
  by_cases hq:0≤i.a∧i.a<e.cs.length
  ·rw[if_neg (show ¬(i.a<0∨(e.cs.length:Int)≤i.a) by omega),opnd_eq_cls (by omega),if_pos hq]
   exact⟨rfl,fun _=>⟨fun _=>by rw[h]; exact .cons mt2 .nil,fun h'=>by omega,fun had _=>by rw[h]; rfl⟩⟩
  ·rw[if_pos (show i.a<0∨(e.cs.length:Int)≤i.a by omega),opnd_eq_cls (by omega),if_neg hq]
   exact⟨rfl,fun h'=>by cases h'⟩
 ·have ht:tlOf i.op.val= .classed [⟨2,0⟩] false:=by rw[h]; rfl
  rw[ht]
  simp only[tellF]
  by_cases hq:0≤i.a∧i.a<e.cs.length
  ·rw[if_neg (show ¬(i.a<0∨(e.cs.length:Int)≤i.a) by omega),opnd_eq_cls (by omega),if_pos hq]
   exact⟨rfl,fun _=>⟨fun _=>by rw[h]; exact .cons mt2 .nil,fun h'=>by omega,fun had _=>by rw[h]; rfl⟩⟩
  ·rw[if_pos (show i.a<0∨(e.cs.length:Int)≤i.a by omega),opnd_eq_cls (by omega),if_neg hq]
   exact⟨rfl,fun h'=>by cases h'⟩
 ·exact fx _ _ _ _ (by rw[h]; rfl) (by omega) (by omega) (by rw[h]) (by rw[h]) (by first|exact .nil|exact .cons g1 .nil|exact .cons g2 .nil|exact .cons g4 .nil|exact .cons g1 (.cons g1 .nil)|exact .cons mt0 .nil|exact .cons mt1 .nil|exact .cons mt0 (.cons mt0 .nil)|exact .cons mt2 (.cons mt2 .nil)|exact .cons g4 (.cons g1 .nil)|exact .cons g4 (.cons g1 (.cons g1 .nil))) (fun hn had=>by first|exact absurd h hn|(rw[h]; rfl))
 ·exact fx _ _ _ _ (by rw[h]; rfl) (by omega) (by omega) (by rw[h]) (by rw[h]) (by first|exact .nil|exact .cons g1 .nil|exact .cons g2 .nil|exact .cons g4 .nil|exact .cons g1 (.cons g1 .nil)|exact .cons mt0 .nil|exact .cons mt1 .nil|exact .cons mt0 (.cons mt0 .nil)|exact .cons mt2 (.cons mt2 .nil)|exact .cons g4 (.cons g1 .nil)|exact .cons g4 (.cons g1 (.cons g1 .nil))) (fun hn had=>by first|exact absurd h hn|(rw[h]; rfl))
theorem apply_eq (e:En) (f:Fr) (i:Ins) (hw:WideE e):applyF e f i=applyR e f i:=by
 unfold applyF applyR
 cases hcan:canB e
 ·rfl
 simp only[Bool.true_eq_false,if_false]
 by_cases hck:checkF e.cs.length f=0
 case neg=>rw[if_pos hck,if_pos hck]
 have nck:¬checkF e.cs.length f≠0:=fun h=>h hck
 rw[if_neg nck,if_neg nck]
 by_cases h34:34≤i.op.val
 ·have:(toldF e i).2=40:=by rw[toldF,if_pos h34]
  rw[if_pos (show(toldF e i).2≠0 by omega),if_pos h34,this]
 obtain⟨h1,h2⟩:=told_agree e i hw hcan (by omega)
 rw[if_neg h34,h1]
 have hop:locOp i→opndF e i=0:=fun h=>by unfold locOp at h; rw[opndF,if_neg (by omega),if_neg (by omega),if_neg (by omega)]
 by_cases hl:locOp i∧¬(0≤i.a∧i.a<f.loc)
 ·rw[if_neg (show ¬opndF e i≠0 from fun h=>h (hop hl.1)),if_pos hl,if_pos hl]
 rw[if_neg hl,if_neg hl]
 by_cases h0:opndF e i=0
 case neg=>rw[if_pos h0,if_pos h0]
 have n0:¬opndF e i≠0:=fun h=>h h0
 rw[if_neg n0,if_neg n0]
 have ha:=h2 h0
 generalize (toldF e i).1=F at *
 have hlen:F.takes.length=(takesO e i i.op.val).length:=by
  by_cases h16:i.op.val=16
  ·rw[ha.same h16,h16]; rfl
  ·exact(ha.takes h16).length_eq
 unfold applyIn
 by_cases hh:f.h<(takesO e i i.op.val).length
 ·have:takenF e.cs f F.takes=([],30):=by rw[takenF,hlen,if_pos hh]
  rw[this,if_pos hh,if_pos (by simp)]
 rw[if_neg hh]
 have htk:takenF e.cs f F.takes=if fitsAll e.cs F.takes (hadL f F.takes.length)=false then([],70) else(hadL f F.takes.length,0):=by rw[takenF,hlen,if_neg hh]
 have hfw:fitsAll e.cs F.takes (hadL f F.takes.length)=true↔wantedAll e.cs (takesO e i i.op.val) (hadL f (takesO e i i.op.val).length)=true∧¬(i.op.val=16∧sameB (hadL f 2)=false):=by
  by_cases h16:i.op.val=16
  ·rw[ha.same h16,h16,show takesO e i 16=[255,255] from rfl]
   have e1:fitsAll e.cs [⟨3,0⟩,⟨3,0⟩] (hadL f 2)=sameB (hadL f 2):=fitsAll_same _ _
   have e2:wantedAll e.cs [255,255] (hadL f 2)=true:=wantedAll_any _ _
   simp only[List.length_cons,List.length_nil,e1,e2]
   simp
  ·rw[fitsAll_wanted (ha.takes h16),hlen]; simp[h16]
 by_cases hf:fitsAll e.cs F.takes (hadL f F.takes.length)=true
 case neg=>
  have hf':fitsAll e.cs F.takes (hadL f F.takes.length)=false:=by simpa using hf
  rw[htk,if_pos hf',if_pos (by simp)]
  by_cases hwa:wantedAll e.cs (takesO e i i.op.val) (hadL f (takesO e i i.op.val).length)=false
  ·rw[if_pos hwa]
  ·rw[if_neg hwa,if_pos (Classical.byContradiction fun hn=>hf (hfw.2 ⟨by simpa using hwa,hn⟩))]
 obtain⟨w1,w2⟩:=hfw.1 hf
 have nf:¬fitsAll e.cs F.takes (hadL f F.takes.length)=false:=fun h=>by rw[hf] at h; cases h
 have nw:¬wantedAll e.cs (takesO e i i.op.val) (hadL f (takesO e i i.op.val).length)=false:=fun h=>by rw[w1] at h; cases h
 rw[if_neg nf,hlen] at htk
 rw[htk]
 rw[if_neg nw,if_neg w2]
 simp only[ne_eq,not_true_eq_false,if_false]
 by_cases o4:i.op.val=4
 ·rw[if_pos o4]
  by_cases hz:slAt f i.a.toNat=0
  ·rw[if_pos hz,if_pos ⟨o4,hz⟩]
  ·rw[if_neg hz,if_neg (fun h=>hz h.2),givesR,if_pos o4]
 ·rw[if_neg o4,if_neg (fun h=>o4 h.1),ha.gives _ o4,givesR,if_neg o4]
open Go.Proofs
open Go.Proofs
open Go.Proofs
theorem upI_trans {l:List Cl}:∀(n:Nat) (c:Int),c<n→∀k∈upI l c,∀x∈upI l k,x∈upI l c
 |0,c,h,k,hk,x,hx=>by rw[upI_neg (by omega)] at hk; cases hk
 |n+1,c,h,k,hk,x,hx=>by
  by_cases h0:c<0
  ·rw[upI_neg h0] at hk; cases hk
  obtain⟨m,rfl⟩:∃m:Nat,c=m:=⟨c.toNat,by omega⟩
  by_cases hm:m<l.length
  ·rw[upI_step hm] at hk ⊢
   rcases List.mem_cons.1 hk with rfl|hk
   ·rw[upI_step hm] at hx; exact hx
   ·by_cases hp:l[m].parent<m
    ·rw[if_pos hp] at hk ⊢
     exact List.mem_cons_of_mem _ (upI_trans n _ (by omega) k hk x hx)
    ·rw[if_neg hp] at hk; cases hk
  ·rw[upI_out (by omega)] at hk; cases hk
theorem subB_valid {l:List Cl} {a b:Ty} (h:subB l a b=true):validN l.length a=true∧validN l.length b=true:=by
 unfold subB at h
 split at h
 ·cases h
 ·rename_i h1
  cases ha:validN l.length a
  ·exact absurd (.inl ha) h1
  cases hb:validN l.length b
  ·exact absurd (.inr hb) h1
  exact⟨rfl,rfl⟩
theorem subB_refl {l:List Cl} {a:Ty} (h:validN l.length a=true):subB l a a=true:=by
 rw[subB,if_neg (by simp[h]),if_pos (.inl rfl)]
def SubP (l:List Cl) (a b:Ty):Prop:=
 a=b∨b.val=0∨((a.val=3∨b.val=5)∧isRefB a=true∧isRefB b=true)∨(16≤a.val∧16≤b.val∧(b.val-16)∈upI l ((a.val:Int)-16))
theorem subB_iff {l:List Cl} {a b:Ty} (ha:validN l.length a=true) (hb:validN l.length b=true):subB l a b=true↔SubP l a b:=by
 have key:∀h16:16≤b.val,((upI l ((a.val:Int)-16)).any fun k=>decide ((k:Int)=(b.val:Int)-16))=true↔(b.val-16)∈upI l ((a.val:Int)-16):=fun h16=>by
  rw[List.any_eq_true]
  constructor
  ·rintro⟨k,hk,hd⟩
   have:k=b.val-16:=by simp at hd; omega
   rw[←this]; exact hk
  ·intro h; exact⟨_,h,by simp; omega⟩
 unfold subB SubP
 rw[if_neg (by simp[ha,hb])]
 by_cases h1:a=b∨b.val=0
 ·rw[if_pos h1]
  simp only[true_iff]
  rcases h1 with h|h
  ·exact .inl h
  ·exact .inr (.inl h)
 rw[if_neg h1]
 simp only[not_or] at h1
 by_cases h2:a.val=3∨b.val=5
 ·rw[if_pos h2]
  simp only[Bool.and_eq_true]
  constructor
  ·intro h; exact .inr (.inr (.inl ⟨h2,h⟩))
  ·rintro(h|h|⟨_,h⟩|⟨h3,h4,h5⟩)
   ·exact absurd h h1.1
   ·exact absurd h h1.2
   ·exact h
   ·omega
 rw[if_neg h2]
 simp only[Bool.and_eq_true,decide_eq_true_eq]
 constructor
 ·rintro⟨⟨h3,h4⟩,h5⟩
  exact .inr (.inr (.inr ⟨h3,h4,(key h4).1 h5⟩))
 ·rintro(h|h|⟨h,_⟩|⟨h3,h4,h5⟩)
  ·exact absurd h h1.1
  ·exact absurd h h1.2
  ·exact absurd h h2
  ·exact⟨⟨h3,h4⟩,(key h4).2 h5⟩
theorem isRef_iff {t:Ty}:isRefB t=true↔t.val=3∨t.val=4∨t.val=5∨16≤t.val:=by simp[isRefB]
theorem subB_trans {l:List Cl} {a b c:Ty} (h1:subB l a b=true) (h2:subB l b c=true):subB l a c=true:=by
 obtain⟨va,vb⟩:=subB_valid h1
 obtain⟨_,vc⟩:=subB_valid h2
 rw[subB_iff va vb] at h1
 rw[subB_iff vb vc] at h2
 rw[subB_iff va vc]
 rcases h1 with rfl|h1|⟨h1,h3,h4⟩|⟨h1,h3,h4⟩
 ·exact h2
 ·rcases h2 with rfl|h2|⟨h2,h5,h6⟩|⟨h2,h5,h6⟩
  ·exact .inr (.inl h1)
  ·exact .inr (.inl h2)
  ·rw[isRef_iff] at h5; omega
  ·omega
 ·rcases h2 with rfl|h2|⟨h2,h5,h6⟩|⟨h2,h5,h6⟩
  ·exact .inr (.inr (.inl ⟨h1,h3,h4⟩))
  ·exact .inr (.inl h2)
  ·rcases h1 with h1|h1
   ·exact .inr (.inr (.inl ⟨.inl h1,h3,h6⟩))
   ·rcases h2 with h2|h2
    ·omega
    ·exact .inr (.inr (.inl ⟨.inr h2,h3,h6⟩))
  ·rcases h1 with h1|h1
   ·exact .inr (.inr (.inl ⟨.inl h1,h3,isRef_iff.2 (by omega)⟩))
   ·
    simp only[validN,decide_eq_true_eq] at vb
    omega
 ·rcases h2 with rfl|h2|⟨h2,h5,h6⟩|⟨h2,h5,h6⟩
  ·exact .inr (.inr (.inr ⟨h1,h3,h4⟩))
  ·exact .inr (.inl h2)
  ·rcases h2 with h2|h2
   ·omega
   ·exact .inr (.inr (.inl ⟨.inr h2,isRef_iff.2 (by omega),h6⟩))
  ·refine .inr (.inr (.inr ⟨h1,h5, ?_⟩))
   rw[show((b.val:Int)-16)=((b.val-16:Nat):Int) by omega] at h6
   exact upI_trans a.val _ (by omega) _ h4 _ h6
theorem slAt_set (f:Fr) {a:Int} {t:Ty} {i:Nat} (h:i<24) (ha:a.toNat<24):slAt (setF f a t) i=if i=a.toNat then t else slAt f i:=by
 rw[slAt_lt _ h,slAt_lt _ h]
 simp only[setF,dif_pos ha,Vector.getElem_set]
 by_cases he:a.toNat=i
 ·rw[if_pos he,if_pos he.symm]
 ·rw[if_neg he,if_neg (fun h=>he h.symm)]
theorem fr_ext {f g:Fr} (h1:f.loc=g.loc) (h2:f.h=g.h) (h3:∀i,i<24→slAt f i=slAt g i):f=g:=by
 obtain⟨a,b,c⟩:=f
 obtain⟨a',b',c'⟩:=g
 simp only at h1 h2
 subst h1; subst h2
 simp only[Fr.mk.injEq,true_and]
 apply Vector.ext
 intro i hi
 have:=h3 i hi
 rw[slAt_lt _ hi,slAt_lt _ hi] at this
 exact this
theorem checkF_iff {n:Nat} {f:Fr}:checkF n f=0↔shapedB f=true∧bareF f=f∧∀i,i<24→validN n (slAt f i)=true:=by
 have hv:(f.sl.toList.any fun t=> !validN n t)=false↔∀i,i<24→validN n (slAt f i)=true:=by
  rw[List.any_eq_false]
  constructor
  ·intro h i hi
   have:=h (slAt f i) (by rw[slAt_lt f hi]; simp)
   simpa using this
  ·intro h t ht
   obtain⟨j,hj,rfl⟩:=List.mem_iff_getElem.1 ht
   have hj24:j<24:=by simpa using hj
   have:=h j hj24
   rw[slAt_lt f hj24] at this
   simpa using this
 rw[←hv]
 unfold checkF
 cases hs:shapedB f
 ·simp
 by_cases hb:bareF f=f
 ·rw[if_neg (by simp[hb])]
  cases (f.sl.toList.any fun t=> !validN n t) <;> simp[hb]
 ·rw[if_pos (.inr hb)]; simp[hb]
open Go.Proofs
open Go.Proofs
open Go.Proofs
def c21:CT (Tryz.f21.body.getD .skip):=⟨_,by conv=>lhs; cbv⟩
theorem F21:Fun1 Tryz.prog 21 13 c21.1 [.tmp 2]:=mkT Tryz.func21 rfl (by decide +kernel) Tryz.ntmps21 rfl c21.2 rfl
def c85:CT (Tryz.f85.body.getD .skip):=⟨_,by conv=>lhs; cbv⟩
theorem F85:Fun1 Tryz.prog 85 13 c85.1 [.tmp 2]:=mkT Tryz.func85 rfl (by decide +kernel) Tryz.ntmps85 rfl c85.2 rfl
open Go.Proofs
def c206:CT (Tryz.f206.body.getD .skip):=⟨_,by conv=>lhs; cbv⟩
theorem F206:Fun1 Tryz.prog 206 33 c206.1 [.tmp 6]:=mkT Tryz.func206 rfl (by decide +kernel) Tryz.ntmps206 rfl c206.2 rfl
def c82:CT (Tryz.f82.body.getD .skip):=⟨_,by conv=>lhs; cbv⟩
theorem F82:Fun1 Tryz.prog 82 84 c82.1 [.cell 4 38,.tmp 5]:=mkT Tryz.func82 rfl (by decide +kernel) Tryz.ntmps82 rfl c82.2 rfl
def c127:CT (Tryz.f127.body.getD .skip):=⟨_,by conv=>lhs; cbv⟩
theorem F127:Fun1 Tryz.prog 127 30 c127.1 [.tmp 3]:=mkT Tryz.func127 rfl (by decide +kernel) Tryz.ntmps127 rfl c127.2 rfl
def c83:CT (Tryz.f83.body.getD .skip):=⟨_,by conv=>lhs; cbv⟩
theorem F83:Fun1 Tryz.prog 83 9 c83.1 [.tmp 2]:=mkT Tryz.func83 rfl (by decide +kernel) Tryz.ntmps83 rfl c83.2 rfl
def c19:CT (Tryz.f19.body.getD .skip):=⟨_,by conv=>lhs; cbv⟩
theorem F19:Fun1 Tryz.prog 19 73 c19.1 [.cell 4 38,.tmp 5]:=mkT Tryz.func19 rfl (by decide +kernel) Tryz.ntmps19 rfl c19.2 rfl
def c64:CT (Tryz.f64.body.getD .skip):=⟨_,by conv=>lhs; cbv⟩
theorem F64:Fun1 Tryz.prog 64 29 c64.1 [.tmp 4]:=mkT Tryz.func64 rfl (by decide +kernel) Tryz.ntmps64 rfl c64.2 rfl
def c22:CT (Tryz.f22.body.getD .skip):=⟨_,by conv=>lhs; cbv⟩
theorem F22:Fun1 Tryz.prog 22 9 c22.1 [.tmp 2]:=mkT Tryz.func22 rfl (by decide +kernel) Tryz.ntmps22 rfl c22.2 rfl
open Go.Proofs
open Go.Proofs
open Go.Proofs
open Go.Proofs
def c17:CT (Tryz.f17.body.getD .skip):=⟨_,by conv=>lhs; cbv⟩
theorem F17:Fun1 Tryz.prog 17 8 c17.1 [.tmp 2]:=mkT Tryz.func17 rfl (by decide +kernel) Tryz.ntmps17 rfl c17.2 rfl
def c27:CT (Tryz.f27.body.getD .skip):=⟨_,by conv=>lhs; cbv⟩
theorem F27:Fun1 Tryz.prog 27 14 c27.1 [.tmp 2,.tmp 3]:=mkT Tryz.func27 rfl (by decide +kernel) Tryz.ntmps27 rfl c27.2 rfl
def c30:CT (Tryz.f30.body.getD .skip):=⟨_,by conv=>lhs; cbv⟩
theorem F30:Fun1 Tryz.prog 30 44 c30.1 [.tmp 4]:=mkT Tryz.func30 rfl (by decide +kernel) Tryz.ntmps30 rfl c30.2 rfl
def c45:CT (Tryz.f45.body.getD .skip):=⟨_,by conv=>lhs; cbv⟩
theorem F45:Fun1 Tryz.prog 45 26 c45.1 [.tmp 4]:=mkT Tryz.func45 rfl (by decide +kernel) Tryz.ntmps45 rfl c45.2 rfl
open Go.Proofs
open Go.Proofs
open Go.Proofs
open Go.Proofs
open Go.Proofs
def c220:AC:=
.seq (rg [oO 3 (.box 22 (tT 0)),oO 6 (.assign (kB 0))])
 (.seq (.block 0 (.seq (rg [oO 11 (.load 22 (tT 3)),oO 12 (.move (tT 1)),oO 13 (cF (.func 139) #[tT 11,tT 12] #[22,81]),oO 14 (.unOp .not 4 (tT 13)),oO 15 (.move (tT 14)),oG 16 (.load 22 (tT 3)) 15 false,oG 17 (.move (tT 2)) 15 false,oG 18 (cF (.func 139) #[tT 16,tT 17] #[22,81]) 15 false,oG 19 (.unOp .not 4 (tT 18)) 15 false,oO 20 (.pick (tT 15) (.const (.bool true)) (tT 19)),oO 10 (.assign (tT 20))])
 (.cond (tT 10) (.seq (rg [oO 6 (.assign (kB 0))])
 (.ret))
 (.seq (rg [oO 22 (.load 22 (tT 3)),oO 23 (.move (tT 1)),oO 24 (.move (tT 2)),oO 25 (cF (.func 207) #[tT 22,tT 23,tT 24] #[22,81,81]),oO 21 (.assign (tT 25))])
 (.cond (tT 21) (.seq (rg [oO 26 (.move (tT 2)),oO 6 (.assign (tT 26))])
 (.ret))
 (.seq (rg [oO 28 (.load 22 (tT 3)),oO 29 (.move (tT 2)),oO 30 (.move (tT 1)),oO 31 (cF (.func 207) #[tT 28,tT 29,tT 30] #[22,81,81]),oO 27 (.assign (tT 31))])
 (.cond (tT 27) (.seq (rg [oO 32 (.move (tT 1)),oO 6 (.assign (tT 32))])
 (.ret))
 (.seq (rg [oO 34 (.move (tT 1)),oO 35 (cF (.func 227) #[tT 34] #[81]),oO 36 (.unOp .not 4 (tT 35)),oO 37 (.move (tT 36)),oG 38 (.move (tT 2)) 37 false,oG 39 (cF (.func 227) #[tT 38] #[81]) 37 false,oG 40 (.unOp .not 4 (tT 39)) 37 false,oO 41 (.pick (tT 37) (.const (.bool true)) (tT 40)),oO 33 (.assign (tT 41))])
 (.cond (tT 33) (.seq (rg [oO 6 (.assign (kB 0))])
 (.ret))
 (.skip))))))))))
 (.seq (rg [oO 7 (.alloc 81),oN (.store 81 (tT 7) (kB 5))])
 (.seq (.seq (.reg true [3] [⟨⟨some 42,.load 22 (tT 3),none⟩,false,true⟩,⟨⟨some 43,.move (tT 1),none⟩,false,true⟩,⟨⟨some 44,cF (.func 170) #[tT 42,tT 43] #[22,81],none⟩,false,true⟩,⟨⟨some 45,.load 22 (tT 3),none⟩,true,true⟩,⟨⟨some 46,.move (tT 2),none⟩,true,true⟩,⟨⟨some 47,cF (.func 170) #[tT 45,tT 46] #[22,81],none⟩,false,true⟩,⟨⟨some 9,.alloc 3,none⟩,true,false⟩])
 (rg [oO 8 (.assign (tT 44)),oN (.store 3 (tT 9) (tT 47))]))
 (.seq (.seq (rg [oO 48 (.move (tT 8)),oO 49 (.binOp .geq 3 (tT 48) (kI 0) 3),oO 50 (.move (tT 49)),oG 51 (.load 3 (tT 9)) 50 true,oG 52 (.binOp .geq 3 (tT 51) (kI 0) 3) 50 true,oO 53 (.pick (tT 50) (tT 52) (.const (.bool false)))])
 (.cond (tT 53) (rg [oO 54 (.load 22 (tT 3)),oO 55 (.move (tT 8)),oO 56 (.makeFunc (.func 239) #[] #[tT 3,tT 9,tT 7]),oO 57 (cF (.func 189) #[tT 54,tT 55,tT 56] #[22,3,188])])
 (.skip)))
 (.seq (rg [oO 58 (.load 81 (tT 7)),oO 6 (.assign (tT 58))])
 .ret)))))
theorem F220:Fun1 Tryz.prog 220 59 c220 [.tmp 6]:=mkT Tryz.func220 rfl (by decide +kernel) Tryz.ntmps220 rfl (by kernel_rfl) rfl
def c239:CT (Tryz.f239.body.getD .skip):=⟨_,by conv=>lhs; cbv⟩
theorem F239:Fun1 Tryz.prog 239 13 c239.1 [.tmp 5]:=mkT Tryz.func239 rfl (by decide +kernel) Tryz.ntmps239 rfl c239.2 rfl
def c186:CT (Tryz.f186.body.getD .skip):=⟨_,by conv=>lhs; cbv⟩
theorem F186:Fun1 Tryz.prog 186 41 c186.1 [.tmp 6]:=mkT Tryz.func186 rfl (by decide +kernel) Tryz.ntmps186 rfl c186.2 rfl
def c219:CT (Tryz.f219.body.getD .skip):=⟨_,by conv=>lhs; cbv⟩
theorem F219:Fun1 Tryz.prog 219 19 c219.1 [.tmp 2]:=mkT Tryz.func219 rfl (by decide +kernel) Tryz.ntmps219 rfl c219.2 rfl
def c192:CT (Tryz.f192.body.getD .skip):=⟨_,by conv=>lhs; cbv⟩
theorem F192:Fun1 Tryz.prog 192 41 c192.1 [.cell 6 84,.tmp 7]:=mkT Tryz.func192 rfl (by decide +kernel) Tryz.ntmps192 rfl c192.2 rfl
def c151:CT (Tryz.f151.body.getD .skip):=⟨_,by conv=>lhs; cbv⟩
theorem F151:Fun1 Tryz.prog 151 61 c151.1 [.cell 6 84,.tmp 7]:=mkT Tryz.func151 rfl (by decide +kernel) Tryz.ntmps151 rfl c151.2 rfl
open Go.Proofs
def mergeT (l:List Cl) (a b:Ty):Ty:=
 if validN l.length a=false∨validN l.length b=false then 0
 else if subB l a b=true then b
 else if subB l b a=true then a
 else if isRefB a=false∨isRefB b=false then 0
 else match (upI l (clsOf l.length a)).find? fun k:Nat=>(upI l (clsOf l.length b)).any fun j=>decide ((j:Int)=(k:Int)) with
  |some k=>ofClass k
  |none=>5
theorem up_le {l:List Cl}:∀(n:Nat) (c:Int),c<n→∀k∈upI l c,(k:Int)≤c∧k<l.length
 |0,c,h,k,hk=>by rw[upI_neg (by omega)] at hk; cases hk
 |n+1,c,h,k,hk=>by
  by_cases h0:c<0
  ·rw[upI_neg h0] at hk; cases hk
  by_cases h1:(l.length:Int)≤c
  ·rw[upI_out h1] at hk; cases hk
  obtain⟨c,rfl⟩:∃c':Nat,c=c':=⟨c.toNat,by omega⟩
  have hc:c<l.length:=by omega
  rw[upI_step hc] at hk
  rcases List.mem_cons.1 hk with rfl|hk
  ·exact⟨by omega,hc⟩
  ·split at hk
   ·rename_i hp
    obtain⟨h2,h3⟩:=up_le n l[c].parent (by omega) k hk
    exact⟨by omega,h3⟩
   ·cases hk
theorem up_mem {l:List Cl} {c:Int} {k:Nat} (hk:k∈upI l c):(k:Int)≤c∧k<l.length:=up_le (c.toNat+1) c (by omega) k hk
theorem up_self {l:List Cl} {c:Nat} (h:c<l.length):c∈upI l (c:Int):=by rw[upI_step h]; exact List.mem_cons_self
theorem up_chain {l:List Cl}:∀(n:Nat) (c:Int),c<n→(upI l c).Pairwise fun x y:Nat=>y∈upI l (x:Int)
 |0,c,h=>by rw[upI_neg (by omega)]; exact List.Pairwise.nil
 |n+1,c,h=>by
  by_cases h0:c<0
  ·rw[upI_neg h0]; exact List.Pairwise.nil
  by_cases h1:(l.length:Int)≤c
  ·rw[upI_out h1]; exact List.Pairwise.nil
  obtain⟨c,rfl⟩:∃c':Nat,c=c':=⟨c.toNat,by omega⟩
  have hc:c<l.length:=by omega
  rw[upI_step hc]
  split
  ·rename_i hp
   refine List.pairwise_cons.2 ⟨fun y hy=> ?_,up_chain n l[c].parent (by omega)⟩
   rw[upI_step hc,if_pos hp]; exact List.mem_cons_of_mem _ hy
  ·exact List.pairwise_cons.2 ⟨fun y hy=>(by cases hy),List.Pairwise.nil⟩
theorem find_up {l:List Cl} {c:Int} {p:Nat→Bool} {k:Nat} (h:(upI l c).find? p=some k):k∈upI l c∧p k=true∧∀j∈upI l c,p j=true→j∈upI l (k:Int):=by
 refine⟨List.mem_of_find?_eq_some h,List.find?_some h,fun j hj hp=> ?_⟩
 have hch:=up_chain (l:=l) (c.toNat+1) c (by omega)
 have hk:=up_mem (List.mem_of_find?_eq_some h)
 generalize upI l c=L at *
 induction L with
 |nil=>cases hj
 |cons x L ih=>
  rw[List.find?_cons] at h
  obtain⟨h1,h2⟩:=List.pairwise_cons.1 hch
  cases hx:p x
  ·rw[hx] at h
   rcases List.mem_cons.1 hj with rfl|hj
   ·rw[hx] at hp; cases hp
   ·exact ih h hj h2
  ·rw[hx] at h
   cases h
   rcases List.mem_cons.1 hj with rfl|hj
   ·exact up_self hk.2
   ·exact h1 j hj
theorem subB_antisymm {l:List Cl} {a b:Ty} (h1:subB l a b=true) (h2:subB l b a=true):a=b:=by
 obtain⟨ha,hb⟩:=subB_valid h1
 rw[subB_iff ha hb] at h1
 rw[subB_iff hb ha] at h2
 simp only[SubP,isRef_iff] at h1 h2
 rcases h1 with h1|h1|⟨h1,h3,h4⟩|⟨h1,h3,h4⟩
 ·exact h1
 ·rcases h2 with h2|h2|⟨h2,h5,h6⟩|⟨h2,h5,h6⟩
  ·exact h2.symm
  ·exact Fin.ext (by omega)
  ·omega
  ·omega
 ·rcases h2 with h2|h2|⟨h2,h5,h6⟩|⟨h2,h5,h6⟩
  ·exact h2.symm
  ·omega
  ·exact Fin.ext (by omega)
  ·have:=(up_mem h6).1; omega
 ·rcases h2 with h2|h2|⟨h2,h5,h6⟩|⟨h2,h5,h6⟩
  ·exact h2.symm
  ·omega
  ·omega
  ·have:=(up_mem h4).1
   have:=(up_mem h6).1
   exact Fin.ext (by omega)
theorem ofClass_val {k:Nat} (h:k<240):(ofClass (k:Int)).val=16+k:=by
 show(16+((k:Int)).toNat)%256=_
 rw[Int.toNat_natCast]; omega
theorem valid_0 (n:Nat):validN n 0=true:=by simp[validN]
theorem valid_5 (n:Nat):validN n 5=true:=decide_eq_true (.inl (by decide))
theorem sub_top {l:List Cl} {a:Ty} (h:validN l.length a=true):subB l a 0=true:=(subB_iff h (valid_0 _)).2 (.inr (.inl rfl))
theorem merge_up {l:List Cl} {a b:Ty} (ha:validN l.length a=true) (hb:validN l.length b=true):subB l a (mergeT l a b)=true∧subB l b (mergeT l a b)=true∧∀t,subB l a t=true→subB l b t=true→subB l (mergeT l a b) t=true:=by
 unfold mergeT
 rw[if_neg (by simp[ha,hb])]
 by_cases h1:subB l a b=true
 ·rw[if_pos h1]; exact⟨h1,subB_refl hb,fun t _ h=>h⟩
 rw[if_neg h1]
 by_cases h2:subB l b a=true
 ·rw[if_pos h2]; exact⟨subB_refl ha,h2,fun t h _=>h⟩
 rw[if_neg h2]
 have n1:¬SubP l a b:=fun h=>h1 ((subB_iff ha hb).2 h)
 have n2:¬SubP l b a:=fun h=>h2 ((subB_iff hb ha).2 h)
 by_cases h3:isRefB a=false∨isRefB b=false
 ·rw[if_pos h3]
  refine⟨sub_top ha,sub_top hb,fun t h4 h5=> ?_⟩
  have ht:=(subB_valid h4).2
  rw[subB_iff ha ht] at h4
  rw[subB_iff hb ht] at h5
  have h3':¬(isRefB a=true∧isRefB b=true):=by rcases h3 with h|h <;> simp[h]
  have:t=0:=by
   simp only[SubP] at h4 h5 n1 n2
   simp only[isRef_iff] at h3' h4 h5 n1 n2
   rcases h4 with rfl|h4|⟨h4,h6,h7⟩|⟨h4,h6,h7⟩
   ·exact absurd h5 n2
   ·exact Fin.ext h4
   ·rcases h5 with rfl|h5|⟨h5,h8,h9⟩|⟨h5,h8,h9⟩
    ·exact absurd (.inr (.inr (.inl ⟨h4,h6,h7⟩))) n1
    ·exact Fin.ext h5
    ·omega
    ·omega
   ·rcases h5 with rfl|h5|⟨h5,h8,h9⟩|⟨h5,h8,h9⟩
    ·exact absurd (.inr (.inr (.inr ⟨h4,h6,h7⟩))) n1
    ·exact Fin.ext h5
    ·omega
    ·omega
  rw[this]; exact sub_top (valid_0 _)
 rw[if_neg h3]
 have hra:isRefB a=true:=by simp only[not_or,Bool.not_eq_false] at h3; exact h3.1
 have hrb:isRefB b=true:=by simp only[not_or,Bool.not_eq_false] at h3; exact h3.2
 have v5:=valid_5 l.length
 have hany:isRefB 5=true:=rfl
 have top5:∀t:Ty,t.val=0→subB l 5 t=true:=fun t ht=>(subB_iff v5 (by simp[validN,ht])).2 (.inr (.inl ht))
 have any5:∀t:Ty,t.val=5→subB l 5 t=true:=fun t ht=>by
  have:t=5:=Fin.ext ht
  rw[this]; exact subB_refl v5
 have nb:a.val≠3∧b.val≠3∧a≠b:=by
  refine⟨fun h=>n1 (.inr (.inr (.inl ⟨.inl h,hra,hrb⟩))),fun h=>n2 (.inr (.inr (.inl ⟨.inl h,hrb,hra⟩))),fun h=>n1 (.inl h)⟩
 have both:∀t,subB l a t=true→subB l b t=true→t.val=0∨t.val=5∨(16≤a.val∧16≤b.val∧16≤t.val∧(t.val-16)∈upI l ((a.val:Int)-16)∧(t.val-16)∈upI l ((b.val:Int)-16)):=fun t h4 h5=>by
  have ht:=(subB_valid h4).2
  rw[subB_iff ha ht] at h4
  rw[subB_iff hb ht] at h5
  rcases h4 with rfl|h4|⟨h4,h6,h7⟩|⟨h4,h6,h7⟩
  ·exact absurd h5 n2
  ·exact .inl h4
  ·have:=nb.1
   exact .inr (.inl (by omega))
  ·rcases h5 with rfl|h5|⟨h5,h8,h9⟩|⟨h5,h8,h9⟩
   ·exact absurd (.inr (.inr (.inr ⟨h4,h6,h7⟩))) n1
   ·exact .inl h5
   ·have:=nb.2.1
    exact .inr (.inl (by omega))
   ·exact .inr (.inr ⟨h4,h5,h6,h7,h9⟩)
 cases hf:(upI l (clsOf l.length a)).find? fun k:Nat=>(upI l (clsOf l.length b)).any fun j=>decide ((j:Int)=(k:Int)) with
 |none=>
  simp only
  refine⟨(subB_iff ha v5).2 (.inr (.inr (.inl ⟨.inr rfl,hra,hany⟩))),(subB_iff hb v5).2 (.inr (.inr (.inl ⟨.inr rfl,hrb,hany⟩))),fun t h4 h5=> ?_⟩
  rcases both t h4 h5 with h|h|⟨h6,h7,h8,h9,h10⟩
  ·exact top5 t h
  ·exact any5 t h
  ·exfalso
   have:=List.find?_eq_none.1 hf (t.val-16) (by rw[clsOf_val ha h6]; exact h9)
   apply this
   rw[List.any_eq_true]
   exact⟨t.val-16,by rw[clsOf_val hb h7]; exact h10,by simp⟩
 |some k=>
  simp only
  obtain⟨m1,m2,m3⟩:=find_up hf
  have h16:16≤a.val:=by
   by_cases h:16≤a.val
   ·exact h
   ·rw[clsOf_no h,upI_neg (by omega)] at m1; cases m1
  rw[clsOf_val ha h16] at m1 m3
  rw[List.any_eq_true] at m2
  obtain⟨j,hj,hd⟩:=m2
  have hjk:j=k:=by simp at hd; omega
  subst hjk
  have h16b:16≤b.val:=by
   by_cases h:16≤b.val
   ·exact h
   ·rw[clsOf_no h,upI_neg (by omega)] at hj; cases hj
  have hk:=up_mem m1
  have hlt:j<240:=by have:=a.isLt; omega
  have hv:=ofClass_val hlt
  have hvalid:validN l.length (ofClass (j:Int))=true:=by simp only[validN,decide_eq_true_eq,hv]; omega
  rw[clsOf_val hb h16b] at hj
  refine⟨(subB_iff ha hvalid).2 (.inr (.inr (.inr ⟨h16,by omega,by rw[hv,show 16+j-16=j by omega]; exact m1⟩))),(subB_iff hb hvalid).2 (.inr (.inr (.inr ⟨h16b,by omega,by rw[hv,show 16+j-16=j by omega]; exact hj⟩))),fun t h4 h5=> ?_⟩
  have ht:=(subB_valid h4).2
  rcases both t h4 h5 with h|h|⟨h6,h7,h8,h9,h10⟩
  ·exact(subB_iff hvalid ht).2 (.inr (.inl h))
  ·exact(subB_iff hvalid ht).2 (.inr (.inr (.inl ⟨.inr h,by rw[isRef_iff]; omega,by rw[isRef_iff]; omega⟩)))
  ·refine(subB_iff hvalid ht).2 (.inr (.inr (.inr ⟨by omega,h8, ?_⟩)))
   rw[hv,show((16+j:Nat):Int)-16=(j:Int) by omega]
   refine m3 _ h9 ?_
   rw[List.any_eq_true]
   exact⟨t.val-16,by rw[clsOf_val hb h16b]; exact h10,by simp⟩
theorem merge_valid {l:List Cl} (a b:Ty):validN l.length (mergeT l a b)=true:=by
 by_cases h:validN l.length a=true∧validN l.length b=true
 ·exact(subB_valid (merge_up h.1 h.2).1).2
 ·unfold mergeT
  rw[if_pos (by cases ha:validN l.length a <;> cases hb:validN l.length b <;> simp_all)]
  exact valid_0 _
end Go.AL
