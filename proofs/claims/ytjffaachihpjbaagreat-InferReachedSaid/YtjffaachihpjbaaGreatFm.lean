import Derived.Test.YtjffaachihpjbaaGreatFl
import Derived.Test.YtjffaachihpjbaaGreatFe
import Derived.Shelf.SlIterI.Nil
import Derived.Shelf.SortM.Plain
import Derived.Shelf.SortM.SortNone
import Derived.Ground.GgzProg
import Derived.Ground.SlgmProg
import Derived.Shelf.Slices.CompactI
import Derived.Ground.Names2Prog
import Derived.Test.YtjffaachihpjbaaGreatProg
set_option linter.unusedSimpArgs false
set_option linter.unusedVariables false
set_option maxRecDepth 100000
set_option maxHeartbeats 4000000
set_option linter.defProp false
namespace Go.AL
open Go.Proofs
def Mt (w:Wn) (t:Ty):Prop:=(w.kind=0∧t.val=255)∨(w.kind=1∧t.val=254)∨(w.kind=2∧t.val=253)∨(w.kind=4∧w.t=t∧t.val<253)
theorem fits_wanted {l:List Cl} {w:Wn} {t:Ty} (h:Mt w t) (x first:Ty):fitsB l w x first=wantedB l x t:=by
 rcases h with⟨h1,h2⟩|⟨h1,h2⟩|⟨h1,h2⟩|⟨h1,h2,h3⟩
 ·simp[fitsB,wantedB,h1,h2]
 ·simp[fitsB,wantedB,h1,h2]
 ·simp[fitsB,wantedB,h1,h2]
 ·subst h2
  rw[fitsB,if_neg (by omega),if_neg (by omega),if_neg (by omega),if_pos h1,wantedB,if_neg (by omega),if_neg (by omega),if_neg (by omega)]
theorem mt_all {l:List Cl} {ws:List Wn} {ts:List Ty} (h:All2 Mt ws ts) (first:Ty):∀had:List Ty,((ws.zip had).all fun p=>fitsB l p.1 p.2 first)=((ts.zip had).all fun p=>wantedB l p.2 p.1):=by
 induction h with
 |nil=>intro had; simp
 |cons h1 _ ih=>
  intro had
  cases had with
  |nil=>simp
  |cons x had=>simp only[List.zip_cons_cons,List.all_cons,fits_wanted h1,ih]
theorem fitsAll_wanted {l:List Cl} {ws:List Wn} {ts:List Ty} (h:All2 Mt ws ts) (had:List Ty):fitsAll l ws had=wantedAll l ts had:=mt_all h _ had
theorem fitsAll_same {l:List Cl} (a b:Ty):fitsAll l [⟨3,0⟩,⟨3,0⟩] [a,b]=sameB [a,b]:=by
 simp only[fitsAll,sameB,List.zip_cons_cons,List.zip_nil_left,List.all_cons,List.all_nil,List.headD_cons,Bool.and_true,fitsB]
 rw[Bool.eq_iff_iff]
 simp only[Fin.ext_iff]
 simp
 omega
theorem wantedAll_any {l:List Cl} (a b:Ty):wantedAll l [255,255] [a,b]=true:=by
 have h:(255:Ty).val=255:=rfl
 simp[wantedAll,wantedB,h]
theorem stored_lt {n:Nat} {t:Ty} (hn:n≤32) (h:storedN n t=true):t.val<253:=by
 simp only[storedN,validN,Bool.and_eq_true,decide_eq_true_eq] at h; omega
theorem canB_sig {e:En} (h:canB e=true) {s:Sg} (hs:s∈e.sgs):(∀t∈s.ps,storedN e.cs.length t=true)∧(s.r.val=0∨storedN e.cs.length s.r=true):=by
 simp only[canB,Bool.and_eq_true] at h
 have:=List.all_eq_true.1 h.2 s hs
 simp only[sigMayB,Bool.and_eq_true,decide_eq_true_eq,Bool.or_eq_true,Bool.not_eq_true',List.any_eq_false] at this
 exact⟨fun t ht=>by simpa using this.1.2 t ht,this.2⟩
theorem ofClass_lt {e:En} (hc:Can e) {a:Int} (h1:a<e.cs.length):(ofClass a).val<253:=by
 have h32:=hc.cls
 simp only[ofClass,Fin.ofNat]; omega
theorem flds_lt {e:En} {i:Ins} (hc:Can e) {f:Fd} (hf:f∈flds e i):f.ty.val<253:=by
 have h32:=hc.cls
 simp only[flds,zf8,List.mem_flatMap,List.mem_reverse] at hf
 obtain⟨k,hk,hf⟩:=hf
 have hlt:=upI_lt hk
 simp only[fieldsAt,List.getElem?_eq_getElem hlt,Option.map_some,Option.getD_some] at hf
 exact stored_lt h32 (right_stored hc.right hlt hf)
theorem mt4 {t:Ty} (h:t.val<253):Mt ⟨4,t⟩ t:= .inr (.inr (.inr ⟨rfl,rfl,h⟩))
theorem mt_map {ts:List Ty} (h:∀t∈ts,t.val<253):All2 Mt (ts.map fun t=>(⟨4,t⟩:Wn)) ts:=by
 induction ts with
 |nil=>exact .nil
 |cons t ts ih=>exact .cons (mt4 (h t (by simp))) (ih fun x hx=>h x (by simp[hx]))
theorem mt0:Mt ⟨0,0⟩ 255:= .inl ⟨rfl,rfl⟩
theorem mt1:Mt ⟨1,0⟩ 254:= .inr (.inl ⟨rfl,rfl⟩)
theorem mt2:Mt ⟨2,0⟩ 253:= .inr (.inr (.inl ⟨rfl,rfl⟩))
structure Agree (e:En) (i:Ins) (F:Ef):Prop where
 takes:i.op.val≠16→All2 Mt F.takes (zg0 e i i.op.val)
 same:i.op.val=16→F.takes=[⟨3,0⟩,⟨3,0⟩]
 gives:∀had,i.op.val≠4→givesV F.gives had=(if i.op.val=7 then [had.headD 0,had.headD 0] else if i.op.val=8 then [(had[1]?).getD 0,had.headD 0] else givesO e i i.op.val)
theorem opnd_eq_call {e:En} {i:Ins} (h:i.op.val=21):opndF e i=if 0≤i.a∧i.a.toNat<e.sgs.length then 0 else 71:=by rw[opndF,if_pos h]
theorem opnd_eq_cls {e:En} {i:Ins} (h:i.op.val=23∨i.op.val=30∨i.op.val=31):opndF e i=if 0≤i.a∧i.a<e.cs.length then 0 else 72:=by
 have h1:¬i.op.val=21:=by omega
 rw[opndF,if_neg h1,if_pos h]
theorem opnd_eq_fld {e:En} {i:Ins} (h:i.op.val=24∨i.op.val=25):opndF e i=if(0≤i.a∧i.a<e.cs.length)∧0≤i.b∧i.b.toNat<(zf8 e.cs (upI e.cs i.a).reverse).length then 0 else 72:=by
 have h1:¬i.op.val=21:=by omega
 have h2:¬(i.op.val=23∨i.op.val=30∨i.op.val=31):=by omega
 rw[opndF,if_neg h1,if_neg h2,if_pos h]
theorem told_agree (e:En) (i:Ins) (hw:WideE e) (hcan:canB e=true) (h34:i.op.val<34):(toldF e i).2=opndF e i∧(opndF e i=0→Agree e i (toldF e i).1):=by
 have hc:=canB_can hw hcan
 have h32:=hc.cls
 rw[toldF,if_neg (by omega)]
 have hk34:i.op.val=0∨i.op.val=1∨i.op.val=2∨i.op.val=3∨i.op.val=4∨i.op.val=5∨i.op.val=6∨i.op.val=7∨i.op.val=8∨i.op.val=9∨i.op.val=10∨i.op.val=11∨i.op.val=12∨i.op.val=13∨i.op.val=14∨i.op.val=15∨i.op.val=16∨i.op.val=17∨i.op.val=18∨i.op.val=19∨i.op.val=20∨i.op.val=21∨i.op.val=22∨i.op.val=23∨i.op.val=24∨i.op.val=25∨i.op.val=26∨i.op.val=27∨i.op.val=28∨i.op.val=29∨i.op.val=30∨i.op.val=31∨i.op.val=32∨i.op.val=33:=by omega
 have op0:(¬i.op.val=21∧¬(i.op.val=23∨i.op.val=30∨i.op.val=31)∧¬(i.op.val=24∨i.op.val=25))→opndF e i=0:=fun⟨h1,h2,h3⟩=>by rw[opndF,if_neg h1,if_neg h2,if_neg h3]
 have fx:∀ws g ts gs,tlOf i.op.val= .fixed ws g→(¬i.op.val=21∧¬(i.op.val=23∨i.op.val=30∨i.op.val=31)∧¬(i.op.val=24∨i.op.val=25))→i.op.val≠16→zg0 e i i.op.val=ts→givesO e i i.op.val=gs→
   All2 Mt ws ts→(i.op.val≠4→∀had,givesV g had=(if i.op.val=7 then [had.headD 0,had.headD 0] else if i.op.val=8 then [(had[1]?).getD 0,had.headD 0] else gs))→
   (tellF e i (tlOf i.op.val)).2=opndF e i∧(opndF e i=0→Agree e i (tellF e i (tlOf i.op.val)).1):=fun ws g ts gs h1 h2 h3 h4 h5 h6 h7=>by
  rw[h1,op0 h2]
  exact⟨rfl,fun _=>⟨fun _=>by rw[h4]; exact h6,fun h=>absurd h h3,fun had hn=>by rw[h5]; exact h7 hn had⟩⟩
 have g1:Mt wi 1:=mt4 (by decide)
 have g2:Mt wb 2:=mt4 (by decide)
 have g4:Mt wr 4:=mt4 (by decide)
 rcases hk34 with h|h|h|h|h|h|h|h|h|h|h|h|h|h|h|h|h|h|h|h|h|h|h|h|h|h|h|h|h|h|h|h|h|h
 ·exact fx _ _ _ _ (by rw[h]; rfl) (by omega) (by omega) (by rw[h]) (by rw[h]) (by first|exact .nil|exact .cons g1 .nil|exact .cons g2 .nil|exact .cons g4 .nil|exact .cons g1 (.cons g1 .nil)|exact .cons mt0 .nil|exact .cons mt1 .nil|exact .cons mt0 (.cons mt0 .nil)|exact .cons mt2 (.cons mt2 .nil)|exact .cons g4 (.cons g1 .nil)|exact .cons g4 (.cons g1 (.cons g1 .nil))) (fun hn had=>by first|exact absurd h hn|(rw[h]; rfl))
 ·exact fx _ _ _ _ (by rw[h]; rfl) (by omega) (by omega) (by rw[h]) (by rw[h]) (by first|exact .nil|exact .cons g1 .nil|exact .cons g2 .nil|exact .cons g4 .nil|exact .cons g1 (.cons g1 .nil)|exact .cons mt0 .nil|exact .cons mt1 .nil|exact .cons mt0 (.cons mt0 .nil)|exact .cons mt2 (.cons mt2 .nil)|exact .cons g4 (.cons g1 .nil)|exact .cons g4 (.cons g1 (.cons g1 .nil))) (fun hn had=>by first|exact absurd h hn|(rw[h]; rfl))
 ·exact fx _ _ _ _ (by rw[h]; rfl) (by omega) (by omega) (by rw[h]) (by rw[h]) (by first|exact .nil|exact .cons g1 .nil|exact .cons g2 .nil|exact .cons g4 .nil|exact .cons g1 (.cons g1 .nil)|exact .cons mt0 .nil|exact .cons mt1 .nil|exact .cons mt0 (.cons mt0 .nil)|exact .cons mt2 (.cons mt2 .nil)|exact .cons g4 (.cons g1 .nil)|exact .cons g4 (.cons g1 (.cons g1 .nil))) (fun hn had=>by first|exact absurd h hn|(rw[h]; rfl))
 ·exact fx _ _ _ _ (by rw[h]; rfl) (by omega) (by omega) (by rw[h]) (by rw[h]) (by first|exact .nil|exact .cons g1 .nil|exact .cons g2 .nil|exact .cons g4 .nil|exact .cons g1 (.cons g1 .nil)|exact .cons mt0 .nil|exact .cons mt1 .nil|exact .cons mt0 (.cons mt0 .nil)|exact .cons mt2 (.cons mt2 .nil)|exact .cons g4 (.cons g1 .nil)|exact .cons g4 (.cons g1 (.cons g1 .nil))) (fun hn had=>by first|exact absurd h hn|(rw[h]; rfl))
 ·exact fx _ _ _ _ (by rw[h]; rfl) (by omega) (by omega) (by rw[h]) (by rw[h]) (by first|exact .nil|exact .cons g1 .nil|exact .cons g2 .nil|exact .cons g4 .nil|exact .cons g1 (.cons g1 .nil)|exact .cons mt0 .nil|exact .cons mt1 .nil|exact .cons mt0 (.cons mt0 .nil)|exact .cons mt2 (.cons mt2 .nil)|exact .cons g4 (.cons g1 .nil)|exact .cons g4 (.cons g1 (.cons g1 .nil))) (fun hn had=>by first|exact absurd h hn|(rw[h]; rfl))
 ·exact fx _ _ _ _ (by rw[h]; rfl) (by omega) (by omega) (by rw[h]) (by rw[h]) (by first|exact .nil|exact .cons g1 .nil|exact .cons g2 .nil|exact .cons g4 .nil|exact .cons g1 (.cons g1 .nil)|exact .cons mt0 .nil|exact .cons mt1 .nil|exact .cons mt0 (.cons mt0 .nil)|exact .cons mt2 (.cons mt2 .nil)|exact .cons g4 (.cons g1 .nil)|exact .cons g4 (.cons g1 (.cons g1 .nil))) (fun hn had=>by first|exact absurd h hn|(rw[h]; rfl))
 ·exact fx _ _ _ _ (by rw[h]; rfl) (by omega) (by omega) (by rw[h]) (by rw[h]) (by first|exact .nil|exact .cons g1 .nil|exact .cons g2 .nil|exact .cons g4 .nil|exact .cons g1 (.cons g1 .nil)|exact .cons mt0 .nil|exact .cons mt1 .nil|exact .cons mt0 (.cons mt0 .nil)|exact .cons mt2 (.cons mt2 .nil)|exact .cons g4 (.cons g1 .nil)|exact .cons g4 (.cons g1 (.cons g1 .nil))) (fun hn had=>by first|exact absurd h hn|(rw[h]; rfl))
 ·exact fx _ _ _ _ (by rw[h]; rfl) (by omega) (by omega) (by rw[h]) (by rw[h]) (by first|exact .nil|exact .cons g1 .nil|exact .cons g2 .nil|exact .cons g4 .nil|exact .cons g1 (.cons g1 .nil)|exact .cons mt0 .nil|exact .cons mt1 .nil|exact .cons mt0 (.cons mt0 .nil)|exact .cons mt2 (.cons mt2 .nil)|exact .cons g4 (.cons g1 .nil)|exact .cons g4 (.cons g1 (.cons g1 .nil))) (fun hn had=>by first|exact absurd h hn|(rw[h]; rfl))
 ·exact fx _ _ _ _ (by rw[h]; rfl) (by omega) (by omega) (by rw[h]) (by rw[h]) (by first|exact .nil|exact .cons g1 .nil|exact .cons g2 .nil|exact .cons g4 .nil|exact .cons g1 (.cons g1 .nil)|exact .cons mt0 .nil|exact .cons mt1 .nil|exact .cons mt0 (.cons mt0 .nil)|exact .cons mt2 (.cons mt2 .nil)|exact .cons g4 (.cons g1 .nil)|exact .cons g4 (.cons g1 (.cons g1 .nil))) (fun hn had=>by first|exact absurd h hn|(rw[h]; rfl))
 ·exact fx _ _ _ _ (by rw[h]; rfl) (by omega) (by omega) (by rw[h]) (by rw[h]) (by first|exact .nil|exact .cons g1 .nil|exact .cons g2 .nil|exact .cons g4 .nil|exact .cons g1 (.cons g1 .nil)|exact .cons mt0 .nil|exact .cons mt1 .nil|exact .cons mt0 (.cons mt0 .nil)|exact .cons mt2 (.cons mt2 .nil)|exact .cons g4 (.cons g1 .nil)|exact .cons g4 (.cons g1 (.cons g1 .nil))) (fun hn had=>by first|exact absurd h hn|(rw[h]; rfl))
 ·exact fx _ _ _ _ (by rw[h]; rfl) (by omega) (by omega) (by rw[h]) (by rw[h]) (by first|exact .nil|exact .cons g1 .nil|exact .cons g2 .nil|exact .cons g4 .nil|exact .cons g1 (.cons g1 .nil)|exact .cons mt0 .nil|exact .cons mt1 .nil|exact .cons mt0 (.cons mt0 .nil)|exact .cons mt2 (.cons mt2 .nil)|exact .cons g4 (.cons g1 .nil)|exact .cons g4 (.cons g1 (.cons g1 .nil))) (fun hn had=>by first|exact absurd h hn|(rw[h]; rfl))
 ·exact fx _ _ _ _ (by rw[h]; rfl) (by omega) (by omega) (by rw[h]) (by rw[h]) (by first|exact .nil|exact .cons g1 .nil|exact .cons g2 .nil|exact .cons g4 .nil|exact .cons g1 (.cons g1 .nil)|exact .cons mt0 .nil|exact .cons mt1 .nil|exact .cons mt0 (.cons mt0 .nil)|exact .cons mt2 (.cons mt2 .nil)|exact .cons g4 (.cons g1 .nil)|exact .cons g4 (.cons g1 (.cons g1 .nil))) (fun hn had=>by first|exact absurd h hn|(rw[h]; rfl))
 ·exact fx _ _ _ _ (by rw[h]; rfl) (by omega) (by omega) (by rw[h]) (by rw[h]) (by first|exact .nil|exact .cons g1 .nil|exact .cons g2 .nil|exact .cons g4 .nil|exact .cons g1 (.cons g1 .nil)|exact .cons mt0 .nil|exact .cons mt1 .nil|exact .cons mt0 (.cons mt0 .nil)|exact .cons mt2 (.cons mt2 .nil)|exact .cons g4 (.cons g1 .nil)|exact .cons g4 (.cons g1 (.cons g1 .nil))) (fun hn had=>by first|exact absurd h hn|(rw[h]; rfl))
 ·exact fx _ _ _ _ (by rw[h]; rfl) (by omega) (by omega) (by rw[h]) (by rw[h]) (by first|exact .nil|exact .cons g1 .nil|exact .cons g2 .nil|exact .cons g4 .nil|exact .cons g1 (.cons g1 .nil)|exact .cons mt0 .nil|exact .cons mt1 .nil|exact .cons mt0 (.cons mt0 .nil)|exact .cons mt2 (.cons mt2 .nil)|exact .cons g4 (.cons g1 .nil)|exact .cons g4 (.cons g1 (.cons g1 .nil))) (fun hn had=>by first|exact absurd h hn|(rw[h]; rfl))
 ·exact fx _ _ _ _ (by rw[h]; rfl) (by omega) (by omega) (by rw[h]) (by rw[h]) (by first|exact .nil|exact .cons g1 .nil|exact .cons g2 .nil|exact .cons g4 .nil|exact .cons g1 (.cons g1 .nil)|exact .cons mt0 .nil|exact .cons mt1 .nil|exact .cons mt0 (.cons mt0 .nil)|exact .cons mt2 (.cons mt2 .nil)|exact .cons g4 (.cons g1 .nil)|exact .cons g4 (.cons g1 (.cons g1 .nil))) (fun hn had=>by first|exact absurd h hn|(rw[h]; rfl))
 ·exact fx _ _ _ _ (by rw[h]; rfl) (by omega) (by omega) (by rw[h]) (by rw[h]) (by first|exact .nil|exact .cons g1 .nil|exact .cons g2 .nil|exact .cons g4 .nil|exact .cons g1 (.cons g1 .nil)|exact .cons mt0 .nil|exact .cons mt1 .nil|exact .cons mt0 (.cons mt0 .nil)|exact .cons mt2 (.cons mt2 .nil)|exact .cons g4 (.cons g1 .nil)|exact .cons g4 (.cons g1 (.cons g1 .nil))) (fun hn had=>by first|exact absurd h hn|(rw[h]; rfl))
 ·have ht:tlOf i.op.val= .fixed [⟨3,0⟩,⟨3,0⟩] (.const [2]):=by rw[h]; rfl
  rw[ht,op0 (by omega)]
  exact⟨rfl,fun _=>⟨fun h'=>absurd h h',fun _=>rfl,fun had _=>by rw[h]; rfl⟩⟩
 ·exact fx _ _ _ _ (by rw[h]; rfl) (by omega) (by omega) (by rw[h]) (by rw[h]) (by first|exact .nil|exact .cons g1 .nil|exact .cons g2 .nil|exact .cons g4 .nil|exact .cons g1 (.cons g1 .nil)|exact .cons mt0 .nil|exact .cons mt1 .nil|exact .cons mt0 (.cons mt0 .nil)|exact .cons mt2 (.cons mt2 .nil)|exact .cons g4 (.cons g1 .nil)|exact .cons g4 (.cons g1 (.cons g1 .nil))) (fun hn had=>by first|exact absurd h hn|(rw[h]; rfl))
 ·exact fx _ _ _ _ (by rw[h]; rfl) (by omega) (by omega) (by rw[h]) (by rw[h]) (by first|exact .nil|exact .cons g1 .nil|exact .cons g2 .nil|exact .cons g4 .nil|exact .cons g1 (.cons g1 .nil)|exact .cons mt0 .nil|exact .cons mt1 .nil|exact .cons mt0 (.cons mt0 .nil)|exact .cons mt2 (.cons mt2 .nil)|exact .cons g4 (.cons g1 .nil)|exact .cons g4 (.cons g1 (.cons g1 .nil))) (fun hn had=>by first|exact absurd h hn|(rw[h]; rfl))
 ·exact fx _ _ _ _ (by rw[h]; rfl) (by omega) (by omega) (by rw[h]) (by rw[h]) (by first|exact .nil|exact .cons g1 .nil|exact .cons g2 .nil|exact .cons g4 .nil|exact .cons g1 (.cons g1 .nil)|exact .cons mt0 .nil|exact .cons mt1 .nil|exact .cons mt0 (.cons mt0 .nil)|exact .cons mt2 (.cons mt2 .nil)|exact .cons g4 (.cons g1 .nil)|exact .cons g4 (.cons g1 (.cons g1 .nil))) (fun hn had=>by first|exact absurd h hn|(rw[h]; rfl))
 ·exact fx _ _ _ _ (by rw[h]; rfl) (by omega) (by omega) (by rw[h]) (by rw[h]) (by first|exact .nil|exact .cons g1 .nil|exact .cons g2 .nil|exact .cons g4 .nil|exact .cons g1 (.cons g1 .nil)|exact .cons mt0 .nil|exact .cons mt1 .nil|exact .cons mt0 (.cons mt0 .nil)|exact .cons mt2 (.cons mt2 .nil)|exact .cons g4 (.cons g1 .nil)|exact .cons g4 (.cons g1 (.cons g1 .nil))) (fun hn had=>by first|exact absurd h hn|(rw[h]; rfl))
 ·have ht:tlOf i.op.val= .call:=by rw[h]; rfl
  rw[ht]
  simp only[tellF]
  by_cases hq:0≤i.a∧i.a.toNat<e.sgs.length
  ·rw[dif_pos hq,opnd_eq_call h,if_pos hq]
   have hget:e.sgs[i.a.toNat]? =some e.sgs[i.a.toNat]:=List.getElem?_eq_getElem hq.2
   have hsg:=canB_sig hcan (List.getElem_mem hq.2)
   generalize e.sgs[i.a.toNat]=s at *
   refine⟨rfl,fun _=>⟨fun _=> ?_,fun h'=>by omega,fun had _=> ?_⟩⟩
   ·rw[h,show zg0 e i 21=((e.sgs[i.a.toNat]?).map Sg.ps).getD [] from rfl,hget]
    exact mt_map fun t ht=>stored_lt h32 (hsg.1 t ht)
   ·rw[h,if_neg (show ¬(21:Nat)=7 by omega),if_neg (show ¬(21:Nat)=8 by omega),show givesO e i 21=((e.sgs[i.a.toNat]?).map fun s=>someR s.r).getD [] from rfl,hget]
    simp only[givesV,Option.map_some,Option.getD_some,someR]
  ·rw[dif_neg hq,opnd_eq_call h,if_neg hq]
   exact⟨rfl,fun h'=>by cases h'⟩
 ·have ht:tlOf i.op.val= .ret:=by rw[h]; rfl
  rw[ht,op0 (by omega)]
  simp only[tellF,dif_pos hc.fn1]
  have hget:e.sgs[e.fn.toNat]? =some (e.sgs[e.fn.toNat]'hc.fn1):=List.getElem?_eq_getElem hc.fn1
  have hsg:=canB_sig hcan (List.getElem_mem hc.fn1)
  generalize e.sgs[e.fn.toNat]'hc.fn1=s at *
  refine⟨trivial,fun _=>⟨fun _=> ?_,fun h'=>by omega,fun had _=>by rw[h]; rfl⟩⟩
  rw[h,show zg0 e i 22=((e.sgs[e.fn.toNat]?).map fun s=>someR s.r).getD [] from rfl,hget]
  simp only[Option.map_some,Option.getD_some,someR]
  split
  ·exact .nil
  ·rename_i h0
   exact .cons (mt4 (stored_lt h32 (hsg.2.resolve_left h0))) .nil
 ·have ht:tlOf i.op.val= .classed [] true:=by rw[h]; rfl
  rw[ht]
  simp only[tellF]
  by_cases hq:0≤i.a∧i.a<e.cs.length
  ·rw[if_neg (show ¬(i.a<0∨(e.cs.length:Int)≤i.a) by omega),opnd_eq_cls (by omega),if_pos hq]
   exact⟨rfl,fun _=>⟨fun _=>by rw[h]; exact .nil,fun h'=>by omega,fun had _=>by rw[h]; rfl⟩⟩
  ·rw[if_pos (show i.a<0∨(e.cs.length:Int)≤i.a by omega),opnd_eq_cls (by omega),if_neg hq]
   exact⟨rfl,fun h'=>by cases h'⟩
 ·have ht:tlOf i.op.val= .field false:=by rw[h]; rfl
  rw[ht]
  simp only[tellF]
  by_cases hq:(0≤i.a∧i.a<e.cs.length)∧0≤i.b∧i.b.toNat<(zf8 e.cs (upI e.cs i.a).reverse).length
  ·rw[dif_pos hq,opnd_eq_fld (by omega),if_pos hq]
   have hmem:(zf8 e.cs (upI e.cs i.a).reverse)[i.b.toNat]'hq.2.2∈flds e i:=List.getElem_mem _
   have hget:(flds e i)[i.b.toNat]? =some ((zf8 e.cs (upI e.cs i.a).reverse)[i.b.toNat]'hq.2.2):=List.getElem?_eq_getElem hq.2.2
   have hlt:=flds_lt hc hmem
   have hne:=flds_stored hc hmem
   generalize (zf8 e.cs (upI e.cs i.a).reverse)[i.b.toNat]'hq.2.2=fd at *
   refine⟨rfl,fun _=>⟨fun _=> ?_,fun h'=>by omega,fun had _=> ?_⟩⟩
   ·rw[h]; exact .cons (mt4 (ofClass_lt hc hq.1.2)) .nil
   ·rw[h]; rw[show givesO e i 24=(((flds e i)[i.b.toNat]?).map fun f=>someR f.ty).getD [] from rfl,hget]
    simp only[Bool.false_eq_true,if_false,givesV,Option.map_some,Option.getD_some,someR]
    rw[if_neg hne]; rfl
  ·rw[dif_neg hq,opnd_eq_fld (by omega),if_neg hq]
   exact⟨rfl,fun h'=>by cases h'⟩
 ·have ht:tlOf i.op.val= .field true:=by rw[h]; rfl
  rw[ht]
  simp only[tellF]
  by_cases hq:(0≤i.a∧i.a<e.cs.length)∧0≤i.b∧i.b.toNat<(zf8 e.cs (upI e.cs i.a).reverse).length
  ·rw[dif_pos hq,opnd_eq_fld (by omega),if_pos hq]
   have hmem:(zf8 e.cs (upI e.cs i.a).reverse)[i.b.toNat]'hq.2.2∈flds e i:=List.getElem_mem _
   have hget:(flds e i)[i.b.toNat]? =some ((zf8 e.cs (upI e.cs i.a).reverse)[i.b.toNat]'hq.2.2):=List.getElem?_eq_getElem hq.2.2
   have hlt:=flds_lt hc hmem
   have hne:=flds_stored hc hmem
   generalize (zf8 e.cs (upI e.cs i.a).reverse)[i.b.toNat]'hq.2.2=fd at *
   refine⟨rfl,fun _=>⟨fun _=> ?_,fun h'=>by omega,fun had _=> ?_⟩⟩
   ·rw[h]; rw[show zg0 e i 25=[ofClass i.a,(((flds e i)[i.b.toNat]?).map Fd.ty).getD 0] from rfl,hget]
    exact .cons (mt4 (ofClass_lt hc hq.1.2)) (.cons (mt4 hlt) .nil)
   ·rw[h]; rfl
  ·rw[dif_neg hq,opnd_eq_fld (by omega),if_neg hq]
   exact⟨rfl,fun h'=>by cases h'⟩
 ·exact fx _ _ _ _ (by rw[h]; rfl) (by omega) (by omega) (by rw[h]) (by rw[h]) (by first|exact .nil|exact .cons g1 .nil|exact .cons g2 .nil|exact .cons g4 .nil|exact .cons g1 (.cons g1 .nil)|exact .cons mt0 .nil|exact .cons mt1 .nil|exact .cons mt0 (.cons mt0 .nil)|exact .cons mt2 (.cons mt2 .nil)|exact .cons g4 (.cons g1 .nil)|exact .cons g4 (.cons g1 (.cons g1 .nil))) (fun hn had=>by first|exact absurd h hn|(rw[h]; rfl))
 ·exact fx _ _ _ _ (by rw[h]; rfl) (by omega) (by omega) (by rw[h]) (by rw[h]) (by first|exact .nil|exact .cons g1 .nil|exact .cons g2 .nil|exact .cons g4 .nil|exact .cons g1 (.cons g1 .nil)|exact .cons mt0 .nil|exact .cons mt1 .nil|exact .cons mt0 (.cons mt0 .nil)|exact .cons mt2 (.cons mt2 .nil)|exact .cons g4 (.cons g1 .nil)|exact .cons g4 (.cons g1 (.cons g1 .nil))) (fun hn had=>by first|exact absurd h hn|(rw[h]; rfl))
 ·exact fx _ _ _ _ (by rw[h]; rfl) (by omega) (by omega) (by rw[h]) (by rw[h]) (by first|exact .nil|exact .cons g1 .nil|exact .cons g2 .nil|exact .cons g4 .nil|exact .cons g1 (.cons g1 .nil)|exact .cons mt0 .nil|exact .cons mt1 .nil|exact .cons mt0 (.cons mt0 .nil)|exact .cons mt2 (.cons mt2 .nil)|exact .cons g4 (.cons g1 .nil)|exact .cons g4 (.cons g1 (.cons g1 .nil))) (fun hn had=>by first|exact absurd h hn|(rw[h]; rfl))
 ·exact fx _ _ _ _ (by rw[h]; rfl) (by omega) (by omega) (by rw[h]) (by rw[h]) (by first|exact .nil|exact .cons g1 .nil|exact .cons g2 .nil|exact .cons g4 .nil|exact .cons g1 (.cons g1 .nil)|exact .cons mt0 .nil|exact .cons mt1 .nil|exact .cons mt0 (.cons mt0 .nil)|exact .cons mt2 (.cons mt2 .nil)|exact .cons g4 (.cons g1 .nil)|exact .cons g4 (.cons g1 (.cons g1 .nil))) (fun hn had=>by first|exact absurd h hn|(rw[h]; rfl))
 ·have ht:tlOf i.op.val= .classed [⟨2,0⟩] true:=by rw[h]; rfl
  rw[ht]
  simp only[tellF]
  by_cases hq:0≤i.a∧i.a<e.cs.length
  ·rw[if_neg (show ¬(i.a<0∨(e.cs.length:Int)≤i.a) by omega),opnd_eq_cls (by omega),if_pos hq]
   exact⟨rfl,fun _=>⟨fun _=>by rw[h]; exact .cons mt2 .nil,fun h'=>by omega,fun had _=>by rw[h]; rfl⟩⟩
  ·rw[if_pos (show i.a<0∨(e.cs.length:Int)≤i.a by omega),opnd_eq_cls (by omega),if_neg hq]
   exact⟨rfl,fun h'=>by cases h'⟩
 ·have ht:tlOf i.op.val= .classed [⟨2,0⟩] false:=by rw[h]; rfl
  rw[ht]
  simp only[tellF]
  by_cases hq:0≤i.a∧i.a<e.cs.length
  ·rw[if_neg (show ¬(i.a<0∨(e.cs.length:Int)≤i.a) by omega),opnd_eq_cls (by omega),if_pos hq]
   exact⟨rfl,fun _=>⟨fun _=>by rw[h]; exact .cons mt2 .nil,fun h'=>by omega,fun had _=>by rw[h]; rfl⟩⟩
  ·rw[if_pos (show i.a<0∨(e.cs.length:Int)≤i.a by omega),opnd_eq_cls (by omega),if_neg hq]
   exact⟨rfl,fun h'=>by cases h'⟩
 ·exact fx _ _ _ _ (by rw[h]; rfl) (by omega) (by omega) (by rw[h]) (by rw[h]) (by first|exact .nil|exact .cons g1 .nil|exact .cons g2 .nil|exact .cons g4 .nil|exact .cons g1 (.cons g1 .nil)|exact .cons mt0 .nil|exact .cons mt1 .nil|exact .cons mt0 (.cons mt0 .nil)|exact .cons mt2 (.cons mt2 .nil)|exact .cons g4 (.cons g1 .nil)|exact .cons g4 (.cons g1 (.cons g1 .nil))) (fun hn had=>by first|exact absurd h hn|(rw[h]; rfl))
 ·exact fx _ _ _ _ (by rw[h]; rfl) (by omega) (by omega) (by rw[h]) (by rw[h]) (by first|exact .nil|exact .cons g1 .nil|exact .cons g2 .nil|exact .cons g4 .nil|exact .cons g1 (.cons g1 .nil)|exact .cons mt0 .nil|exact .cons mt1 .nil|exact .cons mt0 (.cons mt0 .nil)|exact .cons mt2 (.cons mt2 .nil)|exact .cons g4 (.cons g1 .nil)|exact .cons g4 (.cons g1 (.cons g1 .nil))) (fun hn had=>by first|exact absurd h hn|(rw[h]; rfl))
theorem apply_eq (e:En) (f:Fr) (i:Ins) (hw:WideE e):applyF e f i=applyR e f i:=by
 unfold applyF applyR
 cases hcan:canB e
 ·rfl
 simp only[Bool.true_eq_false,if_false]
 by_cases hck:checkF e.cs.length f=0
 case neg=>rw[if_pos hck,if_pos hck]
 have nck:¬checkF e.cs.length f≠0:=fun h=>h hck
 rw[if_neg nck,if_neg nck]
 by_cases h34:34≤i.op.val
 ·have:(toldF e i).2=40:=by rw[toldF,if_pos h34]
  rw[if_pos (show(toldF e i).2≠0 by omega),if_pos h34,this]
 obtain⟨h1,h2⟩:=told_agree e i hw hcan (by omega)
 rw[if_neg h34,h1]
 have hop:locOp i→opndF e i=0:=fun h=>by unfold locOp at h; rw[opndF,if_neg (by omega),if_neg (by omega),if_neg (by omega)]
 by_cases hl:locOp i∧¬(0≤i.a∧i.a<f.loc)
 ·rw[if_neg (show ¬opndF e i≠0 from fun h=>h (hop hl.1)),if_pos hl,if_pos hl]
 rw[if_neg hl,if_neg hl]
 by_cases h0:opndF e i=0
 case neg=>rw[if_pos h0,if_pos h0]
 have n0:¬opndF e i≠0:=fun h=>h h0
 rw[if_neg n0,if_neg n0]
 have ha:=h2 h0
 generalize (toldF e i).1=F at *
 have hlen:F.takes.length=(zg0 e i i.op.val).length:=by
  by_cases h16:i.op.val=16
  ·rw[ha.same h16,h16]; rfl
  ·exact(ha.takes h16).length_eq
 unfold applyIn
 by_cases hh:f.h<(zg0 e i i.op.val).length
 ·have:takenF e.cs f F.takes=([],30):=by rw[takenF,hlen,if_pos hh]
  rw[this,if_pos hh,if_pos (by simp)]
 rw[if_neg hh]
 have htk:takenF e.cs f F.takes=if fitsAll e.cs F.takes (hadL f F.takes.length)=false then([],70) else(hadL f F.takes.length,0):=by rw[takenF,hlen,if_neg hh]
 have hfw:fitsAll e.cs F.takes (hadL f F.takes.length)=true↔wantedAll e.cs (zg0 e i i.op.val) (hadL f (zg0 e i i.op.val).length)=true∧¬(i.op.val=16∧sameB (hadL f 2)=false):=by
  by_cases h16:i.op.val=16
  ·rw[ha.same h16,h16,show zg0 e i 16=[255,255] from rfl]
   have e1:fitsAll e.cs [⟨3,0⟩,⟨3,0⟩] (hadL f 2)=sameB (hadL f 2):=fitsAll_same _ _
   have e2:wantedAll e.cs [255,255] (hadL f 2)=true:=wantedAll_any _ _
   simp only[List.length_cons,List.length_nil,e1,e2]
   simp
  ·rw[fitsAll_wanted (ha.takes h16),hlen]; simp[h16]
 by_cases hf:fitsAll e.cs F.takes (hadL f F.takes.length)=true
 case neg=>
  have hf':fitsAll e.cs F.takes (hadL f F.takes.length)=false:=by simpa using hf
  rw[htk,if_pos hf',if_pos (by simp)]
  by_cases hwa:wantedAll e.cs (zg0 e i i.op.val) (hadL f (zg0 e i i.op.val).length)=false
  ·rw[if_pos hwa]
  ·rw[if_neg hwa,if_pos (Classical.byContradiction fun hn=>hf (hfw.2 ⟨by simpa using hwa,hn⟩))]
 obtain⟨w1,w2⟩:=hfw.1 hf
 have nf:¬fitsAll e.cs F.takes (hadL f F.takes.length)=false:=fun h=>by rw[hf] at h; cases h
 have nw:¬wantedAll e.cs (zg0 e i i.op.val) (hadL f (zg0 e i i.op.val).length)=false:=fun h=>by rw[w1] at h; cases h
 rw[if_neg nf,hlen] at htk
 rw[htk]
 rw[if_neg nw,if_neg w2]
 simp only[ne_eq,not_true_eq_false,if_false]
 by_cases o4:i.op.val=4
 ·rw[if_pos o4]
  by_cases hz:slAt f i.a.toNat=0
  ·rw[if_pos hz,if_pos ⟨o4,hz⟩]
  ·rw[if_neg hz,if_neg (fun h=>hz h.2),givesR,if_pos o4]
 ·rw[if_neg o4,if_neg (fun h=>o4 h.1),ha.gives _ o4,givesR,if_neg o4]
open Go.Proofs
theorem apply144 (e:En) (f:Fr) (i:Ins) (hw:WideE e):PCall Tryz.prog 88 [.agg (eEn e),.agg (eFr f),.agg (eIn i)] (.tup [.agg (eFr (applyR e f i).1),.int .i64 (applyR e f i).2]):=by
 rw[←apply_eq e f i hw]; exact apply39 e f i hw
theorem not_mp {σ:St} {b:Nat} (h:¬σ.has b):σ.mp b=none:=by
 cases hx:σ.mp b with
 |none=>rfl
 |some o=>exact absurd (has_mp hx) h
end Go.AL
namespace Go.Proofs
open Go.Shelf
def Tryz.keysA_ren:Go.Shelf.Ren:=⟨fun|7=>34|10=>62|n=>n,fun|23=>85|26=>3|3=>38|28=>83|0=>0|27=>82|33=>120|4=>4|n=>n,fun|n=>n⟩
theorem Tryz.keysA:Go.Proofs.SlLaysZI.n7 Tryz.prog Tryz.keysA_ren:={
 mixed:=by kernel_rfl
 f7:=⟨Tryz.f34.name,by decide,Tryz.func34.trans (congrArg some (by kernel_rfl))⟩
 f10:=⟨Tryz.f62.name,by decide,Tryz.func62.trans (congrArg some (by kernel_rfl))⟩
 t0:=Tryz.underlying0
 a0:=Tryz.isAgg0
 z0:=Tryz.sizeOf0
 v0:=Tryz.zeroValue0
 t4:=Tryz.underlying4
 a4:=Tryz.isAgg4
 z4:=Tryz.sizeOf4
 v4:=Tryz.zeroValue4
 t23:=Tryz.underlying85
 a23:=Tryz.isAgg85
 z23:=Tryz.sizeOf85
 v23:=Tryz.zeroValue85
 t26:=Tryz.underlying3
 a26:=Tryz.isAgg3
 z26:=Tryz.sizeOf3
 v26:=Tryz.zeroValue3
 t27:=Tryz.underlying82
 a27:=Tryz.isAgg82
 z27:=Tryz.sizeOf82
 v27:=Tryz.zeroValue82
 t28:=Tryz.underlying83
 a28:=Tryz.isAgg83
 z28:=Tryz.sizeOf83
 v28:=Tryz.zeroValue83
 t33:=Tryz.underlying120
 a33:=Tryz.isAgg120
 z33:=Tryz.sizeOf120
 v33:=Tryz.zeroValue120}
def Tryz.sortedA_ren:Go.Shelf.Ren:=⟨fun|6=>33|8=>60|9=>61|11=>91|13=>93|12=>92|23=>132|24=>133|14=>123|15=>124|16=>125|17=>126|18=>127|19=>128|20=>129|21=>130|22=>131|25=>158|26=>159|27=>160|28=>161|29=>162|30=>163|31=>180|n=>n,fun|26=>3|28=>83|24=>57|0=>0|3=>3|37=>73|48=>183|50=>185|4=>4|40=>177|39=>176|45=>164|5=>5|9=>9|51=>204|55=>208|57=>219|58=>114|33=>120|n=>n,fun|n=>n⟩
theorem Tryz.sortedA:Go.Proofs.SlLaysZI.n6 Tryz.prog Tryz.sortedA_ren:={
 mixed:=by kernel_rfl
 f6:=⟨Tryz.f33.name,by decide,Tryz.func33.trans (congrArg some (by kernel_rfl))⟩
 f8:=⟨Tryz.f60.name,by decide,Tryz.func60.trans (congrArg some (by kernel_rfl))⟩
 f11:=⟨Tryz.f91.name,by decide,Tryz.func91.trans (congrArg some (by kernel_rfl))⟩
 t0:=Tryz.underlying0
 a0:=Tryz.isAgg0
 z0:=Tryz.sizeOf0
 v0:=Tryz.zeroValue0
 t24:=Tryz.underlying57
 a24:=Tryz.isAgg57
 z24:=Tryz.sizeOf57
 v24:=Tryz.zeroValue57
 t26:=Tryz.underlying3
 a26:=Tryz.isAgg3
 z26:=Tryz.sizeOf3
 v26:=Tryz.zeroValue3
 t28:=Tryz.underlying83
 a28:=Tryz.isAgg83
 z28:=Tryz.sizeOf83
 v28:=Tryz.zeroValue83
 i26:=by kernel_rfl}
def Tryz.sortA_ren:Go.Shelf.Ren:=⟨fun|5=>61|8=>93|7=>92|19=>132|20=>133|10=>123|11=>124|12=>125|13=>126|14=>127|15=>128|16=>129|17=>130|18=>131|30=>158|31=>159|32=>160|33=>161|34=>162|35=>163|40=>180|n=>n,fun|23=>57|25=>3|3=>3|32=>73|22=>57|0=>0|44=>183|46=>185|4=>4|36=>177|35=>176|41=>164|5=>5|9=>9|53=>204|57=>208|63=>219|64=>114|n=>n,fun|n=>n⟩
theorem Tryz.sortA:Go.Proofs.SlLaysM.n5 Tryz.prog Tryz.sortA_ren:={
 mixed:=by kernel_rfl
 f5:=⟨Tryz.f61.name,by decide,Tryz.func61.trans (congrArg some (by kernel_rfl))⟩
 f7:=⟨Tryz.f92.name,by decide,Tryz.func92.trans (congrArg some (by kernel_rfl))⟩
 f8:=Tryz.func93.trans (congrArg some (by kernel_rfl))
 f10:=⟨Tryz.f123.name,by decide,Tryz.func123.trans (congrArg some (by kernel_rfl))⟩
 f11:=⟨Tryz.f124.name,by decide,Tryz.func124.trans (congrArg some (by kernel_rfl))⟩
 f12:=⟨Tryz.f125.name,by decide,Tryz.func125.trans (congrArg some (by kernel_rfl))⟩
 f13:=⟨Tryz.f126.name,by decide,Tryz.func126.trans (congrArg some (by kernel_rfl))⟩
 f14:=⟨Tryz.f127.name,by decide,Tryz.func127.trans (congrArg some (by kernel_rfl))⟩
 f15:=⟨Tryz.f128.name,by decide,Tryz.func128.trans (congrArg some (by kernel_rfl))⟩
 f16:=⟨Tryz.f129.name,by decide,Tryz.func129.trans (congrArg some (by kernel_rfl))⟩
 f17:=⟨Tryz.f130.name,by decide,Tryz.func130.trans (congrArg some (by kernel_rfl))⟩
 f18:=⟨Tryz.f131.name,by decide,Tryz.func131.trans (congrArg some (by kernel_rfl))⟩
 f19:=Tryz.func132.trans (congrArg some (by kernel_rfl))
 f20:=Tryz.func133.trans (congrArg some (by kernel_rfl))
 f30:=⟨Tryz.f158.name,by decide,Tryz.func158.trans (congrArg some (by kernel_rfl))⟩
 f31:=Tryz.func159.trans (congrArg some (by kernel_rfl))
 f32:=Tryz.func160.trans (congrArg some (by kernel_rfl))
 f33:=⟨Tryz.f161.name,by decide,Tryz.func161.trans (congrArg some (by kernel_rfl))⟩
 f34:=⟨Tryz.f162.name,by decide,Tryz.func162.trans (congrArg some (by kernel_rfl))⟩
 f35:=⟨Tryz.f163.name,by decide,Tryz.func163.trans (congrArg some (by kernel_rfl))⟩
 f40:=⟨Tryz.f180.name,by decide,Tryz.func180.trans (congrArg some (by kernel_rfl))⟩
 t0:=Tryz.underlying0
 a0:=Tryz.isAgg0
 z0:=Tryz.sizeOf0
 v0:=Tryz.zeroValue0
 t3:=Tryz.underlying3
 a3:=Tryz.isAgg3
 z3:=Tryz.sizeOf3
 v3:=Tryz.zeroValue3
 t4:=Tryz.underlying4
 a4:=Tryz.isAgg4
 z4:=Tryz.sizeOf4
 v4:=Tryz.zeroValue4
 t5:=Tryz.underlying5
 a5:=Tryz.isAgg5
 z5:=Tryz.sizeOf5
 v5:=Tryz.zeroValue5
 t9:=Tryz.underlying9
 a9:=Tryz.isAgg9
 z9:=Tryz.sizeOf9
 v9:=Tryz.zeroValue9
 t22:=Tryz.underlying57
 a22:=Tryz.isAgg57
 z22:=Tryz.sizeOf57
 v22:=Tryz.zeroValue57
 t23:=Tryz.underlying57
 a23:=Tryz.isAgg57
 z23:=Tryz.sizeOf57
 v23:=Tryz.zeroValue57
 t25:=Tryz.underlying3
 a25:=Tryz.isAgg3
 z25:=Tryz.sizeOf3
 v25:=Tryz.zeroValue3
 t32:=Tryz.underlying73
 a32:=Tryz.isAgg73
 z32:=Tryz.sizeOf73
 v32:=Tryz.zeroValue73
 t35:=Tryz.underlying176
 a35:=Tryz.isAgg176
 z35:=Tryz.sizeOf176
 v35:=Tryz.zeroValue176
 t36:=Tryz.underlying177
 a36:=Tryz.isAgg177
 z36:=Tryz.sizeOf177
 v36:=Tryz.zeroValue177
 t41:=Tryz.underlying164
 a41:=Tryz.isAgg164
 z41:=Tryz.sizeOf164
 v41:=Tryz.zeroValue164
 t44:=Tryz.underlying183
 a44:=Tryz.isAgg183
 z44:=Tryz.sizeOf183
 v44:=Tryz.zeroValue183
 t46:=Tryz.underlying185
 a46:=Tryz.isAgg185
 z46:=Tryz.sizeOf185
 v46:=Tryz.zeroValue185
 t53:=Tryz.underlying204
 a53:=Tryz.isAgg204
 z53:=Tryz.sizeOf204
 v53:=Tryz.zeroValue204
 t57:=Tryz.underlying208
 a57:=Tryz.isAgg208
 z57:=Tryz.sizeOf208
 v57:=Tryz.zeroValue208
 t63:=Tryz.underlying219
 a63:=Tryz.isAgg219
 z63:=Tryz.sizeOf219
 v63:=Tryz.zeroValue219
 t64:=Tryz.underlying114
 a64:=Tryz.isAgg114
 z64:=Tryz.sizeOf114
 v64:=Tryz.zeroValue114}
def Tryz.compactA_ren:Go.Shelf.Ren:=⟨fun|20=>89|n=>n,fun|22=>57|3=>3|4=>4|0=>0|n=>n,fun|n=>n⟩
theorem Tryz.compactA:Go.Proofs.Lays2.n20 Tryz.prog Tryz.compactA_ren:={
 mixed:=by kernel_rfl
 f20:=Tryz.func89.trans (congrArg some (by kernel_rfl))
 t0:=Tryz.underlying0
 a0:=Tryz.isAgg0
 z0:=Tryz.sizeOf0
 v0:=Tryz.zeroValue0
 t3:=Tryz.underlying3
 a3:=Tryz.isAgg3
 z3:=Tryz.sizeOf3
 v3:=Tryz.zeroValue3
 t4:=Tryz.underlying4
 a4:=Tryz.isAgg4
 z4:=Tryz.sizeOf4
 v4:=Tryz.zeroValue4
 t22:=Tryz.underlying57
 a22:=Tryz.isAgg57
 z22:=Tryz.sizeOf57
 v22:=Tryz.zeroValue57
 i3:=by kernel_rfl}
end Go.Proofs
namespace Go.AL
theorem le_putL:∀{l:List LI} {s σ:St},St.le s σ→offL s l→St.le s (putL σ l)
 |[],_,_,h,_=>h
 |i::l,s,σ,h,hl=>le_putL (l:=l) (by
   cases i with
   |bx b c=>exact⟨fun x y hx=>by
     have:x≠b:=fun he=>hl.1 (by rw[←he]; exact .inl (by simp[hx]))
     simp only[LI.put,St.set,if_neg this]; exact h.box x y hx,fun x y hx=>h.buf x y hx,fun x y hx=>h.mp x y hx⟩
   |gr z n o=>
    cases o with
    |none=>exact h
    |some b=>exact⟨fun x y hx=>h.box x y hx,fun x y hx=>by
      have:x≠b:=fun he=>hl.1 b rfl (by rw[←he]; exact .inr (.inl (by simp[hx])))
      simp only[LI.put,grS,St.setBuf,if_neg this]; exact h.buf x y hx,fun x y hx=>h.mp x y hx⟩) hl.2
open Go.Proofs
open Go.Proofs
theorem subB_zero (l:List Cl):subB l 0 0=true:=by simp[subB,validN]
open Go.Proofs
theorem upI_trans {l:List Cl}:∀(n:Nat) (c:Int),c<n→∀k∈upI l c,∀x∈upI l k,x∈upI l c
 |0,c,h,k,hk,x,hx=>by rw[upI_neg (by omega)] at hk; cases hk
 |n+1,c,h,k,hk,x,hx=>by
  by_cases h0:c<0
  ·rw[upI_neg h0] at hk; cases hk
  obtain⟨m,rfl⟩:∃m:Nat,c=m:=⟨c.toNat,by omega⟩
  by_cases hm:m<l.length
  ·rw[upI_step hm] at hk ⊢
   rcases List.mem_cons.1 hk with rfl|hk
   ·rw[upI_step hm] at hx; exact hx
   ·by_cases hp:l[m].parent<m
    ·rw[if_pos hp] at hk ⊢
     exact List.mem_cons_of_mem _ (upI_trans n _ (by omega) k hk x hx)
    ·rw[if_neg hp] at hk; cases hk
  ·rw[upI_out (by omega)] at hk; cases hk
theorem subB_valid {l:List Cl} {a b:Ty} (h:subB l a b=true):validN l.length a=true∧validN l.length b=true:=by
 unfold subB at h
 split at h
 ·cases h
 ·rename_i h1
  cases ha:validN l.length a
  ·exact absurd (.inl ha) h1
  cases hb:validN l.length b
  ·exact absurd (.inr hb) h1
  exact⟨rfl,rfl⟩
theorem subB_refl {l:List Cl} {a:Ty} (h:validN l.length a=true):subB l a a=true:=by
 rw[subB,if_neg (by simp[h]),if_pos (.inl rfl)]
def SubP (l:List Cl) (a b:Ty):Prop:=
 a=b∨b.val=0∨((a.val=3∨b.val=5)∧isRefB a=true∧isRefB b=true)∨(16≤a.val∧16≤b.val∧(b.val-16)∈upI l ((a.val:Int)-16))
theorem subB_iff {l:List Cl} {a b:Ty} (ha:validN l.length a=true) (hb:validN l.length b=true):subB l a b=true↔SubP l a b:=by
 have key:∀h16:16≤b.val,((upI l ((a.val:Int)-16)).any fun k=>decide ((k:Int)=(b.val:Int)-16))=true↔(b.val-16)∈upI l ((a.val:Int)-16):=fun h16=>by
  rw[List.any_eq_true]
  constructor
  ·rintro⟨k,hk,hd⟩
   have:k=b.val-16:=by simp at hd; omega
   rw[←this]; exact hk
  ·intro h; exact⟨_,h,by simp; omega⟩
 unfold subB SubP
 rw[if_neg (by simp[ha,hb])]
 by_cases h1:a=b∨b.val=0
 ·rw[if_pos h1]
  simp only[true_iff]
  rcases h1 with h|h
  ·exact .inl h
  ·exact .inr (.inl h)
 rw[if_neg h1]
 simp only[not_or] at h1
 by_cases h2:a.val=3∨b.val=5
 ·rw[if_pos h2]
  simp only[Bool.and_eq_true]
  constructor
  ·intro h; exact .inr (.inr (.inl ⟨h2,h⟩))
  ·rintro(h|h|⟨_,h⟩|⟨h3,h4,h5⟩)
   ·exact absurd h h1.1
   ·exact absurd h h1.2
   ·exact h
   ·omega
 rw[if_neg h2]
 simp only[Bool.and_eq_true,decide_eq_true_eq]
 constructor
 ·rintro⟨⟨h3,h4⟩,h5⟩
  exact .inr (.inr (.inr ⟨h3,h4,(key h4).1 h5⟩))
 ·rintro(h|h|⟨h,_⟩|⟨h3,h4,h5⟩)
  ·exact absurd h h1.1
  ·exact absurd h h1.2
  ·exact absurd h h2
  ·exact⟨⟨h3,h4⟩,(key h4).2 h5⟩
theorem isRef_iff {t:Ty}:isRefB t=true↔t.val=3∨t.val=4∨t.val=5∨16≤t.val:=by simp[isRefB]
theorem subB_trans {l:List Cl} {a b c:Ty} (h1:subB l a b=true) (h2:subB l b c=true):subB l a c=true:=by
 obtain⟨va,vb⟩:=subB_valid h1
 obtain⟨_,vc⟩:=subB_valid h2
 rw[subB_iff va vb] at h1
 rw[subB_iff vb vc] at h2
 rw[subB_iff va vc]
 rcases h1 with rfl|h1|⟨h1,h3,h4⟩|⟨h1,h3,h4⟩
 ·exact h2
 ·rcases h2 with rfl|h2|⟨h2,h5,h6⟩|⟨h2,h5,h6⟩
  ·exact .inr (.inl h1)
  ·exact .inr (.inl h2)
  ·rw[isRef_iff] at h5; omega
  ·omega
 ·rcases h2 with rfl|h2|⟨h2,h5,h6⟩|⟨h2,h5,h6⟩
  ·exact .inr (.inr (.inl ⟨h1,h3,h4⟩))
  ·exact .inr (.inl h2)
  ·rcases h1 with h1|h1
   ·exact .inr (.inr (.inl ⟨.inl h1,h3,h6⟩))
   ·rcases h2 with h2|h2
    ·omega
    ·exact .inr (.inr (.inl ⟨.inr h2,h3,h6⟩))
  ·rcases h1 with h1|h1
   ·exact .inr (.inr (.inl ⟨.inl h1,h3,isRef_iff.2 (by omega)⟩))
   ·
    simp only[validN,decide_eq_true_eq] at vb
    omega
 ·rcases h2 with rfl|h2|⟨h2,h5,h6⟩|⟨h2,h5,h6⟩
  ·exact .inr (.inr (.inr ⟨h1,h3,h4⟩))
  ·exact .inr (.inl h2)
  ·rcases h2 with h2|h2
   ·omega
   ·exact .inr (.inr (.inl ⟨.inr h2,isRef_iff.2 (by omega),h6⟩))
  ·refine .inr (.inr (.inr ⟨h1,h5, ?_⟩))
   rw[show((b.val:Int)-16)=((b.val-16:Nat):Int) by omega] at h6
   exact upI_trans a.val _ (by omega) _ h4 _ h6
theorem slAt_bare (f:Fr) {i:Nat} (h:i<24):slAt (bareF f) i=if(i:Int)<f.loc+f.h then slAt f i else 0:=by
 rw[slAt_lt _ h,slAt_lt _ h]; simp[bareF]
theorem slAt_set (f:Fr) {a:Int} {t:Ty} {i:Nat} (h:i<24) (ha:a.toNat<24):slAt (setF f a t) i=if i=a.toNat then t else slAt f i:=by
 rw[slAt_lt _ h,slAt_lt _ h]
 simp only[setF,dif_pos ha,Vector.getElem_set]
 by_cases he:a.toNat=i
 ·rw[if_pos he,if_pos he.symm]
 ·rw[if_neg he,if_neg (fun h=>he h.symm)]
theorem fr_ext {f g:Fr} (h1:f.loc=g.loc) (h2:f.h=g.h) (h3:∀i,i<24→slAt f i=slAt g i):f=g:=by
 obtain⟨a,b,c⟩:=f
 obtain⟨a',b',c'⟩:=g
 simp only at h1 h2
 subst h1; subst h2
 simp only[Fr.mk.injEq,true_and]
 apply Vector.ext
 intro i hi
 have:=h3 i hi
 rw[slAt_lt _ hi,slAt_lt _ hi] at this
 exact this
theorem checkF_iff {n:Nat} {f:Fr}:checkF n f=0↔shapedB f=true∧bareF f=f∧∀i,i<24→validN n (slAt f i)=true:=by
 have hv:(f.sl.toList.any fun t=> !validN n t)=false↔∀i,i<24→validN n (slAt f i)=true:=by
  rw[List.any_eq_false]
  constructor
  ·intro h i hi
   have:=h (slAt f i) (by rw[slAt_lt f hi]; simp)
   simpa using this
  ·intro h t ht
   obtain⟨j,hj,rfl⟩:=List.mem_iff_getElem.1 ht
   have hj24:j<24:=by simpa using hj
   have:=h j hj24
   rw[slAt_lt f hj24] at this
   simpa using this
 rw[←hv]
 unfold checkF
 cases hs:shapedB f
 ·simp
 by_cases hb:bareF f=f
 ·rw[if_neg (by simp[hb])]
  cases (f.sl.toList.any fun t=> !validN n t) <;> simp[hb]
 ·rw[if_pos (.inr hb)]; simp[hb]
theorem slAt_popN (f:Fr) (hb:bareF f=f):∀(k:Nat) {i:Nat},i<24→slAt (popN k f) i=if(i:Int)<f.loc+f.h-k then slAt f i else 0
 |0,i,h=>by
  split
  ·rfl
  ·exact bare_iff.1 hb i h (by omega)
 |k+1,i,h=>by
  rw[popN,popF,slAt_bare _ h]
  simp only[popN_loc,popN_h]
  have:=slAt_popN f hb k h
  by_cases h1:(i:Int)<f.loc+f.h-(k+1:Nat)
  ·rw[if_pos (by omega),if_pos h1]
   rw[if_pos (by omega)] at this
   exact this
  ·rw[if_neg (by omega),if_neg h1]
theorem slAt_sl {f g:Fr} (h:f.sl=g.sl) (i:Nat):slAt f i=slAt g i:=by unfold slAt; rw[h]
theorem slAt_mk (f:Fr) (a b:Int) (i:Nat):slAt (⟨a,b,f.sl⟩:Fr) i=slAt f i:=slAt_sl (f:=⟨a,b,f.sl⟩) (g:=f) rfl i
theorem push_all:∀(gs:List Ty) (f:Fr),shapedB f=true→bareF f=f→pushAll gs f=if f.loc+f.h+gs.length≤24 then((pushAll gs f).1,0) else(fr0 0,31)
 |[],f,hs,hb=>by
  have:=shaped_of hs
  rw[if_pos (by simp; omega)]; rfl
 |t::gs,f,hs,hb=>by
  have hsh:=shaped_of hs
  rw[pushAll]
  by_cases h24:f.loc+f.h=24
  ·rw[show pushF f t=(fr0 0,31) by rw[pushF,if_pos h24]]
   rw[if_pos (by simp),if_neg (by simp; omega)]
  ·have hp:pushF f t=(⟨f.loc,f.h+1,(setF (bareF f) (f.loc+f.h) t).sl⟩,0):=by rw[pushF,if_neg h24]
   rw[hp]
   simp only[ne_eq,not_true_eq_false,if_false]
   have hsl:∀i,i<24→slAt (⟨f.loc,f.h+1,(setF (bareF f) (f.loc+f.h) t).sl⟩:Fr) i=if i=(f.loc+f.h).toNat then t else slAt f i:=fun i hi=>by
    rw[slAt_mk,slAt_set _ hi (by omega),hb]
   have hs':shapedB (⟨f.loc,f.h+1,(setF (bareF f) (f.loc+f.h) t).sl⟩:Fr)=true:=by simp only[shapedB,decide_eq_true_eq]; omega
   have hb':bareF (⟨f.loc,f.h+1,(setF (bareF f) (f.loc+f.h) t).sl⟩:Fr)=⟨f.loc,f.h+1,(setF (bareF f) (f.loc+f.h) t).sl⟩:=bare_iff.2 fun i hi hle=>by
    simp only at hle
    rw[hsl i hi,if_neg (by omega)]
    exact bare_iff.1 hb i hi (by omega)
   have ih:=push_all gs _ hs' hb'
   rw[ih]
   simp only[List.length_cons]
   by_cases hc:f.loc+f.h+(gs.length+1:Nat)≤24
   ·rw[if_pos (by omega),if_pos hc]
   ·rw[if_neg (by omega),if_neg hc]
theorem push_get:∀(gs:List Ty) (f:Fr),shapedB f=true→bareF f=f→f.loc+f.h+gs.length≤24→(pushAll gs f).1.loc=f.loc∧(pushAll gs f).1.h=f.h+gs.length∧bareF (pushAll gs f).1=(pushAll gs f).1∧∀i,i<24→slAt (pushAll gs f).1 i=if(i:Int)<f.loc+f.h then slAt f i else(gs[i-(f.loc+f.h).toNat]?).getD 0
 |[],f,hs,hb,h=>by
  refine⟨rfl,by simp[pushAll],hb,fun i hi=> ?_⟩
  split
  ·rfl
  ·simp only[List.getElem?_nil,Option.getD_none]
   exact bare_iff.1 hb i hi (by omega)
 |t::gs,f,hs,hb,h=>by
  have hsh:=shaped_of hs
  simp only[List.length_cons] at h
  have h24:¬f.loc+f.h=24:=by omega
  have hp:pushF f t=(⟨f.loc,f.h+1,(setF (bareF f) (f.loc+f.h) t).sl⟩,0):=by rw[pushF,if_neg h24]
  have hsl:∀i,i<24→slAt (⟨f.loc,f.h+1,(setF (bareF f) (f.loc+f.h) t).sl⟩:Fr) i=if i=(f.loc+f.h).toNat then t else slAt f i:=fun i hi=>by
   rw[slAt_mk,slAt_set _ hi (by omega),hb]
  have hs':shapedB (⟨f.loc,f.h+1,(setF (bareF f) (f.loc+f.h) t).sl⟩:Fr)=true:=by simp only[shapedB,decide_eq_true_eq]; omega
  have hb':bareF (⟨f.loc,f.h+1,(setF (bareF f) (f.loc+f.h) t).sl⟩:Fr)=⟨f.loc,f.h+1,(setF (bareF f) (f.loc+f.h) t).sl⟩:=bare_iff.2 fun i hi hle=>by
   simp only at hle
   rw[hsl i hi,if_neg (by omega)]
   exact bare_iff.1 hb i hi (by omega)
  obtain⟨i1,i2,i3,i4⟩:=push_get gs _ hs' hb' (by simp only; omega)
  rw[pushAll,hp]
  simp only[ne_eq,not_true_eq_false,if_false] at i1 i2 i3 i4 ⊢
  refine⟨i1,by rw[i2,List.length_cons]; omega,i3,fun i hi=> ?_⟩
  rw[i4 i hi,hsl i hi]
  by_cases h1:(i:Int)<f.loc+f.h
  ·rw[if_pos (by omega),if_pos h1,if_neg (by omega)]
  ·by_cases h2:i=(f.loc+f.h).toNat
   ·rw[if_pos (by omega),if_neg h1,if_pos h2,h2]; simp
   ·rw[if_neg (by omega),if_neg h1]
    rw[show i-(f.loc+f.h).toNat=(i-(f.loc+(f.h+1)).toNat)+1 by omega]
    simp
end Go.AL
