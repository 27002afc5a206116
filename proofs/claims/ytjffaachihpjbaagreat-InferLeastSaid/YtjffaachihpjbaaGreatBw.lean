import Derived.Test.YtjffaachihpjbaaGreatBv
import Derived.Test.YtjffaachihpjbaaGreatBq
set_option linter.unusedSimpArgs false
set_option linter.unusedVariables false
set_option maxRecDepth 100000
set_option maxHeartbeats 4000000
set_option linter.defProp false
namespace Go.AL
open Go.Proofs
def bXiaD0:=aI @eCo_len (aI @eCo_take (aI @eCo_take3 (aI @eCo_0 (aI @eCo_3 (aI @eCo_4 (aI @ze5 (aI @zd3 (aI @gdD (aI @anD (aI @zf8 (aI @zf6 (aI @ey_0 (aI @ey_1 (aI @ey_fr (aI @ey_26 (aI @za6 (aI @za5 @za4)))))))))))))))))
theorem law4 (e:En) (loc:Int) (b:List Ty) (l:List Ey) (hw:WideE e) (hb:b.length≤140737488351232) (hl:l.length*28≤140737488351232):PCall Tryz.prog 4 [.agg (eCo e loc b),.slice .no (rws eEy l)] (.bool true):=by
 refine F4.pcallM rfl fun T hT=> ?_
 simp -implicitDefEqProofs only[go_sem,c4,hT,Nat.add_zero,bXiaD0]
 intro b2
 refine za3 (taken9 e loc b hw (by omega)) ?_
 by_cases h:(inferD e loc b).2.2=0
 case neg=>
  rw[decide_eq_false h]
  simp -implicitDefEqProofs only[go_sem,hT,Nat.add_zero,bXiaD0]
  done
 rw[decide_eq_true h]
 have hinf:=infer10 e loc b hw (by omega)
 obtain⟨hm,hb4,r,hg,hla,hi⟩:=infer_last hw h
 rw[hi] at hinf
 have hel:=ents_len r b.length
 have hF:Falls e.cs e.cs.length:=can_falls hw (start_eq hm).1
 have hcs:=hw.1.1
 have h0:=hla.start.1
 have hpos:0<(entsD r b.length).length:=List.length_pos_of_mem (ents_mem.2 ⟨0,hla.lt 0 h0,h0,rfl⟩)
 have gp:(((entsD r b.length).length:Int)=0)=False:=eq_false (by omega)
 simp -implicitDefEqProofs only[go_sem,hT,Nat.add_zero,bXiaD0]
 refine za3 hinf ?_
 simp -implicitDefEqProofs only[go_sem,hT,eCo_len,eCo_take,eCo_take3,eCo_0,eCo_3,eCo_4,ze5,zd3,gdD,Nat.add_zero,anD,zf8,zf6,ey_0,ey_1,ey_fr,ey_26,za6,za5,za4,Int.ofNat_zero,gp]
 refine za3 (fixed11 e loc b l hw hm (by omega) (by omega)) ?_
 cases hfx:fixedI e loc b l with
 |false=>
  simp -implicitDefEqProofs only[go_sem,hT,Nat.add_zero,bXiaD0]
  done
 |true=>
  have hleast:=fixed_least hw hb4 hg hfx
  have hall:∀x∈entsD r b.length,∃y,findE l x.pos=some y∧subFr e.cs x.fr y.fr=true:=fun x hx=>by
   obtain⟨a,ha,hh,rfl⟩:=ents_mem.1 hx
   obtain⟨y,h1,h2⟩:=hleast a hh
   exact⟨y,h1,subFr_iff.2 h2⟩
  generalize entsD r b.length=es at *
  simp -implicitDefEqProofs only[go_sem,hT,Nat.add_zero,bXiaD0]
  refine loopL F4 (fun i:Nat=>[(1,.slice .no (rws eEy l)),(2,.ptr b2 0),(37,.slice .no (rws eEy es)),(38,.int .i64 es.length),(39,.int .i64 i)]) (fun _=>({}:St).set b2 (eCo e loc b)) (fun i=>i≤es.length) (fun i=>es.length-i) 0 (Nat.zero_le _) ?_ (St.le.refl _) ?_
  ·simp -implicitDefEqProofs only[go_sem,hT,Int.ofNat_zero]
  clear hT T
  rintro i hi' T hT
  by_cases h':i<es.length
  case neg=>
   have g2:((i:Int)<es.length)=False:=eq_false (by omega)
   simp -implicitDefEqProofs only[go_sem,hT,g2]
   done
  have g2:((i:Int)<es.length)=True:=eq_true (by omega)
  have g3:(0≤(i:Int))=True:=eq_true (by omega)
  have w1:IntKind.wrap .i64 ((i:Int)+1)=((i+1:Nat):Int):=by rw[zd2 (by omega) (by omega)]; simp
  have hRx:(rws eEy es)[i]?.getD []=eEy es[i]:=rws_at h'
  obtain⟨y,hy1,hy2⟩:=hall es[i] (List.getElem_mem h')
  generalize es[i]=x at *
  simp -implicitDefEqProofs only[go_sem,hT,g2,g3,hRx,eCo_len,eCo_take,eCo_take3,eCo_0,eCo_3,eCo_4,ze5,zd3,gdD,Nat.add_zero,anD,zf8,zf6,ey_0,ey_1,ey_fr,ey_26,za6,za5,za4,Int.toNat_natCast]
  intro b9 m1 m2
  refine za3 (entry12 l .no x.pos (by omega)) ?_
  have hey:entR l x.pos=y:=by unfold entR; rw[hy1]; rfl
  rw[hey,hy1]
  simp -implicitDefEqProofs only[go_sem,hT,Nat.add_zero,m1,m2,bXiaD0]
  intro b10 m3 m4 m5 m6
  simp -implicitDefEqProofs only[go_sem,hT,Nat.add_zero,m1,m2,m3,m4,m5,m6,Option.isSome_some,bXiaD0]
  refine za3 (refSub38 e.cs .no x.fr y.fr hF (by omega)) ?_
  simp -implicitDefEqProofs only[go_sem,hT,Nat.add_zero,hy2,w1,bXiaD0]
  exact⟨i+1,by omega,by omega,rfl,(le_add fun h=>(set_has.1 h).elim m1 (St.not_has_nil _)).trans (le_add fun h=>(set_has.1 h).elim m3 fun h=>(set_has.1 h).elim m5 (St.not_has_nil _))⟩
end Go.AL
namespace Go.AL
open Go.Proofs Go.ChangeShapes Go.WideShapes Go.ChangeAt Go.RowKit
theorem wt_bool {P:Program} {n:Nat} {t:TypeId} {ds:List D} (hu:P.underlying t=some .bool) (h:WT P n t ds):∃b,ds=[.bool b]:=by
 cases n with
 |zero=>exact h.elim
 |succ n=>unfold WT at h; rw[hu] at h; exact h
theorem wt26b {n:Nat} {ds:List D} (h:WT Tryz.prog (n+1) 26 ds):∃ts:List Ty,ds=[.slice .no (rws eT ts)]∧ts.length≤140737488351232:=by
 obtain⟨es,rfl,hl,hr⟩:=wt_slice Tryz.underlying26 h
 obtain⟨ts,rfl⟩:=rws_of (enc:=eT) (fun r hr'=>by
  obtain⟨z,rfl,hz⟩:=wt_int Tryz.underlying5 (hr r hr')
  obtain⟨t,rfl⟩:=wf_u8 hz
  exact⟨t,rfl⟩)
 have hb:Tryz.prog.bytesOf 5=1:=by kernel_rfl
 rw[hb,za1] at hl
 exact⟨ts,rfl,by rw[reach_eq] at hl; omega⟩
theorem wt28c {n:Nat} {ds:List D} (h:WT Tryz.prog (n+7) 28 ds):∃(e:En) (z:Int) (b:List Ty),ds=eCo e z b∧WideE e∧b.length≤140737488351232:=by
 obtain⟨d1,d2,rfl,h1,d3,d4,rfl,h2,d5,d6,rfl,h3,h4⟩:=wt_struct Tryz.underlying28 h
 obtain⟨e,rfl,he⟩:=wt57 h1
 obtain⟨z,rfl,hz⟩:=wt_int Tryz.underlying3 h2
 obtain⟨b,rfl,hb⟩:=wt26b h3
 obtain rfl:d6=[]:=h4
 exact⟨e,z,b,rfl,he,hb⟩
theorem wtEy {n:Nat} {ds:List D} (h:WT Tryz.prog (n+5) 40 ds):∃y:Ey,ds=eEy y:=by
 obtain⟨d1,d2,rfl,h1,d3,d4,rfl,h2,d5,d6,rfl,h3,h4⟩:=wt_struct Tryz.underlying40 h
 obtain⟨z,rfl,hz⟩:=wt_int Tryz.underlying3 h1
 obtain⟨b,rfl⟩:=wt_bool Tryz.underlying4 h2
 obtain⟨f,rfl⟩:=wt71 h3
 obtain rfl:d6=[]:=h4
 exact⟨⟨z,b,f⟩,by simp[eEy]⟩
theorem wt30 {n:Nat} {ds:List D} (h:WT Tryz.prog (n+6) 30 ds):∃l:List Ey,ds=[.slice .no (rws eEy l)]∧l.length*28≤140737488351232:=by
 obtain⟨es,rfl,hl,hr⟩:=wt_slice Tryz.underlying30 h
 obtain⟨ts,rfl⟩:=rws_of (enc:=eEy) (fun r hr'=>wtEy (hr r hr'))
 have hb:Tryz.prog.bytesOf 40=56:=by kernel_rfl
 rw[hb,za1] at hl
 exact⟨ts,rfl,by rw[reach_eq] at hl; omega⟩
end Go.AL
