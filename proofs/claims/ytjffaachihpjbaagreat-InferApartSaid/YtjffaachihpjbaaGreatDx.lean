import Derived.Test.YtjffaachihpjbaaGreatDw
import Derived.Test.YtjffaachihpjbaaGreatDq
set_option linter.unusedSimpArgs false
set_option linter.unusedVariables false
set_option maxRecDepth 100000
set_option maxHeartbeats 4000000
set_option linter.defProp false
namespace Go.AL
open Go.Proofs
theorem enc_len2 (loc:Int) (es:List Ey) (h:es.length≤4096):(encC loc es).1.length≤200000:=by
 unfold encC
 split
 ·simp
 ·have:=flat_len loc.toNat es
  simp only[encB,headB,List.length_append,List.length_cons,List.length_nil]; omega
open Go.Proofs
theorem flat_bytes (xs:List Ty):(rws eT xs).flatten=xs.map fun t=>D.int .u8 (t.val:Int):=by
 induction xs with
 |nil=>rfl
 |cons x r ih=>
  show eT x++(rws eT r).flatten=_
  rw[ih]; rfl
theorem cells_set {xs:List Ty} {k:Nat} {t:Ty} {J:List D} (h:k<xs.length):((rws eT xs).flatten++J).take k++[D.int .u8 (t.val:Int)]++((rws eT xs).flatten++J).drop (k+1)=(rws eT (xs.set k t)).flatten++J:=by
 rw[flat_bytes,flat_bytes,List.take_append_of_le_length (by simp; omega),List.drop_append_of_le_length (by simp; omega),List.map_set,List.set_eq_take_append_cons_drop,if_pos (by simpa using h)]
 simp
def bXiaO0:=aI @zg0 (aI @ze8 (aI @eCo_3 (aI @eCo_4 (aI @zb7 (aI @zb0 (aI @gdD (aI @anD (aI @ze7 (aI @zd6 (aI @ey_0 (aI @zb3 (aI @za7 (aI @eIn_1 (aI @eIn_2 @za4))))))))))))))
def bXiaO1:=aI @zg0 (aI @ze8 (aI @eCo_3 (aI @eCo_4 (aI @zb7 (aI @zb0 (aI @gdD (aI @anD (aI @ze7 (aI @zd6 (aI @ey_0 (aI @zb3 (aI @za7 (aI @eIn_1 (aI @eIn_2 (aI @za4 @Int.ofNat_zero)))))))))))))))
def bXiaO2:=aI @zg0 (aI @ze8 (aI @eCo_3 (aI @eCo_4 (aI @zb7 (aI @zb0 (aI @gdD (aI @anD (aI @ze7 (aI @zd6 (aI @ey_0 (aI @zb3 (aI @za7 (aI @eIn_1 (aI @eIn_2 (aI @za4 @Int.toNat_natCast)))))))))))))))
theorem law8 (e:En) (loc:Int) (b:List Ty) (at':Int) (x:Ty) (hw:WideE e) (hb:b.length≤140737488351232) (ha0:0≤at') (ha1:at'<18446744073709551616):PCall Tryz.prog 8 [.agg (eCo e loc b),.int .u64 at',.int .u8 x.val] (.bool true):=by
 have hinf:=infer26 e loc b .no hw (by omega)
 have hm:=F8.hm
 have hN:=of_decide_eq_true F8.hN
 refine F8.pcallC rfl fun T hT=> ?_
 refine awpC_step hm hN (fun _ _ h=>by cases h) ?_
 simp -implicitDefEqProofs only[go_sem,hT,Nat.add_zero,bXiaO0]
 intro b3
 refine awpC_step hm hN (fun _ _ h=>by cases h) ?_
 simp -implicitDefEqProofs only[go_sem,hT,Nat.add_zero,bXiaO0]
 refine za3 hinf ?_
 by_cases h:(inferD e loc b).2.2=0
 case neg=>
  have gz:(((inferD e loc b).2.2:Int)=0)=False:=eq_false (by omega)
  simp -implicitDefEqProofs only[go_sem,hT,Nat.add_zero,bXiaO0]
  refine awpC_step hm hN (fun _ _ h=>by cases h) ?_
  simp -implicitDefEqProofs only[go_sem,hT,Nat.add_zero,gz,bXiaO0]
  done
 have gz:(((inferD e loc b).2.2:Int)=0)=True:=eq_true (by omega)
 simp -implicitDefEqProofs only[go_sem,hT,Nat.add_zero,bXiaO0]
 refine awpC_step hm hN (fun _ _ h=>by cases h) ?_
 obtain⟨r,hg,hla,hi,hem,hb4,hmay⟩:=emit_ok hw h
 have hpos:0<b.length:=hla.lt 0 hla.start.1
 have gl:((b.length:Int)=0)=False:=eq_false (by omega)
 rw[hi]
 simp -implicitDefEqProofs only[go_sem,hT,Nat.add_zero,gl,bXiaO1]
 refine awpC_step hm hN (fun _ _ h=>by cases h) ?_
 obtain⟨n,hn⟩:∃n:Nat,at'=n:=⟨at'.toNat,by omega⟩
 subst hn
 have c1:IntKind.wrap .u64 (b.length:Int)=b.length:=by
  simp[IntKind.wrap,IntKind.bits,IntKind.signed]
  omega
 have c2:((n:Int).tmod (b.length:Int))=((n%b.length:Nat):Int):=by rw[Int.tmod_eq_emod_of_nonneg (by omega)]; rfl
 have hk:n%b.length<b.length:=Nat.mod_lt _ hpos
 obtain⟨k,hkk⟩:∃k,n%b.length=k:=⟨_,rfl⟩
 rw[hkk] at c2 hk
 have c3:IntKind.wrap .i64 (k:Int)=k:=zb8 (by omega) (by omega)
 simp -implicitDefEqProofs only[go_sem,hT,Nat.add_zero,c1,c2,c3,gl,bXiaO0]
 have hes:entsD r b.length=(adrs r b.length).map fun a:Nat=>(⟨(a:Int),false,frA r a⟩:Ey):=ents_adrs r b.length
 have hL:∀x∈adrs r b.length,x<b.length∧(decF b x).2=0:=fun x hx=>⟨(adrs_mem.1 hx).1,(hla.goes x (adrs_mem.1 hx).2).1⟩
 have hlen:(entsD r b.length).length=(adrs r b.length).length:=by rw[hes,List.length_map]
 have hposL:∀i (hi:i<(adrs r b.length).length) (hi':i<(entsD r b.length).length),(entsD r b.length)[i].pos=((adrs r b.length)[i]:Int):=fun i hi hi'=>by simp only[hes,List.getElem_map]
 have hel:=ents_len r b.length
 have hinf10:=infer10 e loc b hw (by omega)
 rw[hi] at hinf10
 have hem43:=emit43 e loc b hw (by omega)
 rw[hem] at hem43
 refine awpC_step hm hN (fun _ _ h=>by cases h) ?_
 simp -implicitDefEqProofs only[go_sem,hT,Nat.add_zero,bXiaO0]
 refine loopL F8 (fun i:Nat=>[(1,.int .u64 (n:Int)),(2,.int .u8 (x.val:Int)),(3,.ptr b3 0),(7,.slice .no (rws eEy (entsD r b.length))),(10,.int .i64 (k:Int)),(54,.slice .no (rws eEy (entsD r b.length))),(55,.int .i64 (entsD r b.length).length),(56,.int .i64 (i:Int))]) (fun _=>({}:St).set b3 (eCo e loc b)) (fun i=>i≤(entsD r b.length).length∧∀j (hj:j<(adrs r b.length).length),j<i→¬((adrs r b.length)[j]≤k∧k<(adrs r b.length)[j]+szA b (adrs r b.length)[j])) (fun i=>(entsD r b.length).length-i) 0 ⟨Nat.zero_le _,fun j _ h=>by omega⟩ ?_ (St.le.refl _) ?_
 ·simp -implicitDefEqProofs only[go_sem,hT,Int.ofNat_zero]
 clear hT T
 rintro i ⟨hi',hno⟩ T hT
 by_cases h':i<(entsD r b.length).length
 ·have g2:((i:Int)<(entsD r b.length).length)=True:=eq_true (by omega)
  have g3:(0≤(i:Int))=True:=eq_true (by omega)
  have w1:IntKind.wrap .i64 ((i:Int)+1)=((i+1:Nat):Int):=by rw[zb8 (by omega) (by omega)]; simp
  have hRx:(rws eEy (entsD r b.length))[i]?.getD []=eEy (entsD r b.length)[i]:=rws_at h'
  have hp:=hposL i (by omega) h'
  obtain⟨hxb,hxd⟩:=hL (adrs r b.length)[i] (List.getElem_mem _)
  have hno1:¬((adrs r b.length)[i]≤k∧k<(adrs r b.length)[i]+szA b (adrs r b.length)[i])→∀j (hj:j<(adrs r b.length).length),j<i+1→¬((adrs r b.length)[j]≤k∧k<(adrs r b.length)[j]+szA b (adrs r b.length)[j]):=fun hg j hj hlt=>by
   by_cases hji:j=i
   ·subst hji; exact hg
   ·exact hno j hj (by omega)
  generalize (entsD r b.length)[i]=y at *
  generalize (adrs r b.length)[i]=a at *
  simp -implicitDefEqProofs only[go_sem,hT,g2,g3,hRx,Nat.add_zero,hp,bXiaO2]
  intro b12 m1 m2
  have hI:(decF b a).1=insA b a:=rfl
  have hsz:szA b a=ze9 (insA b a).op.val:=rfl
  have h6:=sizeOp_le (insA b a).op.val
  rw[hsz] at hno1
  simp -implicitDefEqProofs only[go_sem,hT,Nat.add_zero,m1,m2,hp,bXiaO0]
  refine za3 (refDecode19 b .no a (by omega) (by omega)) ?_
  rw[hI]
  generalize insA b a=q at *
  simp -implicitDefEqProofs only[go_sem,hT,Nat.add_zero,m1,m2,hp,bXiaO0]
  intro b13 m3 m4 m5 m6
  refine⟨by rintro b rfl; simp[St.set_box,m3,m4], ?_⟩
  simp -implicitDefEqProofs only[go_sem,hT,Nat.add_zero,m1,m2,m3,m4,m5,m6,hp,bXiaO0]
  have hend:St.le (({}:St).set b3 (eCo e loc b)) (((({}:St).set b3 (eCo e loc b)).set b12 (eEy y)).set b13 (eIn q)):=(le_add fun h=>(set_has.1 h).elim m1 (St.not_has_nil _)).trans (le_add fun h=>(set_has.1 h).elim m3 fun h=>(set_has.1 h).elim m5 (St.not_has_nil _))
  by_cases hak:a≤k
  case neg=>
   have ga:(((a:Nat):Int)≤(k:Int))=False:=eq_false (by omega)
   simp -implicitDefEqProofs only[go_sem,hT,Nat.add_zero,m1,m2,m3,m4,m5,m6,hp,ga,w1,bXiaO0]
   exact⟨i+1,⟨by omega,hno1 fun hc=>hak hc.1⟩,by omega,rfl,hend⟩
  have ga:(((a:Nat):Int)≤(k:Int))=True:=eq_true (by omega)
  simp -implicitDefEqProofs only[go_sem,hT,Nat.add_zero,m1,m2,m3,m4,m5,m6,hp,ga,bXiaO0]
  refine za3 (refSize74 _) ?_
  have w2:IntKind.wrap .i64 ((a:Int)+(ze9 q.op.val:Int))=(a:Int)+ze9 q.op.val:=zb8 (by omega) (by omega)
  by_cases hak2:k<a+ze9 q.op.val
  case neg=>
   have gb:((k:Int)<(a:Int)+(ze9 q.op.val:Int))=False:=eq_false (by omega)
   simp -implicitDefEqProofs only[go_sem,hT,Nat.add_zero,m1,m2,m3,m4,m5,m6,hp,w2,gb,w1,bXiaO0]
   exact⟨i+1,⟨by omega,hno1 fun hc=>hak2 hc.2⟩,by omega,rfl,hend⟩
  have gb:((k:Int)<(a:Int)+(ze9 q.op.val:Int))=True:=eq_true (by omega)
  simp -implicitDefEqProofs only[go_sem,hT,Nat.add_zero,m1,m2,m3,m4,m5,m6,hp,w2,gb,bXiaO0]
  refine za3 hinf10 ?_
  simp -implicitDefEqProofs only[go_sem,hT,Nat.add_zero,bXiaO1]
  done
 have g2:((i:Int)<(entsD r b.length).length)=False:=eq_false (by omega)
 simp -implicitDefEqProofs only[go_sem,hT,g2]
 have hno':∀a∈adrs r b.length,¬(a≤k∧k<a+szA b a):=fun a ha=>by
  obtain⟨j,hj,rfl⟩:=List.getElem_of_mem ha
  exact hno j hj (by omega)
 have hbl:(b.set k x).length=b.length:=List.length_set
 have hcong:=emit_congr (b':=b.set k x) hw hbl h (fun y hy=>by
  rw[hi] at hy
  obtain⟨a,ha,hh,rfl⟩:=ents_mem.1 hy
  have hxd:=(hL a (adrs_mem.2 ⟨ha,hh⟩)).2
  have hn:=hno' a (adrs_mem.2 ⟨ha,hh⟩)
  simp only[Int.toNat_natCast]
  refine decF_congr hxd hbl fun i h1 h2=> ?_
  rw[List.getElem?_set,if_neg]
  rintro rfl
  exact hn ⟨h1,h2⟩)
 obtain⟨hc1,hc2⟩:=hcong
 refine awpC_step hm hN (fun _ _ h=>by cases h) ?_
 simp -implicitDefEqProofs only[go_sem,hT,Nat.add_zero,bXiaO0]
 refine callB_box1 (clone29b b .no (by simp[nilOk]) (by intro h0; rw[h0] at hpos; simp at hpos) (by omega)) fun d s' ⟨q,cap,junk,hd,hcap,hs⟩=>⟨q,_,hs,fun hq=> ?_⟩
 subst hd
 have q3:¬b3=q:=fun he=>hq (set_has.2 (.inl he.symm))
 simp -implicitDefEqProofs only[go_sem,hT,Nat.add_zero,bXiaO0]
 refine awpC_step hm hN (fun _ _ h=>by cases h) ?_
 have hbk:((({}:St).set b3 (eCo e loc b)).set q ((rws eT b).flatten++List.replicate junk D.any)).box q=some ((rws eT b).flatten++List.replicate junk D.any):=by rw[St.set_box,if_pos rfl]
 have hfl:(rws eT b).flatten.length=b.length:=by rw[flat_bytes,List.length_map]
 have gk0:(0≤(k:Int))=True:=eq_true (by omega)
 have gk1:((k:Int)<b.length)=True:=eq_true (by omega)
 have gk2:(k+1≤((rws eT b).flatten++List.replicate junk D.any).length)=True:=eq_true (by rw[List.length_append,hfl]; omega)
 have hcs:=cells_set (xs:=b) (k:=k) (t:=x) (J:=List.replicate junk D.any) hk
 simp -implicitDefEqProofs only[go_sem,hT,Nat.add_zero,gk0,gk1,gk2,Nat.mul_one,Nat.zero_add,hcs,bXiaO2]
 refine awpC_give (t:=18) (b:=q) (s:=1) (cap:=cap) (rows:=rws eT (b.set k x)) (junk:=List.replicate junk D.any) ?_ ?_ ?_ ?_ ?_
 ·simp[upd,za1,hbl]
 ·rw[St.set_box,if_pos rfl]
 ·intro y hy
  rw[rws,List.mem_map] at hy
  obtain⟨z,_,rfl⟩:=hy
  rfl
 ·rw[za1,hbl]; exact hcap
 refine awpC_cut [(3,.ptr b3 0),(7,.slice .no (rws eEy (entsD r b.length))),(18,.slice .no (rws eT (b.set k x)))] (({}:St).set b3 (eCo e loc b)) ?_ ?_ ?_
 ·simp -implicitDefEqProofs only[go_sem,hT]
  done
 ·exact del_le (le_add hq) hq
 clear hT T
 intro T hT
 refine awpC_of hm hN ?_
 have hinf2:=infer10 e loc (b.set k x) hw (by rw[hbl]; omega)
 have hem2:=emit43 e loc (b.set k x) hw (by rw[hbl]; omega)
 rw[hc1,hi] at hinf2
 rw[hc2,hem] at hem2
 simp -implicitDefEqProofs only[go_sem,hT,Nat.add_zero,bXiaO0]
 refine za3 hinf2 ?_
 simp -implicitDefEqProofs only[go_sem,hT,Nat.add_zero,bXiaO0]
 refine za3 hem2 ?_
 simp -implicitDefEqProofs only[go_sem,hT,Nat.add_zero,bXiaO0]
 refine za3 hem43 ?_
 simp -implicitDefEqProofs only[go_sem,hT,Nat.add_zero,bXiaO1]
 refine za3 (equal30 _ _ (by omega) (by omega)) ?_
 simp -implicitDefEqProofs only[go_sem,hT,Nat.add_zero,decide_true,bXiaO0]
 refine za3 (equal45 _ _ .no .no (by have:=enc_len2 loc (certE b r) (by have:=cert_len b r; omega); omega)) ?_
 simp -implicitDefEqProofs only[go_sem,hT,Nat.add_zero,decide_true,bXiaO0]
end Go.AL
namespace Go.AL
open Go.Proofs Go.ChangeShapes Go.WideShapes Go.ChangeAt Go.RowKit
theorem wf_u64 {z:Int} (h:(Lit.int .u64 z).wf=true):0≤z∧z<18446744073709551616:=by
 simp[Lit.wf,IntKind.min,IntKind.max,IntKind.signed,IntKind.bits] at h
 omega
theorem wt26b {n:Nat} {ds:List D} (h:WT Tryz.prog (n+1) 26 ds):∃ts:List Ty,ds=[.slice .no (rws eT ts)]∧ts.length≤140737488351232:=by
 obtain⟨es,rfl,hl,hr⟩:=wt_slice Tryz.underlying26 h
 obtain⟨ts,rfl⟩:=rws_of (enc:=eT) (fun r hr'=>by
  obtain⟨z,rfl,hz⟩:=wt_int Tryz.underlying5 (hr r hr')
  obtain⟨t,rfl⟩:=wf_u8 hz
  exact⟨t,rfl⟩)
 have hb:Tryz.prog.bytesOf 5=1:=by kernel_rfl
 rw[hb,za1] at hl
 exact⟨ts,rfl,by rw[reach_eq] at hl; omega⟩
theorem wt28c {n:Nat} {ds:List D} (h:WT Tryz.prog (n+7) 28 ds):∃(e:En) (z:Int) (b:List Ty),ds=eCo e z b∧WideE e∧b.length≤140737488351232:=by
 obtain⟨d1,d2,rfl,h1,d3,d4,rfl,h2,d5,d6,rfl,h3,h4⟩:=wt_struct Tryz.underlying28 h
 obtain⟨e,rfl,he⟩:=wt57 h1
 obtain⟨z,rfl,hz⟩:=wt_int Tryz.underlying3 h2
 obtain⟨b,rfl,hb⟩:=wt26b h3
 obtain rfl:d6=[]:=h4
 exact⟨e,z,b,rfl,he,hb⟩
end Go.AL
