import Derived.Test.YtjffaachihpjbaaGreatFs
import Derived.Test.YtjffaachihpjbaaGreatFm
set_option linter.unusedSimpArgs false
set_option linter.unusedVariables false
set_option maxRecDepth 100000
set_option maxHeartbeats 4000000
set_option linter.defProp false
namespace Go.AL
open Go.Proofs
def takeP (p:Nat):Nat→Nat→(Nat→Option Nat)→(Nat→Option Nat)×Bool
 |0,_,tt=>(tt,true)
 |k+1,x,tt=>match tt x with
  |some z=>if z≠p then(tt,false) else takeP p k (x+1) fun y=>if y=x then some p else tt y
  |none=>takeP p k (x+1) fun y=>if y=x then some p else tt y
def bXhdC0:=aI @gdD (aI @eRn_0 (aI @eRn_3 (aI @eRn_4 (aI @eRn_5 (aI @eRn_6 (aI @eRn_7 (aI @eRn_len (aI @nilc_p (aI @zb3 (aI @za7 (aI @in_0 (aI @in_1 @in_2))))))))))))
theorem take159 (r:RB) (hr:r.ne) (e:En) (b:List Ty) (m:RM) (s:RS) (hm:m.of s) (i:Ins) (p:Nat) (hp:i.pos=p) (hp2:p≤5000):
  RCall Tryz.prog 87 [.ptr r.q 0,.agg (eIn i)] (stR r e b m s.wh) fun d s'=>d= .bool (takeP p (ze8 i.op.val) p s.tt).2∧∃m':RM,m'.of ⟨s.ff,s.nn,(takeP p (ze8 i.op.val) p s.tt).1,s.wh⟩∧s'=stR r e b m' s.wh:=by
 have hsz:=sizeOp_le i.op.val
 obtain⟨z,hz⟩:∃z,ze8 i.op.val=z:=⟨_,rfl⟩
 obtain⟨RES,hRES⟩:∃x,takeP p z p s.tt=x:=⟨_,rfl⟩
 rw[hz,hRES]
 refine F87.rcall rfl fun T hT=> ?_
 simp -implicitDefEqProofs only[go_sem,c87,hT,Nat.mul_one,Nat.add_zero,Nat.zero_add,bXhdC0]
 intro b3 hb3
 obtain⟨n1,n2,n3,n4⟩:=stR_ne hr hb3
 refine loopL F87 (fun x:Nat×(Nat→Option Nat)×RM=>[(0,.ptr r.q 0),(3,.ptr b3 0),(5,.int .i64 x.1)]) (fun x=>(stR r e b x.2.2 s.wh).set b3 (eIn i))
  (fun x=>x.2.2.of ⟨s.ff,s.nn,x.2.1,s.wh⟩∧p≤x.1∧x.1≤p+z∧takeP p (p+z-x.1) x.1 x.2.1=RES) (fun x=>p+z-x.1) (p,s.tt,m) ⟨⟨hm.f,hm.n,hm.t⟩,by simp,by simp,by simpa using hRES⟩ ?_ (St.le.refl _) ?_
 ·simp -implicitDefEqProofs only[go_sem,hT,hp]
 clear hT T
 rintro⟨x,tt,m1⟩ ⟨hm1,hx1,hx2,hR⟩ T hT
 simp only at hm1 hx1 hx2 hR hT ⊢
 have kq:=stR_q (r:=r) (e:=e) (b:=b) (m:=m1) (wh:=s.wh)
 have kt:=stR_t (r:=r) (e:=e) (b:=b) (m:=m1) (wh:=s.wh)
 have w1:IntKind.wrap .i64 ((p:Int)+z)=((p+z:Nat):Int):=by rw[zb7 (by omega) (by omega)]; simp
 have w2:IntKind.wrap .i64 ((x:Int)+1)=((x+1:Nat):Int):=by rw[zb7 (by omega) (by omega)]; simp
 have hoff:¬(stR r e b m1 s.wh).has b3:=stR_off hr hb3
 simp -implicitDefEqProofs only[go_sem,mmB,hT,Nat.mul_one,Nat.add_zero,Nat.zero_add,n1,n2,n3,n4,Ne.symm n1,Ne.symm n2,Ne.symm n3,Ne.symm n4,hp,bXhdC0]
 refine⟨fun _ h hc=>hc.1 h,za3 (size125 i.op) ?_⟩
 rw[hz]
 have hk1:=fun(σ:St) (h:σ.mp r.t=some (.map (some .i64) m1.kt m1.vt m1.ct))=>look145 (ok:=true) (n:=x) hm1.t h
 by_cases h:x<p+z
 ·have g1:((x:Int)<((p+z:Nat):Int))=True:=eq_true (by omega)
  simp -implicitDefEqProofs only[go_sem,hT,Nat.mul_one,Nat.add_zero,Nat.zero_add,n1,n2,n3,n4,Ne.symm n1,Ne.symm n2,Ne.symm n3,Ne.symm n4,hp,w1,g1,kq,hk1,kt,bXhdC0]
  obtain⟨k,hk⟩:∃k,p+z-x=k+1:=⟨p+z-x-1,by omega⟩
  have hk':p+z-(x+1)=k:=by omega
  rw[hk,takeP] at hR
  obtain⟨kt',vt',ct',q1,q2⟩:=hm1.t.set x p
  have q1':mset (some .i64) m1.kt m1.vt m1.ct (kyN x) (.int .i64 (p:Int))= .map (some .i64) kt' vt' ct':=q1
  have kf:=stR_f (e:=e) (b:=b) (m:=m1) (wh:=s.wh) hr
  have kn:=stR_n (e:=e) (b:=b) (m:=m1) (wh:=s.wh) hr
  have fin:∀v,St.le ((stR r e b ⟨m1.kf,m1.vf,m1.cf,m1.kn,m1.vn,m1.cn,kt',vt',ct'⟩ s.wh).set b3 v) (((stR r e b m1 s.wh).set b3 v).setM r.t (.map (some .i64) kt' vt' ct')):=fun v=>by
   have h1:(((stR r e b m1 s.wh).set b3 v).setM r.t (.map (some .i64) kt' vt' ct'))=(((stR r e b m1 s.wh).setM r.t (.map (some .i64) kt' vt' ct')).set b3 v):=rfl
   rw[h1]
   exact le_set (le_stR (by rw[setM_box]; exact kq) (by rw[setM_mp,if_neg hr.ft]; exact kf) (by rw[setM_mp,if_neg hr.nt]; exact kn) (by rw[setM_mp,if_pos rfl]))
  cases htx:tt x with
  |none=>
   rw[htx] at hR
   simp only at hR
   simp -implicitDefEqProofs only[go_sem,mmB,hT,Nat.mul_one,Nat.add_zero,Nat.zero_add,n1,n2,n3,n4,Ne.symm n1,Ne.symm n2,Ne.symm n3,Ne.symm n4,lkV,pairD,dN,hp,kq,bXhdC0]
   rw[updA_map (k:=kyN x) mp145 kk3 keyD_int (by rw[set_mp]; exact kt) rfl]
   simp -implicitDefEqProofs only[go_sem,mmB,hT,Nat.mul_one,Nat.add_zero,Nat.zero_add,n1,n2,n3,n4,Ne.symm n1,Ne.symm n2,Ne.symm n3,Ne.symm n4,frz,q1',w2,bXhdC0]
   refine⟨(x+1,(fun y=>if y=x then some p else tt y),⟨m1.kf,m1.vf,m1.cf,m1.kn,m1.vn,m1.cn,kt',vt',ct'⟩),⟨⟨hm1.f,hm1.n,q2⟩,by simp only; omega,by simp only; omega,by simp only; rw[hk']; exact hR⟩,by simp only; omega,rfl,fin _⟩
  |some y=>
   rw[htx] at hR
   simp only at hR
   by_cases hy:y=p
   ·rw[if_neg (by omega)] at hR
    have g2:((y:Int)=p)=True:=eq_true (by omega)
    simp -implicitDefEqProofs only[go_sem,mmB,hT,Nat.mul_one,Nat.add_zero,Nat.zero_add,n1,n2,n3,n4,Ne.symm n1,Ne.symm n2,Ne.symm n3,Ne.symm n4,lkV,pairD,dN,hp,kq,g2,bXhdC0]
    rw[updA_map (k:=kyN x) mp145 kk3 keyD_int (by rw[set_mp]; exact kt) rfl]
    simp -implicitDefEqProofs only[go_sem,mmB,hT,Nat.mul_one,Nat.add_zero,Nat.zero_add,n1,n2,n3,n4,Ne.symm n1,Ne.symm n2,Ne.symm n3,Ne.symm n4,frz,q1',w2,bXhdC0]
    refine⟨(x+1,(fun y=>if y=x then some p else tt y),⟨m1.kf,m1.vf,m1.cf,m1.kn,m1.vn,m1.cn,kt',vt',ct'⟩),⟨⟨hm1.f,hm1.n,q2⟩,by simp only; omega,by simp only; omega,by simp only; rw[hk']; exact hR⟩,by simp only; omega,rfl,fin _⟩
   ·rw[if_pos hy] at hR
    have g2:((y:Int)=p)=False:=eq_false (by omega)
    simp -implicitDefEqProofs only[go_sem,mmB,hT,Nat.mul_one,Nat.add_zero,Nat.zero_add,n1,n2,n3,n4,Ne.symm n1,Ne.symm n2,Ne.symm n3,Ne.symm n4,lkV,pairD,dN,hp,kq,g2,bXhdC0]
    rw[←hR]
    exact⟨_,_,DLe.refl _,le_add hoff,rfl,m1,hm1,rfl⟩
 ·have g1:((x:Int)<((p+z:Nat):Int))=False:=eq_false (by omega)
  simp -implicitDefEqProofs only[go_sem,hT,Nat.mul_one,Nat.add_zero,Nat.zero_add,n1,n2,n3,n4,Ne.symm n1,Ne.symm n2,Ne.symm n3,Ne.symm n4,hp,w1,g1,bXhdC0]
  rw[show p+z-x=0 by omega,takeP] at hR
  rw[←hR]
  exact⟨_,_,DLe.refl _,le_add hoff,rfl,m1,hm1,rfl⟩
end Go.AL
namespace Go.AL
open Go.Proofs Go.Sort
def eZ (z:Int):D:= .int .i64 z
def sortZ (zs:List Int):List Int:=zs.mergeSort fun x y=>decide (x≤y)
theorem repAll_len {M:MMap} {w:World}:∀{ds:List D} {vs:List Value},zf6 M w ds vs→vs.length=ds.length
 |[],vs,h=>by obtain rfl:=h; rfl
 |d::ds,vs,h=>by obtain⟨v,vs',rfl,_,h2⟩:=h; simp[repAll_len h2]
theorem repAll_at {M:MMap} {w:World}:∀{ds:List D} {vs:List Value} {i:Nat} {d:D},zf6 M w ds vs→ds[i]? =some d→∃v,vs[i]? =some v∧Rep M w d v
 |[],_,i,d,_,h=>by simp at h
 |x::ds,vs,0,d,h,hd=>by
  obtain⟨v,vs',rfl,h1,h2⟩:=h
  simp only[List.getElem?_cons_zero,Option.some.injEq] at hd
  subst hd
  exact⟨v,rfl,h1⟩
 |x::ds,vs,i+1,d,h,hd=>by
  obtain⟨v,vs',rfl,h1,h2⟩:=h
  simp only[List.getElem?_cons_succ] at hd ⊢
  exact repAll_at h2 hd
theorem repAll_of {M:MMap} {w:World}:∀{ds:List D} {vs:List Value},vs.length=ds.length→(∀(i:Nat) (d:D) (v:Value),ds[i]? =some d→vs[i]? =some v→Rep M w d v)→zf6 M w ds vs
 |[],vs,h,_=>List.eq_nil_of_length_eq_zero h
 |d::ds,[],h,_=>by simp at h
 |d::ds,v::vs,h,hr=>⟨v,vs,rfl,hr 0 d v rfl rfl,repAll_of (by simpa using h) fun i x y hx hy=>hr (i+1) x y (by simpa using hx) (by simpa using hy)⟩
theorem holdsZ {M:MMap} {w:World} {b k:Nat} {zs:List Int} (hi:Inv M (({}:St).set b (zs.map eZ++List.replicate k .any)) w):Holds (Value.int .i64) w b 0 zs.toArray∧b<w.heap.size:=by
 obtain⟨hM,c,e,hheap,hrep,hone⟩:=hi.box b (zs.map eZ++List.replicate k .any) (by simp[St.set])
 have hbl:b<w.heap.size:=hi.dom b (by rw[hM]; simp)
 have hclen:c.size=zs.length+k:=by have:=repAll_len hrep; simpa using this
 have hat:∀j (hj:j<zs.length),c[j]? =some (.int .i64 zs[j]):=fun j hj=>by
  obtain⟨v,h1,h2⟩:=repAll_at (i:=j) (d:=eZ zs[j]) hrep (by rw[List.getElem?_append_left (by simpa using hj)]; simp[hj])
  have h2:v= .int .i64 zs[j]:=h2
  rw[←h2,←h1]; simp
 refine⟨fun j hj=> ?_,hbl⟩
 ·skip
  have hj':j<zs.length:=by simpa using hj
  refine⟨?_, ?_⟩
  ·simp only[World.cell?,hheap,Nat.zero_add]
   rw[hat j hj']
   simp[hj']
  ·simp[World.frozen?,hheap]
theorem rowZ {M:MMap} {w:World} {b k:Nat} {zs new:List Int} (hi:Inv M (({}:St).set b (zs.map eZ++List.replicate k .any)) w) (hS:new.length=zs.length) {w':World} {n:Nat} {os:Array Obj} (hw:w'=grow (putRow (Value.int .i64) (Sort.ahead w n) b 0 new.toArray) os) {d:D} {v:Value} (hd:Rep M w' d v):
  ∃M' s' x,RepE M' w' x (.returned v)∧Inv M' s' w'∧KeepF M (({}:St).set b (zs.map eZ++List.replicate k .any)) w M' s' w'∧∃d',x= .ret d'∧d'=d∧s'=({}:St).set b (new.map eZ++List.replicate k .any):=by
 obtain⟨hM,c,e,hheap,hrep,hone⟩:=hi.box b (zs.map eZ++List.replicate k .any) (by simp[St.set])
 have hbl:b<w.heap.size:=hi.dom b (by rw[hM]; simp)
 have hclen:c.size=zs.length+k:=by have:=repAll_len hrep; simpa using this
 have hat:∀j (hj:j<zs.length),c[j]? =some (.int .i64 zs[j]):=fun j hj=>by
  obtain⟨v,h1,h2⟩:=repAll_at (i:=j) (d:=eZ zs[j]) hrep (by rw[List.getElem?_append_left (by simpa using hj)]; simp[hj])
  have h2:v= .int .i64 zs[j]:=h2
  rw[←h2,←h1]; simp
 have hold:∀j,j<w.heap.size→w'.heap[j]? =(putRow (Value.int .i64) (Sort.ahead w n) b 0 new.toArray).heap[j]? :=fun j hj=>by
  rw[hw]; exact heap_grow_old _ _ (by simpa using hj)
 have hb':w'.heap[b]? =some (.cells (putCells (Value.int .i64) 0 new.toArray c) e (0,0)):=by
  rw[hold b hbl]
  simp only[putRow,mapBlock,Sort.heap_ahead,Array.getElem?_modify,if_true,hheap,Option.map_some,onCells]
 have ho:∀j,j<w.heap.size→j≠b→w'.heap[j]? =w.heap[j]? :=fun j hj hne=>by
  rw[hold j hj]
  simp only[putRow,mapBlock,Sort.heap_ahead,Array.getElem?_modify,if_neg (Ne.symm hne)]
 have hsz:w.heap.size≤w'.heap.size:=by rw[hw]; simp
 have hcs:∀j:Nat,(putCells (Value.int .i64) 0 new.toArray c).toList[j]? =if h:j<new.length then(if j<c.size then some (.int .i64 new[j]) else none) else c[j]? :=fun j=>by
  simp only[putCells,Array.getElem?_toList,Array.getElem?_mapIdx,Nat.zero_le,true_and,Nat.zero_add,List.size_toArray,Nat.sub_zero]
  split
  ·rename_i h
   split
   ·rename_i h2; rw[Array.getElem?_eq_getElem h2]; simp[h]
   ·rename_i h2; rw[Array.getElem?_eq_none (by omega)]; rfl
  ·rename_i h
   cases c[j]? with
   |none=>rfl
   |some x=>simp[h]
 refine⟨M,({}:St).set b (new.map eZ++List.replicate k .any),.ret d, ?_,⟨fun x cs hx=> ?_,fun x s n hx=> ?_,fun x o hx=> ?_,fun x hx=>Nat.lt_of_lt_of_le (hi.dom x hx) hsz⟩,⟨⟨?_, ?_, ?_,hsz,fun x hx hx2=>⟨hx2,ho x hx fun h=>by rw[h,hM] at hx2; cases hx2⟩,fun x lim c0 e0 f0 h1 h2=> ?_⟩,fun x h1 h2=>⟨rfl,ho x (hi.dom x h1) fun h=>h2 (by rw[h,set_has]; exact .inl rfl)⟩,fun x hx=> .inl ?_⟩,_,rfl,rfl,rfl⟩
 ·exact⟨_,rfl,hd⟩
 ·have hx':x=b∧new.map eZ++List.replicate k .any=cs:=by
   simp only[St.set] at hx
   split at hx
   ·rename_i h; exact⟨h,by simpa using hx⟩
   ·cases hx
  obtain⟨rfl,rfl⟩:=hx'
  refine⟨hM,_,e,hb',repAll_of ?_ fun j d v hd hv=> ?_,fun u hu=> ?_⟩
  ·simp[putCells,hclen,hS]
  ·rw[hcs j] at hv
   by_cases hj:j<new.length
   ·rw[List.getElem?_append_left (by simpa using hj),List.getElem?_map,List.getElem?_eq_getElem hj] at hd
    rw[dif_pos hj,if_pos (by omega)] at hv
    cases hd; cases hv
    rfl
   ·rw[List.getElem?_append_right (by simpa using hj),List.getElem?_replicate] at hd
    split at hd
    ·cases hd; trivial
    ·cases hd
  ·obtain⟨j,hj,rfl⟩:=List.mem_iff_getElem.1 hu
   have hv:=hcs j
   rw[List.getElem?_eq_getElem hj] at hv
   split at hv
   ·split at hv
    ·rw[Option.some.inj hv]; rfl
    ·cases hv
   ·refine hone _ ?_
    have h2:=List.mem_of_getElem? (l:=c.toList) (i:=j) (by rw[Array.getElem?_toList]; exact hv.symm)
    exact h2
 ·simp[St.set] at hx
 ·simp[St.set] at hx
 ·rw[hw]; rfl
 ·rw[hw]; rfl
 ·rw[hw]; rfl
 ·have hne:x≠b:=fun h=>by rw[h,hM] at h1; cases h1
  have hxl:x<w.heap.size:=hi.dom x (by rw[h1]; simp)
  exact⟨⟨c0,by rw[ho x hxl hne]; exact h2,rfl,fun _ _=>rfl⟩,.inr ⟨lim,Nat.le_refl _,h1⟩⟩
 ·rw[set_has] at hx ⊢
  exact hx
theorem sort125 (b cap:Nat) (zs:List Int) (k:Nat) (hl:zs.length<4611686018427387904):
  RCall Tryz.prog 61 [.bsl b 0 zs.length cap] (({}:St).set b (zs.map eZ++List.replicate k .any)) fun d s'=>d= .tup []∧s'=({}:St).set b ((sortZ zs).map eZ++List.replicate k .any):=by
 refine⟨⟨_,Tryz.func61,by kernel_rfl,rfl⟩,fun M w vs hi hv=> ?_⟩
 obtain⟨v,vs',rfl,hv1,hv2⟩:=hv
 obtain rfl:vs'=[]:=hv2
 have hv1:v= .slice (some ⟨b,0,none⟩) zs.length cap:=hv1
 subst hv1
 obtain⟨hH,hbl⟩:=holdsZ hi
 refine(AnyM.slices_Sort_int Tryz.sortA b 0 cap zs w hH hbl hl).mono fun ev w' ⟨he,n,os,hw⟩=> ?_
 subst he
 exact rowZ (new:=sortZ zs) hi (List.length_mergeSort _) hw ⟨#[],rfl,rfl⟩
theorem sort125n:PCall Tryz.prog 61 [.slice .nil []] (.tup []):=by
 refine⟨⟨_,Tryz.func61,by kernel_rfl,rfl⟩,fun M w vs hi hv=> ?_⟩
 obtain⟨v,vs',rfl,hv1,hv2⟩:=hv
 obtain rfl:vs'=[]:=hv2
 obtain⟨rfl,_⟩:v= .slice none 0 0∧_:=hv1
 refine(AnyM.slices_Sort_int_none Tryz.sortA none 0 w).mono fun ev w' ⟨he,hw⟩=> ?_
 subst he; subst hw
 exact⟨M,{},.ret (.tup []),⟨_,rfl,#[],rfl,rfl⟩,hi,⟨Keep.refl _ _,fun _ _ _=>⟨rfl,rfl⟩,fun _ h=> .inl h⟩,rfl,rfl⟩
theorem compact_le (zs:List Int):(Lib.compact zs).length≤zs.length:=by
 unfold Lib.compact Lib.compactUpTo
 rw[List.length_map]
 exact Nat.le_trans (List.length_filter_le _ _) (by simp)
theorem compact160 (b cap:Nat) (zs:List Int) (k:Nat) (hl:zs.length≤4096) (hc:zs.length≤cap):
  RCall Tryz.prog 89 [.bsl b 0 zs.length cap] (({}:St).set b (zs.map eZ++List.replicate k .any)) fun d s'=>d= .bsl b 0 (Lib.compact zs).length cap∧s'=({}:St).set b ((Lib.compact zs++List.replicate (zs.length-(Lib.compact zs).length) 0).map eZ++List.replicate k .any):=by
 refine⟨⟨_,Tryz.func89,by kernel_rfl,rfl⟩,fun M w vs hi hv=> ?_⟩
 obtain⟨v,vs',rfl,hv1,hv2⟩:=hv
 obtain rfl:vs'=[]:=hv2
 have hv1:v= .slice (some ⟨b,0,none⟩) zs.length cap:=hv1
 subst hv1
 obtain⟨hH,hbl⟩:=holdsZ hi
 refine(Any.slices_Compact_int Tryz.compactA b 0 cap zs w hH (by omega) hc).mono fun ev w' ⟨he,n,hw⟩=> ?_
 subst he
 refine rowZ (new:=Lib.compact zs++List.replicate (zs.length-(Lib.compact zs).length) 0) (os:= #[]) (n:=n) hi ?_ (by rw[hw,grow_empty]) rfl
 have:=compact_le zs
 rw[List.length_append,List.length_replicate]; omega
theorem compact160n:PCall Tryz.prog 89 [.slice .nil []] (.slice .nil []):=by
 refine⟨⟨_,Tryz.func89,by kernel_rfl,rfl⟩,fun M w vs hi hv=> ?_⟩
 obtain⟨v,vs',rfl,hv1,hv2⟩:=hv
 obtain rfl:vs'=[]:=hv2
 obtain⟨rfl,_⟩:v= .slice none 0 0∧_:=hv1
 refine(Any.slices_Compact_int_empty Tryz.compactA none 0 w).mono fun ev w' ⟨he,hw⟩=> ?_
 subst he; subst hw
 exact⟨M,{},.ret (.slice .nil []),⟨_,rfl,rfl,rfl⟩,hi,⟨Keep.refl _ _,fun _ _ _=>⟨rfl,rfl⟩,fun _ h=> .inl h⟩,rfl,rfl⟩
open Go.Proofs
def handsP (l:List Cl) (f:Fr):List Int→RS→RS×Nat
 |[],s=>(s,0)
 |x::r,s=>if(handP l s x.toNat f).2≠0 then handP l s x.toNat f else handsP l f r (handP l s x.toNat f).1
theorem putL_snoc {s:St} {L:List LI} {b:Nat} {c:List D}:putL s (L++[.bx b c])=(putL s L).set b c:=by simp[putL,LI.put]
theorem offL_snoc:∀{L:List LI} {s:St} {b:Nat} {c:List D},offL s L→¬s.has b→offL s (L++[.bx b c])
 |[],s,b,c,_,h=>⟨h,trivial⟩
 |i::L,s,b,c,h1,h2=>⟨h1.1,offL_snoc h1.2 h2⟩
theorem visit_tail (r:RB) (hr:r.ne) (e:En) (b:List Ty) (m:RM) (s:RS) (hm:m.of s) (g:Fr) (hl:e.cs.length≤140737488355328) (L:List LI) (b7 bb cap k:Nat) (zs:List Int) (hz:zs.length≤4096) (hc:zs.length≤cap)
  (hL:∀m' w,offL (stR r e b m' w) L) (hb7:∀m' w,(putL (stR r e b m' w) L).box b7=some (eFr g)) (hbb:∀m' w,¬(putL (stR r e b m' w) L).has bb) (hpos:∀z∈zs,0≤z)
  (R:RS×Nat) (hR:R=handsP e.cs g (Lib.compact (sortZ zs)) s) (T:Env) (h0:T 0= .ptr r.q 0) (h7:T 7= .ptr b7 0) (h8:T 8= .bsl bb 0 zs.length cap):
  vcA Tryz.prog 111 c59_12 (bodyS Tryz.prog [.tmp 4] fun d s'=>d= .int .i64 R.2∧∃m':RM,m'.of R.1∧s'=stR r e b m' R.1.wh) T ((putL (stR r e b m s.wh) L).set bb (zs.map eZ++List.replicate k .any)):=by
 have hn:∀m' w,(putL (stR r e b m' w) L).buf bb=none∧(putL (stR r e b m' w) L).mp bb=none:=fun m' w=>by
  have:=hbb m' w
  simp only[St.has,not_or,Classical.not_not] at this
  exact this.2
 simp -implicitDefEqProofs only[go_sem,c59_12,h0,h7,h8]
 refine callB_box (b:=bb) (by rw[St.set_box,if_pos rfl]) (hn _ _).1 (sort125 bb cap zs k (by omega)) ?_ (hn _ _).2
 simp -implicitDefEqProofs only[go_sem,za4,h0,h7,h8]
 have hS:(sortZ zs).length=zs.length:=List.length_mergeSort _
 have hcomp:=compact160 bb cap (sortZ zs) k (by omega) (by omega)
 rw[hS] at hcomp
 refine callB_box (b:=bb) (by rw[St.set_box,if_pos rfl]) (hn _ _).1 hcomp ?_ (hn _ _).2
 obtain⟨ys,hys⟩:∃ys,Lib.compact (sortZ zs)=ys:=⟨_,rfl⟩
 have hyl:ys.length≤zs.length:=by rw[←hys,←hS]; exact compact_le _
 have hyp:∀y∈ys,0≤y:=by
  intro y hy
  rw[←hys] at hy
  unfold Lib.compact Lib.compactUpTo at hy
  obtain⟨j,hj,rfl⟩:=List.mem_map.1 hy
  have hj2:j<(sortZ zs).length:=List.mem_range.1 (List.mem_filter.1 hj).1
  have:(sortZ zs)[j]∈zs:=(List.mergeSort_perm ..).mem_iff.1 (List.getElem_mem hj2)
  have h2:(sortZ zs).toArray[j]! =(sortZ zs)[j]:=by simp[hj2]
  rw[h2]; exact hpos _ this
 rw[hys] at hR ⊢
 obtain⟨C,hC⟩:∃C,(ys++List.replicate (zs.length-ys.length) 0).map eZ++List.replicate k .any=C:=⟨_,rfl⟩
 have hCat:∀i (h:i<ys.length),C[i]? =some (.int .i64 ys[i]):=fun i h=>by
  rw[←hC,List.getElem?_append_left (by simp; omega),List.getElem?_map,List.getElem?_append_left h,List.getElem?_eq_getElem h]; rfl
 rw[hC]
 simp -implicitDefEqProofs only[go_sem,za4,h0,h7,h8,bsl_def,lenD]
 have hbs:∀m' w,¬(stR r e b m' w).has bb:=fun m' w h=>hbb m' w ((le_putL (St.le.refl _) (hL m' w)).has h)
 have hoff:∀m' w,offL (stR r e b m' w) (L++[.bx bb C]):=fun m' w=>offL_snoc (hL m' w) (hbs m' w)
 have hle:∀m' w,St.le (stR r e b m' w) ((putL (stR r e b m' w) L).set bb C):=fun m' w=>by rw[←putL_snoc]; exact le_putL (St.le.refl _) (hoff m' w)
 refine loopL F59 (fun x:Nat×RS×RM=>[(0,.ptr r.q 0),(7,.ptr b7 0),(97,.bsl bb 0 ys.length cap),(98,.int .i64 ys.length),(99,.int .i64 x.1)]) (fun x=>(putL (stR r e b x.2.2 x.2.1.wh) L).set bb C)
  (fun x=>x.1≤ys.length∧x.2.2.of x.2.1∧handsP e.cs g (ys.drop x.1) x.2.1=R) (fun x=>ys.length-x.1) (0,s,m) ⟨by omega,hm,by simpa using hR.symm⟩ ?_ (St.le.refl _) ?_
 ·simp -implicitDefEqProofs only[go_sem,h0,h7,h8,Int.ofNat_zero]
 clear h0 h7 h8 T
 rintro⟨i,s1,m1⟩ ⟨hi,hm1,hR1⟩ T hT
 simp only at hi hm1 hR1 hT ⊢
 have y7:((putL (stR r e b m1 s1.wh) L).set bb C).box b7=some (eFr g):=by
  rw[St.set_box,if_neg (fun h=>hbb m1 s1.wh (.inl (by rw[←h,hb7]; simp)))]; exact hb7 _ _
 have yb:((putL (stR r e b m1 s1.wh) L).set bb C).box bb=some C:=by rw[St.set_box,if_pos rfl]
 by_cases h:i<ys.length
 ·have g1:((i:Int)<ys.length)=True:=eq_true (by omega)
  have hd:ys.drop i=ys[i]::ys.drop (i+1):=List.drop_eq_getElem_cons h
  have h0y:=hyp _ (List.getElem_mem h)
  obtain⟨z,hz'⟩:∃z:Nat,ys[i]=z:=⟨ys[i].toNat,by omega⟩
  have hat:=hCat i h
  rw[hz'] at hat
  have w1:IntKind.wrap .i64 ((i:Int)+1)=((i+1:Nat):Int):=by rw[zb7 (by omega) (by omega)]; simp
  simp -implicitDefEqProofs only[go_sem,hT,g1,y7,yb,hat,gdD,Nat.mul_one,Nat.add_zero,Nat.zero_add,za6,za5]
  refine⟨by omega, ?_⟩
  rw[←putL_snoc]
  refine callB_under (L++[.bx bb C]) (hoff _ _) ((hand161 r hr e b m1 s1 hm1 z g hl).xcall (Rp:=fun _ _=>False)) (fun d s' hR _=> ?_) fun d s' h=>h.elim
  obtain⟨rfl,m2,hm2,rfl⟩:=hR
  rw[putL_snoc]
  rw[hd,handsP,hz',Int.toNat_natCast] at hR1
  by_cases g6:(handP e.cs s1 z g).2=0
  ·have g6':(((handP e.cs s1 z g).2:Int)=0)=True:=eq_true (by omega)
   rw[if_neg (by omega)] at hR1
   simp -implicitDefEqProofs only[go_sem,hT,g6',w1]
   exact⟨(i+1,(handP e.cs s1 z g).1,m2),⟨by simp only; omega,hm2,hR1⟩,by simp only; omega,rfl,St.le.refl _⟩
  ·have g6':(((handP e.cs s1 z g).2:Int)=0)=False:=eq_false (by omega)
   rw[if_pos g6] at hR1
   simp -implicitDefEqProofs only[go_sem,hT,g6']
   rw[←hR1]
   exact⟨_,_,DLe.refl _,hle _ _,rfl,m2,hm2,rfl⟩
 ·have g1:((i:Int)<ys.length)=False:=eq_false (by omega)
  simp -implicitDefEqProofs only[go_sem,hT,g1]
  rw[List.drop_eq_nil_of_le (by omega),handsP] at hR1
  rw[←hR1]
  exact⟨_,_,DLe.refl _,hle _ _,rfl,m1,hm1,rfl⟩
open Go.Proofs
theorem compact2 (x y:Int):Lib.compact [x,y]=if x=y then [x] else [x,y]:=by
 unfold Lib.compact Lib.compactUpTo Lib.keeps
 by_cases h:x=y
 ·simp[List.range_succ,h]
 ·simp[List.range_succ,h,Ne.symm h]
theorem compact1 (x:Int):Lib.compact [x]=[x]:=by
 unfold Lib.compact Lib.compactUpTo Lib.keeps
 simp[List.range_succ]
theorem sort1 (x:Int):sortZ [x]=[x]:=by simp[sortZ]
theorem sort2 (x y:Int):sortZ [x,y]=if x≤y then [x,y] else [y,x]:=by
 unfold sortZ
 simp[List.mergeSort,List.MergeSort.Internal.splitInTwo,List.merge]
def visitP (e:En) (b:List Ty) (s:RS) (a:Nat) (fa:Fr):RS×Nat:=
 let s0:RS:={s with wh:=(a:Int)}
 if a=b.length then(s0,51)
 else if(decF b a).2≠0 then(s0,(decF b a).2)
 else
  let s1:RS:=⟨s.ff,s.nn,(takeP a (ze8 (decF b a).1.op.val) a s.tt).1,(a:Int)⟩
  if(takeP a (ze8 (decF b a).1.op.val) a s.tt).2=false then(s1,80)
  else if(applyR e fa (decF b a).1).2≠0 then(s1,(applyR e fa (decF b a).1).2)
  else if(onD (decF b a).1 b.length).2≠0 then(s1,(onD (decF b a).1 b.length).2)
  else handsP e.cs (applyR e fa (decF b a).1).1 (onD (decF b a).1 b.length).1 s1
section
variable {N : Nat} {d : Option Nat} {K : Env → St → Prop} {T : Env} {σ : St}
theorem appB_nil {x:Int} (hk:∀b cap,¬σ.has b→1≤cap→putK N d (.bsl b 0 1 cap) K T (σ.set b ([x].map eZ++List.replicate (cap-1) .any))):
  apK Tryz.prog N d true 57 57 (.slice .nil []) (.slice .exact [[.int .i64 x]]) K T σ:=by
 show appendB Tryz.prog N d 57 57 (.slice .nil []) (.slice .exact [[.int .i64 x]]) K T σ
 simp only[appendB,Tryz.sli57,Tryz.sz3,Tryz.by3,Tryz.zero3,Option.map_some,true_and]
 refine⟨rfl,by omega,by omega,by simp,by simp,by simp,fun b cap h1 h2=> ?_⟩
 have:=hk b cap h1 h2
 simpa[eZ] using this
theorem appB_one {x y:Int} {b cap:Nat} (hc:1≤cap) (hσ:σ.box b=some ([x].map eZ++List.replicate (cap-1) .any))
  (h1:2≤cap→putK N d (.bsl b 0 2 cap) K T (σ.set b ([x,y].map eZ++List.replicate (cap-2) .any)))
  (h2:∀b' cap',¬σ.has b'→2≤cap'→putK N d (.bsl b' 0 2 cap') K T (σ.set b' ([x,y].map eZ++List.replicate (cap'-2) .any))):
  apK Tryz.prog N d true 57 57 (.bsl b 0 1 cap) (.slice .exact [[.int .i64 y]]) K T σ:=by
 show appendB Tryz.prog N d 57 57 (.bsl b 0 1 cap) (.slice .exact [[.int .i64 y]]) K T σ
 simp only[appendB,Tryz.sli57,Tryz.sz3,Tryz.by3,Tryz.zero3,Option.map_some,true_and,hσ]
 refine⟨rfl,by omega,by omega,by simp,hc,by simp; omega,by simp,fun h=> ?_,fun h b' cap' h3 h4=> ?_⟩
 ·have:=h1 h
  have e:layD ([x].map eZ++List.replicate (cap-1) .any) (1*1) [[D.int .i64 y]].flatten=[x,y].map eZ++List.replicate (cap-2) .any:=by
   simp only[layD,List.map_cons,List.map_nil,List.flatten_cons,List.flatten_nil,List.append_nil,List.length_cons,List.length_nil]
   simp[eZ,Nat.sub_sub]
  rw[e]; exact this
 ·have:=h2 b' cap' h3 h4
  have e:([x].map eZ++List.replicate (cap-1) D.any).take (1*1)++[[D.int .i64 y]].flatten++List.replicate ((cap'-(1+1))*1) D.any=[x,y].map eZ++List.replicate (cap'-2) .any:=by
   simp[eZ]
  simp only[List.length_cons,List.length_nil,Nat.zero_add] at *
  rw[e]; exact this
end
theorem stR_wh {r:RB} {e:En} {b:List Ty} {m:RM} {wh w:Int}:(stR r e b m wh).set r.q (eRn r e b w)=stR r e b m w:=by
 simp only[stR,St.set,St.setM]
 congr 1
 funext x
 split <;> rfl
def bXheC0:=aI @zb4 (aI @zb5 (aI @za9 (aI @za8 (aI @za6 (aI @za5 (aI @gdD (aI @eRn_0 (aI @eRn_3 (aI @eRn_4 (aI @eRn_5 (aI @eRn_6 (aI @eRn_7 (aI @eRn_len (aI @nilc_p (aI @zb3 (aI @za7 (aI @in_0 (aI @in_1 (aI @in_2 @eRn_en)))))))))))))))))))
def bXheC1:=aI @zb4 (aI @zb5 (aI @za9 (aI @za8 (aI @za6 (aI @za5 (aI @gdD (aI @eRn_0 (aI @eRn_3 (aI @eRn_4 (aI @eRn_5 (aI @eRn_6 (aI @eRn_7 (aI @eRn_len (aI @nilc_p (aI @zb3 (aI @za7 (aI @in_0 (aI @in_1 (aI @in_2 (aI @eRn_en @za4))))))))))))))))))))
theorem visit123 (r:RB) (hr:r.ne) (e:En) (b:List Ty) (m:RM) (s:RS) (hm:m.of s) (a:Nat) (fa:Fr) (hfa:s.ff a=some fa) (hb:b.length≤4096) (ha:a≤b.length) (hw:WideE e) (hl:e.cs.length≤140737488355328):
  RCall Tryz.prog 59 [.ptr r.q 0,.int .i64 a] (stR r e b m s.wh) fun d s'=>d= .int .i64 (visitP e b s a fa).2∧∃m':RM,m'.of (visitP e b s a fa).1∧s'=stR r e b m' (visitP e b s a fa).1.wh:=by
 have kq:=stR_q (r:=r) (e:=e) (b:=b) (m:=m) (wh:=s.wh)
 have kq':=stR_q (r:=r) (e:=e) (b:=b) (m:=m) (wh:=(a:Int))
 refine F59.rcall rfl fun T hT=> ?_
 simp -implicitDefEqProofs only[go_sem,c59,hT,zb4,zb5,za9,za8,za6,za5,gdD,Nat.mul_one,Nat.add_zero,Nat.zero_add,eRn_0,eRn_3,eRn_4,eRn_5,eRn_6,eRn_7,eRn_len,nilc_p,zb3,za7,in_0,in_1,in_2,eRn_en,kq,eRn_wh,stR_wh,kq']
 by_cases g1:a=b.length
 ·have hV:visitP e b s a fa=({s with wh:=(a:Int)},51):=by unfold visitP; rw[if_pos g1]
  have g1':((a:Int)=b.length)=True:=eq_true (by omega)
  rw[hV]
  simp -implicitDefEqProofs only[go_sem,hT,g1']
  exact⟨_,_,DLe.refl _,St.le.refl _,rfl,m,⟨hm.f,hm.n,hm.t⟩,rfl⟩
 have g1':((a:Int)=b.length)=False:=eq_false (by omega)
 simp -implicitDefEqProofs only[go_sem,hT,g1',Nat.mul_one,Nat.add_zero,Nat.zero_add,kq',bXheC0]
 refine za3 (decode82 b _ a (by omega) (by omega)) ?_
 simp -implicitDefEqProofs only[go_sem,hT,Nat.mul_one,Nat.add_zero,Nat.zero_add,kq',bXheC0]
 intro b5 hb5
 obtain⟨n1,n2,n3,n4⟩:=stR_ne hr hb5
 have off5:∀m' w,¬(stR r e b m' w).has b5:=fun m' w=>stR_off hr hb5
 by_cases g2:(decF b a).2=0
 case neg=>
  have hV:visitP e b s a fa=({s with wh:=(a:Int)},(decF b a).2):=by unfold visitP; rw[if_neg g1]; simp only; rw[if_pos g2]
  have g2':(((decF b a).2:Int)=0)=False:=eq_false (by omega)
  rw[hV]
  simp -implicitDefEqProofs only[go_sem,hT,g2',Nat.mul_one,Nat.add_zero,Nat.zero_add,n1,n2,n3,n4,Ne.symm n1,Ne.symm n2,Ne.symm n3,Ne.symm n4,bXheC1]
  exact⟨_,_,DLe.refl _,le_add (off5 _ _),rfl,m,⟨hm.f,hm.n,hm.t⟩,rfl⟩
 have g2':(((decF b a).2:Int)=0)=True:=eq_true (by omega)
 have hdec:=decF_ok g2
 have hpos:(decF b a).1.pos=a:=by rw[hdec.2.1]; rfl
 simp -implicitDefEqProofs only[go_sem,hT,g2',Nat.mul_one,Nat.add_zero,Nat.zero_add,n1,n2,n3,n4,Ne.symm n1,Ne.symm n2,Ne.symm n3,Ne.symm n4,kq',bXheC1]
 have hsz:=sizeOp_le (decF b a).1.op.val
 refine callB_under [.bx b5 (eIn (decF b a).1)] ⟨off5 _ _,trivial⟩ ((take159 r hr e b m ⟨s.ff,s.nn,s.tt,(a:Int)⟩ ⟨hm.f,hm.n,hm.t⟩ (decF b a).1 a hpos (by omega)).xcall (Rp:=fun _ _=>False)) (fun d s' hR _=> ?_) fun d s' h=>h.elim
 obtain⟨rfl,m1,hm1,rfl⟩:=hR
 simp only at hm1 ⊢
 have kq1:=stR_q (r:=r) (e:=e) (b:=b) (m:=m1) (wh:=(a:Int))
 have kf1:=stR_f (e:=e) (b:=b) (m:=m1) (wh:=(a:Int)) hr
 cases g3:(takeP a (ze8 (decF b a).1.op.val) a s.tt).2
 case false=>
  have hV:visitP e b s a fa=(⟨s.ff,s.nn,(takeP a (ze8 (decF b a).1.op.val) a s.tt).1,(a:Int)⟩,80):=by unfold visitP; rw[if_neg g1]; simp only; rw[if_neg (by omega),if_pos g3]
  rw[hV]
  simp -implicitDefEqProofs only[go_sem,hT,putL,List.foldl_cons,List.foldl_nil,LI.put]
  exact⟨_,_,DLe.refl _,le_add (off5 _ _),rfl,m1,hm1,rfl⟩
 have hk1:=fun(σ:St) (h:σ.mp r.f=some (.map (some .i64) m1.kf m1.vf m1.cf))=>look143 (ok:=false) (n:=a) hm1.f h
 simp only[hfa,lkV,pairD] at hk1
 simp -implicitDefEqProofs only[go_sem,hT,putL,List.foldl_cons,List.foldl_nil,LI.put,Nat.mul_one,Nat.add_zero,Nat.zero_add,n1,n2,n3,n4,Ne.symm n1,Ne.symm n2,Ne.symm n3,Ne.symm n4,kq1,kf1,hk1,dF,bXheC0]
 refine za3 (apply144 e fa (decF b a).1 hw) ?_
 simp -implicitDefEqProofs only[go_sem,hT,Nat.mul_one,Nat.add_zero,Nat.zero_add,n1,n2,n3,n4,Ne.symm n1,Ne.symm n2,Ne.symm n3,Ne.symm n4,kq1,bXheC0]
 intro b7 p5 p6 hb7
 obtain⟨p1,p2,p3,p4⟩:=stR_ne hr hb7
 have off7:∀m' w,¬(stR r e b m' w).has b7:=fun m' w=>stR_off hr hb7
 have hle2:∀v w,St.le (stR r e b m1 (a:Int)) (((stR r e b m1 (a:Int)).set b5 v).set b7 w):=fun v w=>(le_add (off5 _ _)).trans (le_add (by rw[set_has]; exact fun h=>h.elim p5 (off7 _ _)))
 obtain⟨⟨g,f4⟩,hG⟩:∃x,applyR e fa (decF b a).1=x:=⟨_,rfl⟩
 rw[hG]
 by_cases g4:f4=0
 case neg=>
  have hV:visitP e b s a fa=(⟨s.ff,s.nn,(takeP a (ze8 (decF b a).1.op.val) a s.tt).1,(a:Int)⟩,f4):=by unfold visitP; rw[if_neg g1]; simp only; rw[if_neg (by omega),if_neg (by rw[g3]; simp),hG,if_pos g4]
  have g4':((f4:Int)=0)=False:=eq_false (by omega)
  rw[hV]
  simp -implicitDefEqProofs only[go_sem,hT,g4',Nat.mul_one,Nat.add_zero,Nat.zero_add,n1,n2,n3,n4,Ne.symm n1,Ne.symm n2,Ne.symm n3,Ne.symm n4,p5,p6,p1,p2,p3,p4,Ne.symm p1,Ne.symm p2,Ne.symm p3,Ne.symm p4,bXheC1]
  exact⟨_,_,DLe.refl _,hle2 _ _,rfl,m1,hm1,rfl⟩
 have g4':((f4:Int)=0)=True:=eq_true (by omega)
 simp -implicitDefEqProofs only[go_sem,hT,g4',Nat.mul_one,Nat.add_zero,Nat.zero_add,n1,n2,n3,n4,Ne.symm n1,Ne.symm n2,Ne.symm n3,Ne.symm n4,p5,p6,p1,p2,p3,p4,Ne.symm p1,Ne.symm p2,Ne.symm p3,Ne.symm p4,bXheC1]
 refine za3 (size125 (decF b a).1.op) ?_
 have w1:IntKind.wrap .i64 ((a:Int)+(ze8 (decF b a).1.op.val:Int))=(a:Int)+ze8 (decF b a).1.op.val:=zb7 (by omega) (by omega)
 simp -implicitDefEqProofs only[go_sem,hT,Nat.mul_one,Nat.add_zero,Nat.zero_add,n1,n2,n3,n4,Ne.symm n1,Ne.symm n2,Ne.symm n3,Ne.symm n4,p5,p6,p1,p2,p3,p4,Ne.symm p1,Ne.symm p2,Ne.symm p3,Ne.symm p4,w1,kq1,bXheC0]
 refine za3 (jumps83 (decF b a).1.op) ?_
 have kq2:∀w,(stR r e b m1 w).box r.q=some (eRn r e b w):=fun w=>stR_q
 have hV1:∀f5,(onD (decF b a).1 b.length).2=f5→f5≠0→visitP e b s a fa=(⟨s.ff,s.nn,(takeP a (ze8 (decF b a).1.op.val) a s.tt).1,(a:Int)⟩,f5):=fun f5 h5 h6=>by
  unfold visitP; rw[if_neg g1]; simp only; rw[if_neg (by omega),if_neg (by rw[g3]; simp),hG,if_neg (by omega),if_pos (by omega),h5]
 have hV2:(onD (decF b a).1 b.length).2=0→visitP e b s a fa=handsP e.cs g (onD (decF b a).1 b.length).1 ⟨s.ff,s.nn,(takeP a (ze8 (decF b a).1.op.val) a s.tt).1,(a:Int)⟩:=fun h5=>by
  unfold visitP; rw[if_neg g1]; simp only; rw[if_neg (by omega),if_neg (by rw[g3]; simp),hG,if_neg (by omega),if_neg (by omega)]
 have hja:=fun hj=>jumps_a g2 hj
 have hL:∀m' w,offL (stR r e b m' w) [.bx b5 (eIn (decF b a).1),.bx b7 (eFr g)]:=fun m' w=>⟨off5 _ _,off7 _ _,trivial⟩
 have hb7':∀m' w,(putL (stR r e b m' w) [.bx b5 (eIn (decF b a).1),.bx b7 (eFr g)]).box b7=some (eFr g):=fun m' w=>by simp[putL,LI.put,St.set_box]
 have offB:∀{bb:Nat} {v w:List D},¬(((stR r e b m1 (a:Int)).set b5 v).set b7 w).has bb→∀m' w',¬(putL (stR r e b m' w') [.bx b5 (eIn (decF b a).1),.bx b7 (eFr g)]).has bb:=fun {bb v w} h m' w' h'=>h (by
  simp only[putL,List.foldl_cons,List.foldl_nil,LI.put,set_has] at h' ⊢
  rcases h' with h'|h'|h'
  ·exact .inl h'
  ·exact .inr (.inl h')
  ·exact .inr (.inr ((stR_has hr).2 ((stR_has hr).1 h'))))
 have tail:=fun(bb cap k:Nat) (zs:List Int) hz hc hbb hpos R hR T (hE:envOk [(0,.ptr r.q 0),(7,.ptr b7 0),(8,.bsl bb 0 zs.length cap)] T)=>visit_tail r hr e b m1 ⟨s.ff,s.nn,(takeP a (ze8 (decF b a).1.op.val) a s.tt).1,(a:Int)⟩ hm1 g hl [.bx b5 (eIn (decF b a).1),.bx b7 (eFr g)] b7 bb cap k zs hz hc hL hb7' hbb hpos R hR T hE.1 hE.2.1 hE.2.2.1
 cases hj:jumpsB (decF b a).1.op.val
 ·simp -implicitDefEqProofs only[go_sem,hT,Nat.mul_one,Nat.add_zero,Nat.zero_add,n1,n2,n3,n4,Ne.symm n1,Ne.symm n2,Ne.symm n3,Ne.symm n4,p5,p6,p1,p2,p3,p4,Ne.symm p1,Ne.symm p2,Ne.symm p3,Ne.symm p4,kq1,bXheC0]
  refine za3 (ends88 (decF b a).1.op) ?_
  cases he:endsB (decF b a).1.op.val
  ·by_cases g6:(a:Int)+ze8 (decF b a).1.op.val=b.length
   ·have g6':((a:Int)+ze8 (decF b a).1.op.val=b.length)=True:=eq_true g6
    simp -implicitDefEqProofs only[go_sem,hT,Nat.mul_one,Nat.add_zero,Nat.zero_add,n1,n2,n3,n4,Ne.symm n1,Ne.symm n2,Ne.symm n3,Ne.symm n4,p5,p6,p1,p2,p3,p4,Ne.symm p1,Ne.symm p2,Ne.symm p3,Ne.symm p4,kq1,g6',bXheC0]
    rw[hV1 51 (by unfold onD; rw[if_neg (by rw[hj]; simp),if_pos ⟨he,by rw[hpos]; exact g6⟩]) (by omega)]
    exact⟨_,_,DLe.refl _,hle2 _ _,rfl,m1,hm1,rfl⟩
   ·have g6':((a:Int)+ze8 (decF b a).1.op.val=b.length)=False:=eq_false g6
    simp -implicitDefEqProofs only[go_sem,hT,Nat.mul_one,Nat.add_zero,Nat.zero_add,n1,n2,n3,n4,Ne.symm n1,Ne.symm n2,Ne.symm n3,Ne.symm n4,p5,p6,p1,p2,p3,p4,Ne.symm p1,Ne.symm p2,Ne.symm p3,Ne.symm p4,kq1,g6',frz,bXheC0]
    refine appB_nil fun bb cap hbb hc=> ?_
    have ho:onD (decF b a).1 b.length=([(a:Int)+ze8 (decF b a).1.op.val],0):=by
     unfold onD; rw[if_neg (by rw[hj]; simp),if_neg (by rw[hpos]; exact fun h=>g6 h.2),hj,he,hpos]; simp
    rw[hV2 (by rw[ho]),ho]
    simp -implicitDefEqProofs only[go_sem,hT]
    refine tail bb cap (cap-1) [(a:Int)+ze8 (decF b a).1.op.val] (by simp) (by simpa using hc) (offB hbb) (by intro z hz; simp at hz; omega) _ (by rw[sort1,compact1]) _ ?_
    simp -implicitDefEqProofs only[go_sem,hT]
  ·simp -implicitDefEqProofs only[go_sem,hT,Nat.mul_one,Nat.add_zero,Nat.zero_add,n1,n2,n3,n4,Ne.symm n1,Ne.symm n2,Ne.symm n3,Ne.symm n4,p5,p6,p1,p2,p3,p4,Ne.symm p1,Ne.symm p2,Ne.symm p3,Ne.symm p4,kq1,bXheC0]
   have ho:onD (decF b a).1 b.length=([],0):=by
    unfold onD; rw[if_neg (by rw[hj]; simp),if_neg (by rw[he]; simp),hj,he]; simp
   rw[hV2 (by rw[ho]),ho]
   simp -implicitDefEqProofs only[go_sem,c59_12,hT]
   refine za3 sort125n ?_
   simp -implicitDefEqProofs only[go_sem,hT]
   refine za3 compact160n ?_
   simp -implicitDefEqProofs only[go_sem,hT]
   refine loopL F59 (fun _:Unit=>[(98,.int .i64 0),(99,.int .i64 0)]) (fun _=>stR r e b m1 (a:Int)) (fun _=>True) (fun _=>0) () trivial ?_ (hle2 _ _) ?_
   ·simp -implicitDefEqProofs only[go_sem,hT]
    rfl
   clear hT T
   intro _ _ T hT
   simp -implicitDefEqProofs only[go_sem,hT]
   exact⟨_,_,DLe.refl _,St.le.refl _,rfl,m1,hm1,rfl⟩
 ·by_cases g5:(b.length:Int)≤(decF b a).1.a
  ·have g5':((b.length:Int)≤(decF b a).1.a)=True:=eq_true g5
   simp -implicitDefEqProofs only[go_sem,hT,Nat.mul_one,Nat.add_zero,Nat.zero_add,n1,n2,n3,n4,Ne.symm n1,Ne.symm n2,Ne.symm n3,Ne.symm n4,p5,p6,p1,p2,p3,p4,Ne.symm p1,Ne.symm p2,Ne.symm p3,Ne.symm p4,kq1,g5',bXheC0]
   rw[hV1 50 (by unfold onD; rw[if_pos ⟨hj,g5⟩]) (by omega)]
   exact⟨_,_,DLe.refl _,hle2 _ _,rfl,m1,hm1,rfl⟩
  ·have g5':((b.length:Int)≤(decF b a).1.a)=False:=eq_false g5
   simp -implicitDefEqProofs only[go_sem,hT,Nat.mul_one,Nat.add_zero,Nat.zero_add,n1,n2,n3,n4,Ne.symm n1,Ne.symm n2,Ne.symm n3,Ne.symm n4,p5,p6,p1,p2,p3,p4,Ne.symm p1,Ne.symm p2,Ne.symm p3,Ne.symm p4,kq1,g5',frz,bXheC0]
   refine appB_nil fun b1 cap hb1 hc1=> ?_
   have hb1':=hb1
   simp only[set_has,not_or] at hb1'
   obtain⟨z1,z2,hz3⟩:=hb1'
   obtain⟨z3,z4,z5,z6⟩:=stR_ne hr hz3
   simp -implicitDefEqProofs only[go_sem,hT,Nat.mul_one,Nat.add_zero,Nat.zero_add,n1,n2,n3,n4,Ne.symm n1,Ne.symm n2,Ne.symm n3,Ne.symm n4,p5,p6,p1,p2,p3,p4,Ne.symm p1,Ne.symm p2,Ne.symm p3,Ne.symm p4,z1,z2,z3,z4,z5,z6,Ne.symm z1,Ne.symm z2,Ne.symm z3,kq1,bXheC0]
   refine za3 (ends88 (decF b a).1.op) ?_
   have hA0:=hja hj
   cases he:endsB (decF b a).1.op.val
   ·by_cases g6:(a:Int)+ze8 (decF b a).1.op.val=b.length
    ·have g6':((a:Int)+ze8 (decF b a).1.op.val=b.length)=True:=eq_true g6
     simp -implicitDefEqProofs only[go_sem,hT,Nat.mul_one,Nat.add_zero,Nat.zero_add,n1,n2,n3,n4,Ne.symm n1,Ne.symm n2,Ne.symm n3,Ne.symm n4,p5,p6,p1,p2,p3,p4,Ne.symm p1,Ne.symm p2,Ne.symm p3,Ne.symm p4,z1,z2,z3,z4,z5,z6,Ne.symm z1,Ne.symm z2,Ne.symm z3,kq1,g6',bXheC0]
     rw[hV1 51 (by unfold onD; rw[if_neg (fun h=>g5 h.2),if_pos ⟨he,by rw[hpos]; exact g6⟩]) (by omega)]
     exact⟨_,_,DLe.refl _,(hle2 _ _).trans (le_add hb1),rfl,m1,hm1,rfl⟩
    ·have g6':((a:Int)+ze8 (decF b a).1.op.val=b.length)=False:=eq_false g6
     have ho:onD (decF b a).1 b.length=(Lib.compact (sortZ [(decF b a).1.a,(a:Int)+ze8 (decF b a).1.op.val]),0):=by
      unfold onD
      rw[if_neg (fun h=>g5 h.2),if_neg (by rw[hpos]; exact fun h=>g6 h.2),hj,he,hpos,sort2]
      simp only[Bool.false_eq_true,true_and,false_or,if_true]
      rcases Int.lt_trichotomy (decF b a).1.a ((a:Int)+ze8 (decF b a).1.op.val) with h|h|h
      ·rw[if_pos h,if_neg (by omega),if_pos (by omega),compact2,if_neg (by omega)]; rfl
      ·rw[if_neg (by omega),if_neg (by omega),if_pos (by omega),compact2,if_pos h,h]; rfl
      ·rw[if_neg (by omega),if_pos h,if_neg (by omega),compact2,if_neg (by omega)]; rfl
     rw[hV2 (by rw[ho]),ho]
     simp -implicitDefEqProofs only[go_sem,hT,Nat.mul_one,Nat.add_zero,Nat.zero_add,n1,n2,n3,n4,Ne.symm n1,Ne.symm n2,Ne.symm n3,Ne.symm n4,p5,p6,p1,p2,p3,p4,Ne.symm p1,Ne.symm p2,Ne.symm p3,Ne.symm p4,z1,z2,z3,z4,z5,z6,Ne.symm z1,Ne.symm z2,Ne.symm z3,kq1,g6',frz,bXheC0]
     have fin:∀z∈[(decF b a).1.a,(a:Int)+ze8 (decF b a).1.op.val],0≤z:=by intro z hz; simp at hz; omega
     refine appB_one hc1 (by rw[St.set_box,if_pos rfl]; rfl) (fun h2=> ?_) (fun b2 cap2 hb2 h2=> ?_)
     ·simp -implicitDefEqProofs only[go_sem,hT,za4]
      refine tail b1 cap (cap-2) [(decF b a).1.a,(a:Int)+ze8 (decF b a).1.op.val] (by simp) (by simpa using h2) (offB hb1) fin _ rfl _ ?_
      simp -implicitDefEqProofs only[go_sem,hT]
     ·have off1:∀m' w,¬(stR r e b m' w).has b1:=fun m' w=>stR_off hr hz3
      simp -implicitDefEqProofs only[go_sem,hT]
      refine visit_tail r hr e b m1 ⟨s.ff,s.nn,(takeP a (ze8 (decF b a).1.op.val) a s.tt).1,(a:Int)⟩ hm1 g hl [.bx b5 (eIn (decF b a).1),.bx b7 (eFr g),.bx b1 ([(decF b a).1.a].map eZ++List.replicate (cap-1) .any)] b7 b2 cap2 (cap2-2) [(decF b a).1.a,(a:Int)+ze8 (decF b a).1.op.val] (by simp) (by simpa using h2)
       (fun m' w=>⟨off5 _ _,off7 _ _,off1 _ _,trivial⟩) (fun m' w=>by simp[putL,LI.put,St.set_box,Ne.symm z1]) (fun m' w' h'=>hb2 ?_) fin _ rfl _ ?_ ?_ ?_
      ·simp only[putL,List.foldl_cons,List.foldl_nil,LI.put,set_has] at h' ⊢
       rcases h' with h'|h'|h'|h'
       ·exact .inl h'
       ·exact .inr (.inl h')
       ·exact .inr (.inr (.inl h'))
       ·exact .inr (.inr (.inr ((stR_has hr).2 ((stR_has hr).1 h'))))
      ·simp -implicitDefEqProofs only[go_sem,hT]
      ·simp -implicitDefEqProofs only[go_sem,hT]
      ·simp -implicitDefEqProofs only[go_sem,hT]
   ·have ho:onD (decF b a).1 b.length=([(decF b a).1.a],0):=by
     unfold onD; rw[if_neg (fun h=>g5 h.2),if_neg (by rw[he]; simp),hj,he]; simp
    rw[hV2 (by rw[ho]),ho]
    simp -implicitDefEqProofs only[go_sem,hT,Nat.mul_one,Nat.add_zero,Nat.zero_add,n1,n2,n3,n4,Ne.symm n1,Ne.symm n2,Ne.symm n3,Ne.symm n4,p5,p6,p1,p2,p3,p4,Ne.symm p1,Ne.symm p2,Ne.symm p3,Ne.symm p4,z1,z2,z3,z4,z5,z6,Ne.symm z1,Ne.symm z2,Ne.symm z3,kq1,bXheC0]
    refine tail b1 cap (cap-1) [(decF b a).1.a] (by simp) (by simpa using hc1) (offB hb1) (by intro z hz; simp at hz; omega) _ (by rw[sort1,compact1]) _ ?_
    simp -implicitDefEqProofs only[go_sem,hT]
open Go.Proofs
theorem take_spec (p:Nat):∀(k x:Nat) (tt:Nat→Option Nat),
  ((∀y,x≤y→y<x+k→∀z,tt y=some z→z=p)→takeP p k x tt=(fun y=>if x≤y∧y<x+k then some p else tt y,true))∧
  ((∃y z,x≤y∧y<x+k∧tt y=some z∧z≠p)→(takeP p k x tt).2=false)
 |0,x,tt=>⟨fun _=>by
   show(tt,true)=_
   congr 1
   funext y
   rw[if_neg (by omega)],fun⟨y,z,h1,h2,_⟩=>by omega⟩
 |k+1,x,tt=>by
  have ih:=take_spec p k (x+1) (fun y=>if y=x then some p else tt y)
  constructor
  ·intro h
   have e:takeP p (k+1) x tt=takeP p k (x+1) fun y=>if y=x then some p else tt y:=by
    rw[takeP]
    cases htx:tt x with
    |none=>rfl
    |some z=>simp only; rw[if_neg (by simpa using h x (Nat.le_refl _) (by omega) z htx)]
   rw[e,ih.1 fun y h1 h2 z hz=>by
    split at hz
    ·cases hz; rfl
    ·exact h y (by omega) (by omega) z hz]
   congr 1
   funext y
   by_cases h1:y=x
   ·subst h1; rw[if_neg (by omega),if_pos rfl,if_pos (by omega)]
   ·by_cases h2:x+1≤y∧y<x+1+k
    ·rw[if_pos h2,if_pos (by omega)]
    ·rw[if_neg h2,if_neg h1,if_neg (by omega)]
  ·rintro⟨y,z,h1,h2,h3,h4⟩
   rw[takeP]
   by_cases hy:y=x
   ·subst hy
    rw[h3]; simp only; rw[if_pos h4]
   ·have hrest:=ih.2 ⟨y,z,by omega,by omega,by rw[if_neg hy]; exact h3,h4⟩
    cases htx:tt x with
    |none=>exact hrest
    |some w=>
     simp only
     split
     ·rfl
     ·exact hrest
structure Alike (b:List Ty) (s:IS) (p:RS):Prop where
 f:∀x,p.ff x=if(s.has[x]?).getD false=true then some ((s.fr[x]?).getD (fr0 0)) else none
 n:∀x,p.nn x=if(s.fresh[x]?).getD false=true then some () else none
 t:∀y x,p.tt y=some x↔x≤y∧y<x+(s.tk[x]?).getD 0
 z:∀x,(s.tk[x]?).getD 0≠0→(s.tk[x]?).getD 0=ze8 (decF b x).1.op.val
theorem hand_alike {l:List Cl} {b:List Ty} {s:IS} {p:RS} {m a:Nat} {g:Fr} (h:Alike b s p) (hs:s.sz m) (ha:a<m):
  Alike b (handD l s a g).1 (handP l p a g).1∧(handD l s a g).2=(handP l p a g).2∧((handP l p a g).2≠0→(handP l p a g).1.wh=a):=by
 have hf:=h.f a
 unfold handD handP
 by_cases h1:(s.has[a]?).getD false=false
 ·rw[if_pos h1]
  rw[if_neg (by rw[h1]; simp)] at hf
  rw[hf]
  refine⟨⟨fun x=> ?_,fun x=> ?_,h.t,h.z⟩,rfl,fun h=>absurd rfl h⟩
  ·simp only
   rw[set_at (by rw[hs.a]; exact ha),set_at (by rw[hs.b]; exact ha)]
   by_cases he:x=a
   ·rw[if_pos he,if_pos he,if_pos he]; simp
   ·rw[if_neg he,if_neg he,if_neg he]; exact h.f x
  ·simp only
   rw[set_at (by rw[hs.c]; exact ha)]
   by_cases he:x=a
   ·rw[if_pos he,if_pos he]; simp
   ·rw[if_neg he,if_neg he]; exact h.n x
 ·rw[if_neg h1]
  rw[Bool.not_eq_false] at h1
  rw[if_pos h1] at hf
  rw[hf]
  simp only
  by_cases h2:(mergeF l ((s.fr[a]?).getD (fr0 0)) g).2=0
  ·have q2:¬(mergeF l ((s.fr[a]?).getD (fr0 0)) g).2≠0:=fun h=>h h2
   rw[if_neg q2,if_neg q2]
   by_cases h3:(mergeF l ((s.fr[a]?).getD (fr0 0)) g).1=(s.fr[a]?).getD (fr0 0)
   ·have q3:¬(mergeF l ((s.fr[a]?).getD (fr0 0)) g).1≠(s.fr[a]?).getD (fr0 0):=fun h=>h h3
    rw[if_neg q3,if_neg q3]
    exact⟨h,rfl,fun h=>absurd rfl h⟩
   ·rw[if_pos h3,if_pos h3]
    refine⟨⟨fun x=> ?_,fun x=> ?_,h.t,h.z⟩,rfl,fun h=>absurd rfl h⟩
    ·simp only
     rw[set_at (by rw[hs.b]; exact ha)]
     by_cases he:x=a
     ·subst he; rw[if_pos rfl,if_pos rfl,h1,if_pos rfl]
     ·rw[if_neg he,if_neg he]; exact h.f x
    ·simp only
     rw[set_at (by rw[hs.c]; exact ha)]
     by_cases he:x=a
     ·rw[if_pos he,if_pos he]; simp
     ·rw[if_neg he,if_neg he]; exact h.n x
  ·rw[if_pos h2,if_pos h2]
   exact⟨⟨h.f,h.n,h.t,h.z⟩,rfl,fun _=>rfl⟩
def FH (s:IS):Prop:=∀x:Nat,(s.fresh[x]?).getD false=true→(s.has[x]?).getD false=true
theorem hand_FH {l:List Cl} {s:IS} {m a:Nat} {g:Fr} (h:FH s) (hs:s.sz m) (ha:a<m):FH (handD l s a g).1:=by
 intro x hx
 unfold handD at hx ⊢
 by_cases h1:(s.has[a]?).getD false=false
 ·rw[if_pos h1] at hx ⊢
  simp only at hx ⊢
  rw[set_at (by rw[hs.c]; exact ha)] at hx
  rw[set_at (by rw[hs.a]; exact ha)]
  by_cases he:x=a
  ·rw[if_pos he]
  ·rw[if_neg he] at hx ⊢; exact h x hx
 ·rw[if_neg h1] at hx ⊢
  split at hx
  ·rename_i h2; rw[if_pos h2]; exact h x hx
  ·rename_i h2
   rw[if_neg h2]
   split at hx
   ·rename_i h3
    rw[if_pos h3]
    simp only at hx ⊢
    rw[set_at (by rw[hs.c]; exact ha)] at hx
    by_cases he:x=a
    ·rw[he]; simpa using h1
    ·rw[if_neg he] at hx; exact h x hx
   ·rename_i h3; rw[if_neg h3]; exact h x hx
theorem hands_FH {l:List Cl} {m:Nat} {g:Fr}:∀{to:List Int} {s:IS},FH s→s.sz m→(∀x∈to,0≤x∧x<m)→FH (handsD l g to s).1
 |[],s,h,_,_=>h
 |a::r,s,h,hs,ht=>by
  have h0:=ht a (List.mem_cons_self ..)
  have k1:=hand_FH (l:=l) (g:=g) h hs (show a.toNat<m by omega)
  rw[handsD]
  split
  ·exact k1
  ·exact hands_FH k1 (hand_sz hs) fun x hx=>ht x (List.mem_cons_of_mem _ hx)
theorem round_FH {e:En} {b:List Ty} {s:IS} {a:Nat} (h:FH s) (hs:s.sz (b.length+1)) (ha:a≤b.length):FH (roundD e b s a).1:=by
 have k0:∀tk,FH ⟨s.has,s.fr,s.fresh.set a false,tk⟩:=fun tk x hx=>by
  simp only at hx ⊢
  rw[set_at (by rw[hs.c]; omega)] at hx
  by_cases he:x=a
  ·rw[if_pos he] at hx; cases hx
  ·rw[if_neg he] at hx; exact h x hx
 unfold roundD
 by_cases g1:a=b.length
 ·rw[if_pos g1]; exact k0 _
 rw[if_neg g1]
 by_cases g2:(decF b a).2=0
 case neg=>rw[if_pos g2]; exact k0 _
 have q2:¬(decF b a).2≠0:=fun h=>h g2
 rw[if_neg q2]
 by_cases g3:overB s.tk a (ze8 (decF b a).1.op.val)=true
 ·rw[if_pos g3]; exact k0 _
 rw[if_neg g3]
 simp only
 by_cases g4:(applyR e ((s.fr[a]?).getD (fr0 0)) (decF b a).1).2=0
 case neg=>rw[if_pos g4]; exact k0 _
 have q4:¬(applyR e ((s.fr[a]?).getD (fr0 0)) (decF b a).1).2≠0:=fun h=>h g4
 rw[if_neg q4]
 by_cases g5:(onD (decF b a).1 b.length).2=0
 case neg=>rw[if_pos g5]; exact k0 _
 have q5:¬(onD (decF b a).1 b.length).2≠0:=fun h=>h g5
 rw[if_neg q5]
 exact hands_FH (m:=b.length+1) (k0 _) ⟨hs.a,hs.b,by simpa using hs.c,by simpa using hs.d⟩ fun x hx=>by have:=on_in g2 hx; omega
theorem hands_alike {l:List Cl} {b:List Ty} {m:Nat} {g:Fr}:∀{to:List Int} {s:IS} {p:RS},Alike b s p→s.sz m→(∀x∈to,0≤x∧x<m)→
  (handsD l g to s).2.2=(handsP l g to p).2∧((handsP l g to p).2≠0→(handsD l g to s).2.1=(handsP l g to p).1.wh)∧Alike b (handsD l g to s).1 (handsP l g to p).1
 |[],s,p,h,_,_=>⟨rfl,fun h=>absurd rfl h,h⟩
 |a::r,s,p,h,hs,ht=>by
  have h0:=ht a (List.mem_cons_self ..)
  obtain⟨k1,k2,k3⟩:=hand_alike (l:=l) (g:=g) h hs (show a.toNat<m by omega)
  rw[handsD,handsP]
  by_cases he:(handP l p a.toNat g).2=0
  ·have q1:¬(handP l p a.toNat g).2≠0:=fun h=>h he
   have q2:¬(handD l s a.toNat g).2≠0:=by rw[k2]; exact q1
   rw[if_neg q1,if_neg q2]
   exact hands_alike k1 (hand_sz hs) fun x hx=>ht x (List.mem_cons_of_mem _ hx)
  ·have q2:(handD l s a.toNat g).2≠0:=by rw[k2]; exact he
   rw[if_pos he,if_pos q2]
   refine⟨k2,fun _=> ?_,k1⟩
   rw[k3 he]; show a=_; omega
theorem over_alike {b:List Ty} {s:IS} {p:RS} {a z:Nat} (h:Alike b s p) (hz:0<z):overB s.tk a z=true↔∃y x,a≤y∧y<a+z∧p.tt y=some x∧x≠a:=by
 unfold overB
 rw[List.any_eq_true]
 constructor
 ·rintro⟨x,hx,hd⟩
  rw[decide_eq_true_eq] at hd
  obtain⟨h1,h2,h3,h4⟩:=hd
  refine⟨max a x,x,by omega,by omega,(h.t _ _).2 ⟨by omega,by omega⟩,h2⟩
 ·rintro⟨y,x,h1,h2,h3,h4⟩
  obtain⟨h5,h6⟩:=(h.t _ _).1 h3
  have hl:x<s.tk.length:=Classical.byContradiction fun hc=>by
   rw[List.getElem?_eq_none (by omega)] at h6
   simp at h6; omega
  exact⟨x,List.mem_range.2 hl,by rw[decide_eq_true_eq]; exact⟨by omega,h4,by omega,by omega⟩⟩
theorem visit_alike {e:En} {b:List Ty} {s:IS} {p:RS} {a:Nat} {fa:Fr} (h:Alike b ⟨s.has,s.fr,s.fresh.set a false,s.tk⟩ p) (hs:s.sz (b.length+1)) (ha:a≤b.length) (hfa:fa=(s.fr[a]?).getD (fr0 0)):
  (roundD e b s a).2.2=(visitP e b p a fa).2∧((visitP e b p a fa).2≠0→(roundD e b s a).2.1=(visitP e b p a fa).1.wh)∧((visitP e b p a fa).2=0→Alike b (roundD e b s a).1 (visitP e b p a fa).1):=by
 subst hfa
 unfold roundD visitP
 by_cases g1:a=b.length
 ·rw[if_pos g1,if_pos g1]
  exact⟨rfl,fun _=>rfl,fun h=>by cases h⟩
 rw[if_neg g1,if_neg g1]
 by_cases g2:(decF b a).2=0
 case neg=>
  rw[if_pos g2]
  simp only
  rw[if_pos g2]
  exact⟨rfl,fun _=>rfl,fun h=>absurd h g2⟩
 have q2:¬(decF b a).2≠0:=fun h=>h g2
 have hdec:=decF_ok g2
 rw[if_neg q2]
 simp only
 rw[if_neg q2]
 have hov:=over_alike (a:=a) (z:=ze8 (decF b a).1.op.val) h (by omega)
 simp only at hov
 have hsp:=take_spec a (ze8 (decF b a).1.op.val) a p.tt
 cases g3:overB s.tk a (ze8 (decF b a).1.op.val)
 case true=>
  obtain⟨y,x,h1,h2,h3,h4⟩:=hov.1 g3
  rw[if_pos rfl,if_pos (hsp.2 ⟨y,x,h1,h2,h3,h4⟩)]
  exact⟨rfl,fun _=>rfl,fun h=>by cases h⟩
 have hno:∀y,a≤y→y<a+ze8 (decF b a).1.op.val→∀x,p.tt y=some x→x=a:=fun y h1 h2 x h3=>Classical.byContradiction fun hne=>by
  have:=hov.2 ⟨y,x,h1,h2,h3,hne⟩
  rw[g3] at this; cases this
 have htk:=hsp.1 hno
 rw[htk]
 simp only[Bool.false_eq_true,Bool.true_eq_false,if_false]
 by_cases g4:(applyR e ((s.fr[a]?).getD (fr0 0)) (decF b a).1).2=0
 case neg=>
  rw[if_pos g4,if_pos g4]
  exact⟨rfl,fun _=>rfl,fun h=>absurd h g4⟩
 have q4:¬(applyR e ((s.fr[a]?).getD (fr0 0)) (decF b a).1).2≠0:=fun h=>h g4
 rw[if_neg q4,if_neg q4]
 by_cases g5:(onD (decF b a).1 b.length).2=0
 case neg=>
  rw[if_pos g5,if_pos g5]
  exact⟨rfl,fun _=>rfl,fun h=>absurd h g5⟩
 have q5:¬(onD (decF b a).1 b.length).2≠0:=fun h=>h g5
 rw[if_neg q5,if_neg q5]
 have hal:Alike b ⟨s.has,s.fr,s.fresh.set a false,s.tk.set a (ze8 (decF b a).1.op.val)⟩ ⟨p.ff,p.nn,fun y=>if a≤y∧y<a+ze8 (decF b a).1.op.val then some a else p.tt y,(a:Int)⟩:=by
  refine⟨h.f,h.n,fun y x=> ?_,fun x hx=> ?_⟩
  ·simp only
   rw[set_at (by rw[hs.d]; omega)]
   by_cases he:x=a
   ·subst he
    rw[if_pos rfl]
    constructor
    ·intro hy
     by_cases hc:x≤y∧y<x+ze8 (decF b x).1.op.val
     ·exact hc
     ·rw[if_neg hc] at hy
      have h6:=(h.t y x).1 hy
      simp only at h6
      have h7:=h.z x (show(s.tk[x]?).getD 0≠0 by omega)
      simp only at h7
      rw[h7] at h6; exact h6
    ·intro hy; rw[if_pos hy]
   ·rw[if_neg he]
    by_cases hc:a≤y∧y<a+ze8 (decF b a).1.op.val
    ·rw[if_pos hc]
     constructor
     ·intro h5; cases h5; exact absurd rfl he
     ·intro h5
      exact absurd (hno y hc.1 hc.2 x ((h.t y x).2 h5)) he
    ·rw[if_neg hc]; exact h.t y x
  ·simp only at hx ⊢
   rw[set_at (by rw[hs.d]; omega)] at hx ⊢
   by_cases he:x=a
   ·rw[if_pos he,he]
   ·rw[if_neg he] at hx ⊢; exact h.z x hx
 obtain⟨k1,k2,k3⟩:=hands_alike (l:=e.cs) (m:=b.length+1) (g:=(applyR e ((s.fr[a]?).getD (fr0 0)) (decF b a).1).1) (to:=(onD (decF b a).1 b.length).1) hal ⟨hs.a,hs.b,by simpa using hs.c,by simpa using hs.d⟩ fun x hx=>by have:=on_in g2 hx; omega
 exact⟨k1,k2,fun _=>k3⟩
end Go.AL
