import Derived.Test.YtjffaachihpjbaaGreatFv
import Derived.Test.YtjffaachihpjbaaGreatFe
import Derived.Test.YtjffaachihpjbaaGreatFq
set_option linter.unusedSimpArgs false
set_option linter.unusedVariables false
set_option maxRecDepth 100000
set_option maxHeartbeats 4000000
set_option linter.defProp false
namespace Go.AL
open Go.Proofs
def placeI (l:List Ins) (a:Int):Int:=match l.findIdx? (fun x=>decide (x.pos=a)) with|some i=>i|none=> -1
theorem place42 (l:List Ins) (o:Own) (a:Int) (hl:l.length≤140737488355328):PCall Tryz.prog 42 [.slice o (rws eIn l),.int .i64 a] (.int .i64 (placeI l a)):=by
 refine F42.pcallM rfl fun T hT=> ?_
 simp -implicitDefEqProofs only[go_sem,c42,hT]
 refine loopL F42 (fun i:Nat=>[(0,.slice o (rws eIn l)),(1,.int .i64 a),(7,.slice o (rws eIn l)),(8,.int .i64 l.length),(9,.int .i64 i)]) (fun _=>{}) (fun i=>i≤l.length∧∀j (hj:j<l.length),j<i→l[j].pos≠a) (fun i=>l.length-i) 0 ⟨Nat.zero_le _,fun j _ h=>by omega⟩ ?_ (St.le.refl _) ?_
 ·simp -implicitDefEqProofs only[go_sem,hT,Int.ofNat_zero]
 clear hT T
 rintro i ⟨hi,hn⟩ T hT
 by_cases h:i<l.length
 case neg=>
  have g1:((i:Int)<l.length)=False:=eq_false (by omega)
  have hr:placeI l a= -1:=by
   unfold placeI
   rw[List.findIdx?_eq_none_iff.2]
   intro x hx
   obtain⟨j,hj,rfl⟩:=List.getElem_of_mem hx
   exact decide_eq_false (hn j hj (by omega))
  rw[hr]
  simp -implicitDefEqProofs only[go_sem,hT,g1]
  done
 have g1:((i:Int)<l.length)=True:=eq_true (by omega)
 have g0:(0≤(i:Int))=True:=eq_true (by omega)
 have w1:IntKind.wrap .i64 ((i:Int)+1)=((i+1:Nat):Int):=by rw[zb7 (by omega) (by omega)]; simp
 have hR:(rws eIn l)[i]?.getD []=eIn l[i]:=rws_at h
 by_cases hx:l[i].pos=a
 ·have hr:placeI l a=i:=by
   unfold placeI
   rw[List.findIdx?_eq_some_iff_getElem.2 ⟨h,decide_eq_true hx,fun j hji=>by simpa using hn j (by omega) hji⟩]
  rw[hr]
  have gx:(l[i].pos=a)=True:=eq_true hx
  generalize l[i]=x at *
  simp -implicitDefEqProofs only[go_sem,hT,g1,g0,hR,zb3,za7,eIn_0,gdD,Nat.add_zero,Int.toNat_natCast]
  intro b6
  simp -implicitDefEqProofs only[go_sem,hT,zb3,za7,eIn_0,gdD,Nat.add_zero,gx]
  done
 ·have gx:(l[i].pos=a)=False:=eq_false hx
  have hn1:∀j (hj:j<l.length),j<i+1→l[j].pos≠a:=fun j hj hlt=>by
   by_cases hji:j=i
   ·subst hji; exact hx
   ·exact hn j hj (by omega)
  generalize l[i]=x at *
  simp -implicitDefEqProofs only[go_sem,hT,g1,g0,hR,zb3,za7,eIn_0,gdD,Nat.add_zero,Int.toNat_natCast]
  intro b6
  simp -implicitDefEqProofs only[go_sem,hT,zb3,za7,eIn_0,gdD,Nat.add_zero,gx,w1]
  exact⟨i+1,⟨by omega,hn1⟩,by omega,rfl,St.le.nil _⟩
def chkD (b:List Ty):Int×Int:=
 let l:=insL b (scanD b).1
 if(scanD b).2.2≠0 then((scanD b).2.1,(scanD b).2.2) else
 match l.find? fun i=>jumpsB i.op.val&&decide (placeI l i.a<0) with
 |some i=>(i.pos,50)
 |none=>if l=[] then(0,51) else if endsB (l.getLastD ins0).op.val=true then(0,0) else((l.getLastD ins0).pos,51)
theorem flow_ok {b:List Ty} (h:(chkD b).2=0):(scanD b).2.2=0∧∀i∈insL b (scanD b).1,jumpsB i.op.val=true→0≤placeI (insL b (scanD b).1) i.a:=by
 unfold chkD at h
 simp only at h
 split at h
 ·rename_i h1
  simp only at h; omega
 ·rename_i h1
  refine⟨by omega,fun i hi hj=> ?_⟩
  split at h
  ·cases h
  ·rename_i h2
   have:=List.find?_eq_none.1 h2 i hi
   simp only[hj,Bool.true_and,decide_eq_true_eq] at this
   omega
theorem scan_len {b:List Ty}:(scanD b).1.length≤b.length:=by
 have key:∀k p,(scanN b k p).1.length≤k:=fun k=>by
  induction k with
  |zero=>intro p; simp[scanN]
  |succ k ih=>
   intro p
   rw[scanN]
   split
   ·simp
   ·split
    ·simp
    ·simpa using ih _
 unfold scanD
 split
 ·simp
 ·split
  ·simp
  ·exact key _ _
def bXibA0:=aI @zb3 (aI @za7 (aI @eIn_0 (aI @eIn_1 (aI @eIn_2 @gdD))))
theorem check17 (b:List Ty) (hb:b.length≤140737488355328):PCall Tryz.prog 17 [.slice .no (rws eT b)] (.tup [.int .i64 (chkD b).1,.int .i64 (chkD b).2]):=by
 have hs:=scan23 b .no hb
 have hlen:(insL b (scanD b).1).length≤140737488355328:=by
  have:=scan_len (b:=b)
  unfold insL
  rw[List.length_map]; omega
 refine F17.pcallM rfl fun T hT=> ?_
 simp -implicitDefEqProofs only[go_sem,c17,hT]
 refine za3 hs ?_
 by_cases h1:(scanD b).2.2=0
 case neg=>
  have g1:((((scanD b).2.2:Nat):Int)=0)=False:=eq_false (by omega)
  rw[show chkD b=(((scanD b).2.1:Int),((scanD b).2.2:Int)) by unfold chkD; simp only; rw[if_pos h1]]
  simp -implicitDefEqProofs only[go_sem,hT,g1]
  done
 have g1:(((scanD b).2.2:Nat):Int)=0:=by omega
 rw[show chkD b=(match (insL b (scanD b).1).find? fun i=>jumpsB i.op.val&&decide (placeI (insL b (scanD b).1) i.a<0) with
 |some i=>(i.pos,50)
 |none=>if(insL b (scanD b).1)=[] then(0,51) else if endsB ((insL b (scanD b).1).getLastD ins0).op.val=true then(0,0) else(((insL b (scanD b).1).getLastD ins0).pos,51)) by unfold chkD; simp only; rw[if_neg (by omega)]]
 generalize insL b (scanD b).1=l at *
 simp -implicitDefEqProofs only[go_sem,hT,g1]
 refine loopL F17 (fun i:Nat=>[(4,.slice .no (rws eIn l)),(20,.slice .no (rws eIn l)),(21,.int .i64 l.length),(22,.int .i64 i)]) (fun _=>{}) (fun i=>i≤l.length∧∀j (hj:j<l.length),j<i→(jumpsB l[j].op.val&&decide (placeI l l[j].a<0))=false) (fun i=>l.length-i) 0 ⟨Nat.zero_le _,fun j _ h=>by omega⟩ ?_ (St.le.refl _) ?_
 ·simp -implicitDefEqProofs only[go_sem,hT,Int.ofNat_zero]
 clear hT T
 rintro i ⟨hi,hn⟩ T hT
 by_cases h:i<l.length
 case neg=>
  have g1:((i:Int)<l.length)=False:=eq_false (by omega)
  have hr:(l.find? fun i=>jumpsB i.op.val&&decide (placeI l i.a<0))=none:=by
   rw[List.find?_eq_none]
   intro x hx
   obtain⟨j,hj,rfl⟩:=List.getElem_of_mem hx
   rw[hn j hj (by omega)]; simp
  rw[hr]
  simp only
  by_cases he:l=[]
  ·have gl:((l.length:Int)=0)=True:=eq_true (by rw[he]; rfl)
   rw[if_pos he]
   simp -implicitDefEqProofs only[go_sem,hT,g1,gl]
   done
  have hpos:0<l.length:=List.length_pos_iff.2 he
  have gl:((l.length:Int)=0)=False:=eq_false (by omega)
  have w2:IntKind.wrap .i64 ((l.length:Int)-1)=((l.length-1:Nat):Int):=by rw[zb7 (by omega) (by omega)]; omega
  have g2:(0≤((l.length-1:Nat):Int))=True:=eq_true (by omega)
  have g3:(((l.length-1:Nat):Int)<l.length)=True:=eq_true (by omega)
  have hR:(rws eIn l)[l.length-1]?.getD []=eIn l[l.length-1]:=rws_at (by omega)
  have hla:l.getLastD ins0=l[l.length-1]:=by
   rw[List.getLastD_eq_getLast?,List.getLast?_eq_getElem?,List.getElem?_eq_getElem (by omega)]; rfl
  rw[if_neg he,hla]
  generalize l[l.length-1]=x at *
  simp -implicitDefEqProofs only[go_sem,hT,g1,gl,w2,g2,g3,hR,zb3,za7,eIn_0,eIn_1,eIn_2,gdD,Nat.add_zero,Nat.reduceAdd,Int.toNat_natCast]
  intro b9
  refine za3 (refEnds41 _) ?_
  cases hx:endsB x.op.val with
  |true=>
   rw[if_pos rfl]
   simp -implicitDefEqProofs only[go_sem,hT,Nat.add_zero,Nat.reduceAdd,bXibA0]
   done
  |false=>
   rw[if_neg (by simp)]
   simp -implicitDefEqProofs only[go_sem,hT,Nat.add_zero,Nat.reduceAdd,bXibA0]
   done
 have g1:((i:Int)<l.length)=True:=eq_true (by omega)
 have g0:(0≤(i:Int))=True:=eq_true (by omega)
 have w1:IntKind.wrap .i64 ((i:Int)+1)=((i+1:Nat):Int):=by rw[zb7 (by omega) (by omega)]; simp
 have hR:(rws eIn l)[i]?.getD []=eIn l[i]:=rws_at h
 have hn1:(jumpsB l[i].op.val&&decide (placeI l l[i].a<0))=false→∀j (hj:j<l.length),j<i+1→(jumpsB l[j].op.val&&decide (placeI l l[j].a<0))=false:=fun hh j hj hlt=>by
  by_cases hji:j=i
  ·subst hji; exact hh
  ·exact hn j hj (by omega)
 have hf:(jumpsB l[i].op.val&&decide (placeI l l[i].a<0))=true→(l.find? fun i=>jumpsB i.op.val&&decide (placeI l i.a<0))=some l[i]:=fun hh=>by
  rw[List.find?_eq_some_iff_getElem]
  exact⟨hh,i,h,rfl,fun j hj=>by rw[hn j (by omega) hj]; rfl⟩
 generalize l[i]=x at *
 simp -implicitDefEqProofs only[go_sem,hT,g1,g0,hR,zb3,za7,eIn_0,eIn_1,eIn_2,gdD,Nat.add_zero,Nat.reduceAdd,Int.toNat_natCast]
 intro b8
 refine za3 (refJumps22 _) ?_
 cases hj:jumpsB x.op.val with
 |false=>
  simp -implicitDefEqProofs only[go_sem,hT,Nat.add_zero,Nat.reduceAdd,w1,bXibA0]
  exact⟨i+1,⟨by omega,hn1 (by rw[hj]; rfl)⟩,by omega,rfl,St.le.nil _⟩
 |true=>
  simp -implicitDefEqProofs only[go_sem,hT,Nat.add_zero,Nat.reduceAdd,w1,bXibA0]
  refine za3 (place42 l .no x.a (by omega)) ?_
  by_cases hp:placeI l x.a<0
  ·have gp:(placeI l x.a<0)=True:=eq_true hp
   rw[hf (by rw[hj,decide_eq_true hp]; rfl)]
   simp -implicitDefEqProofs only[go_sem,hT,Nat.add_zero,Nat.reduceAdd,w1,gp,bXibA0]
   done
  ·have gp:(placeI l x.a<0)=False:=eq_false hp
   simp -implicitDefEqProofs only[go_sem,hT,Nat.add_zero,Nat.reduceAdd,w1,gp,bXibA0]
   exact⟨i+1,⟨by omega,hn1 (by rw[hj,decide_eq_false hp]; rfl)⟩,by omega,rfl,St.le.nil _⟩
open Go.Proofs
theorem next_iff {b:List Ty} {x:Nat} (g1:(decF b x).2=0) (g3:(onD (decF b x).1 b.length).2=0) (hb:b.length≤4096) {z:Int}:z∈nextI (insA b x)↔∃y:Nat,z=y∧y∈nextN b x:=by
 constructor
 ·intro hz
  rcases(nextI_mem g1 hb).1 hz with⟨h1,rfl⟩|⟨h1,rfl⟩
  ·exact⟨x+szA b x,by omega,(next_behind g3 g1 h1).1⟩
  ·have h2:0≤(insA b x).a:=jumps_a g1 h1
   exact⟨(insA b x).a.toNat,by omega,next_jump g3 g1 h1⟩
 ·rintro⟨y,rfl,hy⟩
  rw[nextI_mem g1 hb]
  rcases next_mem g1 hy with⟨q1,rfl,q3⟩|⟨q1,rfl⟩
  ·exact .inr ⟨q1,Int.toNat_of_nonneg q3⟩
  ·exact .inl ⟨q1,by omega⟩
theorem place_at {b:List Ty} {ns:List Nat} {y:Int} (hp:∀x∈ns,(insA b x).pos=x) (h:0≤placeI (insL b ns) y):∃j,∃hj:j<ns.length,placeI (insL b ns) y=(j:Nat)∧(ns[j]:Int)=y:=by
 unfold placeI at h ⊢
 cases hf:(insL b ns).findIdx? fun x=>decide (x.pos=y) with
 |none=>rw[hf] at h; simp at h
 |some j=>
  obtain⟨h1,h2,_⟩:=List.findIdx?_eq_some_iff_getElem.1 hf
  have hj:j<ns.length:=by simpa[insL] using h1
  refine⟨j,hj,rfl, ?_⟩
  have h3:(insL b ns)[j]=insA b ns[j]:=by simp[insL]
  rw[h3,decide_eq_true_eq,hp _ (List.getElem_mem hj)] at h2
  exact h2
theorem place_of {b:List Ty} {ns:List Nat} {y:Nat} (hp:∀x∈ns,(insA b x).pos=x) (h:y∈ns):0≤placeI (insL b ns) (y:Int):=by
 unfold placeI
 cases hf:(insL b ns).findIdx? fun x=>decide (x.pos=(y:Int)) with
 |none=>
  have:=List.findIdx?_eq_none_iff.1 hf (insA b y) (List.mem_map.2 ⟨y,h,rfl⟩)
  rw[hp y h] at this
  simp at this
 |some j=>simp only; omega
structure Bfs (b:List Ty) (ns:List Nat) (c:Int) (q:List Nat) (met:List Bool) (out:List Int):Prop where
 len:met.length=ns.length
 qm:∀k∈q,met[k]? =some true
 come:∀k,met[k]? =some true→∃h:k<ns.length,Come b ns[k]
 rise:out.Pairwise (· < ·)
 outm:∀z∈out,∃k,∃h:k<ns.length,z=(ns[k]:Int)∧met[k]? =some true
 cover:∀k (h:k<ns.length),met[k]? =some true→k∈q∨(ns[k]:Int)∈out
 closed:∀x:Nat,(x:Int)∈out→(x:Int)≠c→∀y∈nextI (insA b x),∃j,∃h:j<ns.length,(ns[j]:Int)=y∧met[j]? =some true
theorem bfs_pop {b:List Ty} {ns:List Nat} {k:Nat} {q:List Nat} {met:List Bool} {out:List Int} (h:Bfs b ns (-1) (k::q) met out):∃hk:k<ns.length,Bfs b ns ns[k] q met (putI out ns[k]):=by
 have hm:=h.qm k (List.mem_cons_self ..)
 obtain⟨hk,hc⟩:=h.come k hm
 refine⟨hk,h.len,fun j hj=>h.qm j (List.mem_cons_of_mem _ hj),h.come,putI_rise h.rise,fun z hz=> ?_,fun j hj hm'=> ?_,fun x hx hne=> ?_⟩
 ·rcases putI_mem.1 hz with rfl|hz
  ·exact⟨k,hk,rfl,hm⟩
  ·exact h.outm z hz
 ·rcases h.cover j hj hm' with hq|ho
  ·rcases List.mem_cons.1 hq with rfl|hq
   ·exact .inr (putI_mem.2 (.inl rfl))
   ·exact .inl hq
  ·exact .inr (putI_mem.2 (.inr ho))
 ·rcases putI_mem.1 hx with h1|h1
  ·exact absurd h1 hne
  ·exact h.closed x h1 (by omega)
theorem bfs_push {b:List Ty} {ns:List Nat} {c:Int} {j:Nat} {q:List Nat} {met:List Bool} {out:List Int} (h:Bfs b ns c q met out) (hj:j<ns.length) (hc:Come b ns[j]):Bfs b ns c (q++[j]) (met.set j true) out:=by
 have hl:=h.len
 have hset:∀k,(met.set j true)[k]? =some true↔k=j∨met[k]? =some true:=fun k=>by
  rw[List.getElem?_set]
  by_cases hk:j=k
  ·subst hk; simp[hl,hj]
  ·rw[if_neg hk]
   exact⟨.inr,fun h=>h.elim (fun h=>absurd h.symm hk) id⟩
 refine⟨by rw[List.length_set]; exact hl,fun k hk=> ?_,fun k hk=> ?_,h.rise,fun z hz=> ?_,fun k hk hm=> ?_,fun x hx hne y hy=> ?_⟩
 ·rw[hset]
  rcases List.mem_append.1 hk with hk|hk
  ·exact .inr (h.qm k hk)
  ·exact .inl (by simpa using hk)
 ·rcases(hset k).1 hk with rfl|hk
  ·exact⟨hj,hc⟩
  ·exact h.come k hk
 ·obtain⟨k,hk,h1,h2⟩:=h.outm z hz
  exact⟨k,hk,h1,(hset k).2 (.inr h2)⟩
 ·rcases(hset k).1 hm with rfl|hm
  ·exact .inl (by simp)
  ·rcases h.cover k hk hm with hq|ho
   ·exact .inl (List.mem_append_left _ hq)
   ·exact .inr ho
 ·obtain⟨i,hi,h1,h2⟩:=h.closed x hx hne y hy
  exact⟨i,hi,h1,(hset i).2 (.inr h2)⟩
theorem bfs_close {b:List Ty} {ns:List Nat} {c:Nat} {q:List Nat} {met:List Bool} {out:List Int} (h:Bfs b ns c q met out) (hc:∀y∈nextI (insA b c),∃j,∃h:j<ns.length,(ns[j]:Int)=y∧met[j]? =some true):Bfs b ns (-1) q met out:=
 ⟨h.len,h.qm,h.come,h.rise,h.outm,h.cover,fun x hx _ y hy=>by
  by_cases hxc:x=c
  ·subst hxc; exact hc y hy
  ·exact h.closed x hx (by omega) y hy⟩
theorem bfs_end {b:List Ty} {ns:List Nat} {met:List Bool} {out A:List Int} (h:Bfs b ns (-1) [] met out) (h0:∃k,∃hk:k<ns.length,ns[k]=0∧met[k]? =some true)
  (hN:∀x,Come b x→∀z,z∈nextI (insA b x)↔∃y:Nat,z=y∧y∈nextN b x) (hA:A.Pairwise (· < ·)) (hm:∀z,z∈A↔∃x:Nat,z=x∧Come b x):out=A:=by
 refine rise_eq h.rise hA fun z=> ?_
 rw[hm]
 constructor
 ·intro hz
  obtain⟨k,hk,rfl,h1⟩:=h.outm z hz
  exact⟨_,rfl,(h.come k h1).2⟩
 ·rintro⟨x,rfl,hx⟩
  have key:∀k (hk:k<ns.length),met[k]? =some true→(ns[k]:Int)∈out:=fun k hk h1=>by
   rcases h.cover k hk h1 with h2|h2
   ·cases h2
   ·exact h2
  induction hx with
  |zero=>
   obtain⟨k,hk,h1,h2⟩:=h0
   have:=key k hk h2
   rw[h1] at this
   exact this
  |step hx hy ih=>
   obtain⟨j,hj,h1,h2⟩:=h.closed _ ih (by omega) _ ((hN _ hx _).2 ⟨_,rfl,hy⟩)
   have:=key j hj h2
   rw[h1] at this
   exact this
theorem bfs_start {b:List Ty} {ns:List Nat} {k:Nat} (hk:k<ns.length) (h0:ns[k]=0):Bfs b ns (-1) [k] ((List.replicate ns.length false).set k true) []:=by
 have hset:∀j,((List.replicate ns.length false).set k true)[j]? =some true↔j=k:=fun j=>by
  rw[List.getElem?_set]
  by_cases hj:k=j
  ·subst hj; simp[hk]
  ·rw[if_neg hj]
   simp only[List.getElem?_replicate]
   constructor
   ·intro h; split at h <;> simp at h
   ·intro h; exact absurd h.symm hj
 refine⟨by simp,fun j hj=> ?_,fun j hj=> ?_,List.Pairwise.nil,fun z hz=>(by cases hz),fun j hj hm=> ?_,fun x hx=>(by cases hx)⟩
 ·rw[hset]; simpa using hj
 ·obtain rfl:=(hset j).1 hj
  exact⟨hk,by rw[h0]; exact .zero⟩
 ·obtain rfl:=(hset j).1 hm
  exact .inl (by simp)
def unmet (met:List Bool):Nat:=met.count false
theorem unmet_set:∀{met:List Bool} {j:Nat},met[j]? =some false→unmet (met.set j true)+1=unmet met
 |x::r,0,h=>by
  obtain rfl:x=false:=by simpa using h
  simp[unmet,List.count_cons]
 |x::r,j+1,h=>by
  have:=unmet_set (met:=r) (j:=j) (by simpa using h)
  unfold unmet at this ⊢
  rw[List.set_cons_succ,List.count_cons,List.count_cons]
  omega
open Go.Proofs
structure QS where
 q:List Nat
 met:List Bool
 out:List Int
 od:Own
 bq:Nat
 off:Nat
 cap:Nat
 cs:List D
structure QOk (b:List Ty) (ns:List Nat) (bm:Nat) (c:Int) (x:QS):Prop where
 bfs:Bfs b ns c x.q x.met x.out
 cells:(x.cs.drop x.off).take x.q.length=x.q.map fun k:Nat=>D.int .i64 k
 fits:x.q.length≤x.cap
 room:x.off+x.cap≤x.cs.length
 ne:¬bm=x.bq
 zero:∃k,∃h:k<ns.length,ns[k]=0∧x.met[k]? =some true
 size:x.out.length+(2*unmet x.met+x.q.length)≤2*ns.length
theorem cells_in {cs Q:List D} {off n:Nat} {x:D} (h:(cs.drop off).take n=Q) (hl:off+n+1≤cs.length):((cs.take (off+n)++[x]++cs.drop (off+n+1)).drop off).take (n+1)=Q++[x]:=by
 have h1:(cs.take (off+n)).drop off=Q:=by rw[List.drop_take,←h]; congr 1; omega
 have h2:Q.length=n:=by rw[←h,List.length_take,List.length_drop]; omega
 rw[List.append_assoc,List.drop_append_of_le_length (by rw[List.length_take]; omega),h1,List.take_append,h2,show n+1-n=1 by omega,List.take_of_length_le (by omega)]
 simp
theorem cells_out {Q J:List D} {n:Nat} {x:D} (h:Q.length=n):((Q++[x]++J).drop 0).take (n+1)=Q++[x]:=by
 rw[List.drop_zero,List.take_append_of_le_length (by simp; omega),List.take_of_length_le (by simp; omega)]
section
attribute [-instance] moW moY
theorem reach20 (b:List Ty) (ns:List Nat) (A:List Int) (hn:ns.length≤4096) (hpos:∀x∈ns,(insA b x).pos=x) (hin:∀x,Come b x→x∈ns) (hN:∀x,Come b x→∀z,z∈nextI (insA b x)↔∃y:Nat,z=y∧y∈nextN b x)
  (hA:A.Pairwise (· < ·)) (hmA:∀z,z∈A↔∃x:Nat,z=x∧Come b x):PCall Tryz.prog 20 [.slice .no (rws eIn (insL b ns)),.int .i64 0] (.slice .no (rws eI A)):=by
 have hm:=F20.hm
 have hNN:=of_decide_eq_true F20.hN
 have hlen:(insL b ns).length=ns.length:=by simp[insL]
 obtain⟨k0,hk0,hp0,hz0⟩:=place_at (b:=b) hpos (place_of hpos (hin 0 .zero))
 rw[show(((0:Nat):Int))=0 from rfl] at hp0 hz0
 refine F20.pcallC rfl fun T hT=> ?_
 refine awpC_step hm hNN (fun _ _ h=>by cases h) ?_
 simp -implicitDefEqProofs only[go_sem,c20,hT]
 refine awpC_step hm hNN (fun _ _ h=>by cases h) ?_
 simp -implicitDefEqProofs only[go_sem,hT,hlen]
 refine⟨by omega,by omega,fun bm=> ?_⟩
 refine awpC_step hm hNN (fun _ _ h=>by cases h) ?_
 simp -implicitDefEqProofs only[go_sem,hT]
 refine za3 (place42 (insL b ns) .no 0 (by omega)) ?_
 rw[hp0]
 have g0:((k0:Int)<0)=False:=eq_false (by omega)
 simp -implicitDefEqProofs only[go_sem,hT]
 refine awpC_step hm hNN (fun _ _ h=>by cases h) ?_
 simp -implicitDefEqProofs only[go_sem,hT,g0]
 refine awpC_seq (fun _ _ h=>by cases h) ?_
 refine awpC_raw hNN (pre:=[oO 20 (.move (tT 6))]) (post:=[oO 7 (.assign (tT 21))]) ?_
 simp -implicitDefEqProofs only[go_sem,hT]
 refine rawO_build1 (k:= .i64) (n:=k0) Tryz.sli57 Tryz.sz3 Tryz.zero3 ?_ (by decide) fun bq hq=> ?_
 ·simp -implicitDefEqProofs only[go_sem,hT]
  done
 have nq:¬bm=bq:=fun h=>hq (set_has.2 (.inl h.symm))
 simp -implicitDefEqProofs only[go_sem,hT]
 refine awpC_step hm hNN (fun _ _ h=>by cases h) ?_
 have g1:(0≤(k0:Int))=True:=eq_true (by omega)
 have g2:((k0:Int)<ns.length)=True:=eq_true (by omega)
 have hfl:(fl eBo (List.replicate ns.length false)).length=ns.length:=by rw[fl_len (s:=1) (fun x=>rfl)]; simp
 have gk:(k0+1≤(fl eBo (List.replicate ns.length false)).length)=True:=eq_true (by rw[hfl]; omega)
 have hst:=fl_set (enc:=eBo) (s:=1) (fun x=>rfl) (xs:=List.replicate ns.length false) (i:=k0) (by simpa using hk0) true
 rw[Nat.mul_one] at hst
 simp only[eBo] at hst
 simp -implicitDefEqProofs only[go_sem,hT,g1,g2,nq,Int.toNat_natCast,Nat.zero_add,Nat.mul_one,gk,hst]
 refine awpC_step hm hNN (fun _ _ h=>by cases h) ?_
 simp -implicitDefEqProofs only[go_sem,hT]
 refine awpC_seq (fun _ _ h=>by cases h) ?_
 refine awpC_block ?_
 have hunm:=unmet_set (met:=List.replicate ns.length false) (j:=k0) (by simp[hk0])
 have hun0:unmet (List.replicate ns.length false)=ns.length:=by simp[unmet]
 refine awpC_loopL (fun x:QS=>[(0,.slice .no (rws eIn (insL b ns))),(5,.bsl bm 0 ns.length ns.length),(7,.bsl x.bq x.off x.q.length x.cap),(8,.slice x.od (rws eI x.out))]) (fun x=>(({}:St).set x.bq x.cs).set bm (fl eBo x.met)) (QOk b ns bm (-1)) (fun x=>2*unmet x.met+x.q.length) ⟨[k0],(List.replicate ns.length false).set k0 true,[],.nil,bq,0,1,[.int .i64 k0]⟩
  ⟨bfs_start hk0 (by omega),by simp,by simp,by simp,nq,⟨k0,hk0,by omega,by simp[hk0]⟩,by simp; omega⟩ ?_ (le_set (le_set (St.le.nil _))) ?_
 ·simp -implicitDefEqProofs only[go_sem,hT]
  rfl
 clear hT T nq hq hst gk hfl g1 g2
 clear bq
 rintro⟨q,met,out,od,bq,off,cap,cs⟩ ⟨hB,hcs,hqc,hoc,nq,h0,hsz⟩ T hT
 simp only at hB hcs hqc hoc nq h0 hsz hT ⊢
 refine awpC_step hm hNN (fun _ _ h=>by cases h) ?_
 rcases q with _|⟨k,q⟩
 ·have hout:=bfs_end hB h0 hN hA hmA
  simp -implicitDefEqProofs only[go_sem,hT,Int.ofNat_zero,List.length_nil]
  subst hout
  refine awpC_of hm hNN ?_
  simp -implicitDefEqProofs only[go_sem,hT]
  done
 have hcell:cs[off]? =some (.int .i64 k):=by
  have:=congrArg (fun l:List D=>l[0]?) hcs
  simpa[List.getElem?_take,List.getElem?_drop] using this
 simp only[List.length_cons] at hT hqc hcs hsz
 have g1:(0<((q.length+1:Nat):Int))=True:=eq_true (by omega)
 obtain⟨hk,hP⟩:=bfs_pop hB
 have nq2:¬bq=bm:=fun h=>nq h.symm
 simp -implicitDefEqProofs only[go_sem,hT,g1]
 refine awpC_block ?_
 refine awpC_step hm hNN (fun _ _ h=>by cases h) ?_
 simp -implicitDefEqProofs only[go_sem,hT,g1,nq,nq2,gdD,hcell,Nat.add_zero,Nat.mul_one,Int.toNat_zero]
 refine awpC_seq (fun _ _ h=>by cases h) ?_
 refine awpC_raw hNN (pre:=[oO 31 (.move (tT 7))]) (post:=[oO 7 (.assign (tT 32))]) ?_
 simp -implicitDefEqProofs only[go_sem,hT]
 refine rawO_cut1 (b:=bq) (off:=off) (len:=q.length+1) (cap:=cap) Tryz.sli57 Tryz.sz3 ?_ (by omega) hqc (by decide) ?_
 ·simp -implicitDefEqProofs only[go_sem,hT]
  done
 simp -implicitDefEqProofs only[go_sem,hT]
 refine awpC_step hm hNN (fun _ _ h=>by cases h) ?_
 have hR:(rws eIn (insL b ns))[k]?.getD []=eIn (insA b ns[k]):=by
  rw[rws_at (by rw[hlen]; exact hk)]; simp[insL]
 have hps:=hpos _ (List.getElem_mem hk)
 have k0':(0≤(k:Int))=True:=eq_true (by omega)
 have k1':((k:Int)<ns.length)=True:=eq_true (by omega)
 simp -implicitDefEqProofs only[go_sem,hT,hlen,hR,k0',k1',zb3,za7,eIn_0,gdD,Nat.add_zero,Int.toNat_natCast,hps]
 refine za3 (put65 out ns[k] od (by omega)) ?_
 simp -implicitDefEqProofs only[go_sem,hT]
 refine awpC_step hm hNN (fun _ _ h=>by cases h) ?_
 simp -implicitDefEqProofs only[go_sem,hT,hlen,hR,k0',k1',zb3,za7,eIn_0,gdD,Nat.add_zero,Int.toNat_natCast,hps]
 refine za3 (next37 (insA b ns[k])) ?_
 simp -implicitDefEqProofs only[go_sem,hT]
 obtain⟨off2,hoff2⟩:∃o,(if cap=1 then off else off+1)=o:=⟨_,rfl⟩
 have hcs2:(cs.drop off2).take q.length=q.map fun k:Nat=>D.int .i64 k:=by
  by_cases hq0:q.length=0
  ·obtain rfl:=List.eq_nil_of_length_eq_zero hq0; rfl
  ·have hc1:cap≠1:=fun h=>by omega
   rw[if_neg hc1] at hoff2
   subst hoff2
   have:=congrArg List.tail hcs
   rw[List.map_cons,List.tail_cons] at this
   rw[←this,←List.drop_drop]
   rw[show ∀(l:List D) (n:Nat),(l.drop 1).take n=(l.take (n+1)).tail from fun l n=>by cases l <;> simp]
 have hqc2:q.length≤cap-1:=by omega
 have hoc2:off2+(cap-1)≤cs.length:=by rw[←hoff2]; split <;> omega
 have hpl:=putI_len out ns[k]
 obtain⟨nx,hnx⟩:∃nx,nextI (insA b ns[k])=nx:=⟨_,rfl⟩
 have hck:=(hP.come k (hB.qm k (List.mem_cons_self ..))).2
 obtain⟨out2,ho2⟩:∃o,putI out ns[k]=o:=⟨_,rfl⟩
 rw[ho2] at hP hpl
 rw[hnx,ho2,hoff2]
 refine awpC_block ?_
 refine awpC_loopL (fun x:QS×Nat=>[(0,.slice .no (rws eIn (insL b ns))),(5,.bsl bm 0 ns.length ns.length),(7,.bsl x.1.bq x.1.off x.1.q.length x.1.cap),(8,.slice .no (rws eI out2)),(44,.slice .no (rws eI nx)),(45,.int .i64 nx.length),(46,.int .i64 x.2)])
  (fun x=>(({}:St).set x.1.bq x.1.cs).set bm (fl eBo x.1.met)) (fun x=>QOk b ns bm ns[k] x.1∧x.1.out=out2∧x.2≤nx.length∧2*unmet x.1.met+x.1.q.length≤2*unmet met+q.length∧∀i (h:i<nx.length),i<x.2→∃j,∃hj:j<ns.length,(ns[j]:Int)=nx[i]∧x.1.met[j]? =some true)
  (fun x=>nx.length-x.2) (⟨q,met,out2,.no,bq,off2,cap-1,cs⟩,0)
  ⟨⟨hP,hcs2,hqc2,hoc2,nq,h0,by simp only; omega⟩,rfl,Nat.zero_le _,Nat.le_refl _,fun i _ h=>by simp only at h; omega⟩ ?_ (St.le.refl _) ?_
 ·simp -implicitDefEqProofs only[go_sem,hT,Int.ofNat_zero,Nat.add_sub_cancel]
  done
 clear hT T nq nq2 h0 hsz hcs2 hqc2 hoc2 hoff2 hP hcell hcs hqc hoc
 rintro⟨⟨q',met',o',od',bq',off',cap',cs'⟩,i⟩ ⟨⟨hP,hcs,hqc,hoc,nq,h0,hsz⟩,hoe,hi,hmu,hdone⟩ T hT
 simp only at hP hcs hqc hoc nq h0 hsz hi hmu hT hdone hoe ⊢
 subst hoe
 have nq2:¬bq'=bm:=fun h=>nq h.symm
 refine awpC_step hm hNN (fun _ _ h=>by cases h) ?_
 simp -implicitDefEqProofs only[go_sem,hT]
 refine awpC_step hm hNN (fun _ _ h=>by cases h) ?_
 by_cases h':i<nx.length
 case neg=>
  have g2:((i:Int)<nx.length)=False:=eq_false (by omega)
  simp -implicitDefEqProofs only[go_sem,hT,g2]
  refine⟨⟨q',met',o',.no,bq',off',cap',cs'⟩,⟨bfs_close hP (fun y hy=> ?_),hcs,hqc,hoc,nq,h0,hsz⟩,by simp only[List.length_cons]; omega, ?_,St.le.refl _⟩
  ·rw[hnx] at hy
   obtain⟨i',hi',rfl⟩:=List.getElem_of_mem hy
   exact hdone i' hi' (by omega)
  ·trivial
 have g2:((i:Int)<nx.length)=True:=eq_true (by omega)
 simp -implicitDefEqProofs only[go_sem,hT,g2]
 have g3:(0≤(i:Int))=True:=eq_true (by omega)
 have w1:IntKind.wrap .i64 ((i:Int)+1)=((i+1:Nat):Int):=by
  have:nx.length≤2:=by rw[←hnx]; exact nextI_len _
  rw[zb7 (by omega) (by omega)]; simp
 have eIl:∀z:Int,(eI z).length=1:=fun z=>rfl
 have hRn:(rws eI nx)[i]?.getD []=eI nx[i]:=rws_at h'
 refine awpC_seq (fun _ _ h=>by cases h) ?_
 refine awpC_block ?_
 refine awpC_step hm hNN (fun _ _ h=>by cases h) ?_
 obtain⟨y,hy⟩:∃y,nx[i]=y:=⟨_,rfl⟩
 have hym:y∈nextI (insA b ns[k]):=by rw[hnx,←hy]; exact List.getElem_mem h'
 rw[hy] at hRn
 simp -implicitDefEqProofs only[go_sem,hT,g2,g3,hRn,eI,eIl,Int.toNat_natCast]
 refine awpC_step hm hNN (fun _ _ h=>by cases h) ?_
 simp -implicitDefEqProofs only[go_sem,hT]
 refine za3 (place42 (insL b ns) .no y (by omega)) ?_
 obtain⟨z,rfl,hz⟩:=(hN _ hck y).1 hym
 have hcz:Come b z:= .step hck hz
 obtain⟨j,hj,hpj,hjz⟩:=place_at (b:=b) hpos (place_of hpos (hin z hcz))
 rw[hpj]
 simp -implicitDefEqProofs only[go_sem,hT]
 refine awpC_step hm hNN (fun _ _ h=>by cases h) ?_
 have j0:(0≤(j:Int))=True:=eq_true (by omega)
 have j1:((j:Int)<ns.length)=True:=eq_true (by omega)
 have hml:=hP.len
 have hbo:=fl_boAt (xs:=met') (i:=j) (by omega)
 have hdn:∀(m2:List Bool),(∀k,met'[k]? =some true→m2[k]? =some true)→m2[j]? =some true→∀i' (h:i'<nx.length),i'<i+1→∃j,∃hj:j<ns.length,(ns[j]:Int)=nx[i']∧m2[j]? =some true:=fun m2 h1 h2 i' hi' hlt=>by
  by_cases hii:i'=i
  ·subst hii; exact⟨j,hj,by rw[hy]; exact hjz,h2⟩
  ·obtain⟨j',hj',h3,h4⟩:=hdone i' hi' (by omega)
   exact⟨j',hj',h3,h1 _ h4⟩
 cases hmj:(met'[j]?).getD false with
 |true=>
  rw[hmj] at hbo
  have hmt:met'[j]? =some true:=by
   rw[List.getElem?_eq_getElem (by omega)] at hmj ⊢
   simpa using hmj
  simp -implicitDefEqProofs only[go_sem,hT,j0,j1,nq,nq2,hbo,Nat.zero_add,Nat.mul_one,Int.toNat_natCast,gdD,Nat.add_zero]
  refine awpC_cond (t:=false) (by simp -implicitDefEqProofs only[go_sem,hT]) ?_
  rw[if_neg (by simp)]
  refine awpC_of hm hNN ?_
  simp -implicitDefEqProofs only[go_sem,hT]
  refine awpC_of hm hNN ?_
  simp -implicitDefEqProofs only[go_sem,hT,w1]
  refine⟨(⟨q',met',o',.no,bq',off',cap',cs'⟩,i+1),⟨⟨hP,hcs,hqc,hoc,nq,h0,hsz⟩,rfl,h',hmu,hdn met' (fun _ h=>h) hmt⟩,by simp only; omega, ?_,St.le.refl _⟩
  trivial
 |false=>
  rw[hmj] at hbo
  have hmf:met'[j]? =some false:=by
   rw[List.getElem?_eq_getElem (by omega)] at hmj ⊢
   simpa using hmj
  simp -implicitDefEqProofs only[go_sem,hT,j0,j1,nq,nq2,hbo,Nat.zero_add,Nat.mul_one,Int.toNat_natCast,gdD,Nat.add_zero]
  refine awpC_cond (t:=true) (by simp -implicitDefEqProofs only[go_sem,hT]) ?_
  rw[if_pos rfl]
  refine awpC_step hm hNN (fun _ _ h=>by cases h) ?_
  have hfl:(fl eBo met').length=ns.length:=by rw[fl_len (s:=1) (fun x=>rfl),hml,Nat.mul_one]
  have gk:(j+1≤(fl eBo met').length)=True:=eq_true (by rw[hfl]; omega)
  have hst:=fl_set (enc:=eBo) (s:=1) (fun x=>rfl) (xs:=met') (i:=j) (by omega) true
  rw[Nat.mul_one] at hst
  simp only[eBo] at hst
  simp -implicitDefEqProofs only[go_sem,hT,j0,j1,nq,nq2,Nat.zero_add,Nat.mul_one,Int.toNat_natCast,gk,hst,za4]
  have hcl:(cs'.drop off').length=cs'.length-off':=List.length_drop
  have hP2:=bfs_push hP hj (by rw[show ns[j]=z by omega]; exact hcz)
  have hun:=unmet_set hmf
  have hset:∀k,(met'.set j true)[k]? =some true↔k=j∨met'[k]? =some true:=fun k=>by
   rw[List.getElem?_set]
   by_cases hk:j=k
   ·subst hk; simp[hml,hj]
   ·rw[if_neg hk]
    exact⟨.inr,fun h=>h.elim (fun h=>absurd h.symm hk) id⟩
  have h02:∃k,∃h:k<ns.length,ns[k]=0∧(met'.set j true)[k]? =some true:=by
   obtain⟨k,hk,h1,h2⟩:=h0
   exact⟨k,hk,h1,(hset k).2 (.inr h2)⟩
  have hdn2:=hdn (met'.set j true) (fun k h=>(hset k).2 (.inr h)) ((hset j).2 (.inl rfl))
  refine awpC_raw hNN (pre:=[oO 65 (.move (tT 7)),oO 66 (.move (tT 11)),oO 67 (.buildSlice 57 1 #[(0,.tmp 66)])]) (post:=[oO 7 (.assign (tT 68))]) ?_
  simp -implicitDefEqProofs only[go_sem,hT]
  refine rawO_app (b:=bq') (off:=off') (len:=q'.length) (cap:=cap') (cs:=cs') (o':= .exact) (ys:=[[.int .i64 j]]) Tryz.sli57 Tryz.sz3 Tryz.by3 Tryz.zero3 (by decide) ?_ ?_ (by simp) (by simp) ?_ hqc hoc (by simp only[List.length_cons,List.length_nil]; omega) (by decide) (fun hr=> ?_) (fun hr b' cap2 hb' hc2=> ?_)
  ·simp -implicitDefEqProofs only[go_sem,hT]
   done
  ·simp -implicitDefEqProofs only[go_sem,hT]
   rfl
  ·rw[St.set_box,if_neg nq2,St.set_box,if_pos rfl]
  ·simp only[List.length_cons,List.length_nil,List.flatten_cons,List.flatten_nil,List.append_nil] at hr ⊢
   simp -implicitDefEqProofs only[go_sem,hT]
   refine awpC_of hm hNN ?_
   simp -implicitDefEqProofs only[go_sem,hT,w1]
   refine⟨(⟨q'++[j],met'.set j true,o',.no,bq',off',cap',cs'.take (off'+q'.length)++[.int .i64 j]++cs'.drop (off'+q'.length+1)⟩,i+1),⟨⟨hP2, ?_,by simpa using hr, ?_,nq,h02, ?_⟩,rfl,h', ?_,hdn2⟩,by simp only; omega, ?_, ?_⟩
   ·simpa using cells_in (x:= .int .i64 j) hcs (by omega)
   ·simp; omega
   ·simp only[List.length_append,List.length_cons,List.length_nil]; omega
   ·simp only[List.length_append,List.length_cons,List.length_nil]; omega
   ·exact⟨by simp,rfl⟩
   ·rw[Go.AL.set_comm (σ:=({}:St).set bq' cs') nq,za4]
    exact St.le.refl _
  ·simp only[List.length_cons,List.length_nil,List.flatten_cons,List.flatten_nil,List.append_nil] at hr hc2 ⊢
   have nb:¬bm=b':=fun h=>hb' (set_has.2 (.inl h.symm))
   simp -implicitDefEqProofs only[go_sem,hT]
   refine awpC_of hm hNN ?_
   simp -implicitDefEqProofs only[go_sem,hT,w1]
   refine⟨(⟨q'++[j],met'.set j true,o',.no,b',0,cap2,(cs'.drop off').take q'.length++[.int .i64 j]++List.replicate (cap2-(q'.length+1)) .any⟩,i+1),⟨⟨hP2, ?_,by simpa using hc2, ?_,nb,h02, ?_⟩,rfl,h', ?_,hdn2⟩,by simp only; omega, ?_, ?_⟩
   ·rw[hcs]; simpa using cells_out (x:= .int .i64 j) (Q:=q'.map fun k:Nat=>D.int .i64 k) (J:=List.replicate (cap2-(q'.length+1)) .any) (n:=q'.length) (by simp)
   ·rw[hcs]; simp; omega
   ·simp only[List.length_append,List.length_cons,List.length_nil]; omega
   ·simp only[List.length_append,List.length_cons,List.length_nil]; omega
   ·exact⟨by simp,rfl⟩
   ·rw[Go.AL.set_comm (σ:=({}:St).set bq' cs') nb]
    exact le_set (le_set (St.le.nil _))
end
open Go.Proofs
theorem adrs_rise {r:IS} {n:Nat}:((adrs r n).map fun a:Nat=>(a:Int)).Pairwise (· < ·):=by
 rw[List.pairwise_map]
 unfold adrs
 exact(List.Pairwise.filter _ List.pairwise_lt_range).imp fun h=>by omega
theorem reach_adrs {e:En} {loc:Int} {b:List Ty} {r:IS} (hw:WideE e) (hb:b.length≤4096) (hg:goneD e loc b=(r,0,0)) (hl:LastP e loc b r) (hs:(scanD b).2.2=0) (hj:∀i∈insL b (scanD b).1,jumpsB i.op.val=true→0≤placeI (insL b (scanD b).1) i.a):
  PCall Tryz.prog 20 [.slice .no (rws eIn (insL b (scanD b).1)),.int .i64 0] (.slice .no (rws eI ((adrs r b.length).map fun a:Nat=>(a:Int)))):=by
 have hS:ScanP b 0 (scanD b).1:=(scanD_ok hs).2
 have hlen:=scan_len (b:=b)
 have hpos:∀x∈(scanD b).1,(insA b x).pos=x:=fun x hx=>by
  obtain⟨_,_,hd⟩:=hS.each x hx
  obtain⟨d1,d2,d3,d4⟩:=decF_ok hd
  unfold insA; rw[d2]; rfl
 have hc:=last_come hw hg hl
 have hin:∀x,Come b x→x∈(scanD b).1:=fun x hx=>by
  induction hx with
  |zero=>exact hS.first (hl.lt 0 hl.start.1)
  |@step x y hx hy ih=>
   obtain⟨_,_,hd⟩:=hS.each x ih
   rcases next_mem hd hy with⟨q1,rfl,q3⟩|⟨q1,rfl⟩
   ·obtain⟨j,hj1,_,hj2⟩:=place_at (b:=b) hpos (hj (insA b x) (List.mem_map.2 ⟨x,ih,rfl⟩) q1)
    have:(scanD b).1[j]=(insA b x).a.toNat:=by omega
    rw[←this]; exact List.getElem_mem hj1
   ·rcases hS.goes x ih with h|h
    ·have:=hl.lt _ ((hc _).2 (.step hx hy))
     omega
    ·exact h
 refine reach20 b _ _ (by omega) hpos hin (fun x hx z=> ?_) adrs_rise fun z=> ?_
 ·obtain⟨g1,g2,g3,g4⟩:=hl.goes x ((hc x).2 hx)
  exact next_iff g1 g3 hb
 ·rw[List.mem_map]
  constructor
  ·rintro⟨x,hx,rfl⟩
   exact⟨x,rfl,(hc x).1 (adrs_mem.1 hx).2⟩
  ·rintro⟨x,rfl,hx⟩
   exact⟨x,adrs_mem.2 ⟨hl.lt x ((hc x).2 hx),(hc x).2 hx⟩,rfl⟩
def bXibD0:=aI @eCo_len (aI @zf9 (aI @zf5 (aI @eCo_3 (aI @eCo_4 (aI @zb8 (aI @zb2 (aI @gdD (aI @anD (aI @ze9 (aI @ze6 (aI @ey_0 @za4)))))))))))
theorem law6 (e:En) (loc:Int) (b:List Ty) (hw:WideE e) (hb:b.length≤140737488351232):PCall Tryz.prog 6 [.agg (eCo e loc b)] (.bool true):=by
 have hck:=check17 b (by omega)
 refine F6.pcallM rfl fun T hT=> ?_
 simp -implicitDefEqProofs only[go_sem,c6,hT,Nat.add_zero,bXibD0]
 intro b1
 refine za3 hck ?_
 simp -implicitDefEqProofs only[go_sem,hT,Nat.add_zero,bXibD0]
 refine za3 (taken9 e loc b hw (by omega)) ?_
 by_cases h:(inferD e loc b).2.2=0
 case neg=>
  rw[decide_eq_false h]
  simp -implicitDefEqProofs only[go_sem,hT,Nat.add_zero,bXibD0]
  done
 rw[decide_eq_true h]
 by_cases hf:(chkD b).2=0
 case neg=>
  have gf:((chkD b).2=0)=False:=eq_false hf
  simp -implicitDefEqProofs only[go_sem,hT,Nat.add_zero,gf,bXibD0]
  done
 have gf:((chkD b).2=0)=True:=eq_true hf
 obtain⟨hs0,hj0⟩:=flow_ok hf
 obtain⟨hm,hb4,r,hg,hla,hi⟩:=infer_last hw h
 have hre:=reach_adrs hw hb4 hg hla hs0 hj0
 have hinf:=infer10 e loc b hw (by omega)
 rw[hi] at hinf
 have hel:=ents_len r b.length
 simp -implicitDefEqProofs only[go_sem,hT,Nat.add_zero,gf,bXibD0]
 refine za3 (scan23 b .no (by omega)) ?_
 simp -implicitDefEqProofs only[go_sem,hT,Nat.add_zero,bXibD0]
 refine za3 hinf ?_
 simp -implicitDefEqProofs only[go_sem,hT,eCo_len,zf9,zf5,eCo_3,eCo_4,zb8,zb2,gdD,Nat.add_zero,anD,ze9,ze6,ey_0,za4,Int.ofNat_zero]
 have hes:entsD r b.length=(adrs r b.length).map fun a:Nat=>(⟨(a:Int),false,frA r a⟩:Ey):=ents_adrs r b.length
 have hlen:(entsD r b.length).length=(adrs r b.length).length:=by rw[hes,List.length_map]
 have hposL:∀i (hi:i<(adrs r b.length).length) (hi':i<(entsD r b.length).length),(entsD r b.length)[i].pos=((adrs r b.length)[i]:Int):=fun i hi hi'=>by simp only[hes,List.getElem_map]
 rw[hlen]
 generalize insL b (scanD b).1=all at *
 generalize adrs r b.length=L at *
 generalize entsD r b.length=es at *
 have eIl:∀z:Int,(eI z).length=1:=fun z=>rfl
 have happ:∀(A:List Int) (z:Int),rws eI A++[[.int .i64 z]]=rws eI (A++[z]):=fun A z=>by simp[rws,eI]
 refine loopL F6 (fun x:Nat×Option Nat=>[(5,.slice .no (rws eIn all)),(10,.int .i64 0),(11,grD 1 x.2 (rws eI ((L.take x.1).map fun a:Nat=>(a:Int)))),(45,.slice .no (rws eEy es)),(46,.int .i64 L.length),(47,.int .i64 x.1)]) (fun x=>grS 1 x.1 x.2 {})
  (fun x=>x.1≤L.length∧(x.2=none→x.1=0)) (fun x=>L.length-x.1) (0,none) ⟨Nat.zero_le _,fun _=>rfl⟩ ?_ (St.le.nil _) ?_
 ·simp -implicitDefEqProofs only[go_sem,hT,Int.ofNat_zero]
  rfl
 clear hT T
 rintro⟨i,ob⟩ ⟨hi',hok⟩ T hT
 simp only at hi' hok hT ⊢
 by_cases h':i<L.length
 case neg=>
  have g2:((i:Int)<L.length)=False:=eq_false (by omega)
  rw[List.take_of_length_le (by omega)] at hT
  have hlm:(L.map fun a:Nat=>(a:Int)).length=L.length:=List.length_map ..
  simp -implicitDefEqProofs only[go_sem,hT,g2]
  refine za3 hre ?_
  simp -implicitDefEqProofs only[go_sem,hT]
  have heq:∀o:Own,PCall Tryz.prog 19 [.slice o (rws eI (L.map fun a:Nat=>(a:Int))),.slice .no (rws eI (L.map fun a:Nat=>(a:Int)))] (.bool true):=fun o=>by
   have:=equal16 (L.map fun a:Nat=>(a:Int)) (L.map fun a:Nat=>(a:Int)) o .no (by omega)
   rwa[decide_eq_true rfl] at this
  cases ob with
  |none=>
   refine za3 (heq .nil) ?_
   simp -implicitDefEqProofs only[go_sem,hT]
   done
  |some b'=>
   refine za3 (heq (.buf b' 1)) ?_
   simp -implicitDefEqProofs only[go_sem,hT]
   done
 have g2:((i:Int)<L.length)=True:=eq_true (by omega)
 have g3:(0≤(i:Int))=True:=eq_true (by omega)
 have w1:IntKind.wrap .i64 ((i:Int)+1)=((i+1:Nat):Int):=by rw[zb7 (by omega) (by omega)]; simp
 have hRx:(rws eEy es)[i]?.getD []=eEy es[i]:=rws_at (by omega)
 have hp:=hposL i h' (by omega)
 have htk:(L.take (i+1)).map (fun a:Nat=>(a:Int))=(L.take i).map (fun a:Nat=>(a:Int))++[(L[i]:Int)]:=by rw[List.take_succ_eq_append_getElem h',List.map_append]; rfl
 have htl:((L.take i).map fun a:Nat=>(a:Int)).length=i:=by rw[List.length_map,List.length_take]; omega
 generalize es[i]=y at *
 generalize L[i]=a at *
 simp -implicitDefEqProofs only[go_sem,hT,g2,g3,hRx,hlen,eCo_len,zf9,zf5,eCo_3,eCo_4,zb8,zb2,gdD,Nat.add_zero,anD,ze9,ze6,ey_0,za4,Int.toNat_natCast]
 intro b13 m1
 simp -implicitDefEqProofs only[go_sem,hT,Nat.add_zero,hp,frz,bXibD0]
 refine app_gr' Tryz.sli57 Tryz.sz3 Tryz.by3 Tryz.zero3 rfl (n:=i) (m:=1) (base:={}) (by rw[za1,htl]) rfl (le_add m1) grN_nil hok (by simp) (by omega) fun o' σ' hbox hle hn hno=> ?_
 simp -implicitDefEqProofs only[go_sem,hT,hbox,w1]
 rw[happ]
 refine⟨(i+1,o'),⟨by simp only; omega,hno⟩,by simp only; omega, ?_,hle⟩
 simp only[htk]
 trivial
end Go.AL
namespace Go.AL
open Go.Proofs Go.ChangeShapes Go.WideShapes Go.ChangeAt Go.RowKit
theorem wt26b {n:Nat} {ds:List D} (h:WT Tryz.prog (n+1) 26 ds):∃ts:List Ty,ds=[.slice .no (rws eT ts)]∧ts.length≤140737488351232:=by
 obtain⟨es,rfl,hl,hr⟩:=wt_slice Tryz.underlying26 h
 obtain⟨ts,rfl⟩:=rws_of (enc:=eT) (fun r hr'=>by
  obtain⟨z,rfl,hz⟩:=wt_int Tryz.underlying5 (hr r hr')
  obtain⟨t,rfl⟩:=wf_u8 hz
  exact⟨t,rfl⟩)
 have hb:Tryz.prog.bytesOf 5=1:=by kernel_rfl
 rw[hb,za1] at hl
 exact⟨ts,rfl,by rw[reach_eq] at hl; omega⟩
theorem wt28c {n:Nat} {ds:List D} (h:WT Tryz.prog (n+7) 28 ds):∃(e:En) (z:Int) (b:List Ty),ds=eCo e z b∧WideE e∧b.length≤140737488351232:=by
 obtain⟨d1,d2,rfl,h1,d3,d4,rfl,h2,d5,d6,rfl,h3,h4⟩:=wt_struct Tryz.underlying28 h
 obtain⟨e,rfl,he⟩:=wt57 h1
 obtain⟨z,rfl,hz⟩:=wt_int Tryz.underlying3 h2
 obtain⟨b,rfl,hb⟩:=wt26b h3
 obtain rfl:d6=[]:=h4
 exact⟨e,z,b,rfl,he,hb⟩
end Go.AL
