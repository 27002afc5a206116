import Derived.Test.YtjffaachihpjbaaGreatCn
import Derived.Test.YtjffaachihpjbaaGreatCe
set_option linter.unusedSimpArgs false
set_option linter.unusedVariables false
set_option maxRecDepth 100000
set_option maxHeartbeats 4000000
set_option linter.defProp false
namespace Go.AL
open Go.Proofs
def mgAt (l:List Cl) (a b:Fr):Nat→Fr
 |0=>a
 |i+1=>setF (mgAt l a b i) i (mergeT l (slAt (mgAt l a b i) i) (slAt b i))
theorem mgAt_loc {l:List Cl} {a b:Fr}:∀n,(mgAt l a b n).loc=a.loc∧(mgAt l a b n).h=a.h
 |0=>⟨rfl,rfl⟩
 |n+1=>by rw[mgAt,setF_loc,setF_h]; exact mgAt_loc n
theorem mgAt_sl {l:List Cl} {a b:Fr}:∀n,n≤24→∀i,i<24→slAt (mgAt l a b n) i=if i<n then mergeT l (slAt a i) (slAt b i) else slAt a i
 |0,_,i,_=>by rw[if_neg (by omega)]; rfl
 |n+1,hn,i,hi=>by
  have ih:=mgAt_sl (l:=l) (a:=a) (b:=b) n (by omega)
  rw[mgAt,slAt_set _ hi (by simp; omega),Int.toNat_natCast]
  by_cases h:i=n
  ·subst h; rw[if_pos rfl,if_pos (by omega),ih i hi,if_neg (by omega)]
  ·rw[if_neg h,ih i hi]
   by_cases h2:i<n
   ·rw[if_pos h2,if_pos (by omega)]
   ·rw[if_neg h2,if_neg (by omega)]
def mergeF (l:List Cl) (a b:Fr):Fr×Nat:=if alikeF l.length a b≠0 then(fr0 0,alikeF l.length a b) else(mgAt l a b (a.loc+a.h).toNat,0)
theorem alike_zero {n:Nat} {a b:Fr} (h:alikeF n a b=0):checkF n a=0∧checkF n b=0∧a.loc=b.loc∧a.h=b.h:=by
 unfold alikeF at h
 split at h
 ·omega
 split at h
 ·omega
 split at h
 ·rename_i h1 h2 h3
  exact⟨by omega,by omega,h3⟩
 ·cases h
theorem alike_of {n:Nat} {a b:Fr} (h1:checkF n a=0) (h2:checkF n b=0) (h3:a.loc=b.loc) (h4:a.h=b.h):alikeF n a b=0:=by
 unfold alikeF
 rw[if_neg (by omega),if_neg (by omega),if_pos ⟨h3,h4⟩]
theorem mgAt_store (l:List Cl) (a b:Fr) {i:Nat} (h:i<24):(eFr (mgAt l a b i)).take (2+i)++[D.int .u8 ((mergeT l (slAt (mgAt l a b i) i) (slAt b i)).val:Int)]++(eFr (mgAt l a b i)).drop (2+i+1)=eFr (mgAt l a b (i+1)):=by
 have:=fr_setF (f:=mgAt l a b i) (a:=(i:Int)) (t:=mergeT l (slAt (mgAt l a b i) i) (slAt b i)) (by omega) (by omega)
 rw[Int.toNat_natCast] at this
 rw[mgAt]; exact this
def bXhaD0:=aI @zb3 (aI @zb4 (aI @za8 (aI @za7 (aI @za6 (aI @za5 (aI @fr_0 (aI @fr_1 @gdD)))))))
def bXhaD1:=aI @zb3 (aI @zb4 (aI @za8 (aI @za7 (aI @za6 (aI @za5 (aI @fr_0 (aI @fr_1 (aI @gdD (aI @za4 (aI @zb0 @fr_fr0))))))))))
theorem merge192 (l:List Cl) (o:Own) (a b:Fr) (hl:l.length≤140737488355328):PCall Tryz.prog 122 [.slice o (rws eC l),.agg (eFr a),.agg (eFr b)] (.tup [.agg (eFr (mergeF l a b).1),.int .i64 (mergeF l a b).2]):=by
 refine F122.pcall' rfl fun T hT=> ?_
 simp -implicitDefEqProofs only[go_sem,c122,hT,bXhaD0]
 intro b4 b5 n1 n2 b6 n3 n4 n5 n6
 simp -implicitDefEqProofs only[go_sem,hT,n1,n2,n3,n4,n5,n6,bXhaD0]
 refine za3 (alike206 l o a b) ?_
 by_cases h0:alikeF l.length a b=0
 case neg=>
  have h0':((alikeF l.length a b:Int)=0)=False:=by simp; omega
  rw[show mergeF l a b=(fr0 0,alikeF l.length a b) by rw[mergeF,if_pos h0]]
  simp -implicitDefEqProofs only[go_sem,hT,n1,n2,n3,n4,n5,n6,h0',bXhaD1]
 have h0':((alikeF l.length a b:Int)=0)=True:=by simp; omega
 obtain⟨ca,cb,hloc,hh⟩:=alike_zero h0
 obtain⟨s1,s2,s3,s4⟩:=shaped_of (checkF_iff.1 ca).1
 obtain⟨n,hn⟩:∃n:Nat,a.loc+a.h=n:=⟨(a.loc+a.h).toNat,by omega⟩
 have w1:IntKind.wrap .i64 (a.loc+a.h)=(n:Int):=by rw[zb7 (by omega) (by omega),hn]
 have hm:mergeF l a b=(mgAt l a b n,0):=by rw[mergeF,if_neg (by omega),hn,Int.toNat_natCast]
 have h24:n≤24:=by omega
 simp -implicitDefEqProofs only[go_sem,hT,n1,n2,n3,n4,n5,n6,h0',w1,bXhaD0]
 refine loopL F122 (fun i:Nat=>[(0,.slice o (rws eC l)),(4,.ptr b4 0),(5,.ptr b5 0),(6,.ptr b6 0),(22,.int .i64 n),(23,.int .i64 i)]) (fun i=>((({}:St).set b4 (eFr (mgAt l a b i))).set b5 (eFr b)).set b6 zFr) (fun i=>i≤n) (fun i=>n-i) 0 (by omega) ?_ (St.le.refl _) ?_
 ·simp -implicitDefEqProofs only[go_sem,hT,Int.ofNat_zero]
 clear hT T
 intro i hi T hT
 by_cases h:i<n
 ·have h1:((i:Int)<n)=True:=eq_true (by omega)
  have hx:=fr_slAt (mgAt l a b i) (show i<24 by omega)
  have hy:=fr_slAt b (show i<24 by omega)
  have hst:=mgAt_store l a b (show i<24 by omega)
  have hnext:IntKind.wrap .i64 ((i:Int)+1)=((i+1:Nat):Int):=by rw[zb7 (by omega) (by omega)]; simp
  simp -implicitDefEqProofs only[go_sem,hT,h1,n1,n2,n3,n4,n5,n6,hx,hy,Nat.mul_one,bXhaD0]
  refine⟨⟨by omega,by omega⟩,⟨by omega,by omega⟩, ?_⟩
  refine za3 (merge220 l o _ _ hl) ?_
  simp -implicitDefEqProofs only[go_sem,hT,h1,zb3,zb4,za8,za7,za6,za5,fr_0,fr_1,gdD,n1,n2,n3,n4,n5,n6,hx,hy,hnext,Nat.mul_one,hst,za4]
  refine⟨⟨by omega,by omega⟩,by omega,i+1,by omega,by omega,rfl, ?_⟩
  rw[set_comm n5,set_comm n1,za4]
  exact St.le.refl _
 ·have h1:((i:Int)<n)=False:=eq_false (by omega)
  obtain rfl:i=n:=by omega
  simp -implicitDefEqProofs only[go_sem,hT,h1,zb3,zb4,za8,za7,za6,za5,fr_0,fr_1,gdD,n1,n2,n3,n4,n5,n6,hm,zb0,za4,Int.ofNat_zero]
theorem refMergeF151 (l:List Cl) (o:Own) (a b:Fr) (hf:Falls l l.length) (hl:l.length*48≤140737488355328):PCall Tryz.prog 107 [.slice o (rws eC l),.agg (eFr a),.agg (eFr b)] (.tup [.agg (eFr (mergeF l a b).1),.int .i64 (mergeF l a b).2]):=by
 refine F107.pcall' rfl fun T hT=> ?_
 simp -implicitDefEqProofs only[go_sem,c107,hT,bXhaD0]
 intro b4 b5 n1 n2 b6 n3 n4 n5 n6
 simp -implicitDefEqProofs only[go_sem,hT,n1,n2,n3,n4,n5,n6,bXhaD0]
 refine za3 (refCheck40 l o a) ?_
 by_cases h1:checkF l.length a=0
 case neg=>
  have h1':((checkF l.length a:Int)=0)=False:=by simp; omega
  have ha:alikeF l.length a b=checkF l.length a:=by rw[alikeF,if_pos h1]
  rw[show mergeF l a b=(fr0 0,checkF l.length a) by rw[mergeF,ha,if_pos h1]]
  simp -implicitDefEqProofs only[go_sem,hT,n1,n2,n3,n4,n5,n6,h1',bXhaD1]
 have h1':((checkF l.length a:Int)=0)=True:=by simp; omega
 simp -implicitDefEqProofs only[go_sem,hT,n1,n2,n3,n4,n5,n6,h1',bXhaD0]
 refine za3 (refCheck40 l o b) ?_
 by_cases h2:checkF l.length b=0
 case neg=>
  have h2':((checkF l.length b:Int)=0)=False:=by simp; omega
  have ha:alikeF l.length a b=checkF l.length b:=by rw[alikeF,if_neg (by omega),if_pos h2]
  rw[show mergeF l a b=(fr0 0,checkF l.length b) by rw[mergeF,ha,if_pos h2]]
  simp -implicitDefEqProofs only[go_sem,hT,n1,n2,n3,n4,n5,n6,h2',bXhaD1]
 have h2':((checkF l.length b:Int)=0)=True:=by simp; omega
 by_cases h3:a.loc=b.loc∧a.h=b.h
 case neg=>
  have ha:alikeF l.length a b=32:=by rw[alikeF,if_neg (by omega),if_neg (by omega),if_neg h3]
  rw[show mergeF l a b=(fr0 0,32) by rw[mergeF,ha,if_pos (by omega)]]
  have hq:(!decide (a.loc=b.loc)|| !decide (a.h=b.h))=true:=by
   by_cases h4:a.loc=b.loc
   ·have:¬a.h=b.h:=fun h=>h3 ⟨h4,h⟩
    simp[h4,this]
   ·simp[h4]
  simp -implicitDefEqProofs only[go_sem,mmB,hT,n1,n2,n3,n4,n5,n6,h2',hq,bXhaD1]
  exact DLe.refl _
 have hq:(!decide (a.loc=b.loc)|| !decide (a.h=b.h))=false:=by simp[h3]
 have h0:=alike_of h1 h2 h3.1 h3.2
 obtain⟨s1,s2,s3,s4⟩:=shaped_of (checkF_iff.1 h1).1
 obtain⟨n,hn⟩:∃n:Nat,a.loc+a.h=n:=⟨(a.loc+a.h).toNat,by omega⟩
 have w1:IntKind.wrap .i64 (a.loc+a.h)=(n:Int):=by rw[zb7 (by omega) (by omega),hn]
 have hm:mergeF l a b=(mgAt l a b n,0):=by rw[mergeF,if_neg (by omega),hn,Int.toNat_natCast]
 have h24:n≤24:=by omega
 simp -implicitDefEqProofs only[go_sem,mmB,hT,n1,n2,n3,n4,n5,n6,h2',hq,bXhaD0]
 refine loopL F107 (fun i:Nat=>[(0,.slice o (rws eC l)),(4,.ptr b4 0),(5,.ptr b5 0),(6,.ptr b6 0),(10,.int .i64 i)]) (fun i=>((({}:St).set b4 (eFr (mgAt l a b i))).set b5 (eFr b)).set b6 zFr) (fun i=>i≤n) (fun i=>n-i) 0 (by omega) ?_ (St.le.refl _) ?_
 ·simp -implicitDefEqProofs only[go_sem,hT,Int.ofNat_zero]
 clear hT T
 intro i hi T hT
 obtain⟨e1,e2⟩:=mgAt_loc (l:=l) (a:=a) (b:=b) i
 by_cases h:i<n
 ·have h1:((i:Int)<n)=True:=eq_true (by omega)
  have hx:=fr_slAt (mgAt l a b i) (show i<24 by omega)
  have hy:=fr_slAt b (show i<24 by omega)
  have hst:=mgAt_store l a b (show i<24 by omega)
  have hnext:IntKind.wrap .i64 ((i:Int)+1)=((i+1:Nat):Int):=by rw[zb7 (by omega) (by omega)]; simp
  simp -implicitDefEqProofs only[go_sem,hT,n1,n2,n3,n4,n5,n6,hx,hy,e1,e2,w1,h1,Nat.mul_one,bXhaD0]
  refine⟨⟨by omega,by omega⟩,⟨by omega,by omega⟩, ?_⟩
  refine za3 (refMerge186 l o _ _ hf hl) ?_
  simp -implicitDefEqProofs only[go_sem,hT,h1,zb3,zb4,za8,za7,za6,za5,fr_0,fr_1,gdD,n1,n2,n3,n4,n5,n6,hx,hy,hnext,Nat.mul_one,hst,za4]
  refine⟨⟨by omega,by omega⟩,by omega,i+1,by omega,by omega,rfl, ?_⟩
  rw[set_comm n5,set_comm n1,za4]
  exact St.le.refl _
 ·have h1:((i:Int)<n)=False:=eq_false (by omega)
  obtain rfl:i=n:=by omega
  simp -implicitDefEqProofs only[go_sem,hT,zb3,zb4,za8,za7,za6,za5,fr_0,fr_1,gdD,n1,n2,n3,n4,n5,n6,e1,e2,w1,h1,hm,zb0,za4,Int.ofNat_zero]
open Go.Proofs
def jumpsB (op:Nat):Bool:=decide (op=19∨op=20)
theorem jumps83 (t:Ty):PCall Tryz.prog 45 [.int .u8 t.val] (.bool (jumpsB t.val)):=by
 refine F45.pcall' rfl fun T hT=> ?_
 simp -implicitDefEqProofs only[go_sem,mmB,c45,hT]
 exact zf2 (by rw[Bool.eq_iff_iff]; simp[jumpsB]; omega)
theorem refJumps22 (t:Ty):PCall Tryz.prog 26 [.int .u8 t.val] (.bool (jumpsB t.val)):=by
 refine F26.pcall' rfl fun T hT=> ?_
 simp -implicitDefEqProofs only[go_sem,mmB,c26,hT]
 exact zf2 (by rw[Bool.eq_iff_iff]; simp[jumpsB]; omega)
def numB:List Ty→Nat→Nat
 |[],n=>n
 |b::r,n=>numB r (256*n+b.val)
theorem numB_lt:∀(l:List Ty) (n:Nat),numB l n<256^l.length*(n+1)
 |[],n=>by simp[numB]
 |b::r,n=>by
  have:=numB_lt r (256*n+b.val)
  have hb:=b.isLt
  rw[numB,List.length_cons,Nat.pow_succ]
  have h2:256^r.length*(256*n+b.val+1)≤256^r.length*(256*(n+1)):=Nat.mul_le_mul_left _ (by omega)
  rw[Nat.mul_assoc]
  omega
theorem numB_snoc:∀(l:List Ty) (b:Ty) (n:Nat),numB (l++[b]) n=256*numB l n+b.val
 |[],b,n=>rfl
 |a::r,b,n=>by rw[List.cons_append,numB,numB_snoc r b]; rfl
def opdB (l:List Ty):Int:=if l.length=4∧2147483647<numB l 0 then(numB l 0:Int)-4294967296 else numB l 0
theorem refTake64 (l:List Ty) (o:Own) (k:Nat) (hk:k≤4) (hl:k≤l.length):PCall Tryz.prog 55 [.slice o (rws eT l),.int .i64 k] (.int .i64 (opdB (l.take k))):=by
 refine F55.pcall' rfl fun T hT=> ?_
 simp -implicitDefEqProofs only[go_sem,c55,hT]
 have hp:∀i:Nat,i≤4→(256:Nat)^i≤4294967296:=fun i hi=>by
  have:i=0∨i=1∨i=2∨i=3∨i=4:=by omega
  rcases this with rfl|rfl|rfl|rfl|rfl <;> decide
 refine loopL F55 (fun i:Nat=>[(0,.slice o (rws eT l)),(1,.int .i64 k),(5,.int .i64 (numB (l.take i) 0)),(6,.int .i64 i)]) (fun _=>{}) (fun i=>i≤k) (fun i=>k-i) 0 (Nat.zero_le _) ?_ (St.le.nil _) ?_
 ·simp -implicitDefEqProofs only[go_sem,hT,Int.ofNat_zero]
  all_goals rfl
 clear hT T
 rintro i hi T hT
 by_cases h:i<k
 ·have h1:((i:Int)<k)=True:=by simp; omega
  have hil:i<l.length:=by omega
  have hR:(rws eT l)[i]?.getD []=eT l[i]:=rws_at hil
  have htk:l.take (i+1)=l.take i++[l[i]]:=List.take_succ_eq_append_getElem hil
  have hlt:=numB_lt (l.take i) 0
  have hpi:=hp i (by omega)
  rw[List.length_take,Nat.min_eq_left (by omega)] at hlt
  have hlt2:numB (l.take i) 0<4294967296:=by omega
  have hns:=numB_snoc (l.take i) l[i] 0
  rw[←htk] at hns
  have hb:=l[i].isLt
  generalize l[i]=b at *
  have w1:IntKind.wrap .i64 (256*(numB (l.take i) 0:Int))=256*(numB (l.take i) 0:Int):=zb7 (by omega) (by omega)
  have w2:IntKind.wrap .i64 (b.val:Int)=b.val:=zb7 (by omega) (by omega)
  have w3:IntKind.wrap .i64 (256*(numB (l.take i) 0:Int)+b.val)=(numB (l.take (i+1)) 0:Int):=by rw[zb7 (by omega) (by omega),hns]; simp
  have w4:IntKind.wrap .i64 ((i:Int)+1)=((i+1:Nat):Int):=by rw[zb7 (by omega) (by omega)]; simp
  have hm:k-(i+1)<k-i:=by omega
  simp -implicitDefEqProofs only[go_sem,hT,h1,hR,eT,eT_len,w1,w2,w3]
  refine⟨by omega,i+1,h,hm,⟨rfl, ?_⟩,St.le.refl _⟩
  rw[w4]
 ·obtain rfl:i=k:=by omega
  have h1:((i:Int)<i)=False:=by simp
  have hlt:=numB_lt (l.take i) 0
  have hpi:=hp i hk
  have hlen:(l.take i).length=i:=by rw[List.length_take,Nat.min_eq_left hl]
  rw[hlen] at hlt
  obtain⟨n,hn⟩:∃n,numB (l.take i) 0=n:=⟨_,rfl⟩
  have hod:opdB (l.take i)=if i=4∧2147483647<n then(n:Int)-4294967296 else n:=by rw[opdB,hlen,hn]
  rw[hn] at hlt hT
  rw[hod]
  by_cases h4:i=4
  ·subst h4
   have c4:(((4:Nat):Int)=4)=True:=by simp
   by_cases hbig:2147483647<n
   ·have hq:((2147483647:Int)<n)=True:=by simp; omega
    have w5:IntKind.wrap .i64 ((n:Int)-4294967296)=(n:Int)-4294967296:=zb7 (by omega) (by omega)
    rw[if_pos ⟨rfl,hbig⟩]
    simp -implicitDefEqProofs only[go_sem,hT,h1,hq,w5,c4]
   ·have hq:((2147483647:Int)<n)=False:=by simp; omega
    rw[if_neg (fun h=>hbig h.2)]
    simp -implicitDefEqProofs only[go_sem,hT,h1,hq,c4]
  ·have hq:((i:Int)=4)=False:=by simp; omega
   rw[if_neg (fun h=>h4 h.1)]
   simp -implicitDefEqProofs only[go_sem,hT,h1,hq]
theorem or_byte (n b:Nat) (hn:n<16777216) (hb:b<256):IntKind.wrap .i64 ((BitVec.ofInt 64 (256*(n:Int))|||BitVec.ofInt 64 (b:Int)).toNat:Int)=((256*n+b:Nat):Int):=by
 have e1:BitVec.ofInt 64 (256*(n:Int))=BitVec.ofNat 64 (256*n):=by
  rw[show(256*(n:Int))=((256*n:Nat):Int) by simp]; exact BitVec.ofInt_natCast _ _
 have e2:BitVec.ofInt 64 (b:Int)=BitVec.ofNat 64 b:=BitVec.ofInt_natCast _ _
 rw[e1,e2,BitVec.toNat_or,BitVec.toNat_ofNat,BitVec.toNat_ofNat]
 rw[Nat.mod_eq_of_lt (show 256*n<2^64 by omega),Nat.mod_eq_of_lt (show b<2^64 by omega)]
 have:256*n|||b=256*n+b:=by
  have:=Nat.two_pow_add_eq_or_of_lt (i:=8) (b:=b) (show b<2^8 by omega) n
  rw[show(2:Nat)^8=256 from rfl] at this
  exact this.symm
 rw[this,zb7 (by omega) (by omega)]
theorem wrap_i32n (n:Nat) (h:n<4294967296):IntKind.wrap .i32 (n:Int)=if 2147483647<n then(n:Int)-4294967296 else n:=by
 have e:IntKind.wrap .i32 (n:Int)=if 2147483648≤(n:Int)%4294967296 then(n:Int)%4294967296-4294967296 else(n:Int)%4294967296:=by simp[IntKind.wrap,IntKind.bits,IntKind.signed]
 rw[e]; split <;> split <;> omega
theorem rws_drop {α:Type} {enc:α→List D} {l:List α} {k:Nat}:(rws enc l).drop k=rws enc (l.drop k):=by simp[rws]
theorem rows_len {α:Type} {enc:α→List D} {n:Nat} (h:∀a,(enc a).length=n) (l:List α):∀e∈rws enc l,e.length=n:=fun e he=>by
 simp only[rws,List.mem_map] at he
 obtain⟨a,_,rfl⟩:=he; exact h a
theorem take127 (l:List Ty) (o:Own) (k b:Nat) (hk:k=0∨k=1∨k=2∨k=4) (hl:k≤l.length):
  RCall Tryz.prog 70 [.int .i64 k,.ptr b 0] (({}:St).set b [.slice o (rws eT l)]) fun d s'=>d= .int .i64 (opdB (l.take k))∧s'=(({}:St).set b [.slice .no (rws eT (l.drop k))]):=by
 refine F70.rcall rfl fun T hT=> ?_
 simp -implicitDefEqProofs only[go_sem,c70,hT]
 refine⟨⟨by omega,rows_len eT_len l⟩, ?_⟩
 have hlen:(l.take k).length=k:=by rw[List.length_take,Nat.min_eq_left hl]
 have hp:∀i:Nat,i≤4→(256:Nat)^i≤4294967296:=fun i hi=>by
  have:i=0∨i=1∨i=2∨i=3∨i=4:=by omega
  rcases this with rfl|rfl|rfl|rfl|rfl <;> decide
 have hp3:∀i:Nat,i≤3→(256:Nat)^i≤16777216:=fun i hi=>by
  have:i=0∨i=1∨i=2∨i=3:=by omega
  rcases this with rfl|rfl|rfl|rfl <;> decide
 have hk4:k≤4:=by omega
 refine loopL F70 (fun i:Nat=>[(0,.int .i64 k),(1,.ptr b 0),(4,.int .i64 (numB (l.take i) 0)),(9,.slice .no (rws eT (l.take k))),(10,.int .i64 k),(11,.int .i64 i)]) (fun _=>({}:St).set b [.slice o (rws eT l)]) (fun i=>i≤k) (fun i=>k-i) 0 (Nat.zero_le _) ?_ (St.le.refl _) ?_
 ·simp -implicitDefEqProofs only[go_sem,hT,Int.ofNat_zero,rws_take,rws_drop,List.drop_zero,hlen]
  all_goals rfl
 clear hT T
 rintro i hi T hT
 by_cases h:i<k
 ·have h1:((i:Int)<k)=True:=by simp; omega
  have hil:i<l.length:=by omega
  have hik:i<(l.take k).length:=by omega
  have hR:(rws eT (l.take k))[i]?.getD []=eT l[i]:=by rw[rws_at hik]; simp
  have htk:l.take (i+1)=l.take i++[l[i]]:=List.take_succ_eq_append_getElem hil
  have hlt:=numB_lt (l.take i) 0
  have hpi:=hp3 i (by omega)
  rw[List.length_take,Nat.min_eq_left (by omega)] at hlt
  have hns:=numB_snoc (l.take i) l[i] 0
  rw[←htk] at hns
  have hb:=l[i].isLt
  have hor:=or_byte (numB (l.take i) 0) l[i].val (by omega) hb
  generalize l[i]=x at *
  have w0:IntKind.wrap .i64 ((numB (l.take i) 0:Int)*256)=256*(numB (l.take i) 0:Int):=by rw[zb7 (by omega) (by omega)]; omega
  have w2:IntKind.wrap .i64 (x.val:Int)=x.val:=zb7 (by omega) (by omega)
  have w4:IntKind.wrap .i64 ((i:Int)+1)=((i+1:Nat):Int):=by rw[zb7 (by omega) (by omega)]; simp
  have hm:k-(i+1)<k-i:=by omega
  have h28:(2:Int)^min 8 64=256:=by decide
  rw[←hns] at hor
  simp -implicitDefEqProofs only[go_sem,hT,h1,hR,eT,eT_len,hlen,h28,w0,w2,hor]
  refine⟨by omega,i+1,h,hm, ?_,St.le.refl _⟩
  exact⟨congrArg (D.int .i64) hor,by rw[w4]⟩
 ·obtain rfl:i=k:=by omega
  have h1:((i:Int)<i)=False:=by simp
  have hlt:=numB_lt (l.take i) 0
  have hpi:=hp i hk4
  rw[hlen] at hlt
  obtain⟨n,hn⟩:∃n,numB (l.take i) 0=n:=⟨_,rfl⟩
  have hod:opdB (l.take i)=if i=4∧2147483647<n then(n:Int)-4294967296 else n:=by rw[opdB,hlen,hn]
  rw[hn] at hlt hT
  rw[hod]
  have hdl:((i:Int)).toNat=i:=by simp
  by_cases h4:i=4
  ·subst h4
   have c4:(((4:Nat):Int)=4)=True:=by simp
   have hw32:=wrap_i32n n (by omega)
   have hw64:IntKind.wrap .i64 (if 2147483647<n then(n:Int)-4294967296 else n)=if 2147483647<n then(n:Int)-4294967296 else n:=by
    refine zb7 ?_ ?_ <;> split <;> omega
   simp -implicitDefEqProofs only[go_sem,hT,h1,c4,rws_take,rws_drop,hw32,hw64,za4]
   refine⟨⟨by omega,rows_len eT_len l⟩,_,_,DLe.refl _,St.le.refl _, ?_, ?_⟩
   ·simp
   ·simp[rws_take,rws_drop,za1]
  ·have hq:((i:Int)=4)=False:=by simp; omega
   rw[if_neg (fun h=>h4 h.1)]
   simp -implicitDefEqProofs only[go_sem,hT,h1,hq,rws_take,rws_drop,za4]
   refine⟨⟨by omega,rows_len eT_len l⟩,_,_,DLe.refl _,St.le.refl _,rfl, ?_⟩
   simp[rws_take,rws_drop,za1]
open Go.Proofs
def ins0:Ins:=⟨0,0,0,0⟩
def decIn (b:List Ty) (at':Nat) (op:Ty):Ins:=⟨at',op,opdB ((b.drop (at'+1)).take (wid op.val).1),opdB ((b.drop (at'+1+(wid op.val).1)).take (wid op.val).2)⟩
def decF (b:List Ty) (at':Nat):Ins×Nat:=
 if b.length<at' then(ins0,1)
 else if b.length=at' then(ins0,2)
 else if ze7 ((b[at']?).getD 0).val=0 then(ins0,40)
 else if b.length-at'<ze7 ((b[at']?).getD 0).val then(ins0,2)
 else if((b[at']?).getD 0).val=2∧1<(decIn b at' ((b[at']?).getD 0)).a then(ins0,5)
 else(decIn b at' ((b[at']?).getD 0),0)
theorem eIn_zero:[D.int .i64 0,D.int .u8 0,D.int .i64 0,D.int .i64 0]=eIn ins0:=rfl
theorem sizeOp_le (n:Nat):ze7 n≤6:=by
 have:=wid_le n
 unfold ze7; split <;> omega
theorem wid_vals (n:Nat):((wid n).1=0∨(wid n).1=1∨(wid n).1=2∨(wid n).1=4)∧((wid n).2=0∨(wid n).2=1):=by
 unfold wid; repeat' split
 all_goals simp
def bXfaD0:=aI @zb5 (aI @za9 (aI @za4 (aI @zb0 @eIn_zero)))
def bXfaD1:=aI @zb5 (aI @za9 (aI @za4 (aI @zb0 @gdD)))
theorem refDecode19 (b:List Ty) (o:Own) (at':Nat) (hl:b.length≤140737488355328) (ha:at'≤140737488355328):PCall Tryz.prog 24 [.slice o (rws eT b),.int .i64 at'] (.tup [.agg (eIn (decF b at').1),.int .i64 (decF b at').2]):=by
 have g0:((at':Int)<0)=False:=by simp
 refine F24.pcall' rfl fun T hT=> ?_
 simp -implicitDefEqProofs only[go_sem,c24,hT,bXfaD0]
 intro b4 b6 n1 n2
 by_cases h1:b.length<at'
 ·have q1:((b.length:Int)<at')=True:=by simp; omega
  rw[decF,if_pos h1]
  simp -implicitDefEqProofs only[go_sem,hT,n1,n2,g0,q1,bXfaD0]
  all_goals exact DLe.refl _
 have q1:((b.length:Int)<at')=False:=by simp; omega
 by_cases h2:b.length=at'
 ·have q2:((at':Int)=b.length)=True:=by simp; omega
  rw[decF,if_neg h1,if_pos h2]
  simp -implicitDefEqProofs only[go_sem,hT,n1,n2,g0,q1,q2,bXfaD0]
  all_goals exact DLe.refl _
 have q2:((at':Int)=b.length)=False:=by simp; omega
 have hlt:at'<b.length:=by omega
 have hR:(rws eT b)[at']?.getD []=eT b[at']:=rws_at hlt
 have hget:(b[at']?).getD 0=b[at']:=by rw[List.getElem?_eq_getElem hlt]; rfl
 have hd:decF b at'=if ze7 b[at'].val=0 then(ins0,40) else if b.length-at'<ze7 b[at'].val then(ins0,2) else if b[at'].val=2∧1<(decIn b at' b[at']).a then(ins0,5) else(decIn b at' b[at'],0):=by
  rw[decF,if_neg h1,if_neg h2,hget]
 rw[hd]
 clear hd hget
 generalize b[at']=op at *
 have hsz:=sizeOp_le op.val
 have hso:ze7 op.val≠0→ze7 op.val=1+(wid op.val).1+(wid op.val).2:=fun h=>by
  unfold ze7 at h ⊢; split
  ·rename_i h'; rw[if_pos h'] at h; exact absurd rfl h
  ·rfl
 have hwl:=wid_le op.val
 have wS:IntKind.wrap .i64 ((b.length:Int)-at')=(b.length:Int)-at':=zb7 (by omega) (by omega)
 have b0:(0:Int)≤at'∧(at':Int)<b.length:=by omega
 simp -implicitDefEqProofs only[go_sem,hT,zb5,za9,za4,zb0,n1,n2,g0,q1,q2,hR,eT,eT_len]
 refine⟨b0, ?_⟩
 refine za3 (refSize74 op) ?_
 by_cases h3:ze7 op.val=0
 ·have q3:((ze7 op.val:Int)=0)=True:=by simp; omega
  rw[if_pos h3]
  simp -implicitDefEqProofs only[go_sem,hT,n1,n2,q3,bXfaD0]
  all_goals exact DLe.refl _
 have q3:((ze7 op.val:Int)=0)=False:=by simp; omega
 rw[if_neg h3]
 by_cases h4:b.length-at'<ze7 op.val
 ·have q4:((b.length:Int)-at'<ze7 op.val)=True:=by simp; omega
  rw[if_pos h4]
  simp -implicitDefEqProofs only[go_sem,hT,n1,n2,q3,wS,q4,bXfaD0]
  all_goals exact DLe.refl _
 have q4:((b.length:Int)-at'<ze7 op.val)=False:=by simp; omega
 rw[if_neg h4]
 have hs:=hso h3
 have w1:IntKind.wrap .i64 ((at':Int)+1)=((at'+1:Nat):Int):=by rw[zb7 (by omega) (by omega)]; simp
 have w2:IntKind.wrap .i64 (((at'+1:Nat):Int)+(wid op.val).1)=((at'+1+(wid op.val).1:Nat):Int):=by rw[zb7 (by omega) (by omega)]; simp
 have t1:=refTake64 (b.drop (at'+1)) .no (wid op.val).1 hwl.1 (by rw[List.length_drop]; omega)
 have t2:=refTake64 (b.drop (at'+1+(wid op.val).1)) .no (wid op.val).2 (by omega) (by rw[List.length_drop]; omega)
 have b1:(0:Int)≤((at'+1:Nat):Int)∧((at'+1:Nat):Int)≤b.length:=by omega
 have b2:(0:Int)≤((at'+1+(wid op.val).1:Nat):Int)∧((at'+1+(wid op.val).1:Nat):Int)≤b.length:=by omega
 obtain⟨A,hA⟩:∃A,opdB ((b.drop (at'+1)).take (wid op.val).1)=A:=⟨_,rfl⟩
 obtain⟨B,hB⟩:∃B,opdB ((b.drop (at'+1+(wid op.val).1)).take (wid op.val).2)=B:=⟨_,rfl⟩
 have hdi:decIn b at' op=⟨at',op,A,B⟩:=by rw[decIn,hA,hB]
 rw[hdi]
 rw[hA] at t1
 rw[hB] at t2
 simp -implicitDefEqProofs only[go_sem,hT,zb5,za9,za4,zb0,n1,n2,q3,wS,q4]
 refine za3 (wide113 op) ?_
 simp -implicitDefEqProofs only[go_sem,hT,zb5,za9,za4,zb0,n1,n2,w1,w2,rws_take,rws_drop,List.take_length]
 refine⟨⟨by omega,rows_len eT_len b⟩,za3 t1 ?_⟩
 simp -implicitDefEqProofs only[go_sem,hT,zb5,za9,za4,zb0,n1,n2,w1,w2,rws_take,rws_drop,List.take_length]
 refine⟨⟨by omega,rows_len eT_len b⟩,za3 t2 ?_⟩
 have j2:(eIn ⟨at',op,A,B⟩)[2]? =some (.int .i64 A):=rfl
 simp -implicitDefEqProofs only[go_sem,hT,zb5,za9,za4,zb0,n1,n2]
 intro b11 m1 m2 m3 m4
 have hfold:[D.int .i64 at',D.int .u8 op.val,D.int .i64 A,D.int .i64 B]=eIn ⟨at',op,A,B⟩:=rfl
 by_cases h5:op.val=2
 ·have q5:((op.val:Int)=2)=True:=by simp; omega
  by_cases h6:1<A
  ·have q6:(1<A)=True:=by simp[h6]
   rw[if_pos ⟨h5,h6⟩]
   simp -implicitDefEqProofs only[go_sem,hT,n1,n2,m1,m2,m3,m4,q5,q6,hfold,j2,bXfaD1]
   all_goals exact DLe.refl _
  ·have q6:(1<A)=False:=by simp; omega
   rw[if_neg (fun h=>h6 h.2)]
   simp -implicitDefEqProofs only[go_sem,hT,n1,n2,m1,m2,m3,m4,q5,q6,hfold,j2,bXfaD1]
   all_goals exact DLe.refl _
 ·have q5:((op.val:Int)=2)=False:=by simp; omega
  rw[if_neg (fun h=>h5 h.1)]
  simp -implicitDefEqProofs only[go_sem,hT,n1,n2,m1,m2,m3,m4,q5,hfold,j2,bXfaD1]
  all_goals exact DLe.refl _
open Go.Proofs
theorem eIn_drop4 (i:Ins):(eIn i).drop 4=[]:=rfl
def bXfaE0:=aI @zb5 (aI @za9 (aI @eIn_drop4 (aI @anD (aI @za4 (aI @zb0 @eIn_zero)))))
def bXfaE1:=aI @zb5 (aI @za9 (aI @eIn_drop4 (aI @anD (aI @za4 (aI @zb0 @eT_len)))))
def bXfaE2:=aI @zb5 (aI @za9 (aI @eIn_drop4 (aI @anD (aI @za4 (aI @zb0 @gdD)))))
theorem decode82 (b:List Ty) (o:Own) (at':Nat) (hl:b.length≤140737488355328) (ha:at'≤140737488355328):PCall Tryz.prog 44 [.slice o (rws eT b),.int .i64 at'] (.tup [.agg (eIn (decF b at').1),.int .i64 (decF b at').2]):=by
 have g0:((at':Int)<0)=False:=by simp
 refine F44.pcall' rfl fun T hT=> ?_
 simp -implicitDefEqProofs only[go_sem,c44,hT,bXfaE0]
 intro b4 b6 n1 n2
 by_cases h1:b.length<at'
 ·have q1:((b.length:Int)<at')=True:=by simp; omega
  rw[decF,if_pos h1]
  simp -implicitDefEqProofs only[go_sem,hT,n1,n2,g0,q1,bXfaE0]
  all_goals exact DLe.refl _
 have q1:((b.length:Int)<at')=False:=by simp; omega
 by_cases h2:b.length=at'
 ·have q2:((at':Int)=b.length)=True:=by simp; omega
  rw[decF,if_neg h1,if_pos h2]
  simp -implicitDefEqProofs only[go_sem,hT,n1,n2,g0,q1,q2,bXfaE0]
  all_goals exact DLe.refl _
 have q2:((at':Int)=b.length)=False:=by simp; omega
 have hlt:at'<b.length:=by omega
 have hR:(rws eT b)[at']?.getD []=eT b[at']:=rws_at hlt
 have hget:(b[at']?).getD 0=b[at']:=by rw[List.getElem?_eq_getElem hlt]; rfl
 have hd:decF b at'=if ze7 b[at'].val=0 then(ins0,40) else if b.length-at'<ze7 b[at'].val then(ins0,2) else if b[at'].val=2∧1<(decIn b at' b[at']).a then(ins0,5) else(decIn b at' b[at'],0):=by
  rw[decF,if_neg h1,if_neg h2,hget]
 rw[hd]
 clear hd hget
 generalize b[at']=op at *
 have hsz:=sizeOp_le op.val
 have hso:ze7 op.val≠0→ze7 op.val=1+(wid op.val).1+(wid op.val).2:=fun h=>by
  unfold ze7 at h ⊢; split
  ·rename_i h'; rw[if_pos h'] at h; exact absurd rfl h
  ·rfl
 have hwl:=wid_le op.val
 have wS:IntKind.wrap .i64 ((b.length:Int)-at')=(b.length:Int)-at':=zb7 (by omega) (by omega)
 have b0:(0:Int)≤at'∧(at':Int)<b.length:=by omega
 simp -implicitDefEqProofs only[go_sem,hT,n1,n2,g0,q1,q2,hR,eT,bXfaE1]
 refine⟨b0, ?_⟩
 refine za3 (size125 op) ?_
 by_cases h3:ze7 op.val=0
 ·have q3:((ze7 op.val:Int)=0)=True:=by simp; omega
  rw[if_pos h3]
  simp -implicitDefEqProofs only[go_sem,hT,n1,n2,q3,bXfaE0]
  all_goals exact DLe.refl _
 have q3:((ze7 op.val:Int)=0)=False:=by simp; omega
 rw[if_neg h3]
 by_cases h4:b.length-at'<ze7 op.val
 ·have q4:((b.length:Int)-at'<ze7 op.val)=True:=by simp; omega
  rw[if_pos h4]
  simp -implicitDefEqProofs only[go_sem,hT,n1,n2,q3,wS,hR,eT,bXfaE1]
  refine⟨b0,za3 (size125 op) ?_⟩
  simp -implicitDefEqProofs only[go_sem,hT,n1,n2,q4,bXfaE0]
  all_goals exact DLe.refl _
 have q4:((b.length:Int)-at'<ze7 op.val)=False:=by simp; omega
 rw[if_neg h4]
 have hs:=hso h3
 have w1:IntKind.wrap .i64 ((at':Int)+1)=((at'+1:Nat):Int):=by rw[zb7 (by omega) (by omega)]; simp
 have b1:(0:Int)≤((at'+1:Nat):Int)∧((at'+1:Nat):Int)≤b.length:=by omega
 obtain⟨A,hA⟩:∃A,opdB ((b.drop (at'+1)).take (wid op.val).1)=A:=⟨_,rfl⟩
 obtain⟨B,hB⟩:∃B,opdB ((b.drop (at'+1+(wid op.val).1)).take (wid op.val).2)=B:=⟨_,rfl⟩
 have hdi:decIn b at' op=⟨at',op,A,B⟩:=by rw[decIn,hA,hB]
 rw[hdi]
 have t1:=fun bb o=>take127 (b.drop (at'+1)) o (wid op.val).1 bb (wid_vals op.val).1 (by rw[List.length_drop]; omega)
 have t2:=fun bb o=>take127 (b.drop (at'+1+(wid op.val).1)) o (wid op.val).2 bb (by have:=(wid_vals op.val).2; omega) (by rw[List.length_drop]; omega)
 rw[List.drop_drop] at t1
 rw[hA] at t1
 rw[hB] at t2
 simp -implicitDefEqProofs only[go_sem,hT,n1,n2,q3,wS,hR,eT,bXfaE1]
 refine⟨b0,za3 (size125 op) ?_⟩
 simp -implicitDefEqProofs only[go_sem,hT,n1,n2,q4,hR,eT,bXfaE1]
 refine⟨b0,fun b7 m1 m2 m3 m4=> ?_⟩
 simp -implicitDefEqProofs only[go_sem,hT,zb5,za9,eIn_drop4,anD,za4,zb0,n1,n2,m1,m2,m3,m4,w1,rws_take,rws_drop,List.take_length]
 refine⟨⟨by omega,rows_len eT_len b⟩,fun b8 k1 k2 k3 k4 k5 k6=> ?_⟩
 simp -implicitDefEqProofs only[go_sem,hT,n1,n2,m1,m2,m3,m4,k1,k2,k3,k4,k5,k6,bXfaE2]
 refine za3 (widths152 op) ?_
 simp -implicitDefEqProofs only[go_sem,hT,zb5,za9,eIn_drop4,anD,za4,zb0,n1,n2,m1,m2,m3,m4,k1,k2,k3,k4,k5,k6]
 refine callB_box (b:=b8) (by simp[St.set]) rfl (t1 b8 .no) ?_
 simp -implicitDefEqProofs only[go_sem,hT,n1,n2,m1,m2,m3,m4,k1,k2,k3,k4,k5,k6,bXfaE2]
 refine callB_box (b:=b8) (by simp[St.set,k1]) rfl (t2 b8 .no) ?_
 simp -implicitDefEqProofs only[go_sem,hT,n1,n2,m1,m2,m3,m4,k1,k2,k3,k4,k5,k6,bXfaE2]
 by_cases h5:op.val=2
 ·have q5:((op.val:Int)=2)=True:=by simp; omega
  by_cases h6:1<A
  ·have q6:(1<A)=True:=by simp[h6]
   rw[if_pos ⟨h5,h6⟩]
   simp -implicitDefEqProofs only[go_sem,hT,n1,n2,m1,m2,m3,m4,k1,k2,k3,k4,k5,k6,q5,q6,bXfaE2]
   all_goals exact DLe.refl _
  ·have q6:(1<A)=False:=by simp; omega
   rw[if_neg (fun h=>h6 h.2)]
   simp -implicitDefEqProofs only[go_sem,hT,n1,n2,m1,m2,m3,m4,k1,k2,k3,k4,k5,k6,q5,q6,bXfaE2]
   all_goals exact DLe.refl _
 ·have q5:((op.val:Int)=2)=False:=by simp; omega
  rw[if_neg (fun h=>h5 h.1)]
  simp -implicitDefEqProofs only[go_sem,hT,n1,n2,m1,m2,m3,m4,k1,k2,k3,k4,k5,k6,q5,bXfaE2]
  all_goals exact DLe.refl _
open Go.Proofs
structure Ey where
 pos:Int
 dead:Bool
 fr:Fr
def eEy (e:Ey):List D:= .int .i64 e.pos:: .bool e.dead::eFr e.fr
theorem zf4 (e:Ey):(eEy e).length=28:=by simp[eEy,za6]
theorem ze8 (e:Ey):(eEy e).take 28=eEy e:=List.take_of_length_le (by rw[zf4]; exact Nat.le_refl _)
theorem eEy_drop (e:Ey):(eEy e).drop 28=[]:=List.drop_eq_nil_of_le (by rw[zf4]; exact Nat.le_refl _)
theorem ey_0 (e:Ey):(eEy e)[0]? =some (.int .i64 e.pos):=rfl
theorem ey_1 (e:Ey):(eEy e)[1]? =some (.bool e.dead):=rfl
def ey0:Ey:=⟨0,false,fr0 0⟩
def bt (b:List Ty) (i:Nat):Nat:=((b[i]?).getD 0).val
theorem bt_lt (b:List Ty) (i:Nat):bt b i<256:=((b[i]?).getD 0).isLt
def word2 (b:List Ty) (p:Nat):Nat:=256*bt b p+bt b (p+1)
def afterE (a last:Int):Nat:=if a<0∨4095<a then 5 else if a=last then 61 else if a<last then 60 else 0
def knownT (t:Ty):Bool:=decide (t.val≤5∨16≤t.val∧t.val≤47)
def scanT (b:List Ty):Nat→Nat→Nat×Nat
 |q,0=>(q,0)
 |q,n+1=>if b.length≤q then(b.length,2) else if knownT ((b[q]?).getD 0) then scanT b (q+1) n else(q,62)
def entD (b:List Ty) (loc p:Nat) (last:Int):Ey×Nat×Nat:=
 if b.length<p+2 then(ey0,b.length,2)
 else if afterE (word2 b p) last≠0 then(ey0,p,afterE (word2 b p) last)
 else if b.length=p+2 then(ey0,p+2,2)
 else if 1<bt b (p+2) then(ey0,p+2,63)
 else if bt b (p+2)=0 then(⟨word2 b p,true,fr0 0⟩,p+3,0)
 else if b.length=p+3 then(ey0,p+3,2)
 else if 24<loc+bt b (p+3) then(ey0,p+3,65)
 else if(scanT b (p+4) (loc+bt b (p+3))).2≠0 then(ey0,scanT b (p+4) (loc+bt b (p+3)))
 else(⟨word2 b p,false,⟨loc,bt b (p+3),slOf ((b.drop (p+4)).take (loc+bt b (p+3)))⟩⟩,p+4+(loc+bt b (p+3)),0)
def decP (b:List Ty) (loc:Nat):Nat→Nat→Int→List (Ey×Nat)×Nat×Nat
 |0,p,_=>([],p,0)
 |n+1,p,last=>
  if(entD b loc p last).2.2≠0 then([],(entD b loc p last).2)
  else(((entD b loc p last).1,(entD b loc p last).2.1)::(decP b loc n (entD b loc p last).2.1 (entD b loc p last).1.pos).1,(decP b loc n (entD b loc p last).2.1 (entD b loc p last).1.pos).2)
def headD (b:List Ty):Nat×Nat:=
 if b.length=0∨bt b 0=112∧b.length=1∨bt b 0=112∧bt b 1=118∧b.length=2 then(b.length,2)
 else if bt b 0≠112 then(0,64)
 else if bt b 1≠118 then(1,64)
 else if bt b 2≠1 then(2,64)
 else if b.length<6 then(b.length,2)
 else if 16<bt b 3 then(3,5)
 else if 4096<word2 b 4 then(4,4)
 else(0,0)
structure Ct where
 loc:Nat
 es:List Ey
def eCt (c:Ct):List D:=[.int .i64 c.loc,.slice .no (rws eEy c.es)]
def ct0:Ct:=⟨0,[]⟩
def toldD (b:List Ty):List (Ey×Nat)×Nat×Nat:=
 if(headD b).2≠0 then([],headD b)
 else if(decP b (bt b 3) (word2 b 4) 6 (-1)).2.2≠0 then decP b (bt b 3) (word2 b 4) 6 (-1)
 else if(decP b (bt b 3) (word2 b 4) 6 (-1)).2.1<b.length then((decP b (bt b 3) (word2 b 4) 6 (-1)).1,(decP b (bt b 3) (word2 b 4) 6 (-1)).2.1,3)
 else((decP b (bt b 3) (word2 b 4) 6 (-1)).1,0,0)
def esOf (l:List (Ey×Nat)):List Ey:=l.map Prod.fst
def endsOf (l:List (Ey×Nat)):List Int:=l.map fun x=>(x.2:Int)
def decC (b:List Ty):Ct×Nat×Nat:=if(toldD b).2.2≠0 then(ct0,(toldD b).2) else(⟨bt b 3,esOf (toldD b).1⟩,0,0)
theorem known204 (t:Ty):PCall Tryz.prog 137 [.int .u8 t.val] (.bool (knownT t)):=by
 refine F137.pcall' rfl fun T hT=> ?_
 by_cases h1:t.val≤5
 ·have q1:((t.val:Int)≤5)=True:=by simp; omega
  simp -implicitDefEqProofs only[go_sem,c137,hT,q1]
  exact zf2 (by simp[knownT,h1])
 have q1:((t.val:Int)≤5)=False:=by simp; omega
 by_cases h2:16≤t.val
 ·have q2:((16:Int)≤t.val)=True:=by simp; omega
  simp -implicitDefEqProofs only[go_sem,c137,hT,q1,q2]
  exact zf2 (by simp only[knownT,decide_eq_decide]; omega)
 ·have q2:((16:Int)≤t.val)=False:=by simp; omega
  simp -implicitDefEqProofs only[go_sem,c137,hT,q1,q2]
  exact zf2 (by simp only[knownT]; rw[decide_eq_false (by omega)])
theorem isCode149 (t:Ty):PCall Tryz.prog 104 [.int .u8 t.val] (.bool (knownT t)):=by
 refine F104.pcall' rfl fun T hT=> ?_
 by_cases h1:t.val≤5
 ·have q1:((t.val:Int)≤5)=True:=by simp; omega
  simp -implicitDefEqProofs only[go_sem,c104,hT,q1]
  exact zf2 (by simp[knownT,h1])
 have q1:((t.val:Int)≤5)=False:=by simp; omega
 by_cases h2:16≤t.val
 ·have q2:((16:Int)≤t.val)=True:=by simp; omega
  simp -implicitDefEqProofs only[go_sem,c104,hT,q1,q2]
  exact zf2 (by simp only[knownT,decide_eq_decide]; omega)
 ·have q2:((16:Int)≤t.val)=False:=by simp; omega
  simp -implicitDefEqProofs only[go_sem,c104,hT,q1,q2]
  exact zf2 (by simp only[knownT]; rw[decide_eq_false (by omega)])
theorem rises165 (last a:Int):PCall Tryz.prog 101 [.int .i64 last,.int .i64 a] (.int .i64 (afterE a last)):=by
 refine F101.pcall' rfl fun T hT=> ?_
 by_cases h1:a<0
 ·rw[afterE,if_pos (Or.inl h1)]
  simp -implicitDefEqProofs only[go_sem,c101,hT,h1]
  all_goals exact DLe.refl _
 by_cases h2:4095<a
 ·have q2:((4096:Int)≤a)=True:=by simp; omega
  rw[afterE,if_pos (Or.inr h2)]
  simp -implicitDefEqProofs only[go_sem,c101,hT,h1,q2]
  all_goals exact DLe.refl _
 have q2:((4096:Int)≤a)=False:=by simp; omega
 rw[afterE,if_neg (by omega)]
 by_cases h3:a=last
 ·rw[if_pos h3]
  subst h3
  simp -implicitDefEqProofs only[go_sem,c101,hT,h1,q2]
  all_goals exact DLe.refl _
 rw[if_neg h3]
 by_cases h4:a<last
 ·rw[if_pos h4]
  simp -implicitDefEqProofs only[go_sem,c101,hT,h1,q2,h3,h4]
  all_goals exact DLe.refl _
 ·rw[if_neg h4]
  simp -implicitDefEqProofs only[go_sem,c101,hT,h1,q2,h3,h4]
  all_goals exact DLe.refl _
theorem after108 (last a:Int):PCall Tryz.prog 103 [.int .i64 a,.int .i64 last] (.int .i64 (afterE a last)):=by
 refine F103.pcall' rfl fun T hT=> ?_
 by_cases h1:a<0
 ·rw[afterE,if_pos (Or.inl h1)]
  simp -implicitDefEqProofs only[go_sem,c103,hT,h1]
  all_goals exact DLe.refl _
 by_cases h2:4095<a
 ·have q2:((4095:Int)<a)=True:=by simp; omega
  rw[afterE,if_pos (Or.inr h2)]
  simp -implicitDefEqProofs only[go_sem,c103,hT,h1,q2]
  all_goals exact DLe.refl _
 have q2:((4095:Int)<a)=False:=by simp; omega
 rw[afterE,if_neg (by omega)]
 by_cases h3:a=last
 ·rw[if_pos h3]
  subst h3
  simp -implicitDefEqProofs only[go_sem,c103,hT,h1,q2]
  all_goals exact DLe.refl _
 rw[if_neg h3]
 by_cases h4:a<last
 ·rw[if_pos h4]
  simp -implicitDefEqProofs only[go_sem,c103,hT,h1,q2,h3,h4]
  all_goals exact DLe.refl _
 ·rw[if_neg h4]
  simp -implicitDefEqProofs only[go_sem,c103,hT,h1,q2,h3,h4]
  all_goals exact DLe.refl _
open Go.Proofs
def mg:Nat→Nat|0=>112|1=>118|_=>1
theorem bt_at {b:List Ty} {i:Nat} (h:i<b.length):(rws eT b)[i]?.getD []=[.int .u8 (bt b i:Nat)]:=by rw[rws_at h,bt,List.getElem?_eq_getElem h]; rfl
def okTo (b:List Ty) (i:Nat):Prop:=i≤b.length∧∀j<i,bt b j=mg j
theorem headD_short {b:List Ty} {i:Nat} (hi:i<3) (h:okTo b i) (hl:b.length=i):headD b=(i,2):=by
 obtain⟨h1,h2⟩:=h
 have:i=0∨i=1∨i=2:=by omega
 rcases this with rfl|rfl|rfl
 ·simp[headD,hl]
 ·have:=h2 0 (by omega); simp[mg] at this; simp[headD,hl,this]
 ·have q:=h2 0 (by omega); have r:=h2 1 (by omega); simp[mg] at q r; simp[headD,hl,q,r]
theorem headD_bad {b:List Ty} {i:Nat} (hi:i<3) (h:okTo b i) (hl:i<b.length) (hb:bt b i≠mg i):headD b=(i,64):=by
 obtain⟨h1,h2⟩:=h
 have:i=0∨i=1∨i=2:=by omega
 rcases this with rfl|rfl|rfl
 ·simp[mg] at hb
  rw[headD,if_neg (by omega),if_pos hb]
 ·have q:=h2 0 (by omega); simp[mg] at q hb
  rw[headD,if_neg (by omega),if_neg (by omega),if_pos hb]
 ·have q:=h2 0 (by omega); have r:=h2 1 (by omega); simp[mg] at q r hb
  rw[headD,if_neg (by omega),if_neg (by omega),if_neg (by omega),if_pos hb]
theorem headD_ok {b:List Ty} (h:okTo b 3):headD b=if b.length<6 then(b.length,2)
 else if 16<bt b 3 then(3,5)
 else if 4096<word2 b 4 then(4,4)
 else(0,0):=by
 obtain⟨h1,h2⟩:=h
 have q:=h2 0 (by omega); have r:=h2 1 (by omega); have s:=h2 2 (by omega); simp[mg] at q r s
 rw[headD,if_neg (by omega),if_neg (by omega),if_neg (by omega),if_neg (by omega)]
def headR (b:List Ty):Nat×Nat:=if(headD b).2=0 then(bt b 3,word2 b 4) else(0,0)
theorem refHead116 (b:List Ty) (o:Own) (hl:b.length≤140737488355328):PCall Tryz.prog 74 [.slice o (rws eT b)] (.tup [.int .i64 (headR b).1,.int .i64 (headR b).2,.int .i64 (headD b).1,.int .i64 (headD b).2]):=by
 refine F74.pcall' rfl fun T hT=> ?_
 simp -implicitDefEqProofs only[go_sem,c74,hT]
 refine loopL F74 (fun i:Nat=>[(0,.slice o (rws eT b)),(6,.slice .exact [[.int .u8 112],[.int .u8 118],[.int .u8 1]]),(7,.int .i64 i)]) (fun _=>{}) (fun i=>i≤3∧okTo b i) (fun i=>3-i) 0 ⟨by omega,by simp[okTo]⟩ ?_ (St.le.nil _) ?_
 ·simp -implicitDefEqProofs only[go_sem,hT,Int.ofNat_zero]
  all_goals rfl
 clear hT T
 rintro i ⟨hi,hok⟩ T hT
 by_cases h:i<3
 ·have h1:((i:Int)<3)=True:=by simp; omega
  have hM:([[.int .u8 112],[.int .u8 118],[.int .u8 1]]:List (List D))[i]?.getD []=[.int .u8 (mg i)]:=by
   have:i=0∨i=1∨i=2:=by omega
   rcases this with rfl|rfl|rfl <;> rfl
  by_cases hs:b.length=i
  ·have q1:((b.length:Int)≤i)=True:=by simp; omega
   have hd:=headD_short h hok hs
   have hr:headR b=(0,0):=by rw[headR,hd]; rfl
   rw[hd,hr]
   simp -implicitDefEqProofs only[go_sem,hT,h1,q1]
   rw[hs]
   exact DLe.refl _
  have q1:((b.length:Int)≤i)=False:=by have:=hok.1; simp; omega
  have hlt:i<b.length:=by have:=hok.1; omega
  have hR:=bt_at hlt
  have hmg:mg i<256:=by unfold mg; split <;> omega
  have w4:IntKind.wrap .i64 ((i:Int)+1)=((i+1:Nat):Int):=by rw[zb7 (by omega) (by omega)]; simp
  by_cases hb:bt b i=mg i
  ·have q2:((bt b i:Int)=mg i)=True:=by simp[hb]
   simp -implicitDefEqProofs only[go_sem,hT,h1,q1,hM,hR,q2]
   refine⟨by omega,by omega,i+1,⟨by omega,by omega,fun j hj=> ?_⟩,by omega, ?_,St.le.refl _⟩
   ·by_cases hji:j<i
    ·exact hok.2 j hji
    ·rw[show j=i by omega]; exact hb
   ·rw[w4]
  ·have q2:((bt b i:Int)=mg i)=False:=by simp; omega
   have hd:=headD_bad h hok hlt hb
   have hr:headR b=(0,0):=by rw[headR,hd]; rfl
   rw[hd,hr]
   simp -implicitDefEqProofs only[go_sem,hT,h1,q1,hM,hR,q2]
   exact⟨by omega,by omega,DLe.refl _⟩
 ·have h1:((i:Int)<3)=False:=by simp; omega
  have hi3:i=3:=by omega
  subst hi3
  have hd:=headD_ok hok
  have hlen:=hok.1
  by_cases h6:b.length<6
  ·have q6:((b.length:Int)<6)=True:=by simp; omega
   have hd:headD b=(b.length,2):=by rw[hd,if_pos h6]
   have hr:headR b=(0,0):=by rw[headR,hd]; rfl
   rw[hd,hr]
   simp -implicitDefEqProofs only[go_sem,hT,h1,q6]
   exact DLe.refl _
  have q6:((b.length:Int)<6)=False:=by simp; omega
  have g3:(0:Int)≤3∧(3:Int)<b.length:=by omega
  have g4:(0:Int)≤4∧(4:Int)<b.length:=by omega
  have g5:(0:Int)≤5∧(5:Int)<b.length:=by omega
  have hR3:=bt_at (b:=b) (i:=3) (by omega)
  have hR4:=bt_at (b:=b) (i:=4) (by omega)
  have hR5:=bt_at (b:=b) (i:=5) (by omega)
  have hb3:=bt_lt b 3
  have hb4:=bt_lt b 4
  have hb5:=bt_lt b 5
  have hrl:∀r∈rws eT b,r.length=1:=rows_len eT_len b
  by_cases h16:16<bt b 3
  ·have q16:((16:Int)<bt b 3)=True:=by simp; omega
   have hd:headD b=(3,5):=by rw[hd,if_neg h6,if_pos h16]
   have hr:headR b=(0,0):=by rw[headR,hd]; rfl
   rw[hd,hr]
   simp -implicitDefEqProofs only[go_sem,hT,h1,q6,hR3,q16]
   exact⟨by omega,DLe.refl _⟩
  have q16:((16:Int)<bt b 3)=False:=by simp; omega
  have w4:IntKind.wrap .i64 (bt b 4:Int)=bt b 4:=zb7 (by omega) (by omega)
  have w5:IntKind.wrap .i64 (bt b 5:Int)=bt b 5:=zb7 (by omega) (by omega)
  have w3:IntKind.wrap .i64 (bt b 3:Int)=bt b 3:=zb7 (by omega) (by omega)
  have wm:IntKind.wrap .i64 (256*(bt b 4:Int))=256*(bt b 4:Int):=zb7 (by omega) (by omega)
  have wa:IntKind.wrap .i64 (256*(bt b 4:Int)+bt b 5)=(word2 b 4:Nat):=by rw[zb7 (by omega) (by omega),word2]; simp
  by_cases h40:4096<word2 b 4
  ·have q40:((4096:Int)<word2 b 4)=True:=by simp; omega
   have hd:headD b=(4,4):=by rw[hd,if_neg h6,if_neg h16,if_pos h40]
   have hr:headR b=(0,0):=by rw[headR,hd]; rfl
   rw[hd,hr]
   simp -implicitDefEqProofs only[go_sem,hT,h1,q6,hR3,hR4,hR5,q16,w4,w5,wm,wa,q40]
   exact⟨by omega,by omega,by omega,DLe.refl _⟩
  ·have q40:((4096:Int)<word2 b 4)=False:=by simp; omega
   have hd:headD b=(0,0):=by rw[hd,if_neg h6,if_neg h16,if_neg h40]
   have hr:headR b=(bt b 3,word2 b 4):=by rw[headR,hd]; rfl
   rw[hd,hr]
   simp -implicitDefEqProofs only[go_sem,hT,h1,q6,hR3,hR4,hR5,q16,w3,w4,w5,wm,wa,q40]
   exact⟨by omega,by omega,by omega,by omega,DLe.refl _⟩
end Go.AL
