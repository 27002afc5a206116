import Derived.Test.YtjffaachihpjbaaGreatFn
import Derived.Test.YtjffaachihpjbaaGreatFe
set_option linter.unusedSimpArgs false
set_option linter.unusedVariables false
set_option maxRecDepth 100000
set_option maxHeartbeats 4000000
set_option linter.defProp false
namespace Go.AL
open Go.Proofs
def mgAt (l:List Cl) (a b:Fr):Nat→Fr
 |0=>a
 |i+1=>setF (mgAt l a b i) i (mergeT l (slAt (mgAt l a b i) i) (slAt b i))
theorem mgAt_loc {l:List Cl} {a b:Fr}:∀n,(mgAt l a b n).loc=a.loc∧(mgAt l a b n).h=a.h
 |0=>⟨rfl,rfl⟩
 |n+1=>by rw[mgAt,setF_loc,setF_h]; exact mgAt_loc n
theorem mgAt_sl {l:List Cl} {a b:Fr}:∀n,n≤24→∀i,i<24→slAt (mgAt l a b n) i=if i<n then mergeT l (slAt a i) (slAt b i) else slAt a i
 |0,_,i,_=>by rw[if_neg (by omega)]; rfl
 |n+1,hn,i,hi=>by
  have ih:=mgAt_sl (l:=l) (a:=a) (b:=b) n (by omega)
  rw[mgAt,slAt_set _ hi (by simp; omega),Int.toNat_natCast]
  by_cases h:i=n
  ·subst h; rw[if_pos rfl,if_pos (by omega),ih i hi,if_neg (by omega)]
  ·rw[if_neg h,ih i hi]
   by_cases h2:i<n
   ·rw[if_pos h2,if_pos (by omega)]
   ·rw[if_neg h2,if_neg (by omega)]
def mergeF (l:List Cl) (a b:Fr):Fr×Nat:=if alikeF l.length a b≠0 then(fr0 0,alikeF l.length a b) else(mgAt l a b (a.loc+a.h).toNat,0)
theorem alike_zero {n:Nat} {a b:Fr} (h:alikeF n a b=0):checkF n a=0∧checkF n b=0∧a.loc=b.loc∧a.h=b.h:=by
 unfold alikeF at h
 split at h
 ·omega
 split at h
 ·omega
 split at h
 ·rename_i h1 h2 h3
  exact⟨by omega,by omega,h3⟩
 ·cases h
theorem alike_of {n:Nat} {a b:Fr} (h1:checkF n a=0) (h2:checkF n b=0) (h3:a.loc=b.loc) (h4:a.h=b.h):alikeF n a b=0:=by
 unfold alikeF
 rw[if_neg (by omega),if_neg (by omega),if_pos ⟨h3,h4⟩]
theorem mgAt_store (l:List Cl) (a b:Fr) {i:Nat} (h:i<24):(eFr (mgAt l a b i)).take (2+i)++[D.int .u8 ((mergeT l (slAt (mgAt l a b i) i) (slAt b i)).val:Int)]++(eFr (mgAt l a b i)).drop (2+i+1)=eFr (mgAt l a b (i+1)):=by
 have:=fr_setF (f:=mgAt l a b i) (a:=(i:Int)) (t:=mergeT l (slAt (mgAt l a b i) i) (slAt b i)) (by omega) (by omega)
 rw[Int.toNat_natCast] at this
 rw[mgAt]; exact this
def bXhaD0:=aI @zb4 (aI @zb5 (aI @za9 (aI @za8 (aI @za6 (aI @za5 (aI @fr_0 (aI @fr_1 @gdD)))))))
def bXhaD1:=aI @zb4 (aI @zb5 (aI @za9 (aI @za8 (aI @za6 (aI @za5 (aI @fr_0 (aI @fr_1 (aI @gdD (aI @za4 (aI @zb0 @fr_fr0))))))))))
theorem merge192 (l:List Cl) (o:Own) (a b:Fr) (hl:l.length≤140737488355328):PCall Tryz.prog 122 [.slice o (rws eC l),.agg (eFr a),.agg (eFr b)] (.tup [.agg (eFr (mergeF l a b).1),.int .i64 (mergeF l a b).2]):=by
 refine F122.pcall' rfl fun T hT=> ?_
 simp -implicitDefEqProofs only[go_sem,c122,hT,bXhaD0]
 intro b4 b5 n1 n2 b6 n3 n4 n5 n6
 simp -implicitDefEqProofs only[go_sem,hT,n1,n2,n3,n4,n5,n6,bXhaD0]
 refine za3 (alike206 l o a b) ?_
 by_cases h0:alikeF l.length a b=0
 case neg=>
  have h0':((alikeF l.length a b:Int)=0)=False:=by simp; omega
  rw[show mergeF l a b=(fr0 0,alikeF l.length a b) by rw[mergeF,if_pos h0]]
  simp -implicitDefEqProofs only[go_sem,hT,n1,n2,n3,n4,n5,n6,h0',bXhaD1]
 have h0':((alikeF l.length a b:Int)=0)=True:=by simp; omega
 obtain⟨ca,cb,hloc,hh⟩:=alike_zero h0
 obtain⟨s1,s2,s3,s4⟩:=shaped_of (checkF_iff.1 ca).1
 obtain⟨n,hn⟩:∃n:Nat,a.loc+a.h=n:=⟨(a.loc+a.h).toNat,by omega⟩
 have w1:IntKind.wrap .i64 (a.loc+a.h)=(n:Int):=by rw[zb7 (by omega) (by omega),hn]
 have hm:mergeF l a b=(mgAt l a b n,0):=by rw[mergeF,if_neg (by omega),hn,Int.toNat_natCast]
 have h24:n≤24:=by omega
 simp -implicitDefEqProofs only[go_sem,hT,n1,n2,n3,n4,n5,n6,h0',w1,bXhaD0]
 refine loopL F122 (fun i:Nat=>[(0,.slice o (rws eC l)),(4,.ptr b4 0),(5,.ptr b5 0),(6,.ptr b6 0),(22,.int .i64 n),(23,.int .i64 i)]) (fun i=>((({}:St).set b4 (eFr (mgAt l a b i))).set b5 (eFr b)).set b6 zFr) (fun i=>i≤n) (fun i=>n-i) 0 (by omega) ?_ (St.le.refl _) ?_
 ·simp -implicitDefEqProofs only[go_sem,hT,Int.ofNat_zero]
 clear hT T
 intro i hi T hT
 by_cases h:i<n
 ·have h1:((i:Int)<n)=True:=eq_true (by omega)
  have hx:=fr_slAt (mgAt l a b i) (show i<24 by omega)
  have hy:=fr_slAt b (show i<24 by omega)
  have hst:=mgAt_store l a b (show i<24 by omega)
  have hnext:IntKind.wrap .i64 ((i:Int)+1)=((i+1:Nat):Int):=by rw[zb7 (by omega) (by omega)]; simp
  simp -implicitDefEqProofs only[go_sem,hT,h1,n1,n2,n3,n4,n5,n6,hx,hy,Nat.mul_one,bXhaD0]
  refine⟨⟨by omega,by omega⟩,⟨by omega,by omega⟩, ?_⟩
  refine za3 (merge220 l o _ _ hl) ?_
  simp -implicitDefEqProofs only[go_sem,hT,h1,zb4,zb5,za9,za8,za6,za5,fr_0,fr_1,gdD,n1,n2,n3,n4,n5,n6,hx,hy,hnext,Nat.mul_one,hst,za4]
  refine⟨⟨by omega,by omega⟩,by omega,i+1,by omega,by omega,rfl, ?_⟩
  rw[set_comm n5,set_comm n1,za4]
  exact St.le.refl _
 ·have h1:((i:Int)<n)=False:=eq_false (by omega)
  obtain rfl:i=n:=by omega
  simp -implicitDefEqProofs only[go_sem,hT,h1,zb4,zb5,za9,za8,za6,za5,fr_0,fr_1,gdD,n1,n2,n3,n4,n5,n6,hm,zb0,za4,Int.ofNat_zero]
theorem refMergeF151 (l:List Cl) (o:Own) (a b:Fr) (hf:Falls l l.length) (hl:l.length*48≤140737488355328):PCall Tryz.prog 107 [.slice o (rws eC l),.agg (eFr a),.agg (eFr b)] (.tup [.agg (eFr (mergeF l a b).1),.int .i64 (mergeF l a b).2]):=by
 refine F107.pcall' rfl fun T hT=> ?_
 simp -implicitDefEqProofs only[go_sem,c107,hT,bXhaD0]
 intro b4 b5 n1 n2 b6 n3 n4 n5 n6
 simp -implicitDefEqProofs only[go_sem,hT,n1,n2,n3,n4,n5,n6,bXhaD0]
 refine za3 (refCheck40 l o a) ?_
 by_cases h1:checkF l.length a=0
 case neg=>
  have h1':((checkF l.length a:Int)=0)=False:=by simp; omega
  have ha:alikeF l.length a b=checkF l.length a:=by rw[alikeF,if_pos h1]
  rw[show mergeF l a b=(fr0 0,checkF l.length a) by rw[mergeF,ha,if_pos h1]]
  simp -implicitDefEqProofs only[go_sem,hT,n1,n2,n3,n4,n5,n6,h1',bXhaD1]
 have h1':((checkF l.length a:Int)=0)=True:=by simp; omega
 simp -implicitDefEqProofs only[go_sem,hT,n1,n2,n3,n4,n5,n6,h1',bXhaD0]
 refine za3 (refCheck40 l o b) ?_
 by_cases h2:checkF l.length b=0
 case neg=>
  have h2':((checkF l.length b:Int)=0)=False:=by simp; omega
  have ha:alikeF l.length a b=checkF l.length b:=by rw[alikeF,if_neg (by omega),if_pos h2]
  rw[show mergeF l a b=(fr0 0,checkF l.length b) by rw[mergeF,ha,if_pos h2]]
  simp -implicitDefEqProofs only[go_sem,hT,n1,n2,n3,n4,n5,n6,h2',bXhaD1]
 have h2':((checkF l.length b:Int)=0)=True:=by simp; omega
 by_cases h3:a.loc=b.loc∧a.h=b.h
 case neg=>
  have ha:alikeF l.length a b=32:=by rw[alikeF,if_neg (by omega),if_neg (by omega),if_neg h3]
  rw[show mergeF l a b=(fr0 0,32) by rw[mergeF,ha,if_pos (by omega)]]
  have hq:(!decide (a.loc=b.loc)|| !decide (a.h=b.h))=true:=by
   by_cases h4:a.loc=b.loc
   ·have:¬a.h=b.h:=fun h=>h3 ⟨h4,h⟩
    simp[h4,this]
   ·simp[h4]
  simp -implicitDefEqProofs only[go_sem,mmB,hT,n1,n2,n3,n4,n5,n6,h2',hq,bXhaD1]
  exact DLe.refl _
 have hq:(!decide (a.loc=b.loc)|| !decide (a.h=b.h))=false:=by simp[h3]
 have h0:=alike_of h1 h2 h3.1 h3.2
 obtain⟨s1,s2,s3,s4⟩:=shaped_of (checkF_iff.1 h1).1
 obtain⟨n,hn⟩:∃n:Nat,a.loc+a.h=n:=⟨(a.loc+a.h).toNat,by omega⟩
 have w1:IntKind.wrap .i64 (a.loc+a.h)=(n:Int):=by rw[zb7 (by omega) (by omega),hn]
 have hm:mergeF l a b=(mgAt l a b n,0):=by rw[mergeF,if_neg (by omega),hn,Int.toNat_natCast]
 have h24:n≤24:=by omega
 simp -implicitDefEqProofs only[go_sem,mmB,hT,n1,n2,n3,n4,n5,n6,h2',hq,bXhaD0]
 refine loopL F107 (fun i:Nat=>[(0,.slice o (rws eC l)),(4,.ptr b4 0),(5,.ptr b5 0),(6,.ptr b6 0),(10,.int .i64 i)]) (fun i=>((({}:St).set b4 (eFr (mgAt l a b i))).set b5 (eFr b)).set b6 zFr) (fun i=>i≤n) (fun i=>n-i) 0 (by omega) ?_ (St.le.refl _) ?_
 ·simp -implicitDefEqProofs only[go_sem,hT,Int.ofNat_zero]
 clear hT T
 intro i hi T hT
 obtain⟨e1,e2⟩:=mgAt_loc (l:=l) (a:=a) (b:=b) i
 by_cases h:i<n
 ·have h1:((i:Int)<n)=True:=eq_true (by omega)
  have hx:=fr_slAt (mgAt l a b i) (show i<24 by omega)
  have hy:=fr_slAt b (show i<24 by omega)
  have hst:=mgAt_store l a b (show i<24 by omega)
  have hnext:IntKind.wrap .i64 ((i:Int)+1)=((i+1:Nat):Int):=by rw[zb7 (by omega) (by omega)]; simp
  simp -implicitDefEqProofs only[go_sem,hT,n1,n2,n3,n4,n5,n6,hx,hy,e1,e2,w1,h1,Nat.mul_one,bXhaD0]
  refine⟨⟨by omega,by omega⟩,⟨by omega,by omega⟩, ?_⟩
  refine za3 (refMerge186 l o _ _ hf hl) ?_
  simp -implicitDefEqProofs only[go_sem,hT,h1,zb4,zb5,za9,za8,za6,za5,fr_0,fr_1,gdD,n1,n2,n3,n4,n5,n6,hx,hy,hnext,Nat.mul_one,hst,za4]
  refine⟨⟨by omega,by omega⟩,by omega,i+1,by omega,by omega,rfl, ?_⟩
  rw[set_comm n5,set_comm n1,za4]
  exact St.le.refl _
 ·have h1:((i:Int)<n)=False:=eq_false (by omega)
  obtain rfl:i=n:=by omega
  simp -implicitDefEqProofs only[go_sem,hT,zb4,zb5,za9,za8,za6,za5,fr_0,fr_1,gdD,n1,n2,n3,n4,n5,n6,e1,e2,w1,h1,hm,zb0,za4,Int.ofNat_zero]
open Go.Proofs
def jumpsB (op:Nat):Bool:=decide (op=19∨op=20)
theorem jumps83 (t:Ty):PCall Tryz.prog 45 [.int .u8 t.val] (.bool (jumpsB t.val)):=by
 refine F45.pcall' rfl fun T hT=> ?_
 simp -implicitDefEqProofs only[go_sem,mmB,c45,hT]
 exact zf3 (by rw[Bool.eq_iff_iff]; simp[jumpsB]; omega)
theorem refJumps22 (t:Ty):PCall Tryz.prog 26 [.int .u8 t.val] (.bool (jumpsB t.val)):=by
 refine F26.pcall' rfl fun T hT=> ?_
 simp -implicitDefEqProofs only[go_sem,mmB,c26,hT]
 exact zf3 (by rw[Bool.eq_iff_iff]; simp[jumpsB]; omega)
def numB:List Ty→Nat→Nat
 |[],n=>n
 |b::r,n=>numB r (256*n+b.val)
theorem numB_lt:∀(l:List Ty) (n:Nat),numB l n<256^l.length*(n+1)
 |[],n=>by simp[numB]
 |b::r,n=>by
  have:=numB_lt r (256*n+b.val)
  have hb:=b.isLt
  rw[numB,List.length_cons,Nat.pow_succ]
  have h2:256^r.length*(256*n+b.val+1)≤256^r.length*(256*(n+1)):=Nat.mul_le_mul_left _ (by omega)
  rw[Nat.mul_assoc]
  omega
theorem numB_snoc:∀(l:List Ty) (b:Ty) (n:Nat),numB (l++[b]) n=256*numB l n+b.val
 |[],b,n=>rfl
 |a::r,b,n=>by rw[List.cons_append,numB,numB_snoc r b]; rfl
def opdB (l:List Ty):Int:=if l.length=4∧2147483647<numB l 0 then(numB l 0:Int)-4294967296 else numB l 0
theorem refTake64 (l:List Ty) (o:Own) (k:Nat) (hk:k≤4) (hl:k≤l.length):PCall Tryz.prog 55 [.slice o (rws eT l),.int .i64 k] (.int .i64 (opdB (l.take k))):=by
 refine F55.pcall' rfl fun T hT=> ?_
 simp -implicitDefEqProofs only[go_sem,c55,hT]
 have hp:∀i:Nat,i≤4→(256:Nat)^i≤4294967296:=fun i hi=>by
  have:i=0∨i=1∨i=2∨i=3∨i=4:=by omega
  rcases this with rfl|rfl|rfl|rfl|rfl <;> decide
 refine loopL F55 (fun i:Nat=>[(0,.slice o (rws eT l)),(1,.int .i64 k),(5,.int .i64 (numB (l.take i) 0)),(6,.int .i64 i)]) (fun _=>{}) (fun i=>i≤k) (fun i=>k-i) 0 (Nat.zero_le _) ?_ (St.le.nil _) ?_
 ·simp -implicitDefEqProofs only[go_sem,hT,Int.ofNat_zero]
  all_goals rfl
 clear hT T
 rintro i hi T hT
 by_cases h:i<k
 ·have h1:((i:Int)<k)=True:=by simp; omega
  have hil:i<l.length:=by omega
  have hR:(rws eT l)[i]?.getD []=eT l[i]:=rws_at hil
  have htk:l.take (i+1)=l.take i++[l[i]]:=List.take_succ_eq_append_getElem hil
  have hlt:=numB_lt (l.take i) 0
  have hpi:=hp i (by omega)
  rw[List.length_take,Nat.min_eq_left (by omega)] at hlt
  have hlt2:numB (l.take i) 0<4294967296:=by omega
  have hns:=numB_snoc (l.take i) l[i] 0
  rw[←htk] at hns
  have hb:=l[i].isLt
  generalize l[i]=b at *
  have w1:IntKind.wrap .i64 (256*(numB (l.take i) 0:Int))=256*(numB (l.take i) 0:Int):=zb7 (by omega) (by omega)
  have w2:IntKind.wrap .i64 (b.val:Int)=b.val:=zb7 (by omega) (by omega)
  have w3:IntKind.wrap .i64 (256*(numB (l.take i) 0:Int)+b.val)=(numB (l.take (i+1)) 0:Int):=by rw[zb7 (by omega) (by omega),hns]; simp
  have w4:IntKind.wrap .i64 ((i:Int)+1)=((i+1:Nat):Int):=by rw[zb7 (by omega) (by omega)]; simp
  have hm:k-(i+1)<k-i:=by omega
  simp -implicitDefEqProofs only[go_sem,hT,h1,hR,eT,eT_len,w1,w2,w3]
  refine⟨by omega,i+1,h,hm,⟨rfl, ?_⟩,St.le.refl _⟩
  rw[w4]
 ·obtain rfl:i=k:=by omega
  have h1:((i:Int)<i)=False:=by simp
  have hlt:=numB_lt (l.take i) 0
  have hpi:=hp i hk
  have hlen:(l.take i).length=i:=by rw[List.length_take,Nat.min_eq_left hl]
  rw[hlen] at hlt
  obtain⟨n,hn⟩:∃n,numB (l.take i) 0=n:=⟨_,rfl⟩
  have hod:opdB (l.take i)=if i=4∧2147483647<n then(n:Int)-4294967296 else n:=by rw[opdB,hlen,hn]
  rw[hn] at hlt hT
  rw[hod]
  by_cases h4:i=4
  ·subst h4
   have c4:(((4:Nat):Int)=4)=True:=by simp
   by_cases hbig:2147483647<n
   ·have hq:((2147483647:Int)<n)=True:=by simp; omega
    have w5:IntKind.wrap .i64 ((n:Int)-4294967296)=(n:Int)-4294967296:=zb7 (by omega) (by omega)
    rw[if_pos ⟨rfl,hbig⟩]
    simp -implicitDefEqProofs only[go_sem,hT,h1,hq,w5,c4]
   ·have hq:((2147483647:Int)<n)=False:=by simp; omega
    rw[if_neg (fun h=>hbig h.2)]
    simp -implicitDefEqProofs only[go_sem,hT,h1,hq,c4]
  ·have hq:((i:Int)=4)=False:=by simp; omega
   rw[if_neg (fun h=>h4 h.1)]
   simp -implicitDefEqProofs only[go_sem,hT,h1,hq]
theorem or_byte (n b:Nat) (hn:n<16777216) (hb:b<256):IntKind.wrap .i64 ((BitVec.ofInt 64 (256*(n:Int))|||BitVec.ofInt 64 (b:Int)).toNat:Int)=((256*n+b:Nat):Int):=by
 have e1:BitVec.ofInt 64 (256*(n:Int))=BitVec.ofNat 64 (256*n):=by
  rw[show(256*(n:Int))=((256*n:Nat):Int) by simp]; exact BitVec.ofInt_natCast _ _
 have e2:BitVec.ofInt 64 (b:Int)=BitVec.ofNat 64 b:=BitVec.ofInt_natCast _ _
 rw[e1,e2,BitVec.toNat_or,BitVec.toNat_ofNat,BitVec.toNat_ofNat]
 rw[Nat.mod_eq_of_lt (show 256*n<2^64 by omega),Nat.mod_eq_of_lt (show b<2^64 by omega)]
 have:256*n|||b=256*n+b:=by
  have:=Nat.two_pow_add_eq_or_of_lt (i:=8) (b:=b) (show b<2^8 by omega) n
  rw[show(2:Nat)^8=256 from rfl] at this
  exact this.symm
 rw[this,zb7 (by omega) (by omega)]
theorem wrap_i32n (n:Nat) (h:n<4294967296):IntKind.wrap .i32 (n:Int)=if 2147483647<n then(n:Int)-4294967296 else n:=by
 have e:IntKind.wrap .i32 (n:Int)=if 2147483648≤(n:Int)%4294967296 then(n:Int)%4294967296-4294967296 else(n:Int)%4294967296:=by simp[IntKind.wrap,IntKind.bits,IntKind.signed]
 rw[e]; split <;> split <;> omega
theorem rws_drop {α:Type} {enc:α→List D} {l:List α} {k:Nat}:(rws enc l).drop k=rws enc (l.drop k):=by simp[rws]
theorem rows_len {α:Type} {enc:α→List D} {n:Nat} (h:∀a,(enc a).length=n) (l:List α):∀e∈rws enc l,e.length=n:=fun e he=>by
 simp only[rws,List.mem_map] at he
 obtain⟨a,_,rfl⟩:=he; exact h a
theorem take127 (l:List Ty) (o:Own) (k b:Nat) (hk:k=0∨k=1∨k=2∨k=4) (hl:k≤l.length):
  RCall Tryz.prog 70 [.int .i64 k,.ptr b 0] (({}:St).set b [.slice o (rws eT l)]) fun d s'=>d= .int .i64 (opdB (l.take k))∧s'=(({}:St).set b [.slice .no (rws eT (l.drop k))]):=by
 refine F70.rcall rfl fun T hT=> ?_
 simp -implicitDefEqProofs only[go_sem,c70,hT]
 refine⟨⟨by omega,rows_len eT_len l⟩, ?_⟩
 have hlen:(l.take k).length=k:=by rw[List.length_take,Nat.min_eq_left hl]
 have hp:∀i:Nat,i≤4→(256:Nat)^i≤4294967296:=fun i hi=>by
  have:i=0∨i=1∨i=2∨i=3∨i=4:=by omega
  rcases this with rfl|rfl|rfl|rfl|rfl <;> decide
 have hp3:∀i:Nat,i≤3→(256:Nat)^i≤16777216:=fun i hi=>by
  have:i=0∨i=1∨i=2∨i=3:=by omega
  rcases this with rfl|rfl|rfl|rfl <;> decide
 have hk4:k≤4:=by omega
 refine loopL F70 (fun i:Nat=>[(0,.int .i64 k),(1,.ptr b 0),(4,.int .i64 (numB (l.take i) 0)),(9,.slice .no (rws eT (l.take k))),(10,.int .i64 k),(11,.int .i64 i)]) (fun _=>({}:St).set b [.slice o (rws eT l)]) (fun i=>i≤k) (fun i=>k-i) 0 (Nat.zero_le _) ?_ (St.le.refl _) ?_
 ·simp -implicitDefEqProofs only[go_sem,hT,Int.ofNat_zero,rws_take,rws_drop,List.drop_zero,hlen]
  all_goals rfl
 clear hT T
 rintro i hi T hT
 by_cases h:i<k
 ·have h1:((i:Int)<k)=True:=by simp; omega
  have hil:i<l.length:=by omega
  have hik:i<(l.take k).length:=by omega
  have hR:(rws eT (l.take k))[i]?.getD []=eT l[i]:=by rw[rws_at hik]; simp
  have htk:l.take (i+1)=l.take i++[l[i]]:=List.take_succ_eq_append_getElem hil
  have hlt:=numB_lt (l.take i) 0
  have hpi:=hp3 i (by omega)
  rw[List.length_take,Nat.min_eq_left (by omega)] at hlt
  have hns:=numB_snoc (l.take i) l[i] 0
  rw[←htk] at hns
  have hb:=l[i].isLt
  have hor:=or_byte (numB (l.take i) 0) l[i].val (by omega) hb
  generalize l[i]=x at *
  have w0:IntKind.wrap .i64 ((numB (l.take i) 0:Int)*256)=256*(numB (l.take i) 0:Int):=by rw[zb7 (by omega) (by omega)]; omega
  have w2:IntKind.wrap .i64 (x.val:Int)=x.val:=zb7 (by omega) (by omega)
  have w4:IntKind.wrap .i64 ((i:Int)+1)=((i+1:Nat):Int):=by rw[zb7 (by omega) (by omega)]; simp
  have hm:k-(i+1)<k-i:=by omega
  have h28:(2:Int)^min 8 64=256:=by decide
  rw[←hns] at hor
  simp -implicitDefEqProofs only[go_sem,hT,h1,hR,eT,eT_len,hlen,h28,w0,w2,hor]
  refine⟨by omega,i+1,h,hm, ?_,St.le.refl _⟩
  exact⟨congrArg (D.int .i64) hor,by rw[w4]⟩
 ·obtain rfl:i=k:=by omega
  have h1:((i:Int)<i)=False:=by simp
  have hlt:=numB_lt (l.take i) 0
  have hpi:=hp i hk4
  rw[hlen] at hlt
  obtain⟨n,hn⟩:∃n,numB (l.take i) 0=n:=⟨_,rfl⟩
  have hod:opdB (l.take i)=if i=4∧2147483647<n then(n:Int)-4294967296 else n:=by rw[opdB,hlen,hn]
  rw[hn] at hlt hT
  rw[hod]
  have hdl:((i:Int)).toNat=i:=by simp
  by_cases h4:i=4
  ·subst h4
   have c4:(((4:Nat):Int)=4)=True:=by simp
   have hw32:=wrap_i32n n (by omega)
   have hw64:IntKind.wrap .i64 (if 2147483647<n then(n:Int)-4294967296 else n)=if 2147483647<n then(n:Int)-4294967296 else n:=by
    refine zb7 ?_ ?_ <;> split <;> omega
   simp -implicitDefEqProofs only[go_sem,hT,h1,c4,rws_take,rws_drop,hw32,hw64,za4]
   refine⟨⟨by omega,rows_len eT_len l⟩,_,_,DLe.refl _,St.le.refl _, ?_, ?_⟩
   ·simp
   ·simp[rws_take,rws_drop,za1]
  ·have hq:((i:Int)=4)=False:=by simp; omega
   rw[if_neg (fun h=>h4 h.1)]
   simp -implicitDefEqProofs only[go_sem,hT,h1,hq,rws_take,rws_drop,za4]
   refine⟨⟨by omega,rows_len eT_len l⟩,_,_,DLe.refl _,St.le.refl _,rfl, ?_⟩
   simp[rws_take,rws_drop,za1]
open Go.Proofs
def ins0:Ins:=⟨0,0,0,0⟩
def decIn (b:List Ty) (at':Nat) (op:Ty):Ins:=⟨at',op,opdB ((b.drop (at'+1)).take (wid op.val).1),opdB ((b.drop (at'+1+(wid op.val).1)).take (wid op.val).2)⟩
def decF (b:List Ty) (at':Nat):Ins×Nat:=
 if b.length<at' then(ins0,1)
 else if b.length=at' then(ins0,2)
 else if ze8 ((b[at']?).getD 0).val=0 then(ins0,40)
 else if b.length-at'<ze8 ((b[at']?).getD 0).val then(ins0,2)
 else if((b[at']?).getD 0).val=2∧1<(decIn b at' ((b[at']?).getD 0)).a then(ins0,5)
 else(decIn b at' ((b[at']?).getD 0),0)
theorem eIn_zero:[D.int .i64 0,D.int .u8 0,D.int .i64 0,D.int .i64 0]=eIn ins0:=rfl
theorem sizeOp_le (n:Nat):ze8 n≤6:=by
 have:=wid_le n
 unfold ze8; split <;> omega
theorem wid_vals (n:Nat):((wid n).1=0∨(wid n).1=1∨(wid n).1=2∨(wid n).1=4)∧((wid n).2=0∨(wid n).2=1):=by
 unfold wid; repeat' split
 all_goals simp
def bXfaD0:=aI @zb3 (aI @za7 (aI @za4 (aI @zb0 @eIn_zero)))
def bXfaD1:=aI @zb3 (aI @za7 (aI @za4 (aI @zb0 @gdD)))
theorem refDecode19 (b:List Ty) (o:Own) (at':Nat) (hl:b.length≤140737488355328) (ha:at'≤140737488355328):PCall Tryz.prog 24 [.slice o (rws eT b),.int .i64 at'] (.tup [.agg (eIn (decF b at').1),.int .i64 (decF b at').2]):=by
 have g0:((at':Int)<0)=False:=by simp
 refine F24.pcall' rfl fun T hT=> ?_
 simp -implicitDefEqProofs only[go_sem,c24,hT,bXfaD0]
 intro b4 b6 n1 n2
 by_cases h1:b.length<at'
 ·have q1:((b.length:Int)<at')=True:=by simp; omega
  rw[decF,if_pos h1]
  simp -implicitDefEqProofs only[go_sem,hT,n1,n2,g0,q1,bXfaD0]
  all_goals exact DLe.refl _
 have q1:((b.length:Int)<at')=False:=by simp; omega
 by_cases h2:b.length=at'
 ·have q2:((at':Int)=b.length)=True:=by simp; omega
  rw[decF,if_neg h1,if_pos h2]
  simp -implicitDefEqProofs only[go_sem,hT,n1,n2,g0,q1,q2,bXfaD0]
  all_goals exact DLe.refl _
 have q2:((at':Int)=b.length)=False:=by simp; omega
 have hlt:at'<b.length:=by omega
 have hR:(rws eT b)[at']?.getD []=eT b[at']:=rws_at hlt
 have hget:(b[at']?).getD 0=b[at']:=by rw[List.getElem?_eq_getElem hlt]; rfl
 have hd:decF b at'=if ze8 b[at'].val=0 then(ins0,40) else if b.length-at'<ze8 b[at'].val then(ins0,2) else if b[at'].val=2∧1<(decIn b at' b[at']).a then(ins0,5) else(decIn b at' b[at'],0):=by
  rw[decF,if_neg h1,if_neg h2,hget]
 rw[hd]
 clear hd hget
 generalize b[at']=op at *
 have hsz:=sizeOp_le op.val
 have hso:ze8 op.val≠0→ze8 op.val=1+(wid op.val).1+(wid op.val).2:=fun h=>by
  unfold ze8 at h ⊢; split
  ·rename_i h'; rw[if_pos h'] at h; exact absurd rfl h
  ·rfl
 have hwl:=wid_le op.val
 have wS:IntKind.wrap .i64 ((b.length:Int)-at')=(b.length:Int)-at':=zb7 (by omega) (by omega)
 have b0:(0:Int)≤at'∧(at':Int)<b.length:=by omega
 simp -implicitDefEqProofs only[go_sem,hT,zb3,za7,za4,zb0,n1,n2,g0,q1,q2,hR,eT,eT_len]
 refine⟨b0, ?_⟩
 refine za3 (refSize74 op) ?_
 by_cases h3:ze8 op.val=0
 ·have q3:((ze8 op.val:Int)=0)=True:=by simp; omega
  rw[if_pos h3]
  simp -implicitDefEqProofs only[go_sem,hT,n1,n2,q3,bXfaD0]
  all_goals exact DLe.refl _
 have q3:((ze8 op.val:Int)=0)=False:=by simp; omega
 rw[if_neg h3]
 by_cases h4:b.length-at'<ze8 op.val
 ·have q4:((b.length:Int)-at'<ze8 op.val)=True:=by simp; omega
  rw[if_pos h4]
  simp -implicitDefEqProofs only[go_sem,hT,n1,n2,q3,wS,q4,bXfaD0]
  all_goals exact DLe.refl _
 have q4:((b.length:Int)-at'<ze8 op.val)=False:=by simp; omega
 rw[if_neg h4]
 have hs:=hso h3
 have w1:IntKind.wrap .i64 ((at':Int)+1)=((at'+1:Nat):Int):=by rw[zb7 (by omega) (by omega)]; simp
 have w2:IntKind.wrap .i64 (((at'+1:Nat):Int)+(wid op.val).1)=((at'+1+(wid op.val).1:Nat):Int):=by rw[zb7 (by omega) (by omega)]; simp
 have t1:=refTake64 (b.drop (at'+1)) .no (wid op.val).1 hwl.1 (by rw[List.length_drop]; omega)
 have t2:=refTake64 (b.drop (at'+1+(wid op.val).1)) .no (wid op.val).2 (by omega) (by rw[List.length_drop]; omega)
 have b1:(0:Int)≤((at'+1:Nat):Int)∧((at'+1:Nat):Int)≤b.length:=by omega
 have b2:(0:Int)≤((at'+1+(wid op.val).1:Nat):Int)∧((at'+1+(wid op.val).1:Nat):Int)≤b.length:=by omega
 obtain⟨A,hA⟩:∃A,opdB ((b.drop (at'+1)).take (wid op.val).1)=A:=⟨_,rfl⟩
 obtain⟨B,hB⟩:∃B,opdB ((b.drop (at'+1+(wid op.val).1)).take (wid op.val).2)=B:=⟨_,rfl⟩
 have hdi:decIn b at' op=⟨at',op,A,B⟩:=by rw[decIn,hA,hB]
 rw[hdi]
 rw[hA] at t1
 rw[hB] at t2
 simp -implicitDefEqProofs only[go_sem,hT,zb3,za7,za4,zb0,n1,n2,q3,wS,q4]
 refine za3 (wide113 op) ?_
 simp -implicitDefEqProofs only[go_sem,hT,zb3,za7,za4,zb0,n1,n2,w1,w2,rws_take,rws_drop,List.take_length]
 refine⟨⟨by omega,rows_len eT_len b⟩,za3 t1 ?_⟩
 simp -implicitDefEqProofs only[go_sem,hT,zb3,za7,za4,zb0,n1,n2,w1,w2,rws_take,rws_drop,List.take_length]
 refine⟨⟨by omega,rows_len eT_len b⟩,za3 t2 ?_⟩
 have j2:(eIn ⟨at',op,A,B⟩)[2]? =some (.int .i64 A):=rfl
 simp -implicitDefEqProofs only[go_sem,hT,zb3,za7,za4,zb0,n1,n2]
 intro b11 m1 m2 m3 m4
 have hfold:[D.int .i64 at',D.int .u8 op.val,D.int .i64 A,D.int .i64 B]=eIn ⟨at',op,A,B⟩:=rfl
 by_cases h5:op.val=2
 ·have q5:((op.val:Int)=2)=True:=by simp; omega
  by_cases h6:1<A
  ·have q6:(1<A)=True:=by simp[h6]
   rw[if_pos ⟨h5,h6⟩]
   simp -implicitDefEqProofs only[go_sem,hT,n1,n2,m1,m2,m3,m4,q5,q6,hfold,j2,bXfaD1]
   all_goals exact DLe.refl _
  ·have q6:(1<A)=False:=by simp; omega
   rw[if_neg (fun h=>h6 h.2)]
   simp -implicitDefEqProofs only[go_sem,hT,n1,n2,m1,m2,m3,m4,q5,q6,hfold,j2,bXfaD1]
   all_goals exact DLe.refl _
 ·have q5:((op.val:Int)=2)=False:=by simp; omega
  rw[if_neg (fun h=>h5 h.1)]
  simp -implicitDefEqProofs only[go_sem,hT,n1,n2,m1,m2,m3,m4,q5,hfold,j2,bXfaD1]
  all_goals exact DLe.refl _
open Go.Proofs
theorem eIn_drop4 (i:Ins):(eIn i).drop 4=[]:=rfl
def bXfaE0:=aI @zb3 (aI @za7 (aI @eIn_drop4 (aI @anD (aI @za4 (aI @zb0 @eIn_zero)))))
def bXfaE1:=aI @zb3 (aI @za7 (aI @eIn_drop4 (aI @anD (aI @za4 (aI @zb0 @eT_len)))))
def bXfaE2:=aI @zb3 (aI @za7 (aI @eIn_drop4 (aI @anD (aI @za4 (aI @zb0 @gdD)))))
theorem decode82 (b:List Ty) (o:Own) (at':Nat) (hl:b.length≤140737488355328) (ha:at'≤140737488355328):PCall Tryz.prog 44 [.slice o (rws eT b),.int .i64 at'] (.tup [.agg (eIn (decF b at').1),.int .i64 (decF b at').2]):=by
 have g0:((at':Int)<0)=False:=by simp
 refine F44.pcall' rfl fun T hT=> ?_
 simp -implicitDefEqProofs only[go_sem,c44,hT,bXfaE0]
 intro b4 b6 n1 n2
 by_cases h1:b.length<at'
 ·have q1:((b.length:Int)<at')=True:=by simp; omega
  rw[decF,if_pos h1]
  simp -implicitDefEqProofs only[go_sem,hT,n1,n2,g0,q1,bXfaE0]
  all_goals exact DLe.refl _
 have q1:((b.length:Int)<at')=False:=by simp; omega
 by_cases h2:b.length=at'
 ·have q2:((at':Int)=b.length)=True:=by simp; omega
  rw[decF,if_neg h1,if_pos h2]
  simp -implicitDefEqProofs only[go_sem,hT,n1,n2,g0,q1,q2,bXfaE0]
  all_goals exact DLe.refl _
 have q2:((at':Int)=b.length)=False:=by simp; omega
 have hlt:at'<b.length:=by omega
 have hR:(rws eT b)[at']?.getD []=eT b[at']:=rws_at hlt
 have hget:(b[at']?).getD 0=b[at']:=by rw[List.getElem?_eq_getElem hlt]; rfl
 have hd:decF b at'=if ze8 b[at'].val=0 then(ins0,40) else if b.length-at'<ze8 b[at'].val then(ins0,2) else if b[at'].val=2∧1<(decIn b at' b[at']).a then(ins0,5) else(decIn b at' b[at'],0):=by
  rw[decF,if_neg h1,if_neg h2,hget]
 rw[hd]
 clear hd hget
 generalize b[at']=op at *
 have hsz:=sizeOp_le op.val
 have hso:ze8 op.val≠0→ze8 op.val=1+(wid op.val).1+(wid op.val).2:=fun h=>by
  unfold ze8 at h ⊢; split
  ·rename_i h'; rw[if_pos h'] at h; exact absurd rfl h
  ·rfl
 have hwl:=wid_le op.val
 have wS:IntKind.wrap .i64 ((b.length:Int)-at')=(b.length:Int)-at':=zb7 (by omega) (by omega)
 have b0:(0:Int)≤at'∧(at':Int)<b.length:=by omega
 simp -implicitDefEqProofs only[go_sem,hT,n1,n2,g0,q1,q2,hR,eT,bXfaE1]
 refine⟨b0, ?_⟩
 refine za3 (size125 op) ?_
 by_cases h3:ze8 op.val=0
 ·have q3:((ze8 op.val:Int)=0)=True:=by simp; omega
  rw[if_pos h3]
  simp -implicitDefEqProofs only[go_sem,hT,n1,n2,q3,bXfaE0]
  all_goals exact DLe.refl _
 have q3:((ze8 op.val:Int)=0)=False:=by simp; omega
 rw[if_neg h3]
 by_cases h4:b.length-at'<ze8 op.val
 ·have q4:((b.length:Int)-at'<ze8 op.val)=True:=by simp; omega
  rw[if_pos h4]
  simp -implicitDefEqProofs only[go_sem,hT,n1,n2,q3,wS,hR,eT,bXfaE1]
  refine⟨b0,za3 (size125 op) ?_⟩
  simp -implicitDefEqProofs only[go_sem,hT,n1,n2,q4,bXfaE0]
  all_goals exact DLe.refl _
 have q4:((b.length:Int)-at'<ze8 op.val)=False:=by simp; omega
 rw[if_neg h4]
 have hs:=hso h3
 have w1:IntKind.wrap .i64 ((at':Int)+1)=((at'+1:Nat):Int):=by rw[zb7 (by omega) (by omega)]; simp
 have b1:(0:Int)≤((at'+1:Nat):Int)∧((at'+1:Nat):Int)≤b.length:=by omega
 obtain⟨A,hA⟩:∃A,opdB ((b.drop (at'+1)).take (wid op.val).1)=A:=⟨_,rfl⟩
 obtain⟨B,hB⟩:∃B,opdB ((b.drop (at'+1+(wid op.val).1)).take (wid op.val).2)=B:=⟨_,rfl⟩
 have hdi:decIn b at' op=⟨at',op,A,B⟩:=by rw[decIn,hA,hB]
 rw[hdi]
 have t1:=fun bb o=>take127 (b.drop (at'+1)) o (wid op.val).1 bb (wid_vals op.val).1 (by rw[List.length_drop]; omega)
 have t2:=fun bb o=>take127 (b.drop (at'+1+(wid op.val).1)) o (wid op.val).2 bb (by have:=(wid_vals op.val).2; omega) (by rw[List.length_drop]; omega)
 rw[List.drop_drop] at t1
 rw[hA] at t1
 rw[hB] at t2
 simp -implicitDefEqProofs only[go_sem,hT,n1,n2,q3,wS,hR,eT,bXfaE1]
 refine⟨b0,za3 (size125 op) ?_⟩
 simp -implicitDefEqProofs only[go_sem,hT,n1,n2,q4,hR,eT,bXfaE1]
 refine⟨b0,fun b7 m1 m2 m3 m4=> ?_⟩
 simp -implicitDefEqProofs only[go_sem,hT,zb3,za7,eIn_drop4,anD,za4,zb0,n1,n2,m1,m2,m3,m4,w1,rws_take,rws_drop,List.take_length]
 refine⟨⟨by omega,rows_len eT_len b⟩,fun b8 k1 k2 k3 k4 k5 k6=> ?_⟩
 simp -implicitDefEqProofs only[go_sem,hT,n1,n2,m1,m2,m3,m4,k1,k2,k3,k4,k5,k6,bXfaE2]
 refine za3 (widths152 op) ?_
 simp -implicitDefEqProofs only[go_sem,hT,zb3,za7,eIn_drop4,anD,za4,zb0,n1,n2,m1,m2,m3,m4,k1,k2,k3,k4,k5,k6]
 refine callB_box (b:=b8) (by simp[St.set]) rfl (t1 b8 .no) ?_
 simp -implicitDefEqProofs only[go_sem,hT,n1,n2,m1,m2,m3,m4,k1,k2,k3,k4,k5,k6,bXfaE2]
 refine callB_box (b:=b8) (by simp[St.set,k1]) rfl (t2 b8 .no) ?_
 simp -implicitDefEqProofs only[go_sem,hT,n1,n2,m1,m2,m3,m4,k1,k2,k3,k4,k5,k6,bXfaE2]
 by_cases h5:op.val=2
 ·have q5:((op.val:Int)=2)=True:=by simp; omega
  by_cases h6:1<A
  ·have q6:(1<A)=True:=by simp[h6]
   rw[if_pos ⟨h5,h6⟩]
   simp -implicitDefEqProofs only[go_sem,hT,n1,n2,m1,m2,m3,m4,k1,k2,k3,k4,k5,k6,q5,q6,bXfaE2]
   all_goals exact DLe.refl _
  ·have q6:(1<A)=False:=by simp; omega
   rw[if_neg (fun h=>h6 h.2)]
   simp -implicitDefEqProofs only[go_sem,hT,n1,n2,m1,m2,m3,m4,k1,k2,k3,k4,k5,k6,q5,q6,bXfaE2]
   all_goals exact DLe.refl _
 ·have q5:((op.val:Int)=2)=False:=by simp; omega
  rw[if_neg (fun h=>h5 h.1)]
  simp -implicitDefEqProofs only[go_sem,hT,n1,n2,m1,m2,m3,m4,k1,k2,k3,k4,k5,k6,q5,bXfaE2]
  all_goals exact DLe.refl _
open Go.Proofs
structure Ey where
 pos:Int
 dead:Bool
 fr:Fr
def eEy (e:Ey):List D:= .int .i64 e.pos:: .bool e.dead::eFr e.fr
theorem ze9 (e:Ey):(eEy e).length=28:=by simp[eEy,za6]
theorem ze6 (e:Ey):(eEy e).take 28=eEy e:=List.take_of_length_le (by rw[ze9]; exact Nat.le_refl _)
theorem ey_0 (e:Ey):(eEy e)[0]? =some (.int .i64 e.pos):=rfl
def bt (b:List Ty) (i:Nat):Nat:=((b[i]?).getD 0).val
def word2 (b:List Ty) (p:Nat):Nat:=256*bt b p+bt b (p+1)
def headD (b:List Ty):Nat×Nat:=
 if b.length=0∨bt b 0=112∧b.length=1∨bt b 0=112∧bt b 1=118∧b.length=2 then(b.length,2)
 else if bt b 0≠112 then(0,64)
 else if bt b 1≠118 then(1,64)
 else if bt b 2≠1 then(2,64)
 else if b.length<6 then(b.length,2)
 else if 16<bt b 3 then(3,5)
 else if 4096<word2 b 4 then(4,4)
 else(0,0)
open Go.Proofs
open Go.Proofs
open Go.Proofs
open Go.Proofs
theorem nilc_p {r o:Nat}:nilcD (.ptr r o)=some (.ptr r o):=rfl
open Go.Proofs
open Go.Proofs
end Go.AL
namespace Go.AL
def psOf (e:En):List Ty:=((e.sgs[e.fn.toNat]?).map (·.ps)).getD []
end Go.AL
namespace Go.AL
theorem decF_ok {b:List Ty} {p:Nat} (h:(decF b p).2=0):p<b.length∧(decF b p).1=decIn b p ((b[p]?).getD 0)∧1≤ze8 (decF b p).1.op.val∧p+ze8 (decF b p).1.op.val≤b.length:=by
 unfold decF at h ⊢
 split; · rename_i h1; rw[if_pos h1] at h; simp at h
 rename_i h1; rw[if_neg h1] at h
 split; · rename_i h2; rw[if_pos h2] at h; simp at h
 rename_i h2; rw[if_neg h2] at h
 split; · rename_i h3; rw[if_pos h3] at h; simp at h
 rename_i h3; rw[if_neg h3] at h
 split; · rename_i h4; rw[if_pos h4] at h; simp at h
 rename_i h4; rw[if_neg h4] at h
 split; · rename_i h5; rw[if_pos h5] at h; simp at h
 refine⟨by omega,rfl, ?_, ?_⟩
 ·show 1≤ze8 ((b[p]?).getD 0).val; omega
 ·show p+ze8 ((b[p]?).getD 0).val≤b.length; omega
open Go.Proofs
structure IS where
 has:List Bool
 fr:List Fr
 fresh:List Bool
 tk:List Nat
def onD (i:Ins) (n:Nat):List Int×Nat:=
 let behind:Int:=i.pos+ze8 i.op.val
 if jumpsB i.op.val=true∧(n:Int)≤i.a then([],50)
 else if endsB i.op.val=false∧behind=n then([],51)
 else((if jumpsB i.op.val=true∧(endsB i.op.val=true∨i.a<behind) then [i.a] else [])++(if endsB i.op.val=false then [behind] else [])++
  (if jumpsB i.op.val=true∧endsB i.op.val=false∧behind<i.a then [i.a] else []),0)
def overB (tk:List Nat) (a size:Nat):Bool:=(List.range tk.length).any fun x=>decide (0<(tk[x]?).getD 0∧x≠a∧a<x+(tk[x]?).getD 0∧x<a+size)
def handD (l:List Cl) (s:IS) (a:Nat) (f:Fr):IS×Nat:=
 if(s.has[a]?).getD false=false then(⟨s.has.set a true,s.fr.set a f,s.fresh.set a true,s.tk⟩,0)
 else if(mergeF l ((s.fr[a]?).getD (fr0 0)) f).2≠0 then(s,(mergeF l ((s.fr[a]?).getD (fr0 0)) f).2)
 else if(mergeF l ((s.fr[a]?).getD (fr0 0)) f).1≠(s.fr[a]?).getD (fr0 0) then(⟨s.has,s.fr.set a (mergeF l ((s.fr[a]?).getD (fr0 0)) f).1,s.fresh.set a true,s.tk⟩,0)
 else(s,0)
def handsD (l:List Cl) (f:Fr):List Int→IS→IS×Int×Nat
 |[],s=>(s,0,0)
 |a::r,s=>if(handD l s a.toNat f).2≠0 then((handD l s a.toNat f).1,a,(handD l s a.toNat f).2) else handsD l f r (handD l s a.toNat f).1
def roundD (e:En) (b:List Ty) (s:IS) (a:Nat):IS×Int×Nat:=
 let s1:IS:={s with fresh:=s.fresh.set a false}
 if a=b.length then(s1,a,51)
 else if(decF b a).2≠0 then(s1,a,(decF b a).2)
 else if overB s.tk a (ze8 (decF b a).1.op.val)=true then(s1,a,80)
 else
  let s2:IS:={s1 with tk:=s.tk.set a (ze8 (decF b a).1.op.val)}
  if(applyR e ((s.fr[a]?).getD (fr0 0)) (decF b a).1).2≠0 then(s2,a,(applyR e ((s.fr[a]?).getD (fr0 0)) (decF b a).1).2)
  else if(onD (decF b a).1 b.length).2≠0 then(s2,a,(onD (decF b a).1 b.length).2)
  else handsD e.cs (applyR e ((s.fr[a]?).getD (fr0 0)) (decF b a).1).1 (onD (decF b a).1 b.length).1 s2
def leastD (l:List Bool):Int:=match l.findIdx? id with|some i=>i|none=> -1
open Go.Proofs
def c52:CT (Tryz.f52.body.getD .skip):=⟨_,by conv=>lhs; cbv⟩
theorem F52:Fun1 Tryz.prog 52 17 c52.1 [.tmp 2]:=mkT Tryz.func52 rfl (by decide +kernel) Tryz.ntmps52 rfl c52.2 rfl
def c53:CT (Tryz.f53.body.getD .skip):=⟨_,by conv=>lhs; cbv⟩
theorem F53:Fun1 Tryz.prog 53 97 c53.1 [.tmp 8,.tmp 9]:=mkT Tryz.func53 rfl (by decide +kernel) Tryz.ntmps53 rfl c53.2 rfl
def c78:CT (Tryz.f78.body.getD .skip):=⟨_,by conv=>lhs; cbv⟩
theorem F78:Fun1 Tryz.prog 78 44 c78.1 [.tmp 6]:=mkT Tryz.func78 rfl (by decide +kernel) Tryz.ntmps78 rfl c78.2 rfl
def c79:CT (Tryz.f79.body.getD .skip):=⟨_,by conv=>lhs; cbv⟩
theorem F79:Fun1 Tryz.prog 79 73 c79.1 [.tmp 4,.tmp 5]:=mkT Tryz.func79 rfl (by decide +kernel) Tryz.ntmps79 rfl c79.2 rfl
def c80:AC:=
.seq (rg [oO 4 (.box 111 (tT 0)),oO 7 (.box 38 (tT 3)),oO 8 (.assign (kI 0))])
 (.seq (.seq (rg [oO 11 (.fieldAddr 111 (tT 4) 0),oO 12 (.load 99 (tT 11)),oO 13 (.move (tT 2)),oO 14 (.indexAddr 99 (tT 12) (tT 13)),oO 15 (.load 4 (tT 14)),oO 16 (.unOp .not 4 (tT 15))])
 (.cond (tT 16) (.seq (.seq (.reg true [4,7] [⟨⟨some 17,.fieldAddr 111 (tT 4) 0,none⟩,false,true⟩,⟨⟨some 18,.load 99 (tT 17),none⟩,false,true⟩,⟨⟨some 19,.move (tT 2),none⟩,false,true⟩,⟨⟨some 20,.fieldAddr 111 (tT 4) 1,none⟩,true,true⟩,⟨⟨some 21,.load 109 (tT 20),none⟩,true,true⟩,⟨⟨some 22,.move (tT 2),none⟩,true,true⟩,⟨⟨some 23,.fieldAddr 111 (tT 4) 2,none⟩,true,true⟩,⟨⟨some 24,.load 99 (tT 23),none⟩,true,true⟩,⟨⟨some 25,.move (tT 2),none⟩,true,true⟩,⟨⟨some 26,.load 38 (tT 7),none⟩,true,true⟩,oO 27 (.indexAddr 99 (tT 18) (tT 19)),oN (.store 4 (tT 27) (.const (.bool true))),oO 28 (.indexAddr 109 (tT 21) (tT 22)),oN (.store 38 (tT 28) (tT 26))])
 (rg [oO 29 (.indexAddr 99 (tT 24) (tT 25)),oN (.store 4 (tT 29) (.const (.bool true)))]))
 (.seq (rg [oO 8 (.assign (kI 0))])
 (.ret)))
 (.skip)))
 (.seq (.reg true [] [⟨⟨some 31,.move (tT 1),none⟩,false,true⟩,⟨⟨some 32,.fieldAddr 111 (tT 4) 1,none⟩,false,true⟩,⟨⟨some 33,.load 109 (tT 32),none⟩,false,true⟩,⟨⟨some 34,.move (tT 2),none⟩,false,true⟩,⟨⟨some 35,.indexAddr 109 (tT 33) (tT 34),none⟩,false,true⟩,⟨⟨some 36,.load 38 (tT 35),none⟩,false,true⟩,⟨⟨some 37,.load 38 (tT 7),none⟩,false,true⟩,⟨⟨some 38,cF (.func 107) #[tT 31,tT 36,tT 37] #[22,38,38],none⟩,false,true⟩,⟨⟨some 30,.move (tT 38),none⟩,false,true⟩,⟨⟨some 39,.extract (tT 30) 0,none⟩,false,true⟩,⟨⟨some 40,.extract (tT 30) 1,none⟩,true,true⟩,⟨⟨some 9,.alloc 38,none⟩,true,false⟩,oN (.store 38 (tT 9) (tT 39)),oO 10 (.assign (tT 40))])
 (.seq (.seq (rg [oO 41 (.move (tT 10)),oO 42 (.binOp .neq 31 (tT 41) (kI 0) 31)])
 (.cond (tT 42) (.seq (rg [oO 43 (.move (tT 10)),oO 8 (.assign (tT 43))])
 (.ret))
 (.skip)))
 (.seq (.seq (.reg true [] [⟨⟨some 44,.load 38 (tT 9),none⟩,false,true⟩,⟨⟨some 45,.fieldAddr 111 (tT 4) 1,none⟩,false,true⟩,⟨⟨some 46,.load 109 (tT 45),none⟩,false,true⟩,oO 47 (.move (tT 2)),oO 48 (.indexAddr 109 (tT 46) (tT 47)),oO 49 (.load 38 (tT 48)),oO 50 (.binOp .neq 38 (tT 44) (tT 49) 38)])
 (.cond (tT 50) (.seq (.reg true [4] [⟨⟨some 51,.fieldAddr 111 (tT 4) 1,none⟩,false,true⟩,⟨⟨some 52,.load 109 (tT 51),none⟩,false,true⟩,⟨⟨some 53,.move (tT 2),none⟩,false,true⟩,⟨⟨some 54,.fieldAddr 111 (tT 4) 2,none⟩,true,true⟩,⟨⟨some 55,.load 99 (tT 54),none⟩,true,true⟩,⟨⟨some 56,.move (tT 2),none⟩,true,true⟩,oO 57 (.load 38 (tT 9)),oO 58 (.indexAddr 109 (tT 52) (tT 53)),oN (.store 38 (tT 58) (tT 57))])
 (rg [oO 59 (.indexAddr 99 (tT 55) (tT 56)),oN (.store 4 (tT 59) (.const (.bool true)))]))
 (.skip)))
 (.seq (rg [oO 8 (.assign (kI 0))])
 .ret)))))
theorem F80:Fun1 Tryz.prog 80 60 c80 [.tmp 8]:=mkT Tryz.func80 rfl (by decide +kernel) Tryz.ntmps80 rfl (by kernel_rfl) rfl
open Go.Proofs
def eN (n:Nat):List D:=[.int .i64 n]
open Go.Proofs
def fl {α:Type} (enc:α→List D) (xs:List α):List D:=(rws enc xs).flatten
section
variable {α : Type} {enc : α → List D} {s : Nat}
theorem fl_nil:fl enc []=[]:=rfl
theorem fl_cons (x:α) (xs:List α):fl enc (x::xs)=enc x++fl enc xs:=rfl
theorem fl_app (xs ys:List α):fl enc (xs++ys)=fl enc xs++fl enc ys:=by simp[fl,rws]
theorem fl_len (h:∀x,(enc x).length=s):∀xs:List α,(fl enc xs).length=xs.length*s
 |[]=>by simp[fl_nil]
 |x::xs=>by rw[fl_cons,List.length_append,h,fl_len h xs,List.length_cons,Nat.add_mul,Nat.one_mul,Nat.add_comm]
theorem fl_parts (h:∀x,(enc x).length=s) {xs:List α} {i:Nat} (hi:i<xs.length):fl enc xs=fl enc (xs.take i)++(enc xs[i]++fl enc (xs.drop (i+1)))∧(fl enc (xs.take i)).length=i*s:=by
 refine⟨?_,by rw[fl_len h,List.length_take,Nat.min_eq_left (by omega)]⟩
 rw[←fl_cons,←fl_app]
 congr 1
 rw[List.getElem_cons_drop,List.take_append_drop]
theorem fl_at (h:∀x,(enc x).length=s) {xs:List α} {i:Nat} (hi:i<xs.length):((fl enc xs).drop (i*s)).take s=enc xs[i]:=by
 obtain⟨h1,h2⟩:=fl_parts h hi
 rw[h1,List.drop_left' h2,List.take_left' (h _)]
theorem fl_set (h:∀x,(enc x).length=s) {xs:List α} {i:Nat} (hi:i<xs.length) (y:α):(fl enc xs).take (i*s)++enc y++(fl enc xs).drop (i*s+s)=fl enc (xs.set i y):=by
 obtain⟨h1,h2⟩:=fl_parts h hi
 have h3:(fl enc xs).take (i*s)=fl enc (xs.take i):=by rw[h1,List.take_left' h2]
 have h4:(fl enc xs).drop (i*s+s)=fl enc (xs.drop (i+1)):=by rw[h1,←List.drop_drop,List.drop_left' h2,List.drop_left' (h _)]
 rw[h3,h4,List.append_assoc,←fl_cons,←fl_app,List.set_eq_take_append_cons_drop,if_pos hi]
end
def eBo (b:Bool):List D:=[.bool b]
theorem fl_bo (xs:List Bool):fl eBo xs=xs.map .bool:=by induction xs with|nil=>rfl|cons x xs ih=>rw[fl_cons,ih]; rfl
theorem fl_boAt {xs:List Bool} {i:Nat} (h:i<xs.length):(fl eBo xs)[i]? =some (.bool ((xs[i]?).getD false)):=by
 rw[fl_bo,List.getElem?_map,List.getElem?_eq_getElem h]; rfl
theorem fl_eN (xs:List Nat):fl eN xs=xs.map fun n:Nat=>D.int .i64 n:=by induction xs with|nil=>rfl|cons x xs ih=>rw[fl_cons,ih]; rfl
theorem fl_eNAt {xs:List Nat} {i:Nat} (h:i<xs.length):(fl eN xs)[i]? =some (.int .i64 (((xs[i]?).getD 0:Nat):Int)):=by
 rw[fl_eN,List.getElem?_map,List.getElem?_eq_getElem h]; rfl
structure QB where
 a:Nat
 b:Nat
 c:Nat
 d:Nat
structure QB.ne (q:QB):Prop where
 ab:q.a≠q.b
 ac:q.a≠q.c
 ad:q.a≠q.d
 bc:q.b≠q.c
 bd:q.b≠q.d
 cd:q.c≠q.d
def stD (q:QB) (m:Nat):List D:=[.bsl q.a 0 m m,.bsl q.b 0 m m,.bsl q.c 0 m m,.bsl q.d 0 m m]
def stI (q:QB) (s:IS):St:=(((({}:St).set q.a (fl eBo s.has)).set q.b (fl eFr s.fr)).set q.c (fl eBo s.fresh)).set q.d (fl eN s.tk)
section
variable {q : QB} {s : IS}
theorem stI_a (h:q.ne):(stI q s).box q.a=some (fl eBo s.has):=by simp[stI,St.set,h.ab,h.ac,h.ad]
theorem stI_b (h:q.ne):(stI q s).box q.b=some (fl eFr s.fr):=by simp[stI,St.set,h.bc,h.bd]
theorem stI_c (h:q.ne):(stI q s).box q.c=some (fl eBo s.fresh):=by simp[stI,St.set,h.cd]
theorem stI_d:(stI q s).box q.d=some (fl eN s.tk):=by simp[stI,St.set]
theorem stI_has {x:Nat}:(stI q s).has x↔x=q.a∨x=q.b∨x=q.c∨x=q.d:=by
 simp only[stI,set_has]
 have:=St.not_has_nil x
 constructor
 ·rintro(h|h|h|h|h)
  ·exact .inr (.inr (.inr h))
  ·exact .inr (.inr (.inl h))
  ·exact .inr (.inl h)
  ·exact .inl h
  ·exact absurd h this
 ·rintro(h|h|h|h)
  ·exact .inr (.inr (.inr (.inl h)))
  ·exact .inr (.inr (.inl h))
  ·exact .inr (.inl h)
  ·exact .inl h
theorem stI_ne {x:Nat} (h:¬(stI q s).has x):¬x=q.a∧¬x=q.b∧¬x=q.c∧¬x=q.d:=
 ⟨fun e=>h (stI_has.2 (.inl e)),fun e=>h (stI_has.2 (.inr (.inl e))),fun e=>h (stI_has.2 (.inr (.inr (.inl e)))),fun e=>h (stI_has.2 (.inr (.inr (.inr e))))⟩
end
structure IS.sz (s:IS) (m:Nat):Prop where
 a:s.has.length=m
 b:s.fr.length=m
 c:s.fresh.length=m
 d:s.tk.length=m
theorem least_at {l:List Bool} {k:Nat} (h:k<l.length) (hk:(l[k]?).getD false=true) (hb:∀j<k,(l[j]?).getD false=false):leastD l=k:=by
 unfold leastD
 have:l.findIdx? id=some k:=by
  rw[List.findIdx?_eq_some_iff_getElem]
  refine⟨h,by simpa[h] using hk,fun j hj=> ?_⟩
  have:=hb j hj
  rw[List.getElem?_eq_getElem (by omega)] at this
  simpa using this
 rw[this]
theorem least_no {l:List Bool} (hb:∀j<l.length,(l[j]?).getD false=false):leastD l= -1:=by
 unfold leastD
 have:l.findIdx? id=none:=by
  rw[List.findIdx?_eq_none_iff]
  intro x hx
  obtain⟨j,hj,rfl⟩:=List.mem_iff_getElem.1 hx
  have:=hb j hj
  rw[List.getElem?_eq_getElem hj] at this
  simpa using this
 rw[this]
theorem least68 (q:QB) (h:q.ne) (s:IS) (m:Nat) (hs:s.sz m) (hm:m≤5000):RCall Tryz.prog 52 [.agg (stD q m)] (stI q s) fun d s'=>d= .int .i64 (leastD s.fresh)∧s'=stI q s:=by
 have kc:=stI_c (s:=s) h
 refine F52.rcall rfl fun T hT=> ?_
 simp -implicitDefEqProofs only[go_sem,c52,hT,stD]
 intro b1 hb1
 obtain⟨n1,n2,n3,n4⟩:=stI_ne hb1
 have k1:((stI q s).set b1 [.bsl q.a 0 m m,.bsl q.b 0 m m,.bsl q.c 0 m m,.bsl q.d 0 m m]).box q.c=some (fl eBo s.fresh):=by rw[St.set_box,if_neg (Ne.symm n3)]; exact kc
 refine loopL F52 (fun i:Nat=>[(1,.ptr b1 0),(3,.int .i64 i)]) (fun _=>(stI q s).set b1 [.bsl q.a 0 m m,.bsl q.b 0 m m,.bsl q.c 0 m m,.bsl q.d 0 m m]) (fun i=>i≤m∧∀j<i,(s.fresh[j]?).getD false=false) (fun i=>m-i) 0 ⟨by omega,by omega⟩ ?_ (St.le.refl _) ?_
 ·simp -implicitDefEqProofs only[go_sem,hT,Int.ofNat_zero]
 clear hT T
 intro i ⟨hi,hl⟩ T hT
 by_cases h1:i<m
 ·have h2:((i:Int)<m)=True:=eq_true (by omega)
  have hx:=fl_boAt (xs:=s.fresh) (i:=i) (by rw[hs.c]; exact h1)
  have hnext:IntKind.wrap .i64 ((i:Int)+1)=((i+1:Nat):Int):=by rw[zb7 (by omega) (by omega)]; simp
  cases hf:(s.fresh[i]?).getD false
  ·simp -implicitDefEqProofs only[go_sem,hT,h2,k1,hx,hf,hnext,n1,n2,n3,n4,Ne.symm n1,Ne.symm n2,Ne.symm n3,Ne.symm n4,gdD,Nat.mul_one,Nat.add_zero,Nat.zero_add]
   refine⟨by omega,i+1,⟨by omega,fun j hj=> ?_⟩,by omega,rfl,St.le.refl _⟩
   rcases Nat.lt_succ_iff_lt_or_eq.1 hj with h|rfl
   ·exact hl j h
   ·exact hf
  ·simp -implicitDefEqProofs only[go_sem,hT,h2,k1,hx,hf,hnext,n1,n2,n3,n4,Ne.symm n1,Ne.symm n2,Ne.symm n3,Ne.symm n4,gdD,Nat.mul_one,Nat.add_zero,Nat.zero_add]
   exact⟨by omega,_,_,DLe.refl _,le_add hb1,by rw[least_at (by rw[hs.c]; exact h1) hf hl],rfl⟩
 ·have h2:((i:Int)<m)=False:=eq_false (by omega)
  simp -implicitDefEqProofs only[go_sem,hT,h2,k1,n1,n2,n3,n4,Ne.symm n1,Ne.symm n2,Ne.symm n3,Ne.symm n4]
  exact⟨_,_,DLe.refl _,le_add hb1,by rw[least_no (fun j hj=>hl j (by rw[hs.c] at hj; omega))],rfl⟩
end Go.AL
