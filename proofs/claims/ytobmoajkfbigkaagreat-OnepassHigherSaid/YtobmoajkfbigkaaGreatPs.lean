import Derived.Test.YtobmoajkfbigkaaGreatPr
import Derived.Test.YtobmoajkfbigkaaGreatPq
import Derived.Test.YtobmoajkfbigkaaGreatPi
import Derived.Test.YtobmoajkfbigkaaGreatPj
import Derived.Test.YtobmoajkfbigkaaGreatPl
import Derived.Test.YtobmoajkfbigkaaGreatPk
import Derived.Test.YtobmoajkfbigkaaGreatPe
set_option linter.unusedSimpArgs false
set_option linter.unusedVariables false
set_option maxRecDepth 100000
set_option maxHeartbeats 4000000
set_option linter.defProp false
namespace Go.AL
open Go.Proofs
theorem can_sig {e:En} (h:canB e=true):∃hs:e.fn.toNat<e.sgs.length,0≤e.fn∧psOf e=e.sgs[e.fn.toNat].ps∧(psOf e).length≤8∧∀t∈psOf e,storedN e.cs.length t=true:=by
 unfold canB at h
 simp only[Bool.and_eq_true,decide_eq_true_eq,List.all_eq_true] at h
 obtain⟨⟨h1,h2,h3,h4⟩,h5⟩:=h
 have hs:e.fn.toNat<e.sgs.length:=by omega
 have hp:psOf e=e.sgs[e.fn.toNat].ps:=by unfold psOf; rw[List.getElem?_eq_getElem hs]; rfl
 have:=h5 _ (List.getElem_mem hs)
 unfold sigMayB at this
 simp only[Bool.and_eq_true,decide_eq_true_eq,Bool.not_eq_true',List.any_eq_false] at this
 refine⟨hs,h3,hp,by rw[hp]; exact this.1.1,fun t ht=> ?_⟩
 rw[hp] at ht
 have:=this.1.2 t ht
 simpa using this
theorem start_ok {e:En} {n:Int} (h:canB e=true) (h1:¬n<(psOf e).length) (h2:¬16<n):(startF e.cs.length (psOf e) n).2=0:=by
 obtain⟨_,_,_,h3,h4⟩:=can_sig h
 unfold startF
 rw[if_neg]
 rintro(h|h|h|h|h)
 ·omega
 ·exact h2 h
 ·omega
 ·exact h1 h
 ·simp only[List.any_eq_true,Bool.not_eq_true'] at h
  obtain⟨t,ht,h⟩:=h
  rw[h4 t ht] at h; cases h
theorem can_falls {e:En} (hw:WideE e) (h:canB e=true):Falls e.cs e.cs.length:=by
 unfold canB at h
 simp only[Bool.and_eq_true,decide_eq_true_eq] at h
 exact(check_right h.1.1).falls
theorem ct_len (c:Ct):(eCt c).length=2:=rfl
theorem ct_0 (c:Ct):(eCt c)[0]? =some (.int .i64 c.loc):=rfl
theorem ct_1 (c:Ct):(eCt c)[1]? =some (.slice .no (rws eEy c.es)):=rfl
theorem fr_ta (f:Fr) (r:List D):List.take 26 (eFr f++r)=eFr f:=List.take_left' (za6 f)
theorem fr_da (f:Fr) (r:List D):List.drop 26 (eFr f++r)=r:=List.drop_left' (za6 f)
theorem fr_db (f:Fr) (r:List D):List.drop 27 (eFr f++r)=r.drop 1:=by rw[show 27=26+1 from rfl,←List.drop_drop,fr_da]
theorem fr_la (f:Fr) (r:List D):(eFr f++r).length=26+r.length:=by rw[List.length_append,za6]
def eGh (g:Nat×List Nat):List D:=[.slice .no (rws eN g.2),.int .i64 g.1]
theorem bad_some {e:En} {l:List Ey} {i:Nat} (h:i<l.length) (hn:∀x∈l.take i,(!x.dead&&decide (checkF e.cs.length x.fr≠0))=false) (hb:(!l[i].dead&&decide (checkF e.cs.length l[i].fr≠0))=true):badE e l=some l[i]:=by
 unfold badE
 obtain⟨f,hf⟩:∃f:Ey→Bool,(fun x:Ey=> !x.dead&&decide (checkF e.cs.length x.fr≠0))=f:=⟨_,rfl⟩
 have hz:(l.take i).find? f=none:=find_none fun y hy=>by rw[←hf]; exact hn y hy
 rw[hf]
 have hsplit:l=l.take i++l[i]::l.drop (i+1):=by rw[List.getElem_cons_drop,List.take_append_drop]
 have hx:(l.take i++l[i]::l.drop (i+1)).find? f=some l[i]:=by
  rw[List.find?_append,hz,List.find?_cons_of_pos (by rw[←hf]; exact hb)]; rfl
 exact(congrArg (fun z=>List.find? f z) hsplit).trans hx
theorem late_some {l:List Ey} {i n:Nat} (h:i<l.length) (hn:∀x∈l.take i,¬(n:Int)≤x.pos) (hb:(n:Int)≤l[i].pos):lateE l n=some l[i]:=by
 unfold lateE
 obtain⟨f,hf⟩:∃f:Ey→Bool,(fun x:Ey=>decide ((n:Int)≤x.pos))=f:=⟨_,rfl⟩
 have hz:(l.take i).find? f=none:=find_none fun y hy=>by rw[←hf]; simpa using hn y hy
 rw[hf]
 have hsplit:l=l.take i++l[i]::l.drop (i+1):=by rw[List.getElem_cons_drop,List.take_append_drop]
 have hx:(l.take i++l[i]::l.drop (i+1)).find? f=some l[i]:=by
  rw[List.find?_append,hz,List.find?_cons_of_pos (by rw[←hf]; simpa using hb)]; rfl
 exact(congrArg (fun z=>List.find? f z) hsplit).trans hx
theorem come_no_pos {cs:List Cl} {l:List Ey} {n:Nat} {s:PS} {a:Int} {w:Nat} (h:comeD cs l n s= .no a w):a=s.p:=by
 unfold comeD at h
 split at h
 ·split at h; · cases h
  cases h; rfl
 ·split at h; · cases h; rfl
  split at h; · cases h; rfl
  split at h <;> cases h
theorem ghz {x y:D}:DLe (.tup [.agg [.slice .nil [],.int .i64 0],x,y]) (.tup [.agg (eGh (0,[])),x,y]):=DLe.tup (.cons (DLe.agg (.cons (DLe.slice _ _) (.refl _))) (.refl _))
theorem checkD_some {e:En} {n:Int} {b c:List Ty} {a:Int} {w:Nat} (h:beginD e n b.length c=some (a,w)):checkD e n b c=((0,[]),a,w):=by unfold checkD; rw[h]
def bYgcD0:=aI @ct_len (aI @ct_0 (aI @ct_1 (aI @zb4 (aI @za9 (aI @zb0 (aI @za6 (aI @za4 (aI @za7 (aI @zb6 (aI @za8 (aI @anD (aI @za2 (aI @ey_0 (aI @ey_1 (aI @ey_d2 (aI @zc2 (aI @gdD (aI @ldD @za5))))))))))))))))))
def bYgcD1:=aI @ct_len (aI @ct_0 (aI @ct_1 (aI @zb4 (aI @za9 (aI @zb0 (aI @za6 (aI @za4 (aI @za7 (aI @zb6 (aI @za8 (aI @anD (aI @za2 (aI @ey_0 (aI @ey_1 (aI @ey_d2 (aI @zc2 (aI @gdD (aI @ldD (aI @za5 @Int.ofNat_zero)))))))))))))))))))
def bYgcD2:=aI @q_len (aI @q_0 (aI @q_3 (aI @q_4 (aI @q_5 (aI @q_32 (aI @q_33 (aI @q_34 (aI @q_en (aI @q_fr (aI @zc2 (aI @gdD (aI @ldD (aI @ct_len (aI @ct_0 (aI @ct_1 (aI @zb4 (aI @za9 (aI @zb0 (aI @za6 (aI @za4 (aI @za7 (aI @zb6 (aI @za8 (aI @anD (aI @za2 (aI @ey_0 (aI @ey_1 (aI @ey_d2 @za5))))))))))))))))))))))))))))
def bYgcD3:=aI @q_len (aI @q_0 (aI @q_3 (aI @q_4 (aI @q_5 (aI @q_32 (aI @q_33 (aI @q_34 (aI @q_en (aI @q_fr (aI @zc2 (aI @gdD (aI @ldD (aI @ct_len (aI @ct_0 (aI @ct_1 (aI @zb4 (aI @za9 (aI @zb0 (aI @za6 (aI @za4 (aI @za7 (aI @zb6 (aI @za8 (aI @anD (aI @za2 (aI @ey_0 (aI @ey_1 (aI @ey_d2 (aI @za5 @Int.ofNat_zero)))))))))))))))))))))))))))))
theorem refCheck18_a (e:En) (n:Int) (b c:List Ty) (o2:Own) (hw:WideE e) (hb:b.length≤140737488355328) (hc:c.length≤140737488355328) (hcan:canB e=true) (T:Env) (hT:∀t,T t=envOf [.agg (eEn e),.int .i64 n,.slice .no (rws eT b),.slice o2 (rws eT c)] t):
  vcA Tryz.prog 168 c18 (bodyS Tryz.prog [.cell 8 31,.tmp 9,.tmp 10] fun d s=>d= .tup [.agg (eGh (checkD e n b c).1),.int .i64 (checkD e n b c).2.1,.int .i64 (checkD e n b c).2.2]) T {}:=by
 simp -implicitDefEqProofs only[go_sem,c18,hT,forall_eq,bYgcD0]
 intro b4 b8 n1 n2 b11 n3 n4 n5 n6
 have en1:(eEn e)[1]? =some (.slice .no (rws eSg e.sgs)):=rfl
 have en0:(eEn e)[0]? =some (.slice .no (rws eC e.cs)):=rfl
 have en2:(eEn e)[2]? =some (.int .i64 e.fn):=rfl
 simp -implicitDefEqProofs only[go_sem,hT,forall_eq,n1,n2,n3,n4,n5,n6,bYgcD0]
 refine za3 (can73 e hw) ?_
 obtain⟨hs,h0,hps,hp8,hst⟩:=can_sig hcan
 have hpn:e.sgs[e.fn.toNat].ps=psOf e:=hps.symm
 have hat:(rws eSg e.sgs)[e.fn.toNat]?.getD []=eSg e.sgs[e.fn.toNat]:=rws_at hs
 have hs1:(e.fn<e.sgs.length)=True:=by simp; omega
 have hs0:(0≤e.fn)=True:=by simp[h0]
 have sg0:(eSg e.sgs[e.fn.toNat])[0]? =some (.slice .no (rws eT (psOf e))):=by rw[hps]; rfl
 have sgl:(eSg e.sgs[e.fn.toNat]).length=2:=rfl
 rw[hcan]
 by_cases h1:n<(psOf e).length
 ·rw[checkD_some (a:=0) (w:=1) (by unfold beginD; rw[if_pos (.inr (.inl h1))])]
  simp -implicitDefEqProofs only[go_sem,hT,forall_eq,n1,n2,n3,n4,n5,n6,en0,en1,en2,hat,hs1,hs0,sg0,sgl,h1,bYgcD0]
  exact⟨_,{},ghz,St.le.nil _,rfl⟩
 by_cases h2:16<n
 ·rw[checkD_some (a:=0) (w:=1) (by unfold beginD; rw[if_pos (.inr (.inr h2))])]
  simp -implicitDefEqProofs only[go_sem,hT,forall_eq,n1,n2,n3,n4,n5,n6,en0,en1,en2,hat,hs1,hs0,sg0,sgl,h1,h2,bYgcD0]
  exact⟨_,{},ghz,St.le.nil _,rfl⟩
 have hb0:beginD e n b.length c=(if 4096<b.length then some ((0:Int),4) else if b.length=0 then some (0,51) else if(decC c).2.2≠0 then some ((decC c).2.1,(decC c).2.2) else match badE e (decC c).1.es with
  |some x=>some (x.pos,65)
  |none=>if((decC c).1.loc:Int)≠n then some (0,32) else none):=by
  unfold beginD; rw[if_neg (fun h=>by rcases h with h|h|h <;> first|(rw[hcan] at h; cases h)|exact h1 h|exact h2 h)]; rfl
 simp -implicitDefEqProofs only[go_sem,hT,forall_eq,n1,n2,n3,n4,n5,n6,en0,en1,en2,hat,hs1,hs0,sg0,sgl,h1,h2,bYgcD0]
 by_cases h3:4096<b.length
 ·have g3:((4096:Int)<b.length)=True:=by simp; omega
  rw[checkD_some (a:=0) (w:=4) (by rw[hb0,if_pos h3])]
  simp -implicitDefEqProofs only[go_sem,hT,forall_eq,n1,n2,n3,n4,n5,n6,en0,en1,en2,hat,hs1,hs0,sg0,sgl,g3,bYgcD0]
  exact⟨_,{},ghz,St.le.nil _,rfl⟩
 have g3:((4096:Int)<b.length)=False:=by simp; omega
 rw[if_neg h3] at hb0
 by_cases h4:b.length=0
 ·have g4:((b.length:Int)=0)=True:=eq_true (by omega)
  rw[checkD_some (a:=0) (w:=51) (by rw[hb0,if_pos h4])]
  simp -implicitDefEqProofs only[go_sem,hT,forall_eq,n1,n2,n3,n4,n5,n6,en0,en1,en2,hat,hs1,hs0,sg0,sgl,g3,g4,bYgcD0]
  exact⟨_,{},ghz,St.le.nil _,rfl⟩
 have g4:((b.length:Int)=0)=False:=eq_false (by omega)
 rw[if_neg h4] at hb0
 simp -implicitDefEqProofs only[go_sem,hT,forall_eq,n1,n2,n3,n4,n5,n6,en0,en1,en2,hat,hs1,hs0,sg0,sgl,g3,g4,bYgcD0]
 refine za3 (refDecode31 c o2 hc) ?_
 obtain⟨hr1,hr2,hr3,hr4⟩:=decC_rise c
 by_cases h5:(decC c).2.2=0
 case neg=>
  have q5:(((decC c).2.2:Int)=0)=False:=by simp; omega
  rw[checkD_some (a:=(decC c).2.1) (w:=(decC c).2.2) (by rw[hb0,if_pos h5])]
  simp -implicitDefEqProofs only[go_sem,hT,forall_eq,n1,n2,n3,n4,n5,n6,en0,en1,en2,hat,hs1,hs0,sg0,sgl,bYgcD0]
  intro b12 m1 m2 m3 m4 m5 m6
  simp -implicitDefEqProofs only[go_sem,hT,forall_eq,n1,n2,n3,n4,n5,n6,m1,m2,m3,m4,m5,m6,en0,en1,en2,hat,hs1,hs0,sg0,sgl,q5,bYgcD0]
  exact⟨_,{},ghz,St.le.nil _,rfl⟩
 have q5:(((decC c).2.2:Int)=0)=True:=by simp; omega
 rw[if_neg (by simp[h5])] at hb0
 have hEnts:Ents (decC c).1.es:=⟨hr1,hr2,hr3⟩
 have hCC0:(decC c).1=(decC c).1:=rfl
 obtain⟨CC,hCC⟩:∃CC,(decC c).1=CC:=⟨_,rfl⟩
 clear hCC0
 rw[hCC] at hb0 hEnts ⊢
 simp -implicitDefEqProofs only[go_sem,hT,forall_eq,n1,n2,n3,n4,n5,n6,en0,en1,en2,hat,hs1,hs0,sg0,sgl,bYgcD0]
 intro b12 m1 m2 m3 m4 m5 m6
 simp -implicitDefEqProofs only[go_sem,hT,forall_eq,n1,n2,n3,n4,n5,n6,m1,m2,m3,m4,m5,m6,en0,en1,en2,hat,hs1,hs0,sg0,sgl,q5,bYgcD0]
 obtain⟨S1,hS1⟩:∃S1,(((({}:St).set b4 (eEn e)).set b8 [.slice .nil [],.int .i64 0]).set b11 [.slice .nil [],.int .i64 0]).set b12 (eCt CC)=S1:=⟨_,rfl⟩
 have k4:S1.box b4=some (eEn e):=by rw[←hS1]; simp[St.set,n1,n2,n3,n4,n5,n6,m1,m2,m3,m4,m5,m6]
 have k8:S1.box b8=some [.slice .nil [],.int .i64 0]:=by rw[←hS1]; simp[St.set,n1,n2,n3,n4,n5,n6,m1,m2,m3,m4,m5,m6]
 have k11:S1.box b11=some [.slice .nil [],.int .i64 0]:=by rw[←hS1]; simp[St.set,n1,n2,n3,n4,n5,n6,m1,m2,m3,m4,m5,m6]
 have k12:S1.box b12=some (eCt CC):=by rw[←hS1]; simp[St.set]
 rw[hS1]
 have hEl:=hEnts.len
 refine loopL F18 (fun i:Nat=>[(1,.int .i64 n),(2,.slice .no (rws eT b)),(4,.ptr b4 0),(8,.ptr b8 0),(11,.ptr b11 0),(12,.ptr b12 0),(66,.slice .no (rws eEy CC.es)),(67,.int .i64 CC.es.length),(68,.int .i64 i)]) (fun _=>S1) (fun i=>i≤CC.es.length∧∀x∈CC.es.take i,(!x.dead&&decide (checkF e.cs.length x.fr≠0))=false) (fun i=>CC.es.length-i) 0 ⟨by omega,by simp⟩ ?_ (St.le.refl _) ?_
 ·simp -implicitDefEqProofs only[go_sem,hT,Int.ofNat_zero]
 clear hT T
 rintro i ⟨hi,hn⟩ T hT
 by_cases h:i<CC.es.length
 ·have p1:((i:Int)<CC.es.length)=True:=eq_true (by omega)
  have p0:(0≤(i:Int))=True:=eq_true (by omega)
  have hax:=getEy h
  have w1:IntKind.wrap .i64 ((i:Int)+1)=((i+1:Nat):Int):=wrapN (by omega) (by omega)
  simp -implicitDefEqProofs only[go_sem,hT,forall_eq,k4,k8,k11,k12,en0,en1,en2,p1,p0,hax,w1,bYgcD0]
  intro b16 hb16
  have n16:b16≠b4:=fun h=>hb16 (by rw[h]; exact .inl (by simp[k4]))
  have n17:b16≠b8:=fun h=>hb16 (by rw[h]; exact .inl (by simp[k8]))
  have n18:b16≠b11:=fun h=>hb16 (by rw[h]; exact .inl (by simp[k11]))
  cases hd:CC.es[i].dead with
  |true=>
   simp -implicitDefEqProofs only[go_sem,hT,forall_eq,k4,k8,k11,k12,en0,en1,en2,n16,Ne.symm n16,n17,Ne.symm n17,n18,Ne.symm n18,p1,p0,hax,w1,hd,bYgcD0]
   exact⟨i+1,⟨by omega,take_more h hn (by simp[hd])⟩,by omega,rfl,le_add hb16⟩
  |false=>
   simp -implicitDefEqProofs only[go_sem,hT,forall_eq,k4,k8,k11,k12,en0,en1,en2,n16,Ne.symm n16,n17,Ne.symm n17,n18,Ne.symm n18,p1,p0,hax,w1,hd,bYgcD0]
   refine za3 (refCheck40 e.cs .no CC.es[i].fr) ?_
   by_cases hz:checkF e.cs.length CC.es[i].fr=0
   ·have qz:((checkF e.cs.length CC.es[i].fr:Int)=0)=True:=eq_true (by omega)
    simp -implicitDefEqProofs only[go_sem,hT,forall_eq,k4,k8,k11,k12,en0,en1,en2,n16,Ne.symm n16,n17,Ne.symm n17,n18,Ne.symm n18,p1,p0,hax,w1,hd,qz,bYgcD0]
    exact⟨i+1,⟨by omega,take_more h hn (by simp[hd,hz])⟩,by omega,rfl,le_add hb16⟩
   ·have qz:((checkF e.cs.length CC.es[i].fr:Int)=0)=False:=eq_false (by omega)
    rw[bad_some h hn (by simp[hd,hz])] at hb0
    rw[checkD_some hb0]
    simp -implicitDefEqProofs only[go_sem,hT,forall_eq,k4,k8,k11,k12,en0,en1,en2,n16,Ne.symm n16,n17,Ne.symm n17,n18,Ne.symm n18,p1,p0,hax,w1,hd,qz,bYgcD0]
    exact⟨by simp,_,{},ghz,St.le.nil _,rfl⟩
 have p1:((i:Int)<CC.es.length)=False:=eq_false (by omega)
 rw[show CC.es.take i=CC.es from List.take_of_length_le (by omega)] at hn
 have hbad:badE e CC.es=none:=find_none hn
 rw[hbad] at hb0
 clear hn
 simp -implicitDefEqProofs only[go_sem,hT,forall_eq,k4,k8,k11,k12,en0,en1,en2,p1,bYgcD0]
 by_cases h7:(CC.loc:Int)=n
 case neg=>
  rw[checkD_some (a:=0) (w:=32) (hb0.trans (by simp[h7]))]
  simp -implicitDefEqProofs only[go_sem,hT,forall_eq,k4,k8,k11,k12,en0,en1,en2,p1,h7,bYgcD0]
  exact⟨_,{},ghz,St.le.nil _,rfl⟩
 have hbn:beginD e n b.length c=none:=hb0.trans (by simp[h7])
 simp -implicitDefEqProofs only[go_sem,hT,forall_eq,k4,k8,k11,k12,en0,en1,en2,hat,hs1,hs0,sg0,sgl,p1,h7,bYgcD0]
 refine za3 (refStart71 e.cs .no .no (psOf e) n (by omega)) ?_
 have hso:=start_ok hcan h1 h2
 have hss:startS e n=⟨0,(startF e.cs.length (psOf e) n).1,true,0,[]⟩:=rfl
 generalize startF e.cs.length (psOf e) n=F at *
 obtain⟨f,er⟩:=F
 simp only at hso hss
 subst hso
 simp -implicitDefEqProofs only[go_sem,hT,forall_eq,k4,k8,k11,k12,en0,en1,en2,hat,hs1,hs0,sg0,sgl,bYgcD1]
 intro b17 hb17
 have n16:b17≠b4:=fun h=>hb17 (by rw[h]; exact .inl (by simp[k4]))
 have n17:b17≠b8:=fun h=>hb17 (by rw[h]; exact .inl (by simp[k8]))
 have n18:b17≠b11:=fun h=>hb17 (by rw[h]; exact .inl (by simp[k11]))
 have n19:b17≠b12:=fun h=>hb17 (by rw[h]; exact .inl (by simp[k12]))
 simp -implicitDefEqProofs only[go_sem,hT,forall_eq,k4,k8,k11,k12,en0,en1,en2,n16,Ne.symm n16,n17,Ne.symm n17,n18,Ne.symm n18,n19,Ne.symm n19,hat,hs1,hs0,sg0,sgl,bYgcD1]
 simp -implicitDefEqProofs only[go_sem,hT,ct_len,ct_0,ct_1,zb4,za9,zb0,za6,za4,za7,zb6,za8,anD,za2,ey_0,ey_1,ey_d2,forall_eq,zc2,gdD,ldD,za5,k4,k8,k11,k12,en0,en1,en2,n16,Ne.symm n16,n17,Ne.symm n17,n18,Ne.symm n18,n19,Ne.symm n19,hat,hs1,hs0,sg0,sgl,eEn,fr_ta,fr_da,fr_db,fr_la,Int.ofNat_zero]
 have hl29:(eFr f++[D.bool true]++[D.slice Own.nil [],D.int IntKind.i64 0]).length=29:=by simp[za6]
 have hQ:D.slice Own.no (rws eC e.cs)::D.slice Own.no (rws eSg e.sgs)::D.int IntKind.i64 e.fn::D.slice Own.no (rws eT b)::D.slice Own.no (rws eEy CC.es)::D.int IntKind.i64 0::(eFr f++[D.bool true]++[D.slice Own.nil [],D.int IntKind.i64 0])=eQ e b CC.es (startS e n) none:=by
  rw[hss]; simp[eQ,eEn,grD,rws]
 rw[if_pos hl29,hQ]
 simp -implicitDefEqProofs only[go_sem,hT,forall_eq,k4,k8,k11,k12,en0,en1,en2,n16,Ne.symm n16,n17,Ne.symm n17,n18,Ne.symm n18,n19,Ne.symm n19,hat,hs1,hs0,sg0,sgl,bYgcD1]
 intro q hq1 hq2 hqS
 have q4:b4≠q:=fun h=>hqS (by rw[←h]; exact .inl (by simp[k4]))
 have q8:b8≠q:=fun h=>hqS (by rw[←h]; exact .inl (by simp[k8]))
 have q11:b11≠q:=fun h=>hqS (by rw[←h]; exact .inl (by simp[k11]))
 have q12:b12≠q:=fun h=>hqS (by rw[←h]; exact .inl (by simp[k12]))
 obtain⟨L,hL⟩:∃L:List LI,L=[.bx b4 (eEn e),.bx b8 [.slice .nil [],.int .i64 0],.bx b11 [.slice .nil [],.int .i64 0],.bx b12 (eCt CC),.bx b17 (eFr f)]:=⟨_,rfl⟩
 have hput:∀s:St,(putL s L).box b4=some (eEn e)∧(putL s L).box b8=some [.slice .nil [],.int .i64 0]∧(putL s L).box b11=some [.slice .nil [],.int .i64 0]∧(putL s L).box b12=some (eCt CC)∧(putL s L).box q=s.box q:=fun s=>by
  rw[hL]
  simp[putL,LI.put,St.set,n1,n2,n3,n4,n5,n6,m1,m2,m3,m4,m5,m6,q4,Ne.symm q4,q8,Ne.symm q8,q11,Ne.symm q11,q12,Ne.symm q12,hq1,hq2,n16,Ne.symm n16,n17,Ne.symm n17,n18,Ne.symm n18,n19,Ne.symm n19]
 obtain⟨RR,hRR⟩:∃RR,runD e b CC.es (b.length+1) (startS e n)=RR:=⟨_,rfl⟩
 have hstart:(S1.set b17 (eFr f)).set q (eQ e b CC.es (startS e n) none)=putL (stQ e b CC.es (startS e n) none q) L:=by
  rw[hL,←hS1]
  show _=((((((({}:St).set q _).set b4 _).set b8 _).set b11 _).set b12 _).set b17 _)
  rw[set_comm (Ne.symm hq1),set_comm q12,set_comm q11,set_comm q8,set_comm q4]
 have hoff:offL (stQ e b CC.es (startS e n) none q) L:=by
  have h:∀x,x≠q→¬(stQ e b CC.es (startS e n) none q).has x:=fun x hx hh=>by
   rw[stQ] at hh
   have:(({}:St).set q (eQ e b CC.es (startS e n) none)).has x:=hh
   rw[set_has] at this
   rcases this with h|h
   ·exact hx h
   ·exact St.not_has_nil _ h
  rw[hL]
  exact⟨h _ q4,h _ q8,h _ q11,h _ q12,h _ (Ne.symm hq1),trivial⟩
 rw[hstart]
 have hw2:e.cs.length*48≤140737488355328:=by have:=hw.1.1; omega
 have hfa:=can_falls hw hcan
 refine loopL F18 (fun x:PS×Option Nat=>[(1,.int .i64 n),(2,.slice .no (rws eT b)),(4,.ptr b4 0),(8,.ptr b8 0),(11,.ptr b11 0),(12,.ptr b12 0),(18,.ptr q 0)]) (fun x=>putL (stQ e b CC.es x.1 x.2 q) L)
  (fun x=>(∃k,b.length<x.1.p+k∧runD e b CC.es k x.1=RR)∧x.1.cmp≤2*x.1.p∧x.1.fet.length≤x.1.p∧x.1.p≤b.length∧(x.2=none→x.1.fet=[])∧x.2≠some q∧offL (stQ e b CC.es x.1 x.2 q) L)
  (fun x=>b.length-x.1.p) (startS e n,none) ⟨⟨b.length+1,by simp[hss],hRR⟩,by simp[hss],by simp[hss],by simp[hss],fun _=>by simp[hss],by simp,hoff⟩ ?_ (St.le.refl _) ?_
 ·simp -implicitDefEqProofs only[go_sem,hT,Int.ofNat_zero]
 clear hT T
 rintro⟨s,o⟩ ⟨⟨k,hk,hrun⟩,hcmp,hfet,hpb,hon,hoq,hof⟩ T hT
 simp only at hk hrun hcmp hfet hpb hon hoq hof hT ⊢
 obtain⟨y4,y8,y11,y12,yq⟩:=hput (stQ e b CC.es s o q)
 have hqq:(putL (stQ e b CC.es s o q) L).box q=some (eQ e b CC.es s o):=by rw[yq,stQ,grS_boxa,St.set_box,if_pos rfl]
 by_cases hpl:s.p<b.length
 case neg=>
  have p1:((s.p:Int)<b.length)=False:=eq_false (by omega)
  have hok:RR= .ok s:=by
   rw[←hrun]
   cases k with
   |zero=>omega
   |succ k=>rw[runD,if_pos (by omega)]
  have hck:checkD e n b c=match lateE CC.es b.length with
   |some x=>((0,[]),x.pos,93)
   |none=>((s.cmp,s.fet),0,0):=by
   unfold checkD; rw[hbn,hCC]; simp only; rw[hRR,hok]; rfl
  obtain⟨S3,hS3⟩:∃S3,putL (stQ e b CC.es s o q) L=S3:=⟨_,rfl⟩
  rw[hS3] at hqq y4 y8 y11 y12 ⊢
  simp -implicitDefEqProofs only[go_sem,hT,hqq,y4,y8,y11,y12,forall_eq,p1,bYgcD2]
  refine loopL F18 (fun i:Nat=>[(2,.slice .no (rws eT b)),(8,.ptr b8 0),(11,.ptr b11 0),(12,.ptr b12 0),(18,.ptr q 0),(149,.slice .no (rws eEy CC.es)),(150,.int .i64 CC.es.length),(151,.int .i64 i)]) (fun _=>S3) (fun i=>i≤CC.es.length∧∀x∈CC.es.take i,¬(b.length:Int)≤x.pos) (fun i=>CC.es.length-i) 0 ⟨by omega,by simp⟩ ?_ (St.le.refl _) ?_
  ·simp -implicitDefEqProofs only[go_sem,hT,Int.ofNat_zero]
  clear hT T
  rintro i ⟨hi,hn⟩ T hT
  by_cases h:i<CC.es.length
  ·have p2:((i:Int)<CC.es.length)=True:=eq_true (by omega)
   have p0:(0≤(i:Int))=True:=eq_true (by omega)
   have hax:=getEy h
   have w1:IntKind.wrap .i64 ((i:Int)+1)=((i+1:Nat):Int):=wrapN (by omega) (by omega)
   simp -implicitDefEqProofs only[go_sem,hT,forall_eq,hqq,y8,y11,y12,p2,p0,hax,w1,bYgcD0]
   intro b24 hb24
   have r8:b24≠b8:=fun h=>hb24 (by rw[h]; exact .inl (by simp[y8]))
   have r11:b24≠b11:=fun h=>hb24 (by rw[h]; exact .inl (by simp[y11]))
   by_cases h9:(b.length:Int)≤CC.es[i].pos
   ·rw[late_some h hn h9] at hck
    rw[hck]
    simp -implicitDefEqProofs only[go_sem,hT,forall_eq,hqq,y8,y11,y12,r8,Ne.symm r8,r11,Ne.symm r11,p2,p0,hax,w1,h9,bYgcD0]
    exact⟨by simp,_,{},ghz,St.le.nil _,rfl⟩
   ·simp -implicitDefEqProofs only[go_sem,hT,forall_eq,hqq,y8,y11,y12,r8,Ne.symm r8,r11,Ne.symm r11,p2,p0,hax,w1,h9,bYgcD0]
    exact⟨i+1,⟨by omega,take_more h hn h9⟩,by omega,rfl,le_add hb24⟩
  ·have p2:((i:Int)<CC.es.length)=False:=eq_false (by omega)
   rw[show CC.es.take i=CC.es from List.take_of_length_le (by omega)] at hn
   have hlate:lateE CC.es b.length=none:=find_none fun y hy=>by simpa using hn y hy
   rw[hlate] at hck
   rw[hck]
   simp -implicitDefEqProofs only[go_sem,hT,ct_len,ct_0,ct_1,zb4,za9,zb0,za6,za4,za7,zb6,za8,anD,za2,ey_0,ey_1,ey_d2,forall_eq,zc2,gdD,ldD,za5,hqq,y8,y11,y12,p2,q_len,q_0,q_3,q_4,q_5,q_32,q_33,q_34,q_en,q_fr,q_d33]
   exact⟨_,{},DLe.tup (.cons (DLe.agg (.cons grD_le (.refl _))) (.refl _)),St.le.nil _,rfl⟩
 have p1:((s.p:Int)<b.length)=True:=eq_true (by omega)
 simp -implicitDefEqProofs only[go_sem,hT,hqq,forall_eq,p1,bYgcD2]
 refine callB_under L hof ((entry61 e b CC.es s o q hfa hw2 hEnts (by omega) hpl (by omega) hoq).xcall (Rp:=fun _ _=>False)) (fun d s' hR hof'=> ?_) fun d s' h=>h.elim
 obtain⟨z4,z8,z11,z12,zq⟩:=hput s'
 obtain⟨kk,rfl⟩:∃kk,k=kk+1:=⟨k-1,by omega⟩
 rw[runD,if_neg (by omega)] at hrun
 unfold entR at hR
 cases hcm:comeD e.cs CC.es b.length s with
 |no a w=>
  rw[hcm] at hR hrun
  obtain⟨rfl,s2,h2p,h2f,rfl⟩:=hR
  have ha:=come_no hcm
  have hap:=come_no_pos hcm
  have hck:checkD e n b c=((0,[]),a,w):=by
   unfold checkD; rw[hbn,hCC]; simp only; rw[hRR,←hrun]
  have hq2:(putL (stQ e b CC.es s2 o q) L).box q=some (eQ e b CC.es s2 o):=by rw[zq,stQ,grS_boxa,St.set_box,if_pos rfl]
  have qa:((w:Int)=0)=False:=eq_false (by omega)
  rw[hck,hap]
  simp -implicitDefEqProofs only[go_sem,hT,hq2,z4,z8,z11,z12,forall_eq,qa,h2p,bYgcD2]
  exact⟨q8,_,{},ghz,St.le.nil _,rfl⟩
 |ok z=>
  obtain⟨s2,on⟩:=z
  rw[hcm] at hR hrun
  obtain⟨rfl,rfl⟩:=hR
  have hq2:(putL (stQ e b CC.es s2 o q) L).box q=some (eQ e b CC.es s2 o):=by rw[zq,stQ,grS_boxa,St.set_box,if_pos rfl]
  cases on with
  |false=>
   obtain⟨c1,c2,_⟩:=come_off hcm
   have hnp:=nextP_gt (l:=CC.es) hpl
   have e1:s2.p=nextP CC.es b.length s.p:=by rw[c2]
   have e2:s2.cmp=s.cmp:=by rw[c2]
   have e3:s2.fet=s.fet:=by rw[c2]
   simp -implicitDefEqProofs only[go_sem,hT,hq2,z4,z8,z11,z12,forall_eq,bYgcD3]
   refine⟨(s2,o),⟨⟨kk, ?_,hrun⟩, ?_, ?_, ?_, ?_,hoq,hof'⟩, ?_, ?_⟩
   ·simp only; omega
   ·simp only; omega
   ·simp only; rw[e3]; omega
   ·simp only; omega
   ·simp only; rw[e3]; exact hon
   ·simp only; omega
   ·exact St.le.refl _
  |true=>
   obtain⟨c1,c2,c3,c4,_⟩:=come_on hcm
   have c5:s2.cmp≤s.cmp+1:=by split at c4 <;> omega
   clear c4
   have c6:s2.fet.length=s.fet.length:=by rw[c3]
   simp -implicitDefEqProofs only[go_sem,hT,hq2,z4,z8,z11,z12,forall_eq,bYgcD3]
   refine callB_under L hof' ((fetch62 e b CC.es s2 o q hfa hw hw2 hEnts (by omega) (by omega) (by omega) hoq (by rw[c3]; exact hon) (by rw[c3]; omega) c2).xcall (Rp:=fun _ _=>False)) (fun d s' hR hof2=> ?_) fun d s' h=>h.elim
   obtain⟨v4,v8,v11,v12,vq⟩:=hput s'
   unfold fetR at hR
   cases hfm:fetD e b CC.es s2 with
   |no a w=>
    rw[hfm] at hR
    simp only[hfm] at hrun
    subst hR
    have ha:=fet_no hfm
    have hck:checkD e n b c=((0,[]),a,w):=by
     unfold checkD; rw[hbn,hCC]; simp only; rw[hRR,←hrun]
    have qa:((w:Int)=0)=False:=eq_false (by omega)
    rw[hck]
    simp -implicitDefEqProofs only[go_sem,hT,v4,v8,v11,v12,forall_eq,qa,bYgcD2]
    exact⟨_,{},ghz,St.le.nil _,rfl⟩
   |ok s3=>
    rw[hfm] at hR
    simp only[hfm] at hrun
    obtain⟨rfl,o',ho1,ho2,rfl⟩:=hR
    obtain⟨f1,_,_,_,_,f6⟩:=fet_ok hfm
    obtain⟨_,_,f7,f8⟩:=decF_ok f1
    have e1:s3.p=s2.p+zf3 (decF b s2.p).1.op.val:=by rw[f6]
    have e2:s3.cmp≤s2.cmp+1:=by rw[f6]; simp only; split <;> omega
    have e3:s3.fet.length=s2.fet.length+1:=by rw[f6]; simp
    simp -implicitDefEqProofs only[go_sem,hT,v4,v8,v11,v12,forall_eq,bYgcD3]
    refine⟨(s3,o'),⟨⟨kk, ?_,hrun⟩, ?_, ?_, ?_, ?_,ho1,hof2⟩, ?_, ?_⟩
    ·simp only; omega
    ·simp only; omega
    ·simp only; omega
    ·simp only; omega
    ·simp only; exact ho2
    ·simp only; omega
    ·exact St.le.refl _
def bYgcD4:=aI @zb6 (aI @za8 (aI @anD (aI @za2 @za5)))
theorem refCheck18 (e:En) (n:Int) (b c:List Ty) (o o2:Own) (hw:WideE e) (hb:b.length≤140737488355328) (hc:c.length≤140737488355328):
  PCall Tryz.prog 18 [.agg (eEn e),.int .i64 n,.slice o (rws eT b),.slice o2 (rws eT c)] (.tup [.agg (eGh (checkD e n b c).1),.int .i64 (checkD e n b c).2.1,.int .i64 (checkD e n b c).2.2]):=by
 refine RCall.pcall (RCall.args (ds:=[.agg (eEn e),.int .i64 n,.slice .no (rws eT b),.slice o2 (rws eT c)]) ?_ (.cons (.refl _) (.cons (.refl _) (.cons (DLe.slice _ _) (.refl _)))))
 by_cases hcan:canB e=true
 ·exact F18.rcall rfl fun T hT=>refCheck18_a e n b c o2 hw hb hc hcan T hT
 have hcf:canB e=false:=by simpa using hcan
 rw[checkD_some (a:=0) (w:=1) (by unfold beginD; rw[if_pos (.inl hcf)])]
 refine F18.rcall rfl fun T hT=> ?_
 simp -implicitDefEqProofs only[go_sem,c18,hT,forall_eq,bYgcD4]
 intro b4 b8 n1 n2 b11 n3 n4 n5 n6
 simp -implicitDefEqProofs only[go_sem,hT,forall_eq,n1,n2,n3,n4,n5,n6,bYgcD4]
 refine za3 (can73 e hw) ?_
 rw[hcf]
 simp -implicitDefEqProofs only[go_sem,hT,forall_eq,n1,n2,n3,n4,n5,n6,bYgcD4]
 exact⟨_,{},ghz,St.le.nil _,rfl⟩
open Go.Proofs
def sL:Code→Code| .seq a _=>a|c=>c
def sR:Code→Code| .seq _ b=>b|c=>c
def inC:Code→Code| .block _ c=>c| .loop c=>c|c=>c
def asC:Code→Code| .rangeFunc _ _ a _=>a|c=>c
def bdC:Code→Code| .rangeFunc _ _ _ b=>b|c=>c
def opsC:Code→Array Oper| .region _ l _=>l|_=> #[]
noncomputable def k94:Code:=Tryz.f94.body.getD .skip
noncomputable def r94:Code:=inC (sR (sL (sR (sR (sR (sR k94))))))
noncomputable def as94:Code:=asC r94
noncomputable def bd94:Code:=bdC r94
noncomputable def asO:Array Oper:=opsC as94
noncomputable def bdO:Array Oper:=opsC (inC bd94)
theorem asO_is:asO.toList.map (plainO asO.toList)=[oO 9 (.alloc 86),oN (.store 86 (tT 9) (tT 26))]:=by kernel_rfl
theorem bdO_is:bdO.toList.map (plainO bdO.toList)=[oO 27 (.fieldAddr 52 (tT 8) 1),oO 28 (.load 50 (tT 27)),oO 29 (.load 86 (tT 9)),oO 30 (.buildSlice 50 1 #[(0,tT 29)]),oO 31 (cB .append #[tT 28,tT 30] #[50,50]),oO 32 (.fieldAddr 52 (tT 8) 1),oN (.store 50 (tT 32) (tT 31))]:=by kernel_rfl
noncomputable def k168:Code:=Tryz.f168.body.getD .skip
noncomputable def l168:Code:=inC (inC (inC k168))
noncomputable def a168:Code:=sL l168
noncomputable def b168:Code:=sL (sR l168)
noncomputable def bO168:Array Oper:=opsC b168
theorem a168_is:strip a168=rg [oO 7 (.load 192 (tT 1)),oO 8 (cF (.func 169) #[tT 7] #[192]),oO 6 (.move (tT 8)),oO 9 (.extract (tT 6) 0),oO 10 (.extract (tT 6) 1),oO 11 (.extract (tT 6) 2),oO 3 (.alloc 86),oN (.store 86 (tT 3) (tT 9)),oO 4 (.assign (tT 10)),oO 5 (.assign (tT 11))]:=by kernel_rfl
theorem b168_is:b168= .region 1 bO168 false:=by kernel_rfl
open Go.Proofs
def nx (b:List Ty) (p:Nat) (last:Int) (left n:Nat):Ey×Bool×Nat×List D:=
 if left=0 then(if p<b.length then(ey0,false,3,eRd b p last 0 n p 3) else(ey0,false,0,eRd b p last 0 n 0 0))
 else if(entD b (bt b 3) p last).2.2≠0 then(ey0,false,(entD b (bt b 3) p last).2.2,eRd b p last left n (entD b (bt b 3) p last).2.1 (entD b (bt b 3) p last).2.2)
 else((entD b (bt b 3) p last).1,true,0,eRd b (entD b (bt b 3) p last).2.1 (entD b (bt b 3) p last).1.pos (left-1) n 0 0)
theorem nx_eq {b:List Ty} {r p:Nat} {last:Int} {left n:Nat} {d:D} {s:St} (h:nextR b r p last left n d s):
  d= .tup [.agg (eEy (nx b p last left n).1),.bool (nx b p last left n).2.1,.int .i64 (nx b p last left n).2.2.1]∧s=({}:St).set r (nx b p last left n).2.2.2:=by
 unfold nextR at h
 unfold nx
 split at h
 ·rename_i h1; rw[if_pos h1]
  split at h
  ·rename_i h2; rw[if_pos h2]; exact h
  ·rename_i h2; rw[if_neg h2]; exact h
 ·rename_i h1; rw[if_neg h1]
  split at h
  ·rename_i h2; rw[if_pos h2]; exact h
  ·rename_i h2; rw[if_neg h2]; exact h
def sB (b2 bc r b8:Nat) (rd ct:List D):St:=(((({}:St).set b2 [.int .i64 0,.slice .nil []]).set bc [.ptr r 0]).set r rd).set b8 ct
def ctL (loc:Nat) (o:Option Nat) (es:List Ey):List D:=[.int .i64 loc,grD 28 o (rws eEy es)]
def sN (b2 bc r b8:Nat) (loc:Nat) (o:Option Nat) (es:List Ey) (rd:List D):St:=grS 28 es.length o (sB b2 bc r b8 rd (ctL loc o es))
structure Ap (b2 bc r b8:Nat):Prop where
 h1:bc≠b2
 h2:r≠b2
 h3:r≠bc
 h4:b8≠b2
 h5:b8≠bc
 h6:b8≠r
def offB (b2 bc r b8:Nat) (o:Option Nat):Prop:=∀b,o=some b→b≠b2∧b≠bc∧b≠r∧b≠b8
theorem sB_has {b2 bc r b8 x:Nat} {rd ct:List D}:(sB b2 bc r b8 rd ct).has x↔x=b2∨x=bc∨x=r∨x=b8:=by
 unfold sB
 rw[set_has,set_has,set_has,set_has]
 have:=St.not_has_nil x
 constructor
 ·rintro(h|h|h|h|h)
  ·exact .inr (.inr (.inr h))
  ·exact .inr (.inr (.inl h))
  ·exact .inr (.inl h)
  ·exact .inl h
  ·exact absurd h this
 ·rintro(h|h|h|h)
  ·exact .inr (.inr (.inr (.inl h)))
  ·exact .inr (.inr (.inl h))
  ·exact .inr (.inl h)
  ·exact .inl h
theorem round94 {b2 bc r b8 loc:Nat} {o:Option Nat} {es:List Ey} {rd:List D} {e:Ey} {T:Env} (ha:Ap b2 bc r b8) (ho:offB b2 bc r b8 o) (hn:o=none→es=[]) (hl:es.length≤4096) (h8:T 8= .ptr b8 0) {J:St→Prop}
  (hJ:∀o' s',offB b2 bc r b8 o'→o'≠none→St.le (sN b2 bc r b8 loc o' (es++[e]) rd) s'→J s'):
  aopsD Tryz.prog 48 [] (asO.toList.map (plainO asO.toList)) (fun x T' s=>x= .normal∧aopsD Tryz.prog 48 [] (bdO.toList.map (plainO bdO.toList)) (fun y T'' s'=>y= .normal∧J s') T' s) (upd T 26 (.agg (eEy e))) (sN b2 bc r b8 loc o es rd):=by
 rw[asO_is,bdO_is]
 obtain⟨S0,hS0⟩:∃S0,sN b2 bc r b8 loc o es rd=S0:=⟨_,rfl⟩
 have hb8:S0.box b8=some (ctL loc o es):=by rw[←hS0,sN,grS_boxa,sB,St.set_box,if_pos rfl]
 rw[hS0]
 simp -implicitDefEqProofs only[go_sem,h8,zb4,za9,zb0,anD,za2,ey_zero]
 intro b9 hb9
 have n9:b9≠b8:=fun hh=>hb9 (by rw[hh]; exact .inl (by simp[hb8]))
 have hc0:(ctL loc o es).length=2:=rfl
 have hc1:(ctL loc o es)[1]? =some (grD 28 o (rws eEy es)):=rfl
 simp -implicitDefEqProofs only[go_sem,h8,zb4,za9,zb0,anD,za2,ey_zero,hb8,n9,Ne.symm n9,hc0,hc1,gdD]
 have hbase:grN o (sB b2 bc r b8 rd (ctL loc o es)):=fun b hb hin=>by have:=ho b hb; have:=sB_has.1 hin; omega
 have hle0:St.le (grS 28 es.length o (sB b2 bc r b8 rd (ctL loc o es))) (S0.set b9 (eEy e)):=by
  rw[show grS 28 es.length o (sB b2 bc r b8 rd (ctL loc o es))=S0 from hS0]; exact le_add hb9
 refine app_gr' Tryz.sli50 Tryz.sz86 Tryz.by86 Tryz.zero86 rfl (n:=es.length) (m:=1) (base:=sB b2 bc r b8 rd (ctL loc o es)) (by simp[rws]) rfl hle0 hbase (fun h=>by rw[hn h]; rfl) (by simp[zb4]) (by omega) fun o' σ' hbox hle' hg hno=> ?_
 have hb8':σ'.box b8=some (ctL loc o es):=by rw[hbox,St.set_box,if_neg (Ne.symm n9),hb8]
 simp -implicitDefEqProofs only[go_sem,h8,zb4,za9,zb0,anD,za2,ey_zero,hb8',n9,Ne.symm n9,hc0,hc1]
 have hrow:rws eEy es++[eEy e]=rws eEy (es++[e]):=by simp[rws]
 refine hJ o' _ (fun b hb=> ?_) (fun h=>by have:=hno h; omega) ?_
 ·have h:=hg b hb
  rw[sB_has] at h
  omega
 ·have he:sN b2 bc r b8 loc o' (es++[e]) rd=(grS 28 (es.length+1) o' (sB b2 bc r b8 rd (ctL loc o es))).set b8 (ctL loc o' (es++[e])):=by
   rw[grS_set,sN,sB,sB,za2,List.length_append]; rfl
  rw[he]
  have:=le_set (b:=b8) (cs:=ctL loc o' (es++[e])) hle'
  have hx:List.take 1 (ctL loc o es)++[grD 28 o' (rws eEy es++[List.take 28 (List.map frz (eEy e))])]++List.drop 2 (ctL loc o es)=ctL loc o' (es++[e]):=by
   rw[eEy_frz,za9,hrow]; rfl
  rw[hx]; exact this
theorem yield_op {P:Program} {o:Oper} {a:Act} {w:World} {f x:Operand} {ts:Array TypeId} {l:Nat} {r:Loop} (hop:o.op= .call {callee:= .value f,args:= #[x],argTypes:=ts}) (hf:a.eval f= .func (.yield l) #[] #[]) (hl:w.heap[l]? =some (.loop r)) {p:Nat} (hs:r.params= #[p]):
  (execOp a.eval o).run P w= .ok (.round l r.fn (r.tmps.setIfInBounds p (a.eval x)) r.assign r.body) w:=by
 have h:=run_yield (P:=P) (args:= #[a.eval x]) hl (by simp[hs])
 rw[hs] at h
 simp only[execOp,hop,resolve,hf,Deferred.ofValue,invoke]
 simpa using h
def fin (b:List Ty) (left p:Nat) (last:Int):Nat×Nat:=
 if(decP b (bt b 3) left p last).2.2≠0 then(decP b (bt b 3) left p last).2 else if(decP b (bt b 3) left p last).2.1<b.length then((decP b (bt b 3) left p last).2.1,3) else(0,0)
theorem nx_off {b:List Ty} {p:Nat} {last:Int} {left n:Nat} (hp:p≤b.length) (h:(nx b p last left n).2.1=false):esOf (decP b (bt b 3) left p last).1=[]∧∃p' last' left',(nx b p last left n).2.2.2=eRd b p' last' left' n (fin b left p last).1 (fin b left p last).2:=by
 unfold nx at h ⊢
 unfold fin
 cases left with
 |zero=>
  simp only[if_true,decP]
  by_cases hl:p<b.length
  ·refine⟨rfl,p,last,0, ?_⟩
   simp[hl]
  ·refine⟨rfl,p,last,0, ?_⟩
   simp[hl]
 |succ k=>
  rw[if_neg (Nat.succ_ne_zero k)] at h ⊢
  rw[decP]
  split
  ·rename_i he
   refine⟨rfl,p,last,k+1, ?_⟩
   simp only[if_pos he]
  ·rename_i he
   rw[if_neg he] at h
   cases h
theorem nx_on {b:List Ty} {p:Nat} {last:Int} {left n:Nat} (h:(nx b p last left n).2.1=true):∃e p' k,left=k+1∧p'≤b.length∧nx b p last left n=(e,true,0,eRd b p' e.pos k n 0 0)∧
  esOf (decP b (bt b 3) left p last).1=e::esOf (decP b (bt b 3) k p' e.pos).1∧fin b left p last=fin b k p' e.pos:=by
 unfold nx at h ⊢
 cases left with
 |zero=>
  simp only[if_true] at h
  split at h <;> cases h
 |succ k=>
  rw[if_neg (Nat.succ_ne_zero k)] at h ⊢
  split at h
  ·cases h
  ·rename_i he
   have h0:=Classical.not_not.1 he
   rw[if_neg he]
   refine⟨_,_,k,rfl,(entD_place h0).2,rfl, ?_, ?_⟩
   ·rw[decP,if_neg he]; rfl
   ·simp only[fin]
    rw[decP,if_neg he]
open Go.Proofs
noncomputable def o17:Oper:=(bO168.toList[5]?).getD default
noncomputable def o18:Oper:=(bO168.toList[6]?).getD default
noncomputable def o19:Oper:=(bO168.toList[7]?).getD default
theorem bO168_parts:bO168.toList=bO168.toList.take 5++(o17::[o18,o19]):=by kernel_rfl
theorem o17_op:o17.op= .call {callee:= .value (.tmp 15),args:= #[.tmp 16],argTypes:= #[86]}:=by kernel_rfl
theorem o17_dst:o17.dst=some 17:=by kernel_rfl
theorem o17_guard (T:Env):guardA bO168.toList T o17=gq (T 14) false:=by kernel_rfl
theorem nodefA:∀o∈asO.toList,∀c,o.op≠ .defer c:=by
 have h:(asO.toList.all fun o=>match o.op with| .defer _=>false|_=>true)=true:=by kernel_rfl
 intro o ho c hc
 have:=List.all_eq_true.1 h o ho
 rw[hc] at this; cases this
theorem nodefB:∀o∈bdO.toList,∀c,o.op≠ .defer c:=by
 have h:(bdO.toList.all fun o=>match o.op with| .defer _=>false|_=>true)=true:=by kernel_rfl
 intro o ho c hc
 have:=List.all_eq_true.1 h o ho
 rw[hc] at this; cases this
theorem body168:Tryz.f168.body=some (.block 0 (.loop (.block 1 (.seq a168 (.seq b168 (.cond (.tmp 19) .ret .skip)))))):=by kernel_rfl
theorem res168 (tmps:Array Value) (w:World):(results Tryz.f168 tmps).run Tryz.prog w= .ok (.tuple #[]) w:=by
 have h:Tryz.f168.results= #[]:=by kernel_rfl
 simp[results,h]
theorem sN_rd {b2 bc r b8 loc:Nat} {o:Option Nat} {es:List Ey} {rd rd':List D} (ha:Ap b2 bc r b8):(sN b2 bc r b8 loc o es rd).set r rd'=sN b2 bc r b8 loc o es rd':=by
 rw[sN,grS_set,sB,set_comm (Ne.symm ha.h6 |> Ne.symm),za2]; rfl
theorem b168_strip:strip b168=rg [oO 12 (.move (tT 4)),oO 13 (.unOp .not 4 (tT 12)),oO 14 (.move (tT 13)),oG 15 (.move (tT 0)) 14 false,oG 16 (.load 86 (tT 3)) 14 false,oG 17 (cF (tT 15) #[tT 16] #[86]) 14 false,oG 18 (.unOp .not 4 (tT 17)) 14 false,oO 19 (.pick (tT 14) (.const (.bool true)) (tT 18))]:=by kernel_rfl
theorem pre168_is:(bO168.toList.take 5).map (plainO bO168.toList)=[oO 12 (.move (tT 4)),oO 13 (.unOp .not 4 (tT 12)),oO 14 (.move (tT 13)),oG 15 (.move (tT 0)) 14 false,oG 16 (.load 86 (tT 3)) 14 false]:=by kernel_rfl
theorem suf168_is:[o18,o19].map (plainO bO168.toList)=[oG 18 (.unOp .not 4 (tT 17)) 14 false,oO 19 (.pick (tT 14) (.const (.bool true)) (tT 18))]:=by kernel_rfl
def E168 (l bc:Nat):Env:=envL [(0,.func (.yield l) [] []),(1,.ptr bc 0)]
section
variable {b : List Ty} {b2 bc r b8 loc n : Nat} {l : Nat}
theorem next_part {o:Option Nat} {es:List Ey} {p left:Nat} {last:Int} (ha:Ap b2 bc r b8) (ho:offB b2 bc r b8 o) (hl:b.length≤140737488355328) (h6:6≤b.length) (hp:p≤b.length) (hleft:left≤4096):
  vcA Tryz.prog 20 (strip a168) (fun x T' s=>x= .normal∧∃b3,¬(sN b2 bc r b8 loc o es (nx b p last left n).2.2.2).has b3∧s=(sN b2 bc r b8 loc o es (nx b p last left n).2.2.2).set b3 (eEy (nx b p last left n).1)∧
   T' 0= .func (.yield l) [] []∧T' 1= .ptr bc 0∧T' 3= .ptr b3 0∧T' 4= .bool (nx b p last left n).2.1) (E168 l bc) (sN b2 bc r b8 loc o es (eRd b p last left n 0 0)):=by
 rw[a168_is]
 have hbc:(sN b2 bc r b8 loc o es (eRd b p last left n 0 0)).box bc=some [.ptr r 0]:=by
  rw[sN,grS_boxa,sB,St.set_box,if_neg (Ne.symm ha.h5),St.set_box,if_neg (Ne.symm ha.h3),St.set_box,if_pos rfl]
 have hbr:(sN b2 bc r b8 loc o es (eRd b p last left n 0 0)).box r=some (eRd b p last left n 0 0):=by
  rw[sN,grS_boxa,sB,St.set_box,if_neg (Ne.symm ha.h6),St.set_box,if_pos rfl]
 have hbf:(sN b2 bc r b8 loc o es (eRd b p last left n 0 0)).buf r=none:=by
  cases o with
  |none=>rfl
  |some x=>
   have:=ho x rfl
   simp only[sN,grS,St.setBuf,sB,St.set]
   rw[if_neg (by omega)]
 have e0:E168 l bc 0= .func (.yield l) [] []:=rfl
 have e1:E168 l bc 1= .ptr bc 0:=rfl
 simp -implicitDefEqProofs only[go_sem,e0,e1,hbc,zb4,za9,zb0,anD,za2,ey_zero]
 refine callB_box (b:=r) (hm:=by cases o <;> rfl) hbr hbf ((next169 b r p last left n hl (by omega) hp hleft).mono fun d s h=>nx_eq h) ?_
 rw[sN_rd ha]
 generalize (nx b p last left n)=v at *
 obtain⟨e,ok,err,rd⟩:=v
 simp -implicitDefEqProofs only[go_sem,e0,e1,zb4,za9,zb0,anD,za2,ey_zero]
 intro b3 hb3
 exact⟨b3,hb3,rfl,rfl⟩
theorem left_of {M:MMap} {w:World} {o:Option Nat} {es:List Ey} {p left bad err:Nat} {last:Int} (ha:Ap b2 bc r b8) (hi:Inv M (sN b2 bc r b8 loc o es (eRd b p last left n bad err)) w):
  (match w.cell? ⟨r,3,none⟩ with|some (.int _ z)=>z.toNat|_=>0)=left:=by
 have hbr:(sN b2 bc r b8 loc o es (eRd b p last left n bad err)).box r=some (eRd b p last left n bad err):=by
  rw[sN,grS_boxa,sB,St.set_box,if_neg (Ne.symm ha.h6),St.set_box,if_pos rfl]
 obtain⟨c,e,h1,h2,h3⟩:=box_at hi hbr
 obtain⟨v,hv,hr⟩:=h2.get (i:=3) (d:= .int .i64 left) rfl
 obtain rfl:=hr
 rw[cell_of h1 (by simpa using hv)]
 simp
abbrev LD (M₀:MMap) (σ₀:St) (w₀:World) (T:Env) (l dk:Nat) (fn:FuncId) (tm:Array Value) (M:MMap) (σ:St) (w:World):Prop:=
 LInv 48 M₀ σ₀ w₀ T l dk fn tm #[26] (.region 6 asO false) (.block 1 (.region 7 bdO false)) M σ w
def I168 (b:List Ty) (b2 bc r b8 n l:Nat) (M₀:MMap) (σ₀:St) (w₀:World) (T:Env) (dk:Nat) (fn:FuncId) (tm:Array Value) (ES:List Ey) (FN:Nat×Nat) (a:Act) (w:World):Prop:=
 ∃M o es p left last,LD M₀ σ₀ w₀ T l dk fn tm M (sN b2 bc r b8 (bt b 3) o es (eRd b p last left n 0 0)) w∧AInv 20 M (E168 l bc) (sN b2 bc r b8 (bt b 3) o es (eRd b p last left n 0 0)) a w∧
  offB b2 bc r b8 o∧(o=none→es=[])∧p≤b.length∧es.length+left≤4096∧ES=es++esOf (decP b (bt b 3) left p last).1∧FN=fin b left p last
def R168 (b:List Ty) (b2 bc r b8 n l:Nat) (M₀:MMap) (σ₀:St) (w₀:World) (T:Env) (dk:Nat) (fn:FuncId) (tm:Array Value) (ES:List Ey) (FN:Nat×Nat) (e:Ending) (w:World):Prop:=
 e= .returned (.tuple #[])∧∃M o p left last,LD M₀ σ₀ w₀ T l dk fn tm M (sN b2 bc r b8 (bt b 3) o ES (eRd b p last left n FN.1 FN.2)) w
theorem round168 {M₀:MMap} {σ₀:St} {w₀:World} {T:Env} {dk:Nat} {fn:FuncId} {tm:Array Value} {ES:List Ey} {FN:Nat×Nat} (ha:Ap b2 bc r b8) (hl:b.length≤140737488355328) (h6:6≤b.length) (h8:T 8= .ptr b8 0) (a:Act) (w:World)
  (hI:I168 b b2 bc r b8 n l M₀ σ₀ w₀ T dk fn tm ES FN a w):
  (Code.block 1 (.seq a168 (.seq b168 (.cond (.tmp 19) .ret .skip)))).wpIn Fence.wide 0 Tryz.prog
   (Exit.then (fun a' w'=>I168 b b2 bc r b8 n l M₀ σ₀ w₀ T dk fn tm ES FN a' w'∧(match w'.cell? ⟨r,3,none⟩ with|some (.int _ z)=>z.toNat|_=>0)<(match w.cell? ⟨r,3,none⟩ with|some (.int _ z)=>z.toNat|_=>0))
    (Exit.inBlock 0 (bodyPost Tryz.prog Tryz.f168 (R168 b b2 bc r b8 n l M₀ σ₀ w₀ T dk fn tm ES FN)))) a w:=by
 obtain⟨M,o,es,p,left,last,hL,hi,ho,hn,hp,hle,hES,hFN⟩:=hI
 have hN:decide (20≤1000000)=true:=rfl
 rw[left_of ha hL.inv]
 refine wpIn_block (wpIn_seq (wpIn_wide.2 (Code.wp_mono ?_ (vcA_sound Tryz.follows_mixed (by decide) a168 (next_part (l:=l) ha ho hl h6 hp (by omega)) M a w hi))))
 rintro e a1 w1 ⟨M1,T1,s1,x,hx,hi1,hk1,rfl,b3,hb3,rfl,t0,t1,t3,t4⟩
 obtain rfl:=hx
 have hL1:=hL.keep hk1 hi1.inv
 show(Code.seq b168 (.cond (.tmp 19) .ret .skip)).wpIn Fence.wide 0 Tryz.prog _ a1 w1
 by_cases hok:(nx b p last left n).2.1=true
 case neg=>
  have hf:(nx b p last left n).2.1=false:=by simpa using hok
  obtain⟨hz,p',last',left',hrd⟩:=nx_off hp hf
  rw[hf] at t4
  rw[hrd] at hb3 hi1 hL1
  refine wpIn_wide.2 (Code.wp_mono ?_ (vcA_sound (N:=20) Tryz.follows_mixed (by decide) (.seq b168 (.cond (.tmp 19) .ret .skip)) (Q:=fun x T' s=>x= .ret∧s=(sN b2 bc r b8 (bt b 3) o es (eRd b p' last' left' n (fin b left p last).1 (fin b left p last).2)).set b3 (eEy (nx b p last left n).1)) ?_ M1 a1 w1 hi1))
  ·rintro e a2 w2 ⟨M2,T2,s2,x,hx,hi2,hk2,rfl,rfl⟩
   obtain rfl:=hx
   refine⟨hi2.defers,_,res168 _ _,rfl,M2,o,p',left',last', ?_⟩
   have:=(hL1.keep hk2 hi2.inv).less (le_add hb3)
   rw[hES,hFN,hz,List.append_nil]
   exact this
  ·show vcA Tryz.prog 20 (.seq (strip b168) (.cond (.tmp 19) .ret .skip)) _ T1 _
   rw[b168_strip]
   simp -implicitDefEqProofs only[go_sem,t0,t1,t3,t4]
 obtain⟨e,p',k,hk,hpb,hnx,hES',hFN'⟩:=nx_on hok
 rw[hnx] at hb3 hi1 hL1 t4
 simp only at hb3 hi1 hL1 t4
 have hsub:St.le (sN b2 bc r b8 (bt b 3) o es (eRd b p' e.pos k n 0 0)) ((sN b2 bc r b8 (bt b 3) o es (eRd b p' e.pos k n 0 0)).set b3 (eEy e)):=le_add hb3
 refine wpIn_seq ?_
 rw[b168_is]
 refine wpIn_region_list ?_
 rw[bO168_parts]
 refine list_wide_cut (Q:=Post 20 M1 ((sN b2 bc r b8 (bt b 3) o es (eRd b p' e.pos k n 0 0)).set b3 (eEy e)) w1 fun x T' s=>x= .normal∧s=(sN b2 bc r b8 (bt b 3) o es (eRd b p' e.pos k n 0 0)).set b3 (eEy e)∧T' 0= .func (.yield l) [] []∧T' 1= .ptr bc 0∧T' 14= .bool false∧T' 15= .func (.yield l) [] []∧T' 16= .agg (eEy e)) noOut ?_ ?_ _ a1 w1 ?_
 ·rintro e' a' w' hne ⟨M',T',s',x,hx,_,_,rfl,_⟩
  exact absurd hx hne
 ·rintro a2 w2 ⟨M2,T2,s2,x,hx,hi2,hk2,-,rfl,u0,u1,u14,u15,u16⟩
  have hL2:=hL1.keep hk2 hi2.inv
  have hw:Region.wanted o17 (yielded bO168 a2.tmps)=true:=guardA_sound (by rw[o17_guard,u14]; rfl) hi2
  have hf15:a2.eval (.tmp 15)= .func (.yield l) #[] #[]:=by
   have:=hi2.env 15
   rw[u15] at this
   obtain⟨vf,vc,h1,h2,h3⟩:=this
   have e2:vf= #[]:=by simpa[zf8] using h2
   have e3:vc= #[]:=by simpa[zf8] using h3
   subst e2; subst e3; exact h1
  have hv:Rep M2 w2 (.agg (eEy e)) (a2.eval (.tmp 16)):=by have:=hi2.env 16; rw[u16] at this; exact this
  rw[wpListIn,if_pos hw]
  refine⟨fun f _=>trivial, ?_⟩
  rw[show Fence.wide.round=none from rfl,show Oper.semAt none a2.eval o17=execOp a2.eval o17 from rfl,yield_op o17_op hf15 hL2.lrec rfl,Oper.uponIn_round]
  refine⟨fun hd=>absurd hd (by simp[Fence.wide]), ?_⟩
  refine(round_sound (n:=0-1) (P:=Tryz.prog) (hN:=by decide) (hL2.less hsub) (p:=26) (by decide) hv nodefA nodefB
   (round94 (J:=fun s'=>∃o',offB b2 bc r b8 o'∧o'≠none∧St.le (sN b2 bc r b8 (bt b 3) o' (es++[e]) (eRd b p' e.pos k n 0 0)) s') ha ho hn (by omega) h8 fun o' s' h1 h2 h3=>⟨o',h1,h2,h3⟩)).mono ?_
  rintro e' w3 ⟨rfl,M3,s3,hL3,hK3,o',ho',hno',hle3⟩
  have hL3':=hL3.less hle3
  have hi3:AInv 20 M3 (upd T2 17 (.bool true)) (sN b2 bc r b8 (bt b 3) o' (es++[e]) (eRd b p' e.pos k n 0 0)) (a2.put o17.dst (.bool true)) w3:=by
   rw[o17_dst]
   exact(hi2.keep hK3 hL3'.inv).put (dst:=some 17) (d:= .bool true) (v:= .bool true) (fun t ht=>by cases ht; decide) rfl
  show wpListIn Fence.wide 0 Tryz.prog bO168 _ ([o18,o19]++[]) _ _
  refine list_wide_cut (Q:=Post 20 M3 (sN b2 bc r b8 (bt b 3) o' (es++[e]) (eRd b p' e.pos k n 0 0)) w3 fun x T' s=>x= .normal∧s=sN b2 bc r b8 (bt b 3) o' (es++[e]) (eRd b p' e.pos k n 0 0)∧T' 0= .func (.yield l) [] []∧T' 1= .ptr bc 0∧T' 19= .bool false) noOut ?_ ?_ _ _ w3 ?_
  ·rintro e' a' w' hne ⟨M',T',s',x,hx,_,_,rfl,_⟩
   exact absurd hx hne
  ·rintro a4 w4 ⟨M4,T4,s4,x,hx,hi4,hk4,-,rfl,v0,v1,v19⟩
   have hc:a4.eval (.tmp 19)= .bool false:=by have:=hi4.env 19; rw[v19] at this; exact this
   refine wpIn_cond_false hc (wpIn_skip ?_)
   have hL4:=hL3'.keep hk4 hi4.inv
   refine⟨⟨M4,o',es++[e],p',k,e.pos,hL4,hi4.forget ?_ (St.le.refl _),ho',fun h=>absurd h hno',hpb,by simp; omega,by rw[hES,hES',List.append_assoc]; rfl,hFN.trans hFN'⟩, ?_⟩
   ·refine envL_le fun q hq=> ?_
    simp only[List.mem_cons,List.not_mem_nil,or_false] at hq
    rcases hq with rfl|rfl
    ·exact v0
    ·exact v1
   ·rw[left_of ha hL4.inv]; omega
  ·refine aopsD_plain (M:=M3) (by decide) [o18,o19] ?_ hi3 hi3.inv.dom (KeepF.refl _ _ _)
   rw[suf168_is]
   simp -implicitDefEqProofs only[go_sem,u0,u1,u14]
 ·refine aopsD_plain (M:=M1) (by decide) (bO168.toList.take 5) ?_ hi1 hi1.inv.dom (KeepF.refl _ _ _)
  rw[pre168_is]
  simp -implicitDefEqProofs only[go_sem,t0,t1,t3,t4,zb4,za9,zb0]
theorem all168 {M₀:MMap} {σ₀:St} {w₀:World} {T:Env} {dk:Nat} {fn:FuncId} {tm:Array Value} {M:MMap} {w:World} (ha:Ap b2 bc r b8) (hl:b.length≤140737488355328) (h6:6≤b.length) (h8:T 8= .ptr b8 0) {left:Nat} (hle:left≤4096)
  (hL:LD M₀ σ₀ w₀ T l dk fn tm M (sN b2 bc r b8 (bt b 3) none [] (eRd b 6 (-1) left n 0 0)) w):
  Calls Tryz.prog 168 #[.func (.yield l) #[] #[],.pointer (some ⟨bc,0,none⟩)] w (R168 b b2 bc r b8 n l M₀ σ₀ w₀ T dk fn tm (esOf (decP b (bt b 3) left 6 (-1)).1) (fin b left 6 (-1))):=by
 refine calls_of_wp Tryz.func168 body168 ?_
 obtain⟨tms,htms⟩:∃tms,(#[.func (.yield l) #[] #[],.pointer (some ⟨bc,0,none⟩)]++Array.replicate (Tryz.f168.ntmps-2) undef:Array Value)=tms:=⟨_,rfl⟩
 have hsz:tms.size=20:=by rw[←htms,Tryz.ntmps168]; simp
 have hra:zf8 M w [.func (.yield l) [] [],.ptr bc 0] [.func (.yield l) #[] #[],.pointer (some ⟨bc,0,none⟩)]:=⟨_,_,rfl,⟨_,_,rfl,rfl,rfl⟩,_,_,rfl,rfl,rfl⟩
 have hi0:AInv 20 M (envOf [.func (.yield l) [] [],.ptr bc 0]) (sN b2 bc r b8 (bt b 3) none [] (eRd b 6 (-1) left n 0 0)) {tmps:=tms,defers:=[]} w:=
  ⟨hL.inv,hsz,rfl,fun t=>by rw[←htms]; exact envOf_rep hra _ t⟩
 have hie:Env.le (E168 l bc) (envOf [.func (.yield l) [] [],.ptr bc 0]):=envL_le fun q hq=>by
  simp only[List.mem_cons,List.not_mem_nil,or_false] at hq
  rcases hq with rfl|rfl <;> rfl
 refine Code.wp_mono (Q:=Exit.inBlock 0 (bodyPost Tryz.prog Tryz.f168 (R168 b b2 bc r b8 n l M₀ σ₀ w₀ T dk fn tm (esOf (decP b (bt b 3) left 6 (-1)).1) (fin b left 6 (-1))))) ?_ ?_ |> wp_block
 ·exact fun e a w h=>h
 show(Code.loop _).wp Tryz.prog _ {tmps:=(#[.func (.yield l) #[] #[],.pointer (some ⟨bc,0,none⟩)]++Array.replicate (Tryz.f168.ntmps-2) undef:Array Value),defers:=[]} w
 rw[htms]
 refine(wpIn_wide (n:=0)).1 (wpIn_loop (I168 b b2 bc r b8 n l M₀ σ₀ w₀ T dk fn tm (esOf (decP b (bt b 3) left 6 (-1)).1) (fin b left 6 (-1))) (fun _ w=>match w.cell? ⟨r,3,none⟩ with|some (.int _ z)=>z.toNat|_=>0) ?_ fun a w hI=>round168 ha hl h6 h8 a w hI)
 exact⟨M,none,[],6,left,-1,hL,hi0.forget hie (St.le.refl _),fun b hb=>(by cases hb),fun _=>rfl,h6,by simpa using hle,rfl,rfl⟩
end
end Go.AL
