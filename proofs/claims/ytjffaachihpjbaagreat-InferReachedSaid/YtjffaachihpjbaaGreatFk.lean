import Derived.Test.YtjffaachihpjbaaGreatFj
import Derived.Test.YtjffaachihpjbaaGreatFh
import Derived.Test.YtjffaachihpjbaaGreatFi
set_option linter.unusedSimpArgs false
set_option linter.unusedVariables false
set_option maxRecDepth 100000
set_option maxHeartbeats 2000000
set_option linter.defProp false
set_option maxHeartbeats 400000
namespace Go.AL
open Go.Proofs
def flds (e:En) (i:Ins):List Fd:=zf8 e.cs (upI e.cs i.a).reverse
def zg0 (e:En) (i:Ins):Nat→List Ty
 |5=>[254]
 |6=>[255]
 |7=>[255]
 |8=>[255,255]
 |9=>[1,1]
 |10=>[1,1]
 |11=>[1,1]
 |12=>[1,1]
 |13=>[1,1]
 |14=>[1]
 |15=>[1,1]
 |16=>[255,255]
 |17=>[2]
 |18=>[253,253]
 |20=>[2]
 |26=>[1]
 |27=>[4]
 |28=>[4,1]
 |29=>[4,1,1]
 |30=>[253]
 |31=>[253]
 |33=>[1]
 |21=>((e.sgs[i.a.toNat]?).map Sg.ps).getD []
 |22=>((e.sgs[e.fn.toNat]?).map fun s=>someR s.r).getD []
 |24=>[ofClass i.a]
 |25=>[ofClass i.a,(((flds e i)[i.b.toNat]?).map Fd.ty).getD 0]
 |_=>[]
def givesO (e:En) (i:Ins):Nat→List Ty
 |1=>[1]
 |2=>[2]
 |3=>[3]
 |4=>[255]
 |7=>[255,255]
 |8=>[255,255]
 |9=>[1]
 |10=>[1]
 |11=>[1]
 |12=>[1]
 |13=>[1]
 |14=>[1]
 |15=>[2]
 |16=>[2]
 |17=>[2]
 |18=>[2]
 |26=>[4]
 |27=>[1]
 |28=>[1]
 |31=>[2]
 |21=>((e.sgs[i.a.toNat]?).map fun s=>someR s.r).getD []
 |23=>[ofClass i.a]
 |30=>[ofClass i.a]
 |24=>(((flds e i)[i.b.toNat]?).map fun f=>someR f.ty).getD []
 |_=>[]
theorem ofClass_eq {a:Int} {k:Nat} (h:a=k) (hk:k<32):ofClass a=(⟨16+k,by omega⟩:Ty):=by
 subst h; ext; simp[ofClass]; omega
theorem opnd_cls {e:En} {i:Ins} (h:opndF e i=0) (ho:i.op.val=23∨i.op.val=30∨i.op.val=31∨i.op.val=24∨i.op.val=25):0≤i.a∧i.a<e.cs.length:=by
 unfold opndF at h
 repeat' split at h
 all_goals omega
theorem opnd_fld {e:En} {i:Ins} (h:opndF e i=0) (ho:i.op.val=24∨i.op.val=25):(0≤i.a∧i.a<e.cs.length)∧0≤i.b∧i.b.toNat<(flds e i).length:=by
 unfold opndF at h
 rw[if_neg (by omega),if_neg (by omega),if_pos (by omega)] at h
 split at h
 ·assumption
 ·cases h
theorem opnd_sig {e:En} {i:Ins} (h:opndF e i=0) (ho:i.op.val=21):0≤i.a∧i.a.toNat<e.sgs.length:=by
 unfold opndF at h
 rw[if_pos ho] at h
 split at h
 ·assumption
 ·cases h
theorem refTakes76 (e:En) (i:Ins) (hc:Can e) (ho:opndF e i=0) (h34:i.op.val<34):PCall Tryz.prog 96 [.agg (eEn e),.agg (eIn i)] (.slice .no (rws eT (zg0 e i i.op.val))):=by
 have h32:=hc.cls
 refine F96.pcall' rfl fun T hT=> ?_
 have hk34:i.op.val=0∨i.op.val=1∨i.op.val=2∨i.op.val=3∨i.op.val=4∨i.op.val=5∨i.op.val=6∨i.op.val=7∨i.op.val=8∨i.op.val=9∨i.op.val=10∨i.op.val=11∨i.op.val=12∨i.op.val=13∨i.op.val=14∨i.op.val=15∨i.op.val=16∨i.op.val=17∨i.op.val=18∨i.op.val=19∨i.op.val=20∨i.op.val=21∨i.op.val=22∨i.op.val=23∨i.op.val=24∨i.op.val=25∨i.op.val=26∨i.op.val=27∨i.op.val=28∨i.op.val=29∨i.op.val=30∨i.op.val=31∨i.op.val=32∨i.op.val=33:=by omega
 rcases hk34 with h|h|h|h|h|h|h|h|h|h|h|h|h|h|h|h|h|h|h|h|h|h|h|h|h|h|h|h|h|h|h|h|h|h
 ·rw[show(i.op.val)=0 from h,show zg0 e i 0=[] from rfl]
  have h:(i.op.val:Int)=0:=by omega
  simp -implicitDefEqProofs only[go_sem,c96,hT,eEn,eIn,h,frz]
  first|exact DLe.slice _ _|(intro b2 b3 n1 n2; exact DLe.slice _ _)
 ·rw[show(i.op.val)=1 from h,show zg0 e i 1=[] from rfl]
  have h:(i.op.val:Int)=1:=by omega
  simp -implicitDefEqProofs only[go_sem,c96,hT,eEn,eIn,h,frz]
  first|exact DLe.slice _ _|(intro b2 b3 n1 n2; exact DLe.slice _ _)
 ·rw[show(i.op.val)=2 from h,show zg0 e i 2=[] from rfl]
  have h:(i.op.val:Int)=2:=by omega
  simp -implicitDefEqProofs only[go_sem,c96,hT,eEn,eIn,h,frz]
  first|exact DLe.slice _ _|(intro b2 b3 n1 n2; exact DLe.slice _ _)
 ·rw[show(i.op.val)=3 from h,show zg0 e i 3=[] from rfl]
  have h:(i.op.val:Int)=3:=by omega
  simp -implicitDefEqProofs only[go_sem,c96,hT,eEn,eIn,h,frz]
  first|exact DLe.slice _ _|(intro b2 b3 n1 n2; exact DLe.slice _ _)
 ·rw[show(i.op.val)=4 from h,show zg0 e i 4=[] from rfl]
  have h:(i.op.val:Int)=4:=by omega
  simp -implicitDefEqProofs only[go_sem,c96,hT,eEn,eIn,h,frz]
  first|exact DLe.slice _ _|(intro b2 b3 n1 n2; exact DLe.slice _ _)
 ·rw[show(i.op.val)=5 from h,show zg0 e i 5=[254] from rfl]
  have h:(i.op.val:Int)=5:=by omega
  simp -implicitDefEqProofs only[go_sem,c96,hT,eEn,eIn,h,frz]
  first|exact DLe.slice _ _|(intro b2 b3 n1 n2; exact DLe.slice _ _)
 ·rw[show(i.op.val)=6 from h,show zg0 e i 6=[255] from rfl]
  have h:(i.op.val:Int)=6:=by omega
  simp -implicitDefEqProofs only[go_sem,c96,hT,eEn,eIn,h,frz]
  first|exact DLe.slice _ _|(intro b2 b3 n1 n2; exact DLe.slice _ _)
 ·rw[show(i.op.val)=7 from h,show zg0 e i 7=[255] from rfl]
  have h:(i.op.val:Int)=7:=by omega
  simp -implicitDefEqProofs only[go_sem,c96,hT,eEn,eIn,h,frz]
  first|exact DLe.slice _ _|(intro b2 b3 n1 n2; exact DLe.slice _ _)
 ·rw[show(i.op.val)=8 from h,show zg0 e i 8=[255,255] from rfl]
  have h:(i.op.val:Int)=8:=by omega
  simp -implicitDefEqProofs only[go_sem,c96,hT,eEn,eIn,h,frz]
  first|exact DLe.slice _ _|(intro b2 b3 n1 n2; exact DLe.slice _ _)
 ·rw[show(i.op.val)=9 from h,show zg0 e i 9=[1,1] from rfl]
  have h:(i.op.val:Int)=9:=by omega
  simp -implicitDefEqProofs only[go_sem,c96,hT,eEn,eIn,h,frz]
  first|exact DLe.slice _ _|(intro b2 b3 n1 n2; exact DLe.slice _ _)
 ·rw[show(i.op.val)=10 from h,show zg0 e i 10=[1,1] from rfl]
  have h:(i.op.val:Int)=10:=by omega
  simp -implicitDefEqProofs only[go_sem,c96,hT,eEn,eIn,h,frz]
  first|exact DLe.slice _ _|(intro b2 b3 n1 n2; exact DLe.slice _ _)
 ·rw[show(i.op.val)=11 from h,show zg0 e i 11=[1,1] from rfl]
  have h:(i.op.val:Int)=11:=by omega
  simp -implicitDefEqProofs only[go_sem,c96,hT,eEn,eIn,h,frz]
  first|exact DLe.slice _ _|(intro b2 b3 n1 n2; exact DLe.slice _ _)
 ·rw[show(i.op.val)=12 from h,show zg0 e i 12=[1,1] from rfl]
  have h:(i.op.val:Int)=12:=by omega
  simp -implicitDefEqProofs only[go_sem,c96,hT,eEn,eIn,h,frz]
  first|exact DLe.slice _ _|(intro b2 b3 n1 n2; exact DLe.slice _ _)
 ·rw[show(i.op.val)=13 from h,show zg0 e i 13=[1,1] from rfl]
  have h:(i.op.val:Int)=13:=by omega
  simp -implicitDefEqProofs only[go_sem,c96,hT,eEn,eIn,h,frz]
  first|exact DLe.slice _ _|(intro b2 b3 n1 n2; exact DLe.slice _ _)
 ·rw[show(i.op.val)=14 from h,show zg0 e i 14=[1] from rfl]
  have h:(i.op.val:Int)=14:=by omega
  simp -implicitDefEqProofs only[go_sem,c96,hT,eEn,eIn,h,frz]
  first|exact DLe.slice _ _|(intro b2 b3 n1 n2; exact DLe.slice _ _)
 ·rw[show(i.op.val)=15 from h,show zg0 e i 15=[1,1] from rfl]
  have h:(i.op.val:Int)=15:=by omega
  simp -implicitDefEqProofs only[go_sem,c96,hT,eEn,eIn,h,frz]
  first|exact DLe.slice _ _|(intro b2 b3 n1 n2; exact DLe.slice _ _)
 ·rw[show(i.op.val)=16 from h,show zg0 e i 16=[255,255] from rfl]
  have h:(i.op.val:Int)=16:=by omega
  simp -implicitDefEqProofs only[go_sem,c96,hT,eEn,eIn,h,frz]
  first|exact DLe.slice _ _|(intro b2 b3 n1 n2; exact DLe.slice _ _)
 ·rw[show(i.op.val)=17 from h,show zg0 e i 17=[2] from rfl]
  have h:(i.op.val:Int)=17:=by omega
  simp -implicitDefEqProofs only[go_sem,c96,hT,eEn,eIn,h,frz]
  first|exact DLe.slice _ _|(intro b2 b3 n1 n2; exact DLe.slice _ _)
 ·rw[show(i.op.val)=18 from h,show zg0 e i 18=[253,253] from rfl]
  have h:(i.op.val:Int)=18:=by omega
  simp -implicitDefEqProofs only[go_sem,c96,hT,eEn,eIn,h,frz]
  first|exact DLe.slice _ _|(intro b2 b3 n1 n2; exact DLe.slice _ _)
 ·rw[show(i.op.val)=19 from h,show zg0 e i 19=[] from rfl]
  have h:(i.op.val:Int)=19:=by omega
  simp -implicitDefEqProofs only[go_sem,c96,hT,eEn,eIn,h,frz]
  first|exact DLe.slice _ _|(intro b2 b3 n1 n2; exact DLe.slice _ _)
 ·rw[show(i.op.val)=20 from h,show zg0 e i 20=[2] from rfl]
  have h:(i.op.val:Int)=20:=by omega
  simp -implicitDefEqProofs only[go_sem,c96,hT,eEn,eIn,h,frz]
  first|exact DLe.slice _ _|(intro b2 b3 n1 n2; exact DLe.slice _ _)
 ·rw[show(i.op.val)=21 from h]
  have h':(i.op.val:Int)=21:=by omega
  simp -implicitDefEqProofs only[go_sem,c96,hT,eEn,eIn,h',frz]
  intro b2 b3 n1 n2
  obtain⟨ha,hal⟩:=opnd_sig ho h
  obtain⟨k,hk⟩:∃k:Nat,i.a=k:=⟨i.a.toNat,by omega⟩
  have hkl:k<e.sgs.length:=by omega
  have hkn:i.a.toNat=k:=by omega
  have hR:(rws eSg e.sgs)[k]?.getD []=eSg e.sgs[k]:=rws_at hkl
  have ht:(e.sgs[i.a.toNat]?)=some e.sgs[k]:=by rw[hkn,List.getElem?_eq_getElem hkl]
  rw[show zg0 e i 21=((e.sgs[i.a.toNat]?).map Sg.ps).getD [] from rfl,ht]
  generalize e.sgs[k]=s at *
  simp -implicitDefEqProofs only[go_sem,hT,eEn,eIn,n1,n2,h',hk,hR,eSg,eSg_len]
  first|exact⟨by omega,DLe.refl _⟩|omega
 ·rw[show(i.op.val)=22 from h]
  have h':(i.op.val:Int)=22:=by omega
  simp -implicitDefEqProofs only[go_sem,c96,hT,eEn,eIn,h',frz]
  intro b2 b3 n1 n2
  have ha:=hc.fn0
  have hal:=hc.fn1
  obtain⟨k,hk⟩:∃k:Nat,e.fn=k:=⟨e.fn.toNat,by omega⟩
  have hkl:k<e.sgs.length:=by omega
  have hkn:e.fn.toNat=k:=by omega
  have hR:(rws eSg e.sgs)[k]?.getD []=eSg e.sgs[k]:=rws_at hkl
  have ht:(e.sgs[e.fn.toNat]?)=some e.sgs[k]:=by rw[hkn,List.getElem?_eq_getElem hkl]
  rw[show zg0 e i 22=((e.sgs[e.fn.toNat]?).map fun s=>someR s.r).getD [] from rfl,ht]
  generalize e.sgs[k]=s at *
  simp -implicitDefEqProofs only[go_sem,hT,eEn,eIn,n1,n2,h',hk,hR,eSg,eSg_len]
  refine⟨by omega,za3 (some115 s.r) ?_⟩
  simp -implicitDefEqProofs only[go_sem,hT]
 ·rw[show(i.op.val)=23 from h,show zg0 e i 23=[] from rfl]
  have h:(i.op.val:Int)=23:=by omega
  simp -implicitDefEqProofs only[go_sem,c96,hT,eEn,eIn,h,frz]
  first|exact DLe.slice _ _|(intro b2 b3 n1 n2; exact DLe.slice _ _)
 ·rw[show(i.op.val)=24 from h]
  have h':(i.op.val:Int)=24:=by omega
  simp -implicitDefEqProofs only[go_sem,c96,hT,eEn,eIn,h',frz]
  intro b2 b3 n1 n2
  obtain⟨ha,hal⟩:=opnd_cls ho (by omega)
  obtain⟨k,hk⟩:∃k:Nat,i.a=k:=⟨i.a.toNat,by omega⟩
  rw[show zg0 e i 24=[ofClass i.a] from rfl,ofClass_eq hk (by omega)]
  simp -implicitDefEqProofs only[go_sem,hT,eEn,eIn,n1,n2,h',hk]
  refine za3 (class116 k (by omega)) ?_
  simp -implicitDefEqProofs only[go_sem,hT,frz]
  exact DLe.slice _ _
 ·rw[show(i.op.val)=25 from h]
  have h':(i.op.val:Int)=25:=by omega
  simp -implicitDefEqProofs only[go_sem,c96,hT,eEn,eIn,h',frz]
  intro b2 b3 n1 n2
  obtain⟨⟨ha,hal⟩,hb,hbl⟩:=opnd_fld ho (by omega)
  have hup:=refFieldsUp hc i.a hal
  have hfl:=hc.flds i.a
  have hw1:=hc.wide.1.1
  obtain⟨k,hk⟩:∃k:Nat,i.a=k:=⟨i.a.toNat,by omega⟩
  obtain⟨j,hj⟩:∃j:Nat,i.b=j:=⟨i.b.toNat,by omega⟩
  have hjn:i.b.toNat=j:=by omega
  have hF:flds e i=zf8 e.cs (lineR e.cs i.a).reverse:=hup.symm
  rw[←hup,←hF] at hfl
  have hcall:=refFields114 e.cs .no i.a (by omega) (by rw[←hF]; omega)
  rw[←hF] at hcall
  have hjl:j<(flds e i).length:=by omega
  have hRf:(rws eF (flds e i))[j]?.getD []=eF (flds e i)[j]:=rws_at hjl
  have hty:(flds e i)[i.b.toNat]? =some (flds e i)[j]:=by rw[hjn,List.getElem?_eq_getElem hjl]
  rw[show zg0 e i 25=[ofClass i.a,(((flds e i)[i.b.toNat]?).map Fd.ty).getD 0] from rfl,hty,ofClass_eq hk (by omega)]
  rw[hk] at hcall
  generalize (flds e i)[j]=fd at *
  generalize flds e i=F at *
  simp -implicitDefEqProofs only[go_sem,hT,eEn,eIn,n1,n2,h',hk,hj]
  refine⟨by intro b hb; rcases hb with rfl|rfl <;> simp[n1,n2],za3 (class116 k (by omega)) ?_⟩
  simp -implicitDefEqProofs only[go_sem,hT,eEn,eIn,n1,n2,h',hk,hj]
  refine za3 hcall ?_
  simp -implicitDefEqProofs only[go_sem,hT,eEn,eIn,n1,n2,h',hk,hj,hRf,eF,eF_len,frz]
  exact⟨by omega,DLe.slice _ _⟩
 ·rw[show(i.op.val)=26 from h,show zg0 e i 26=[1] from rfl]
  have h:(i.op.val:Int)=26:=by omega
  simp -implicitDefEqProofs only[go_sem,c96,hT,eEn,eIn,h,frz]
  first|exact DLe.slice _ _|(intro b2 b3 n1 n2; exact DLe.slice _ _)
 ·rw[show(i.op.val)=27 from h,show zg0 e i 27=[4] from rfl]
  have h:(i.op.val:Int)=27:=by omega
  simp -implicitDefEqProofs only[go_sem,c96,hT,eEn,eIn,h,frz]
  first|exact DLe.slice _ _|(intro b2 b3 n1 n2; exact DLe.slice _ _)
 ·rw[show(i.op.val)=28 from h,show zg0 e i 28=[4,1] from rfl]
  have h:(i.op.val:Int)=28:=by omega
  simp -implicitDefEqProofs only[go_sem,c96,hT,eEn,eIn,h,frz]
  first|exact DLe.slice _ _|(intro b2 b3 n1 n2; exact DLe.slice _ _)
 ·rw[show(i.op.val)=29 from h,show zg0 e i 29=[4,1,1] from rfl]
  have h:(i.op.val:Int)=29:=by omega
  simp -implicitDefEqProofs only[go_sem,c96,hT,eEn,eIn,h,frz]
  first|exact DLe.slice _ _|(intro b2 b3 n1 n2; exact DLe.slice _ _)
 ·rw[show(i.op.val)=30 from h,show zg0 e i 30=[253] from rfl]
  have h:(i.op.val:Int)=30:=by omega
  simp -implicitDefEqProofs only[go_sem,c96,hT,eEn,eIn,h,frz]
  first|exact DLe.slice _ _|(intro b2 b3 n1 n2; exact DLe.slice _ _)
 ·rw[show(i.op.val)=31 from h,show zg0 e i 31=[253] from rfl]
  have h:(i.op.val:Int)=31:=by omega
  simp -implicitDefEqProofs only[go_sem,c96,hT,eEn,eIn,h,frz]
  first|exact DLe.slice _ _|(intro b2 b3 n1 n2; exact DLe.slice _ _)
 ·rw[show(i.op.val)=32 from h,show zg0 e i 32=[] from rfl]
  have h:(i.op.val:Int)=32:=by omega
  simp -implicitDefEqProofs only[go_sem,c96,hT,eEn,eIn,h,frz]
  first|exact DLe.slice _ _|(intro b2 b3 n1 n2; exact DLe.slice _ _)
 ·rw[show(i.op.val)=33 from h,show zg0 e i 33=[1] from rfl]
  have h:(i.op.val:Int)=33:=by omega
  simp -implicitDefEqProofs only[go_sem,c96,hT,eEn,eIn,h,frz]
  first|exact DLe.slice _ _|(intro b2 b3 n1 n2; exact DLe.slice _ _)
theorem refGives77 (e:En) (i:Ins) (hc:Can e) (ho:opndF e i=0) (h34:i.op.val<34):PCall Tryz.prog 98 [.agg (eEn e),.agg (eIn i)] (.slice .no (rws eT (givesO e i i.op.val))):=by
 have h32:=hc.cls
 refine F98.pcall' rfl fun T hT=> ?_
 have hk34:i.op.val=0∨i.op.val=1∨i.op.val=2∨i.op.val=3∨i.op.val=4∨i.op.val=5∨i.op.val=6∨i.op.val=7∨i.op.val=8∨i.op.val=9∨i.op.val=10∨i.op.val=11∨i.op.val=12∨i.op.val=13∨i.op.val=14∨i.op.val=15∨i.op.val=16∨i.op.val=17∨i.op.val=18∨i.op.val=19∨i.op.val=20∨i.op.val=21∨i.op.val=22∨i.op.val=23∨i.op.val=24∨i.op.val=25∨i.op.val=26∨i.op.val=27∨i.op.val=28∨i.op.val=29∨i.op.val=30∨i.op.val=31∨i.op.val=32∨i.op.val=33:=by omega
 rcases hk34 with h|h|h|h|h|h|h|h|h|h|h|h|h|h|h|h|h|h|h|h|h|h|h|h|h|h|h|h|h|h|h|h|h|h
 ·rw[show(i.op.val)=0 from h,show givesO e i 0=[] from rfl]
  have h:(i.op.val:Int)=0:=by omega
  simp -implicitDefEqProofs only[go_sem,c98,hT,eEn,eIn,h,frz]
  first|exact DLe.slice _ _|(intro b2 b3 n1 n2; exact DLe.slice _ _)
 ·rw[show(i.op.val)=1 from h,show givesO e i 1=[1] from rfl]
  have h:(i.op.val:Int)=1:=by omega
  simp -implicitDefEqProofs only[go_sem,c98,hT,eEn,eIn,h,frz]
  first|exact DLe.slice _ _|(intro b2 b3 n1 n2; exact DLe.slice _ _)
 ·rw[show(i.op.val)=2 from h,show givesO e i 2=[2] from rfl]
  have h:(i.op.val:Int)=2:=by omega
  simp -implicitDefEqProofs only[go_sem,c98,hT,eEn,eIn,h,frz]
  first|exact DLe.slice _ _|(intro b2 b3 n1 n2; exact DLe.slice _ _)
 ·rw[show(i.op.val)=3 from h,show givesO e i 3=[3] from rfl]
  have h:(i.op.val:Int)=3:=by omega
  simp -implicitDefEqProofs only[go_sem,c98,hT,eEn,eIn,h,frz]
  first|exact DLe.slice _ _|(intro b2 b3 n1 n2; exact DLe.slice _ _)
 ·rw[show(i.op.val)=4 from h,show givesO e i 4=[255] from rfl]
  have h:(i.op.val:Int)=4:=by omega
  simp -implicitDefEqProofs only[go_sem,c98,hT,eEn,eIn,h,frz]
  first|exact DLe.slice _ _|(intro b2 b3 n1 n2; exact DLe.slice _ _)
 ·rw[show(i.op.val)=5 from h,show givesO e i 5=[] from rfl]
  have h:(i.op.val:Int)=5:=by omega
  simp -implicitDefEqProofs only[go_sem,c98,hT,eEn,eIn,h,frz]
  first|exact DLe.slice _ _|(intro b2 b3 n1 n2; exact DLe.slice _ _)
 ·rw[show(i.op.val)=6 from h,show givesO e i 6=[] from rfl]
  have h:(i.op.val:Int)=6:=by omega
  simp -implicitDefEqProofs only[go_sem,c98,hT,eEn,eIn,h,frz]
  first|exact DLe.slice _ _|(intro b2 b3 n1 n2; exact DLe.slice _ _)
 ·rw[show(i.op.val)=7 from h,show givesO e i 7=[255,255] from rfl]
  have h:(i.op.val:Int)=7:=by omega
  simp -implicitDefEqProofs only[go_sem,c98,hT,eEn,eIn,h,frz]
  first|exact DLe.slice _ _|(intro b2 b3 n1 n2; exact DLe.slice _ _)
 ·rw[show(i.op.val)=8 from h,show givesO e i 8=[255,255] from rfl]
  have h:(i.op.val:Int)=8:=by omega
  simp -implicitDefEqProofs only[go_sem,c98,hT,eEn,eIn,h,frz]
  first|exact DLe.slice _ _|(intro b2 b3 n1 n2; exact DLe.slice _ _)
 ·rw[show(i.op.val)=9 from h,show givesO e i 9=[1] from rfl]
  have h:(i.op.val:Int)=9:=by omega
  simp -implicitDefEqProofs only[go_sem,c98,hT,eEn,eIn,h,frz]
  first|exact DLe.slice _ _|(intro b2 b3 n1 n2; exact DLe.slice _ _)
 ·rw[show(i.op.val)=10 from h,show givesO e i 10=[1] from rfl]
  have h:(i.op.val:Int)=10:=by omega
  simp -implicitDefEqProofs only[go_sem,c98,hT,eEn,eIn,h,frz]
  first|exact DLe.slice _ _|(intro b2 b3 n1 n2; exact DLe.slice _ _)
 ·rw[show(i.op.val)=11 from h,show givesO e i 11=[1] from rfl]
  have h:(i.op.val:Int)=11:=by omega
  simp -implicitDefEqProofs only[go_sem,c98,hT,eEn,eIn,h,frz]
  first|exact DLe.slice _ _|(intro b2 b3 n1 n2; exact DLe.slice _ _)
 ·rw[show(i.op.val)=12 from h,show givesO e i 12=[1] from rfl]
  have h:(i.op.val:Int)=12:=by omega
  simp -implicitDefEqProofs only[go_sem,c98,hT,eEn,eIn,h,frz]
  first|exact DLe.slice _ _|(intro b2 b3 n1 n2; exact DLe.slice _ _)
 ·rw[show(i.op.val)=13 from h,show givesO e i 13=[1] from rfl]
  have h:(i.op.val:Int)=13:=by omega
  simp -implicitDefEqProofs only[go_sem,c98,hT,eEn,eIn,h,frz]
  first|exact DLe.slice _ _|(intro b2 b3 n1 n2; exact DLe.slice _ _)
 ·rw[show(i.op.val)=14 from h,show givesO e i 14=[1] from rfl]
  have h:(i.op.val:Int)=14:=by omega
  simp -implicitDefEqProofs only[go_sem,c98,hT,eEn,eIn,h,frz]
  first|exact DLe.slice _ _|(intro b2 b3 n1 n2; exact DLe.slice _ _)
 ·rw[show(i.op.val)=15 from h,show givesO e i 15=[2] from rfl]
  have h:(i.op.val:Int)=15:=by omega
  simp -implicitDefEqProofs only[go_sem,c98,hT,eEn,eIn,h,frz]
  first|exact DLe.slice _ _|(intro b2 b3 n1 n2; exact DLe.slice _ _)
 ·rw[show(i.op.val)=16 from h,show givesO e i 16=[2] from rfl]
  have h:(i.op.val:Int)=16:=by omega
  simp -implicitDefEqProofs only[go_sem,c98,hT,eEn,eIn,h,frz]
  first|exact DLe.slice _ _|(intro b2 b3 n1 n2; exact DLe.slice _ _)
 ·rw[show(i.op.val)=17 from h,show givesO e i 17=[2] from rfl]
  have h:(i.op.val:Int)=17:=by omega
  simp -implicitDefEqProofs only[go_sem,c98,hT,eEn,eIn,h,frz]
  first|exact DLe.slice _ _|(intro b2 b3 n1 n2; exact DLe.slice _ _)
 ·rw[show(i.op.val)=18 from h,show givesO e i 18=[2] from rfl]
  have h:(i.op.val:Int)=18:=by omega
  simp -implicitDefEqProofs only[go_sem,c98,hT,eEn,eIn,h,frz]
  first|exact DLe.slice _ _|(intro b2 b3 n1 n2; exact DLe.slice _ _)
 ·rw[show(i.op.val)=19 from h,show givesO e i 19=[] from rfl]
  have h:(i.op.val:Int)=19:=by omega
  simp -implicitDefEqProofs only[go_sem,c98,hT,eEn,eIn,h,frz]
  first|exact DLe.slice _ _|(intro b2 b3 n1 n2; exact DLe.slice _ _)
 ·rw[show(i.op.val)=20 from h,show givesO e i 20=[] from rfl]
  have h:(i.op.val:Int)=20:=by omega
  simp -implicitDefEqProofs only[go_sem,c98,hT,eEn,eIn,h,frz]
  first|exact DLe.slice _ _|(intro b2 b3 n1 n2; exact DLe.slice _ _)
 ·rw[show(i.op.val)=21 from h]
  have h':(i.op.val:Int)=21:=by omega
  simp -implicitDefEqProofs only[go_sem,c98,hT,eEn,eIn,h',frz]
  intro b2 b3 n1 n2
  obtain⟨ha,hal⟩:=opnd_sig ho h
  obtain⟨k,hk⟩:∃k:Nat,i.a=k:=⟨i.a.toNat,by omega⟩
  have hkl:k<e.sgs.length:=by omega
  have hkn:i.a.toNat=k:=by omega
  have hR:(rws eSg e.sgs)[k]?.getD []=eSg e.sgs[k]:=rws_at hkl
  have ht:(e.sgs[i.a.toNat]?)=some e.sgs[k]:=by rw[hkn,List.getElem?_eq_getElem hkl]
  rw[show givesO e i 21=((e.sgs[i.a.toNat]?).map fun s=>someR s.r).getD [] from rfl,ht]
  generalize e.sgs[k]=s at *
  simp -implicitDefEqProofs only[go_sem,hT,eEn,eIn,n1,n2,h',hk,hR,eSg,eSg_len]
  refine⟨by omega,za3 (some115 s.r) ?_⟩
  simp -implicitDefEqProofs only[go_sem,hT]
 ·rw[show(i.op.val)=22 from h,show givesO e i 22=[] from rfl]
  have h:(i.op.val:Int)=22:=by omega
  simp -implicitDefEqProofs only[go_sem,c98,hT,eEn,eIn,h,frz]
  first|exact DLe.slice _ _|(intro b2 b3 n1 n2; exact DLe.slice _ _)
 ·rw[show(i.op.val)=23 from h]
  have h':(i.op.val:Int)=23:=by omega
  simp -implicitDefEqProofs only[go_sem,c98,hT,eEn,eIn,h',frz]
  intro b2 b3 n1 n2
  obtain⟨ha,hal⟩:=opnd_cls ho (by omega)
  obtain⟨k,hk⟩:∃k:Nat,i.a=k:=⟨i.a.toNat,by omega⟩
  rw[show givesO e i 23=[ofClass i.a] from rfl,ofClass_eq hk (by omega)]
  simp -implicitDefEqProofs only[go_sem,hT,eEn,eIn,n1,n2,h',hk]
  refine za3 (class116 k (by omega)) ?_
  simp -implicitDefEqProofs only[go_sem,hT,frz]
  exact DLe.slice _ _
 ·rw[show(i.op.val)=24 from h]
  have h':(i.op.val:Int)=24:=by omega
  simp -implicitDefEqProofs only[go_sem,c98,hT,eEn,eIn,h',frz]
  intro b2 b3 n1 n2
  obtain⟨⟨ha,hal⟩,hb,hbl⟩:=opnd_fld ho (by omega)
  have hup:=refFieldsUp hc i.a hal
  have hfl:=hc.flds i.a
  have hw1:=hc.wide.1.1
  obtain⟨k,hk⟩:∃k:Nat,i.a=k:=⟨i.a.toNat,by omega⟩
  obtain⟨j,hj⟩:∃j:Nat,i.b=j:=⟨i.b.toNat,by omega⟩
  have hjn:i.b.toNat=j:=by omega
  have hF:flds e i=zf8 e.cs (lineR e.cs i.a).reverse:=hup.symm
  rw[←hup,←hF] at hfl
  have hcall:=refFields114 e.cs .no i.a (by omega) (by rw[←hF]; omega)
  rw[←hF] at hcall
  have hjl:j<(flds e i).length:=by omega
  have hRf:(rws eF (flds e i))[j]?.getD []=eF (flds e i)[j]:=rws_at hjl
  have hty:(flds e i)[i.b.toNat]? =some (flds e i)[j]:=by rw[hjn,List.getElem?_eq_getElem hjl]
  rw[show givesO e i 24=(((flds e i)[i.b.toNat]?).map fun f=>someR f.ty).getD [] from rfl,hty]
  rw[hk] at hcall
  generalize (flds e i)[j]=fd at *
  generalize flds e i=F at *
  simp -implicitDefEqProofs only[go_sem,hT,eEn,eIn,n1,n2,h',hk,hj]
  refine⟨by rintro b rfl; simp[n1,n2],za3 hcall ?_⟩
  simp -implicitDefEqProofs only[go_sem,hT,eEn,eIn,n1,n2,h',hk,hj,hRf,eF,eF_len]
  refine⟨by omega,za3 (some115 fd.ty) ?_⟩
  simp -implicitDefEqProofs only[go_sem,hT]
 ·rw[show(i.op.val)=25 from h,show givesO e i 25=[] from rfl]
  have h:(i.op.val:Int)=25:=by omega
  simp -implicitDefEqProofs only[go_sem,c98,hT,eEn,eIn,h,frz]
  first|exact DLe.slice _ _|(intro b2 b3 n1 n2; exact DLe.slice _ _)
 ·rw[show(i.op.val)=26 from h,show givesO e i 26=[4] from rfl]
  have h:(i.op.val:Int)=26:=by omega
  simp -implicitDefEqProofs only[go_sem,c98,hT,eEn,eIn,h,frz]
  first|exact DLe.slice _ _|(intro b2 b3 n1 n2; exact DLe.slice _ _)
 ·rw[show(i.op.val)=27 from h,show givesO e i 27=[1] from rfl]
  have h:(i.op.val:Int)=27:=by omega
  simp -implicitDefEqProofs only[go_sem,c98,hT,eEn,eIn,h,frz]
  first|exact DLe.slice _ _|(intro b2 b3 n1 n2; exact DLe.slice _ _)
 ·rw[show(i.op.val)=28 from h,show givesO e i 28=[1] from rfl]
  have h:(i.op.val:Int)=28:=by omega
  simp -implicitDefEqProofs only[go_sem,c98,hT,eEn,eIn,h,frz]
  first|exact DLe.slice _ _|(intro b2 b3 n1 n2; exact DLe.slice _ _)
 ·rw[show(i.op.val)=29 from h,show givesO e i 29=[] from rfl]
  have h:(i.op.val:Int)=29:=by omega
  simp -implicitDefEqProofs only[go_sem,c98,hT,eEn,eIn,h,frz]
  first|exact DLe.slice _ _|(intro b2 b3 n1 n2; exact DLe.slice _ _)
 ·rw[show(i.op.val)=30 from h]
  have h':(i.op.val:Int)=30:=by omega
  simp -implicitDefEqProofs only[go_sem,c98,hT,eEn,eIn,h',frz]
  intro b2 b3 n1 n2
  obtain⟨ha,hal⟩:=opnd_cls ho (by omega)
  obtain⟨k,hk⟩:∃k:Nat,i.a=k:=⟨i.a.toNat,by omega⟩
  rw[show givesO e i 30=[ofClass i.a] from rfl,ofClass_eq hk (by omega)]
  simp -implicitDefEqProofs only[go_sem,hT,eEn,eIn,n1,n2,h',hk]
  refine za3 (class116 k (by omega)) ?_
  simp -implicitDefEqProofs only[go_sem,hT,frz]
  exact DLe.slice _ _
 ·rw[show(i.op.val)=31 from h,show givesO e i 31=[2] from rfl]
  have h:(i.op.val:Int)=31:=by omega
  simp -implicitDefEqProofs only[go_sem,c98,hT,eEn,eIn,h,frz]
  first|exact DLe.slice _ _|(intro b2 b3 n1 n2; exact DLe.slice _ _)
 ·rw[show(i.op.val)=32 from h,show givesO e i 32=[] from rfl]
  have h:(i.op.val:Int)=32:=by omega
  simp -implicitDefEqProofs only[go_sem,c98,hT,eEn,eIn,h,frz]
  first|exact DLe.slice _ _|(intro b2 b3 n1 n2; exact DLe.slice _ _)
 ·rw[show(i.op.val)=33 from h,show givesO e i 33=[] from rfl]
  have h:(i.op.val:Int)=33:=by omega
  simp -implicitDefEqProofs only[go_sem,c98,hT,eEn,eIn,h,frz]
  first|exact DLe.slice _ _|(intro b2 b3 n1 n2; exact DLe.slice _ _)
open Go.Proofs
theorem fieldsErr_stored {n:Nat} {a:List ByteArray}:∀(own:List ByteArray) (r:List Fd),fieldsErr n a own r=0→∀f∈r,storedN n f.ty=true
 |own,[],h,f,hf=>by cases hf
 |own,g::r,h,f,hf=>by
  simp only[fieldsErr] at h
  repeat' split at h
  all_goals first
   |omega
   |skip
  rename_i h3
  rcases List.mem_cons.1 hf with rfl|hf
  ·simpa using h3
  ·exact fieldsErr_stored _ _ h f hf
theorem right_stored {w:ByteArray→Bool} {l:List Cl} (hr:Right w l l.length) {k:Nat} (hk:k<l.length) {f:Fd} (hf:f∈l[k].fields):storedN l.length f.ty=true:=by
 have:=hr k hk hk
 unfold classErr at this
 repeat' split at this
 all_goals first
  |omega
  |exact fieldsErr_stored _ _ this f hf
theorem flds_stored {e:En} {i:Ins} (hc:Can e) {f:Fd} (hf:f∈flds e i):f.ty.val≠0:=by
 simp only[flds,zf8,List.mem_flatMap,List.mem_reverse] at hf
 obtain⟨k,hk,hf⟩:=hf
 have hlt:=upI_lt hk
 simp only[fieldsAt,List.getElem?_eq_getElem hlt,Option.map_some,Option.getD_some] at hf
 have:=right_stored hc.right hlt hf
 simp only[storedN,Bool.and_eq_true,decide_eq_true_eq] at this
 exact this.2.1
open Go.Proofs
theorem refSub79 (l:List Cl) (o:Own) (a b:Ty) (hf:Falls l l.length) (hl:l.length*48≤140737488355328):PCall Tryz.prog 15 [.slice o (rws eC l),.int .u8 a.val,.int .u8 b.val] (.bool (subB l a b)):=by
 refine F15.pcall' rfl fun T hT=> ?_
 simp -implicitDefEqProofs only[go_sem,c15,hT]
 refine za3 (refValid87 l o a) ?_
 cases hva:validN l.length a
 ·simp -implicitDefEqProofs only[go_sem,hT]
  exact zf3 (by simp[subB,hva])
 simp -implicitDefEqProofs only[go_sem,hT]
 refine za3 (refValid87 l o b) ?_
 cases hvb:validN l.length b
 ·simp -implicitDefEqProofs only[go_sem,hT]
  exact zf3 (by simp[subB,hvb])
 by_cases e1:(a.val:Int)=b.val
 ·rw[show subB l a b=true by rw[subB,if_neg (by simp[hva,hvb]),if_pos (by rw[Fin.ext_iff]; omega)]]
  simp -implicitDefEqProofs only[go_sem,hT,e1]
 by_cases e2:(b.val:Int)=0
 ·rw[show subB l a b=true by rw[subB,if_neg (by simp[hva,hvb]),if_pos (by rw[Fin.ext_iff]; omega)]]
  have e1':¬(a.val:Int)=0:=by omega
  simp -implicitDefEqProofs only[go_sem,hT,e1,e1',e2]
 have s1:subB l a b=if a.val=3∨b.val=5 then isRefB a&&isRefB b else decide (16≤a.val∧16≤b.val)&&(upI l ((a.val:Int)-16)).any fun k=>decide ((k:Int)=(b.val:Int)-16):=by
  rw[subB,if_neg (by simp[hva,hvb]),if_neg (by rw[Fin.ext_iff]; omega)]
 by_cases e3:(a.val:Int)=3
 ·have ha3:isRefB a=true:=by simp[isRefB]; omega
  rw[s1,if_pos (by omega),ha3]
  have e1':¬(3:Int)=b.val:=by omega
  simp -implicitDefEqProofs only[go_sem,hT,e1',e1,e2,e3]
  refine za3 (refIsRef120 b) ?_
  cases hr:isRefB b
  ·have hr':¬(b.val:Int)=5:=fun h=>by simp[isRefB] at hr; omega
   have h316:((3:Int)<16)=True:=by simp
   simp -implicitDefEqProofs only[go_sem,hT,e1',e2,e3,h316]
   refine za3 (show PCall Tryz.prog 40 [.int .u8 3] (.bool true) by have:=refIsRef120 a; rw[ha3,e3] at this; exact this) ?_
   simp -implicitDefEqProofs only[go_sem,hT,e1',e2,e3,hr',h316]
   exact zf3 rfl
  ·simp -implicitDefEqProofs only[go_sem,hT,e1',e2,e3]
   exact zf3 rfl
 have sx:((a.val:Int)<16∨(b.val:Int)<16)→isRefB a=false∨¬(b.val:Int)=5→subB l a b=false:=by
  intro h h'
  rw[s1]
  by_cases h5:b.val=5
  ·rw[if_pos (.inr h5)]
   rcases h' with h'|h'
   ·rw[h']; rfl
   ·omega
  ·rw[if_neg (by omega),decide_eq_false (by omega)]; rfl
 simp -implicitDefEqProofs only[go_sem,hT,e1,e2,e3]
 refine za3 (refIsRef120 a) ?_
 have tail:isRefB a=false∨¬(b.val:Int)=5→16≤a.val→16≤b.val→subB l a b=(lineR l ((a.val:Int)-16)).any fun k=>decide ((k:Int)=(b.val:Int)-16):=by
  intro h h1 h2
  have hv:a.val-16<l.length:=by simp only[validN,decide_eq_true_eq] at hva; omega
  rw[s1,if_neg (by omega),decide_eq_true ⟨h1,h2⟩,Bool.true_and,lineR_up hf (by omega) (by omega)]
 by_cases e5:isRefB a=true∧(b.val:Int)=5
 ·obtain⟨hr,h5⟩:=e5
  have e1':¬(a.val:Int)=5:=by omega
  simp -implicitDefEqProofs only[go_sem,hT,e1,e1',e2,e3,hr,h5]
  exact zf3 (by rw[s1,if_pos (by omega),hr,Bool.true_and]; simp[isRefB]; omega)
 have e5':isRefB a=false∨¬(b.val:Int)=5:=by
  cases hr:isRefB a
  ·exact .inl rfl
  ·exact .inr fun h=>e5 ⟨hr,h⟩
 have h2:isRefB a=false∨isRefB a=true∧¬(b.val:Int)=5:=by
  cases hr:isRefB a
  ·exact .inl rfl
  ·exact .inr ⟨rfl,fun h=>e5 ⟨hr,h⟩⟩
 by_cases h16:16≤a.val∧16≤b.val
 ·have g1:((a.val:Int)<16)=False:=by simp; omega
  have g2:((b.val:Int)<16)=False:=by simp; omega
  have w1:IntKind.wrap .u8 ((a.val:Int)-16)=(a.val:Int)-16:=wrap_u8 (by omega) (by omega)
  have w2:IntKind.wrap .i64 ((a.val:Int)-16)=(a.val:Int)-16:=zb7 (by omega) (by omega)
  have w3:IntKind.wrap .u8 ((b.val:Int)-16)=(b.val:Int)-16:=wrap_u8 (by omega) (by omega)
  have w4:IntKind.wrap .i64 ((b.val:Int)-16)=(b.val:Int)-16:=zb7 (by omega) (by omega)
  obtain⟨L,hL⟩:∃L,lineR l ((a.val:Int)-16)=L:=⟨_,rfl⟩
  have hlen:(toI L).length=L.length:=by simp[toI]
  have hLl:L.length≤l.length+1:=by rw[←hL]; exact lineF_len
  rcases h2 with hr|⟨hr,h5⟩
  ·simp -implicitDefEqProofs only[go_sem,hT,e1,e2,e3,hr,g1,g2,w1,w2]
   refine za3 (line121 l o _ hl) ?_
   rw[tail e5' h16.1 h16.2,hL]
   simp -implicitDefEqProofs only[go_sem,hT,Int.ofNat_zero]
   refine loopL F15 (fun i:Nat=>[(2,.int .u8 b.val),(7,.slice .no (rws eI (toI L))),(8,.int .i64 i)]) (fun _=>{}) (fun i=>i≤L.length∧((L.take i).any fun k=>decide ((k:Int)=(b.val:Int)-16))=false) (fun i=>L.length-i) 0 ⟨by omega,rfl⟩ ?_ (St.le.nil _) ?_
   ·simp -implicitDefEqProofs only[go_sem,hT,Int.ofNat_zero]
   clear hT T
   rintro i ⟨hi,hok⟩ T hT
   by_cases h:i<L.length
   ·have h1:((i:Int)<L.length)=True:=by simp; omega
    have htake:L.take (i+1)=L.take i++[L[i]]:=by rw[List.take_succ_eq_append_getElem h]
    have hin:L[i]∈L:=by simp
    simp -implicitDefEqProofs only[go_sem,hT,h1,hlen,toI_at h,w3,w4]
    generalize L[i]=k at *
    refine⟨by omega, ?_⟩
    by_cases hk:(k:Int)=(b.val:Int)-16
    ·rw[show(L.any fun k=>decide ((k:Int)=(b.val:Int)-16))=true from List.any_eq_true.2 ⟨k,hin,by simp[hk]⟩]
     simp -implicitDefEqProofs only[go_sem,hT,hk]
    ·simp -implicitDefEqProofs only[go_sem,hT,hk]
     refine⟨i+1,⟨by omega,by rw[htake,List.any_append,hok]; simp[hk]⟩,by omega, ?_,St.le.refl _⟩
     rw[zb7 (by omega) (by omega)]; simp
   ·have h1:((i:Int)<L.length)=False:=by simp; omega
    rw[List.take_of_length_le (by omega)] at hok
    rw[hok]
    simp -implicitDefEqProofs only[go_sem,hT,h1,hlen]
  ·simp -implicitDefEqProofs only[go_sem,hT,e1,e2,e3,hr,h5,g1,g2,w1,w2]
   refine za3 (line121 l o _ hl) ?_
   rw[tail e5' h16.1 h16.2,hL]
   simp -implicitDefEqProofs only[go_sem,hT,Int.ofNat_zero]
   refine loopL F15 (fun i:Nat=>[(2,.int .u8 b.val),(7,.slice .no (rws eI (toI L))),(8,.int .i64 i)]) (fun _=>{}) (fun i=>i≤L.length∧((L.take i).any fun k=>decide ((k:Int)=(b.val:Int)-16))=false) (fun i=>L.length-i) 0 ⟨by omega,rfl⟩ ?_ (St.le.nil _) ?_
   ·simp -implicitDefEqProofs only[go_sem,hT,Int.ofNat_zero]
   clear hT T
   rintro i ⟨hi,hok⟩ T hT
   by_cases h:i<L.length
   ·have h1:((i:Int)<L.length)=True:=by simp; omega
    have htake:L.take (i+1)=L.take i++[L[i]]:=by rw[List.take_succ_eq_append_getElem h]
    have hin:L[i]∈L:=by simp
    simp -implicitDefEqProofs only[go_sem,hT,h1,hlen,toI_at h,w3,w4]
    generalize L[i]=k at *
    refine⟨by omega, ?_⟩
    by_cases hk:(k:Int)=(b.val:Int)-16
    ·rw[show(L.any fun k=>decide ((k:Int)=(b.val:Int)-16))=true from List.any_eq_true.2 ⟨k,hin,by simp[hk]⟩]
     simp -implicitDefEqProofs only[go_sem,hT,hk]
    ·simp -implicitDefEqProofs only[go_sem,hT,hk]
     refine⟨i+1,⟨by omega,by rw[htake,List.any_append,hok]; simp[hk]⟩,by omega, ?_,St.le.refl _⟩
     rw[zb7 (by omega) (by omega)]; simp
   ·have h1:((i:Int)<L.length)=False:=by simp; omega
    rw[List.take_of_length_le (by omega)] at hok
    rw[hok]
    simp -implicitDefEqProofs only[go_sem,hT,h1,hlen]
 ·rw[sx (by omega) e5']
  by_cases ha:(a.val:Int)<16
  ·rcases h2 with hr|⟨hr,h5⟩
   ·simp -implicitDefEqProofs only[go_sem,hT,e1,e2,e3,hr,ha]
   ·simp -implicitDefEqProofs only[go_sem,hT,e1,e2,e3,hr,h5,ha]
  ·have hb:(b.val:Int)<16:=by omega
   rcases h2 with hr|⟨hr,h5⟩
   ·simp -implicitDefEqProofs only[go_sem,hT,e1,e2,e3,hr,ha,hb]
   ·simp -implicitDefEqProofs only[go_sem,hT,e1,e2,e3,hr,h5,ha,hb]
def wantedB (l:List Cl) (t w:Ty):Bool:=
 if w.val=255 then true else if w.val=254 then decide (t.val≠0) else if w.val=253 then isRefB t else subB l t w
theorem wanted117 (l:List Cl) (o:Own) (t w:Ty) (hf:Falls l l.length) (hl:l.length*48≤140737488355328):PCall Tryz.prog 97 [.slice o (rws eC l),.int .u8 t.val,.int .u8 w.val] (.bool (wantedB l t w)):=by
 refine F97.pcall' rfl fun T hT=> ?_
 by_cases h1:(w.val:Int)=255
 ·simp -implicitDefEqProofs only[go_sem,c97,hT,h1]
  exact zf3 (by rw[wantedB,if_pos (by omega)])
 by_cases h2:(w.val:Int)=254
 ·simp -implicitDefEqProofs only[go_sem,c97,hT,h1,h2]
  exact zf3 (by rw[wantedB,if_neg (by omega),if_pos (by omega),Bool.eq_iff_iff]; simp)
 by_cases h3:(w.val:Int)=253
 ·simp -implicitDefEqProofs only[go_sem,c97,hT,h1,h2,h3]
  refine za3 (refIsRef120 t) ?_
  simp -implicitDefEqProofs only[go_sem,hT]
  exact zf3 (by rw[wantedB,if_neg (by omega),if_neg (by omega),if_pos (by omega)])
 simp -implicitDefEqProofs only[go_sem,c97,hT,h1,h2,h3]
 refine za3 (refSub79 l o t w hf hl) ?_
 simp -implicitDefEqProofs only[go_sem,hT]
 exact zf3 (by rw[wantedB,if_neg (by omega),if_neg (by omega),if_neg (by omega)])
def fitsB (l:List Cl) (w:Wn) (t first:Ty):Bool:=
 if w.kind=1 then decide (t.val≠0) else if w.kind=2 then isRefB t else if w.kind=3 then decide (t=first∧(t.val=1∨t.val=2)) else if w.kind=4 then subB l t w.t else true
theorem fits128 (l:List Cl) (o:Own) (w:Wn) (t first:Ty) (hl:l.length≤140737488355328):PCall Tryz.prog 152 [.slice o (rws eC l),.agg (eW w),.int .u8 t.val,.int .u8 first.val] (.bool (fitsB l w t first)):=by
 refine F152.pcall' rfl fun T hT=> ?_
 simp -implicitDefEqProofs only[go_sem,c152,hT,eW_len]
 intro b5
 have g0:(eW w)[0]? =some (.int .i64 w.kind):=rfl
 have g1:(eW w)[1]? =some (.int .u8 w.t.val):=rfl
 by_cases h1:(w.kind:Int)=1
 ·simp -implicitDefEqProofs only[go_sem,hT,h1,g0,g1,eW_len,gdD]
  exact zf3 (by rw[fitsB,if_pos (by omega),Bool.eq_iff_iff]; simp)
 by_cases h2:(w.kind:Int)=2
 ·simp -implicitDefEqProofs only[go_sem,hT,h1,h2,g0,g1,eW_len,gdD]
  refine za3 (isRef163 t) ?_
  simp -implicitDefEqProofs only[go_sem,hT]
  exact zf3 (by rw[fitsB,if_neg (by omega),if_pos (by omega)])
 by_cases h3:(w.kind:Int)=3
 ·simp -implicitDefEqProofs only[go_sem,mmB,hT,h1,h2,h3,g0,g1,eW_len,gdD]
  exact zf3 (by rw[fitsB,if_neg (by omega),if_neg (by omega),if_pos (by omega),Bool.eq_iff_iff]; simp[Fin.ext_iff]; omega)
 by_cases h4:(w.kind:Int)=4
 ·simp -implicitDefEqProofs only[go_sem,hT,h1,h2,h3,h4,g0,g1,eW_len,gdD]
  refine za3 (sub164 l o t w.t hl) ?_
  simp -implicitDefEqProofs only[go_sem,hT]
  exact zf3 (by rw[fitsB,if_neg (by omega),if_neg (by omega),if_neg (by omega),if_pos (by omega)])
 simp -implicitDefEqProofs only[go_sem,hT,h1,h2,h3,h4,g0,g1,eW_len,gdD]
 exact zf3 (by rw[fitsB,if_neg (by omega),if_neg (by omega),if_neg (by omega),if_neg (by omega)])
theorem bare_iff {f:Fr}:bareF f=f↔∀j:Nat,j<24→f.loc+f.h≤(j:Int)→slAt f j=0:=by
 constructor
 ·intro h j hj hle
  have:(bareF f).sl[j]=f.sl[j]:=by rw[h]
  rw[slAt_lt f hj,←this]
  simp only[bareF,Vector.getElem_ofFn]
  rw[if_neg (by omega)]
 ·intro h
  obtain⟨a,b,c⟩:=f
  simp only[bareF,Fr.mk.injEq,true_and]
  apply Vector.ext
  intro j hj
  simp only[Vector.getElem_ofFn]
  split
  ·rfl
  ·rename_i hn
   have:=h j hj (by simp only at hn ⊢; omega)
   rw[slAt_lt _ hj] at this
   exact this.symm
theorem refCheck40 (l:List Cl) (o:Own) (f:Fr):PCall Tryz.prog 38 [.slice o (rws eC l),.agg (eFr f)] (.int .i64 (checkF l.length f)):=by
 refine F38.pcall' rfl fun T hT=> ?_
 simp -implicitDefEqProofs only[go_sem,c38,hT,za6]
 intro b3
 simp -implicitDefEqProofs only[go_sem,hT,za6,za5]
 refine za3 (refShape86 f) ?_
 cases hs:shapedB f
 ·rw[show checkF l.length f=32 by rw[checkF,if_pos (.inl hs)]]
  simp -implicitDefEqProofs only[go_sem,hT]
  exact DLe.refl _
 obtain⟨s1,s2,s3,s4⟩:=shaped_of hs
 obtain⟨n,hn⟩:∃n:Nat,f.loc+f.h=n:=⟨_,(Int.toNat_of_nonneg (by omega)).symm⟩
 have w1:IntKind.wrap .i64 (f.loc+f.h)=n:=by rw[zb7 (by omega) (by omega),hn]
 simp -implicitDefEqProofs only[go_sem,hT,za6,za5,fr_0,fr_1,gdD,w1]
 refine loopL F38 (fun i:Nat=>[(0,.slice o (rws eC l)),(3,.ptr b3 0),(5,.int .i64 i)]) (fun _=>({}:St).set b3 (eFr f)) (fun i=>n≤i∧i≤24∧∀j:Nat,n≤j→j<i→slAt f j=0) (fun i=>24-i) n ⟨by omega,by omega,fun j _ _=>by omega⟩ ?_ (St.le.refl _) ?_
 ·simp -implicitDefEqProofs only[go_sem,hT]
 clear hT T
 rintro i ⟨hni,hi,hok⟩ T hT
 by_cases h:i<24
 ·have h1:((i:Int)<24)=True:=by simp; omega
  have hx:=fr_slAt f h
  simp -implicitDefEqProofs only[go_sem,hT,h1,za6,gdD,hx,Nat.mul_one]
  refine⟨by omega, ?_⟩
  by_cases hz:((slAt f i).val:Int)=0
  ·simp -implicitDefEqProofs only[go_sem,hT,hz]
   refine⟨i+1,⟨by omega,by omega,fun j h1 h2=> ?_⟩,by omega, ?_,St.le.refl _⟩
   ·by_cases hj:j=i
    ·subst hj; exact Fin.ext (by simpa using hz)
    ·exact hok j h1 (by omega)
   ·rw[zb7 (by omega) (by omega)]; simp
  ·rw[show checkF l.length f=32 by
    rw[checkF,if_pos (.inr fun hb=>hz (by rw[bare_iff.1 hb i h (by omega)]; rfl))]]
   simp -implicitDefEqProofs only[go_sem,hT,hz]
   exact DLe.refl _
 ·have h1:((i:Int)<24)=False:=by simp; omega
  have hb:bareF f=f:=bare_iff.2 fun j hj hle=>hok j (by omega) (by omega)
  have hc:checkF l.length f=if(f.sl.toList.any fun t=> !validN l.length t)=true then 22 else 0:=by rw[checkF,if_neg (by simp[hs,hb])]
  rw[hc]
  simp -implicitDefEqProofs only[go_sem,hT,h1,Int.ofNat_zero]
  refine loopL F38 (fun i:Nat=>[(0,.slice o (rws eC l)),(3,.ptr b3 0),(6,.int .i64 i)]) (fun _=>({}:St).set b3 (eFr f)) (fun i=>i≤n∧∀j:Nat,j<i→validN l.length (slAt f j)=true) (fun i=>24-i) 0 ⟨by omega,fun j hj=>by omega⟩ ?_ (St.le.refl _) ?_
  ·simp -implicitDefEqProofs only[go_sem,hT,Int.ofNat_zero]
  clear hT T h1
  rintro k ⟨hk,hv⟩ T hT
  by_cases hkn:k<n
  ·have h1:((k:Int)<n)=True:=by simp; omega
   have hx:=fr_slAt f (show k<24 by omega)
   simp -implicitDefEqProofs only[go_sem,hT,h1,za6,fr_0,fr_1,gdD,w1,hx,Nat.mul_one]
   refine⟨by omega,za3 (refValid87 l o _) ?_⟩
   cases hvk:validN l.length (slAt f k)
   ·rw[if_pos (List.any_eq_true.2 ⟨slAt f k,by rw[slAt_lt f (by omega)]; simp,by simp[hvk]⟩)]
    simp -implicitDefEqProofs only[go_sem,hT]
    exact DLe.refl _
   ·simp -implicitDefEqProofs only[go_sem,hT]
    refine⟨k+1,⟨by omega,fun j hj=> ?_⟩,by omega, ?_,St.le.refl _⟩
    ·by_cases hj':j=k
     ·subst hj'; exact hvk
     ·exact hv j (by omega)
    ·rw[zb7 (by omega) (by omega)]; simp
  ·have h1:((k:Int)<n)=False:=by simp; omega
   rw[if_neg (by
    simp only[List.any_eq_true,Bool.not_eq_true',not_exists,not_and,Bool.not_eq_false]
    intro t ht
    obtain⟨j,hj,rfl⟩:=List.mem_iff_getElem.1 ht
    have hj24:j<24:=by simpa using hj
    have he:f.sl.toList[j]=slAt f j:=by rw[slAt_lt f hj24]; simp
    rw[he]
    by_cases hjn:j<k
    ·exact hv j hjn
    ·rw[hok j (by omega) (by omega)]; rfl)]
   simp -implicitDefEqProofs only[go_sem,hT,h1,za6,fr_0,fr_1,gdD,w1]
   exact DLe.refl _
open Go.Proofs
def hadL (f:Fr) (n:Nat):List Ty:=(List.range n).map fun k=>slAt f ((f.loc+f.h-n).toNat+k)
theorem hadL_len {f:Fr} {n:Nat}:(hadL f n).length=n:=by simp[hadL]
theorem hadL_at {f:Fr} {n i:Nat} (h:i<n):(hadL f n)[i]? =some (slAt f ((f.loc+f.h-n).toNat+i)):=by simp[hadL,h]
theorem hadL_take {f:Fr} {n i:Nat} (h:i<n):(hadL f n).take (i+1)=(hadL f n).take i++[slAt f ((f.loc+f.h-n).toNat+i)]:=by
 rw[List.take_add_one,hadL_at h]; rfl
def fitsAll (l:List Cl) (ws:List Wn) (had:List Ty):Bool:=(ws.zip had).all fun p=>fitsB l p.1 p.2 (had.headD 0)
def wantedAll (l:List Cl) (tk had:List Ty):Bool:=(tk.zip had).all fun p=>wantedB l p.2 p.1
def takenF (l:List Cl) (f:Fr) (ws:List Wn):List Ty×Nat:=
 if f.h<ws.length then([],30) else if fitsAll l ws (hadL f ws.length)=false then([],70) else(hadL f ws.length,0)
theorem taken83 (l:List Cl) (o o2:Own) (f:Fr) (ws:List Wn) (hs:shapedB f=true) (hl:l.length≤140737488355328):
  PCall Tryz.prog 119 [.slice o (rws eC l),.agg (eFr f),.slice o2 (rws eW ws)] (.tup [.slice .no (rws eT (takenF l f ws).1),.int .i64 (takenF l f ws).2]):=by
 obtain⟨s1,s2,s3,s4⟩:=shaped_of hs
 refine F119.pcall' rfl fun T hT=> ?_
 simp -implicitDefEqProofs only[go_sem,c119,hT,za6]
 intro b4
 by_cases hh:f.h<ws.length
 ·have h1:(f.h<(ws.length:Int))=True:=by simp; omega
  rw[show takenF l f ws=([],30) by rw[takenF,if_pos hh]]
  simp -implicitDefEqProofs only[go_sem,hT,za6,za5,fr_0,fr_1,gdD,h1]
  exact DLe.tup (.cons (DLe.slice _ _) (.cons (.refl _) .nil))
 have h1:(f.h<(ws.length:Int))=False:=by simp; omega
 have ht:takenF l f ws=if fitsAll l ws (hadL f ws.length)=false then([],70) else(hadL f ws.length,0):=by rw[takenF,if_neg hh]
 rw[ht]
 obtain⟨n,hn⟩:∃n,ws.length=n:=⟨_,rfl⟩
 rw[hn] at hh h1 ht ⊢
 obtain⟨H,hH⟩:∃H,hadL f n=H:=⟨_,rfl⟩
 rw[hH]
 have hHl:H.length=n:=by rw[←hH,hadL_len]
 simp -implicitDefEqProofs only[go_sem,hT,za6,za5,fr_0,fr_1,gdD,h1,hn,grD_none (s:=1)]
 refine loopL F119 (fun x:Nat×Option Nat=>[(0,.slice o (rws eC l)),(2,.slice o2 (rws eW ws)),(4,.ptr b4 0),(8,grD 1 x.2 (rws eT (H.take x.1))),(20,.int .i64 n),(21,.int .i64 x.1)])
  (fun x=>grS 1 x.1 x.2 (({}:St).set b4 (eFr f))) (fun x=>x.1≤n∧(x.2=none→x.1=0)∧grN x.2 (({}:St).set b4 (eFr f))) (fun x=>n-x.1) (0,none) ⟨Nat.zero_le _,fun _=>rfl,grN_none⟩ ?_ (St.le.refl _) ?_
 ·simp -implicitDefEqProofs only[go_sem,hT,Int.ofNat_zero,List.take_zero,rws_mt]
 clear hT T h1
 rintro⟨i,ob⟩ ⟨hi,hok,hgr⟩ T hT
 simp only at hi hok hgr hT ⊢
 by_cases h:i<n
 ·have h1:((i:Int)<n)=True:=by simp; omega
  have w1:IntKind.wrap .i64 ((n:Int)-1)=(n:Int)-1:=zb7 (by omega) (by omega)
  have w2:IntKind.wrap .i64 ((n:Int)-1-i)=((n-1-i:Nat):Int):=by rw[zb7 (by omega) (by omega)]; omega
  have htop:=top127 f hs (n-1-i) (by omega)
  rw[show(f.loc+f.h-1-((n-1-i:Nat):Int)).toNat=(f.loc+f.h-n).toNat+i by omega] at htop
  simp -implicitDefEqProofs only[go_sem,hT,h1,za6,za5,hn,w1,w2]
  refine za3 htop ?_
  have htake:H.take (i+1)=H.take i++[slAt f ((f.loc+f.h-n).toNat+i)]:=by rw[←hH]; exact hadL_take h
  simp -implicitDefEqProofs only[go_sem,hT,za6,za5,frz]
  refine app_gr' Tryz.sli44 Tryz.sz35 Tryz.by35 Tryz.zero35 rfl (n:=i) (m:=1) (base:=({}:St).set b4 (eFr f)) (by rw[za1,List.length_take]; omega) rfl (St.le.refl _) hgr hok (by simp) (by omega) fun o' σ' hbox hle hgn hno=> ?_
  simp -implicitDefEqProofs only[go_sem,hT,hbox]
  refine⟨(i+1,o'),⟨by omega,by simpa using hno,hgn⟩,by simp only; omega,⟨?_, ?_⟩,hle⟩
  ·rw[htake]; simp[rws,eT]
  ·rw[zb7 (by omega) (by omega)]; simp
 ·obtain rfl:i=n:=by omega
  have h1:((i:Int)<i)=False:=by simp
  rw[List.take_of_length_le (by omega)] at hT
  have hgl:(grD 1 ob (rws eT H)).cellQ=true:=grD_cellQ
  simp -implicitDefEqProofs only[go_sem,hT,h1,za6,za5,hn,hHl]
  refine loopL F119 (fun k:Nat=>[(0,.slice o (rws eC l)),(2,.slice o2 (rws eW ws)),(8,grD 1 ob (rws eT H)),(39,grD 1 ob (rws eT H)),(40,.int .i64 i),(41,.int .i64 k)])
   (fun x=>grS 1 i ob (({}:St).set b4 (eFr f))) (fun k=>k≤i∧(((ws.zip H).take k).all fun p=>fitsB l p.1 p.2 (H.headD 0))=true) (fun k=>i-k) 0 ⟨Nat.zero_le _,rfl⟩ ?_ (St.le.refl _) ?_
  ·simp -implicitDefEqProofs only[go_sem,hT,Int.ofNat_zero]
  clear hT T h1
  rintro k ⟨hk,hall⟩ T hT
  have hz:(ws.zip H).length=i:=by simp[hn,hHl]
  by_cases h:k<i
  ·have h1:((k:Int)<i)=True:=by simp; omega
   have hkH:k<H.length:=by omega
   have hkw:k<ws.length:=by omega
   have h0H:0<H.length:=by omega
   have r1:(rws eT H)[k]?.getD []=eT H[k]:=rws_at hkH
   have r2:(rws eW ws)[k]?.getD []=eW ws[k]:=rws_at hkw
   have r0:(rws eT H)[0]?.getD []=eT H[0]:=rws_at h0H
   have hd:H.headD 0=H[0]:=by cases H with
    |nil=>simp at h0H
    |cons a b=>rfl
   have hzk:(ws.zip H)[k]? =some (ws[k],H[k]):=by
    rw[List.getElem?_eq_getElem (by omega)]; simp
   have htk:(ws.zip H).take (k+1)=(ws.zip H).take k++[(ws[k],H[k])]:=by rw[List.take_add_one,hzk]; rfl
   have hin:(ws[k],H[k])∈ws.zip H:=List.mem_of_getElem? hzk
   have hcast:(k:Int).toNat=k:=by simp
   have ewt:(eW ws[k]).take 2=eW ws[k]:=rfl
   simp -implicitDefEqProofs only[go_sem,hT,h1,za6,za5,hn,hHl,r1,r2,r0,eT,eT_len,eW_len,ewt]
   refine⟨by omega,by omega,by omega,za3 (fits128 l o ws[k] H[k] H[0] hl) ?_⟩
   cases hf:fitsB l ws[k] H[k] H[0]
   ·have hno:fitsAll l ws H=false:=by
     rw[fitsAll,List.all_eq_false]
     exact⟨_,hin,by simp only[hd,hf]; simp⟩
    rw[if_pos hno]
    simp -implicitDefEqProofs only[go_sem,hT]
    exact DLe.tup (.cons (DLe.slice _ _) (.cons (.refl _) .nil))
   ·simp -implicitDefEqProofs only[go_sem,hT]
    refine⟨k+1,⟨by omega,by rw[htk,List.all_append,hall]; simp only[List.all_cons,List.all_nil,hd,hf,Bool.and_self]⟩,by omega, ?_,St.le.refl _⟩
    rw[zb7 (by omega) (by omega)]; simp
  ·obtain rfl:k=i:=by omega
   have h1:((k:Int)<k)=False:=by simp
   rw[List.take_of_length_le (by omega)] at hall
   rw[if_neg (by rw[fitsAll,hall]; simp)]
   simp -implicitDefEqProofs only[go_sem,hT,h1]
   exact DLe.tup (.cons grD_le (.cons (.refl _) .nil))
end Go.AL
