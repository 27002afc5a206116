import Derived.Test.YtobmoajkfbigkaaGreatKg
set_option linter.unusedSimpArgs false
set_option linter.unusedVariables false
set_option maxRecDepth 100000
set_option maxHeartbeats 2000000
set_option linter.defProp false
set_option maxHeartbeats 400000
set_option maxHeartbeats 4000000
namespace Go.AL
open Go.Proofs
def flds (e : En) (i : Ins) : List Fd := ze5 e.cs (upI e.cs i.a).reverse
def zf7 (e : En) (i : Ins) : Nat → List Ty
  | 5 => [254]
  | 6 => [255]
  | 7 => [255]
  | 8 => [255, 255]
  | 9 => [1, 1]
  | 10 => [1, 1]
  | 11 => [1, 1]
  | 12 => [1, 1]
  | 13 => [1, 1]
  | 14 => [1]
  | 15 => [1, 1]
  | 16 => [255, 255]
  | 17 => [2]
  | 18 => [253, 253]
  | 20 => [2]
  | 26 => [1]
  | 27 => [4]
  | 28 => [4, 1]
  | 29 => [4, 1, 1]
  | 30 => [253]
  | 31 => [253]
  | 33 => [1]
  | 21 => ((e.sgs[i.a.toNat]?).map Sg.ps).getD []
  | 22 => ((e.sgs[e.fn.toNat]?).map fun s => someR s.r).getD []
  | 24 => [ofClass i.a]
  | 25 => [ofClass i.a, (((flds e i)[i.b.toNat]?).map Fd.ty).getD 0]
  | _ => []
def givesO (e : En) (i : Ins) : Nat → List Ty
  | 1 => [1]
  | 2 => [2]
  | 3 => [3]
  | 4 => [255]
  | 7 => [255, 255]
  | 8 => [255, 255]
  | 9 => [1]
  | 10 => [1]
  | 11 => [1]
  | 12 => [1]
  | 13 => [1]
  | 14 => [1]
  | 15 => [2]
  | 16 => [2]
  | 17 => [2]
  | 18 => [2]
  | 26 => [4]
  | 27 => [1]
  | 28 => [1]
  | 31 => [2]
  | 21 => ((e.sgs[i.a.toNat]?).map fun s => someR s.r).getD []
  | 23 => [ofClass i.a]
  | 30 => [ofClass i.a]
  | 24 => (((flds e i)[i.b.toNat]?).map fun f => someR f.ty).getD []
  | _ => []
theorem ofClass_eq {a : Int} {k : Nat} (h : a = k) (hk : k < 32) : ofClass a = (⟨16 + k, by omega⟩ : Ty) := by
  subst h; ext; simp [ofClass]; omega
theorem opnd_cls {e : En} {i : Ins} (h : opndF e i = 0) (ho : i.op.val = 23 ∨ i.op.val = 30 ∨ i.op.val = 31 ∨ i.op.val = 24 ∨ i.op.val = 25) : 0 ≤ i.a ∧ i.a < e.cs.length := by
  unfold opndF at h
  repeat' split at h
  all_goals omega
theorem opnd_fld {e : En} {i : Ins} (h : opndF e i = 0) (ho : i.op.val = 24 ∨ i.op.val = 25) : (0 ≤ i.a ∧ i.a < e.cs.length) ∧ 0 ≤ i.b ∧ i.b.toNat < (flds e i).length := by
  unfold opndF at h
  rw [if_neg (by omega), if_neg (by omega), if_pos (by omega)] at h
  split at h
  · assumption
  · cases h
theorem opnd_sig {e : En} {i : Ins} (h : opndF e i = 0) (ho : i.op.val = 21) : 0 ≤ i.a ∧ i.a.toNat < e.sgs.length := by
  unfold opndF at h
  rw [if_pos ho] at h
  split at h
  · assumption
  · cases h
theorem refTakes76 (e : En) (i : Ins) (hc : Can e) (ho : opndF e i = 0) (h34 : i.op.val < 34) : zf9 Tryz.prog 181 [.agg (eEn e), .agg (eIn i)] (.slice .no (rws eT (zf7 e i i.op.val))) := by
  have h32 := hc.cls
  refine F181.pcall' rfl fun T hT => ?_
  have hk34 : i.op.val = 0 ∨ i.op.val = 1 ∨ i.op.val = 2 ∨ i.op.val = 3 ∨ i.op.val = 4 ∨ i.op.val = 5 ∨ i.op.val = 6 ∨ i.op.val = 7 ∨ i.op.val = 8 ∨ i.op.val = 9 ∨ i.op.val = 10 ∨ i.op.val = 11 ∨ i.op.val = 12 ∨ i.op.val = 13 ∨ i.op.val = 14 ∨ i.op.val = 15 ∨ i.op.val = 16 ∨ i.op.val = 17 ∨ i.op.val = 18 ∨ i.op.val = 19 ∨ i.op.val = 20 ∨ i.op.val = 21 ∨ i.op.val = 22 ∨ i.op.val = 23 ∨ i.op.val = 24 ∨ i.op.val = 25 ∨ i.op.val = 26 ∨ i.op.val = 27 ∨ i.op.val = 28 ∨ i.op.val = 29 ∨ i.op.val = 30 ∨ i.op.val = 31 ∨ i.op.val = 32 ∨ i.op.val = 33 := by omega
  rcases hk34 with h | h | h | h | h | h | h | h | h | h | h | h | h | h | h | h | h | h | h | h | h | h | h | h | h | h | h | h | h | h | h | h | h | h
  · rw [show (i.op.val) = 0 from h, show zf7 e i 0 = [] from rfl]
    have h : (i.op.val : Int) = 0 := by omega
    simp -implicitDefEqProofs only [go_sem, c181, hT, eEn, eIn, h, frz]
    first | exact DLe.slice _ _ | (intro b2 b3 n1 n2; exact DLe.slice _ _)
  · rw [show (i.op.val) = 1 from h, show zf7 e i 1 = [] from rfl]
    have h : (i.op.val : Int) = 1 := by omega
    simp -implicitDefEqProofs only [go_sem, c181, hT, eEn, eIn, h, frz]
    first | exact DLe.slice _ _ | (intro b2 b3 n1 n2; exact DLe.slice _ _)
  · rw [show (i.op.val) = 2 from h, show zf7 e i 2 = [] from rfl]
    have h : (i.op.val : Int) = 2 := by omega
    simp -implicitDefEqProofs only [go_sem, c181, hT, eEn, eIn, h, frz]
    first | exact DLe.slice _ _ | (intro b2 b3 n1 n2; exact DLe.slice _ _)
  · rw [show (i.op.val) = 3 from h, show zf7 e i 3 = [] from rfl]
    have h : (i.op.val : Int) = 3 := by omega
    simp -implicitDefEqProofs only [go_sem, c181, hT, eEn, eIn, h, frz]
    first | exact DLe.slice _ _ | (intro b2 b3 n1 n2; exact DLe.slice _ _)
  · rw [show (i.op.val) = 4 from h, show zf7 e i 4 = [] from rfl]
    have h : (i.op.val : Int) = 4 := by omega
    simp -implicitDefEqProofs only [go_sem, c181, hT, eEn, eIn, h, frz]
    first | exact DLe.slice _ _ | (intro b2 b3 n1 n2; exact DLe.slice _ _)
  · rw [show (i.op.val) = 5 from h, show zf7 e i 5 = [254] from rfl]
    have h : (i.op.val : Int) = 5 := by omega
    simp -implicitDefEqProofs only [go_sem, c181, hT, eEn, eIn, h, frz]
    first | exact DLe.slice _ _ | (intro b2 b3 n1 n2; exact DLe.slice _ _)
  · rw [show (i.op.val) = 6 from h, show zf7 e i 6 = [255] from rfl]
    have h : (i.op.val : Int) = 6 := by omega
    simp -implicitDefEqProofs only [go_sem, c181, hT, eEn, eIn, h, frz]
    first | exact DLe.slice _ _ | (intro b2 b3 n1 n2; exact DLe.slice _ _)
  · rw [show (i.op.val) = 7 from h, show zf7 e i 7 = [255] from rfl]
    have h : (i.op.val : Int) = 7 := by omega
    simp -implicitDefEqProofs only [go_sem, c181, hT, eEn, eIn, h, frz]
    first | exact DLe.slice _ _ | (intro b2 b3 n1 n2; exact DLe.slice _ _)
  · rw [show (i.op.val) = 8 from h, show zf7 e i 8 = [255, 255] from rfl]
    have h : (i.op.val : Int) = 8 := by omega
    simp -implicitDefEqProofs only [go_sem, c181, hT, eEn, eIn, h, frz]
    first | exact DLe.slice _ _ | (intro b2 b3 n1 n2; exact DLe.slice _ _)
  · rw [show (i.op.val) = 9 from h, show zf7 e i 9 = [1, 1] from rfl]
    have h : (i.op.val : Int) = 9 := by omega
    simp -implicitDefEqProofs only [go_sem, c181, hT, eEn, eIn, h, frz]
    first | exact DLe.slice _ _ | (intro b2 b3 n1 n2; exact DLe.slice _ _)
  · rw [show (i.op.val) = 10 from h, show zf7 e i 10 = [1, 1] from rfl]
    have h : (i.op.val : Int) = 10 := by omega
    simp -implicitDefEqProofs only [go_sem, c181, hT, eEn, eIn, h, frz]
    first | exact DLe.slice _ _ | (intro b2 b3 n1 n2; exact DLe.slice _ _)
  · rw [show (i.op.val) = 11 from h, show zf7 e i 11 = [1, 1] from rfl]
    have h : (i.op.val : Int) = 11 := by omega
    simp -implicitDefEqProofs only [go_sem, c181, hT, eEn, eIn, h, frz]
    first | exact DLe.slice _ _ | (intro b2 b3 n1 n2; exact DLe.slice _ _)
  · rw [show (i.op.val) = 12 from h, show zf7 e i 12 = [1, 1] from rfl]
    have h : (i.op.val : Int) = 12 := by omega
    simp -implicitDefEqProofs only [go_sem, c181, hT, eEn, eIn, h, frz]
    first | exact DLe.slice _ _ | (intro b2 b3 n1 n2; exact DLe.slice _ _)
  · rw [show (i.op.val) = 13 from h, show zf7 e i 13 = [1, 1] from rfl]
    have h : (i.op.val : Int) = 13 := by omega
    simp -implicitDefEqProofs only [go_sem, c181, hT, eEn, eIn, h, frz]
    first | exact DLe.slice _ _ | (intro b2 b3 n1 n2; exact DLe.slice _ _)
  · rw [show (i.op.val) = 14 from h, show zf7 e i 14 = [1] from rfl]
    have h : (i.op.val : Int) = 14 := by omega
    simp -implicitDefEqProofs only [go_sem, c181, hT, eEn, eIn, h, frz]
    first | exact DLe.slice _ _ | (intro b2 b3 n1 n2; exact DLe.slice _ _)
  · rw [show (i.op.val) = 15 from h, show zf7 e i 15 = [1, 1] from rfl]
    have h : (i.op.val : Int) = 15 := by omega
    simp -implicitDefEqProofs only [go_sem, c181, hT, eEn, eIn, h, frz]
    first | exact DLe.slice _ _ | (intro b2 b3 n1 n2; exact DLe.slice _ _)
  · rw [show (i.op.val) = 16 from h, show zf7 e i 16 = [255, 255] from rfl]
    have h : (i.op.val : Int) = 16 := by omega
    simp -implicitDefEqProofs only [go_sem, c181, hT, eEn, eIn, h, frz]
    first | exact DLe.slice _ _ | (intro b2 b3 n1 n2; exact DLe.slice _ _)
  · rw [show (i.op.val) = 17 from h, show zf7 e i 17 = [2] from rfl]
    have h : (i.op.val : Int) = 17 := by omega
    simp -implicitDefEqProofs only [go_sem, c181, hT, eEn, eIn, h, frz]
    first | exact DLe.slice _ _ | (intro b2 b3 n1 n2; exact DLe.slice _ _)
  · rw [show (i.op.val) = 18 from h, show zf7 e i 18 = [253, 253] from rfl]
    have h : (i.op.val : Int) = 18 := by omega
    simp -implicitDefEqProofs only [go_sem, c181, hT, eEn, eIn, h, frz]
    first | exact DLe.slice _ _ | (intro b2 b3 n1 n2; exact DLe.slice _ _)
  · rw [show (i.op.val) = 19 from h, show zf7 e i 19 = [] from rfl]
    have h : (i.op.val : Int) = 19 := by omega
    simp -implicitDefEqProofs only [go_sem, c181, hT, eEn, eIn, h, frz]
    first | exact DLe.slice _ _ | (intro b2 b3 n1 n2; exact DLe.slice _ _)
  · rw [show (i.op.val) = 20 from h, show zf7 e i 20 = [2] from rfl]
    have h : (i.op.val : Int) = 20 := by omega
    simp -implicitDefEqProofs only [go_sem, c181, hT, eEn, eIn, h, frz]
    first | exact DLe.slice _ _ | (intro b2 b3 n1 n2; exact DLe.slice _ _)
  · rw [show (i.op.val) = 21 from h]
    have h' : (i.op.val : Int) = 21 := by omega
    simp -implicitDefEqProofs only [go_sem, c181, hT, eEn, eIn, h', frz]
    intro b2 b3 n1 n2
    obtain ⟨ha, hal⟩ := opnd_sig ho h
    obtain ⟨k, hk⟩ : ∃ k : Nat, i.a = k := ⟨i.a.toNat, by omega⟩
    have hkl : k < e.sgs.length := by omega
    have hkn : i.a.toNat = k := by omega
    have hR : (rws eSg e.sgs)[k]?.getD [] = eSg e.sgs[k] := rws_at hkl
    have ht : (e.sgs[i.a.toNat]?) = some e.sgs[k] := by rw [hkn, List.getElem?_eq_getElem hkl]
    rw [show zf7 e i 21 = ((e.sgs[i.a.toNat]?).map Sg.ps).getD [] from rfl, ht]
    generalize e.sgs[k] = s at *
    simp -implicitDefEqProofs only [go_sem, hT, eEn, eIn, n1, n2, h', hk, hR, eSg]
    first | exact ⟨by omega, DLe.refl _⟩ | omega
  · rw [show (i.op.val) = 22 from h]
    have h' : (i.op.val : Int) = 22 := by omega
    simp -implicitDefEqProofs only [go_sem, c181, hT, eEn, eIn, h', frz]
    intro b2 b3 n1 n2
    have ha := hc.fn0
    have hal := hc.fn1
    obtain ⟨k, hk⟩ : ∃ k : Nat, e.fn = k := ⟨e.fn.toNat, by omega⟩
    have hkl : k < e.sgs.length := by omega
    have hkn : e.fn.toNat = k := by omega
    have hR : (rws eSg e.sgs)[k]?.getD [] = eSg e.sgs[k] := rws_at hkl
    have ht : (e.sgs[e.fn.toNat]?) = some e.sgs[k] := by rw [hkn, List.getElem?_eq_getElem hkl]
    rw [show zf7 e i 22 = ((e.sgs[e.fn.toNat]?).map fun s => someR s.r).getD [] from rfl, ht]
    generalize e.sgs[k] = s at *
    simp -implicitDefEqProofs only [go_sem, hT, eEn, eIn, n1, n2, h', hk, hR, eSg]
    refine ⟨by omega, za4 (some115 s.r) ?_⟩
    simp -implicitDefEqProofs only [go_sem, hT]
  · rw [show (i.op.val) = 23 from h, show zf7 e i 23 = [] from rfl]
    have h : (i.op.val : Int) = 23 := by omega
    simp -implicitDefEqProofs only [go_sem, c181, hT, eEn, eIn, h, frz]
    first | exact DLe.slice _ _ | (intro b2 b3 n1 n2; exact DLe.slice _ _)
  · rw [show (i.op.val) = 24 from h]
    have h' : (i.op.val : Int) = 24 := by omega
    simp -implicitDefEqProofs only [go_sem, c181, hT, eEn, eIn, h', frz]
    intro b2 b3 n1 n2
    obtain ⟨ha, hal⟩ := opnd_cls ho (by omega)
    obtain ⟨k, hk⟩ : ∃ k : Nat, i.a = k := ⟨i.a.toNat, by omega⟩
    rw [show zf7 e i 24 = [ofClass i.a] from rfl, ofClass_eq hk (by omega)]
    simp -implicitDefEqProofs only [go_sem, hT, eEn, eIn, n1, n2, h', hk]
    refine za4 (class116 k (by omega)) ?_
    simp -implicitDefEqProofs only [go_sem, hT, frz]
    exact DLe.slice _ _
  · rw [show (i.op.val) = 25 from h]
    have h' : (i.op.val : Int) = 25 := by omega
    simp -implicitDefEqProofs only [go_sem, c181, hT, eEn, eIn, h', frz]
    intro b2 b3 n1 n2
    obtain ⟨⟨ha, hal⟩, hb, hbl⟩ := opnd_fld ho (by omega)
    have hup := refFieldsUp hc i.a hal
    have hfl := hc.flds i.a
    have hw1 := hc.wide.1.1
    obtain ⟨k, hk⟩ : ∃ k : Nat, i.a = k := ⟨i.a.toNat, by omega⟩
    obtain ⟨j, hj⟩ : ∃ j : Nat, i.b = j := ⟨i.b.toNat, by omega⟩
    have hjn : i.b.toNat = j := by omega
    have hF : flds e i = ze5 e.cs (lineR e.cs i.a).reverse := hup.symm
    rw [← hup, ← hF] at hfl
    have hcall := refFields114 e.cs .no i.a (by omega) (by rw [← hF]; omega)
    rw [← hF] at hcall
    have hjl : j < (flds e i).length := by omega
    have hRf : (rws eF (flds e i))[j]?.getD [] = eF (flds e i)[j] := rws_at hjl
    have hty : (flds e i)[i.b.toNat]? = some (flds e i)[j] := by rw [hjn, List.getElem?_eq_getElem hjl]
    rw [show zf7 e i 25 = [ofClass i.a, (((flds e i)[i.b.toNat]?).map Fd.ty).getD 0] from rfl, hty, ofClass_eq hk (by omega)]
    rw [hk] at hcall
    generalize (flds e i)[j] = fd at *
    generalize flds e i = F at *
    simp -implicitDefEqProofs only [go_sem, hT, eEn, eIn, n1, n2, h', hk, hj]
    refine ⟨by intro b hb; rcases hb with rfl | rfl <;> simp [n1, n2], za4 (class116 k (by omega)) ?_⟩
    simp -implicitDefEqProofs only [go_sem, hT, eEn, eIn, n1, n2, h', hk, hj]
    refine za4 hcall ?_
    simp -implicitDefEqProofs only [go_sem, hT, eEn, eIn, n1, n2, h', hk, hj, hRf, eF, eF_len, frz]
    exact ⟨by omega, DLe.slice _ _⟩
  · rw [show (i.op.val) = 26 from h, show zf7 e i 26 = [1] from rfl]
    have h : (i.op.val : Int) = 26 := by omega
    simp -implicitDefEqProofs only [go_sem, c181, hT, eEn, eIn, h, frz]
    first | exact DLe.slice _ _ | (intro b2 b3 n1 n2; exact DLe.slice _ _)
  · rw [show (i.op.val) = 27 from h, show zf7 e i 27 = [4] from rfl]
    have h : (i.op.val : Int) = 27 := by omega
    simp -implicitDefEqProofs only [go_sem, c181, hT, eEn, eIn, h, frz]
    first | exact DLe.slice _ _ | (intro b2 b3 n1 n2; exact DLe.slice _ _)
  · rw [show (i.op.val) = 28 from h, show zf7 e i 28 = [4, 1] from rfl]
    have h : (i.op.val : Int) = 28 := by omega
    simp -implicitDefEqProofs only [go_sem, c181, hT, eEn, eIn, h, frz]
    first | exact DLe.slice _ _ | (intro b2 b3 n1 n2; exact DLe.slice _ _)
  · rw [show (i.op.val) = 29 from h, show zf7 e i 29 = [4, 1, 1] from rfl]
    have h : (i.op.val : Int) = 29 := by omega
    simp -implicitDefEqProofs only [go_sem, c181, hT, eEn, eIn, h, frz]
    first | exact DLe.slice _ _ | (intro b2 b3 n1 n2; exact DLe.slice _ _)
  · rw [show (i.op.val) = 30 from h, show zf7 e i 30 = [253] from rfl]
    have h : (i.op.val : Int) = 30 := by omega
    simp -implicitDefEqProofs only [go_sem, c181, hT, eEn, eIn, h, frz]
    first | exact DLe.slice _ _ | (intro b2 b3 n1 n2; exact DLe.slice _ _)
  · rw [show (i.op.val) = 31 from h, show zf7 e i 31 = [253] from rfl]
    have h : (i.op.val : Int) = 31 := by omega
    simp -implicitDefEqProofs only [go_sem, c181, hT, eEn, eIn, h, frz]
    first | exact DLe.slice _ _ | (intro b2 b3 n1 n2; exact DLe.slice _ _)
  · rw [show (i.op.val) = 32 from h, show zf7 e i 32 = [] from rfl]
    have h : (i.op.val : Int) = 32 := by omega
    simp -implicitDefEqProofs only [go_sem, c181, hT, eEn, eIn, h, frz]
    first | exact DLe.slice _ _ | (intro b2 b3 n1 n2; exact DLe.slice _ _)
  · rw [show (i.op.val) = 33 from h, show zf7 e i 33 = [1] from rfl]
    have h : (i.op.val : Int) = 33 := by omega
    simp -implicitDefEqProofs only [go_sem, c181, hT, eEn, eIn, h, frz]
    first | exact DLe.slice _ _ | (intro b2 b3 n1 n2; exact DLe.slice _ _)
theorem refGives77 (e : En) (i : Ins) (hc : Can e) (ho : opndF e i = 0) (h34 : i.op.val < 34) : zf9 Tryz.prog 183 [.agg (eEn e), .agg (eIn i)] (.slice .no (rws eT (givesO e i i.op.val))) := by
  have h32 := hc.cls
  refine F183.pcall' rfl fun T hT => ?_
  have hk34 : i.op.val = 0 ∨ i.op.val = 1 ∨ i.op.val = 2 ∨ i.op.val = 3 ∨ i.op.val = 4 ∨ i.op.val = 5 ∨ i.op.val = 6 ∨ i.op.val = 7 ∨ i.op.val = 8 ∨ i.op.val = 9 ∨ i.op.val = 10 ∨ i.op.val = 11 ∨ i.op.val = 12 ∨ i.op.val = 13 ∨ i.op.val = 14 ∨ i.op.val = 15 ∨ i.op.val = 16 ∨ i.op.val = 17 ∨ i.op.val = 18 ∨ i.op.val = 19 ∨ i.op.val = 20 ∨ i.op.val = 21 ∨ i.op.val = 22 ∨ i.op.val = 23 ∨ i.op.val = 24 ∨ i.op.val = 25 ∨ i.op.val = 26 ∨ i.op.val = 27 ∨ i.op.val = 28 ∨ i.op.val = 29 ∨ i.op.val = 30 ∨ i.op.val = 31 ∨ i.op.val = 32 ∨ i.op.val = 33 := by omega
  rcases hk34 with h | h | h | h | h | h | h | h | h | h | h | h | h | h | h | h | h | h | h | h | h | h | h | h | h | h | h | h | h | h | h | h | h | h
  · rw [show (i.op.val) = 0 from h, show givesO e i 0 = [] from rfl]
    have h : (i.op.val : Int) = 0 := by omega
    simp -implicitDefEqProofs only [go_sem, c183, hT, eEn, eIn, h, frz]
    first | exact DLe.slice _ _ | (intro b2 b3 n1 n2; exact DLe.slice _ _)
  · rw [show (i.op.val) = 1 from h, show givesO e i 1 = [1] from rfl]
    have h : (i.op.val : Int) = 1 := by omega
    simp -implicitDefEqProofs only [go_sem, c183, hT, eEn, eIn, h, frz]
    first | exact DLe.slice _ _ | (intro b2 b3 n1 n2; exact DLe.slice _ _)
  · rw [show (i.op.val) = 2 from h, show givesO e i 2 = [2] from rfl]
    have h : (i.op.val : Int) = 2 := by omega
    simp -implicitDefEqProofs only [go_sem, c183, hT, eEn, eIn, h, frz]
    first | exact DLe.slice _ _ | (intro b2 b3 n1 n2; exact DLe.slice _ _)
  · rw [show (i.op.val) = 3 from h, show givesO e i 3 = [3] from rfl]
    have h : (i.op.val : Int) = 3 := by omega
    simp -implicitDefEqProofs only [go_sem, c183, hT, eEn, eIn, h, frz]
    first | exact DLe.slice _ _ | (intro b2 b3 n1 n2; exact DLe.slice _ _)
  · rw [show (i.op.val) = 4 from h, show givesO e i 4 = [255] from rfl]
    have h : (i.op.val : Int) = 4 := by omega
    simp -implicitDefEqProofs only [go_sem, c183, hT, eEn, eIn, h, frz]
    first | exact DLe.slice _ _ | (intro b2 b3 n1 n2; exact DLe.slice _ _)
  · rw [show (i.op.val) = 5 from h, show givesO e i 5 = [] from rfl]
    have h : (i.op.val : Int) = 5 := by omega
    simp -implicitDefEqProofs only [go_sem, c183, hT, eEn, eIn, h, frz]
    first | exact DLe.slice _ _ | (intro b2 b3 n1 n2; exact DLe.slice _ _)
  · rw [show (i.op.val) = 6 from h, show givesO e i 6 = [] from rfl]
    have h : (i.op.val : Int) = 6 := by omega
    simp -implicitDefEqProofs only [go_sem, c183, hT, eEn, eIn, h, frz]
    first | exact DLe.slice _ _ | (intro b2 b3 n1 n2; exact DLe.slice _ _)
  · rw [show (i.op.val) = 7 from h, show givesO e i 7 = [255, 255] from rfl]
    have h : (i.op.val : Int) = 7 := by omega
    simp -implicitDefEqProofs only [go_sem, c183, hT, eEn, eIn, h, frz]
    first | exact DLe.slice _ _ | (intro b2 b3 n1 n2; exact DLe.slice _ _)
  · rw [show (i.op.val) = 8 from h, show givesO e i 8 = [255, 255] from rfl]
    have h : (i.op.val : Int) = 8 := by omega
    simp -implicitDefEqProofs only [go_sem, c183, hT, eEn, eIn, h, frz]
    first | exact DLe.slice _ _ | (intro b2 b3 n1 n2; exact DLe.slice _ _)
  · rw [show (i.op.val) = 9 from h, show givesO e i 9 = [1] from rfl]
    have h : (i.op.val : Int) = 9 := by omega
    simp -implicitDefEqProofs only [go_sem, c183, hT, eEn, eIn, h, frz]
    first | exact DLe.slice _ _ | (intro b2 b3 n1 n2; exact DLe.slice _ _)
  · rw [show (i.op.val) = 10 from h, show givesO e i 10 = [1] from rfl]
    have h : (i.op.val : Int) = 10 := by omega
    simp -implicitDefEqProofs only [go_sem, c183, hT, eEn, eIn, h, frz]
    first | exact DLe.slice _ _ | (intro b2 b3 n1 n2; exact DLe.slice _ _)
  · rw [show (i.op.val) = 11 from h, show givesO e i 11 = [1] from rfl]
    have h : (i.op.val : Int) = 11 := by omega
    simp -implicitDefEqProofs only [go_sem, c183, hT, eEn, eIn, h, frz]
    first | exact DLe.slice _ _ | (intro b2 b3 n1 n2; exact DLe.slice _ _)
  · rw [show (i.op.val) = 12 from h, show givesO e i 12 = [1] from rfl]
    have h : (i.op.val : Int) = 12 := by omega
    simp -implicitDefEqProofs only [go_sem, c183, hT, eEn, eIn, h, frz]
    first | exact DLe.slice _ _ | (intro b2 b3 n1 n2; exact DLe.slice _ _)
  · rw [show (i.op.val) = 13 from h, show givesO e i 13 = [1] from rfl]
    have h : (i.op.val : Int) = 13 := by omega
    simp -implicitDefEqProofs only [go_sem, c183, hT, eEn, eIn, h, frz]
    first | exact DLe.slice _ _ | (intro b2 b3 n1 n2; exact DLe.slice _ _)
  · rw [show (i.op.val) = 14 from h, show givesO e i 14 = [1] from rfl]
    have h : (i.op.val : Int) = 14 := by omega
    simp -implicitDefEqProofs only [go_sem, c183, hT, eEn, eIn, h, frz]
    first | exact DLe.slice _ _ | (intro b2 b3 n1 n2; exact DLe.slice _ _)
  · rw [show (i.op.val) = 15 from h, show givesO e i 15 = [2] from rfl]
    have h : (i.op.val : Int) = 15 := by omega
    simp -implicitDefEqProofs only [go_sem, c183, hT, eEn, eIn, h, frz]
    first | exact DLe.slice _ _ | (intro b2 b3 n1 n2; exact DLe.slice _ _)
  · rw [show (i.op.val) = 16 from h, show givesO e i 16 = [2] from rfl]
    have h : (i.op.val : Int) = 16 := by omega
    simp -implicitDefEqProofs only [go_sem, c183, hT, eEn, eIn, h, frz]
    first | exact DLe.slice _ _ | (intro b2 b3 n1 n2; exact DLe.slice _ _)
  · rw [show (i.op.val) = 17 from h, show givesO e i 17 = [2] from rfl]
    have h : (i.op.val : Int) = 17 := by omega
    simp -implicitDefEqProofs only [go_sem, c183, hT, eEn, eIn, h, frz]
    first | exact DLe.slice _ _ | (intro b2 b3 n1 n2; exact DLe.slice _ _)
  · rw [show (i.op.val) = 18 from h, show givesO e i 18 = [2] from rfl]
    have h : (i.op.val : Int) = 18 := by omega
    simp -implicitDefEqProofs only [go_sem, c183, hT, eEn, eIn, h, frz]
    first | exact DLe.slice _ _ | (intro b2 b3 n1 n2; exact DLe.slice _ _)
  · rw [show (i.op.val) = 19 from h, show givesO e i 19 = [] from rfl]
    have h : (i.op.val : Int) = 19 := by omega
    simp -implicitDefEqProofs only [go_sem, c183, hT, eEn, eIn, h, frz]
    first | exact DLe.slice _ _ | (intro b2 b3 n1 n2; exact DLe.slice _ _)
  · rw [show (i.op.val) = 20 from h, show givesO e i 20 = [] from rfl]
    have h : (i.op.val : Int) = 20 := by omega
    simp -implicitDefEqProofs only [go_sem, c183, hT, eEn, eIn, h, frz]
    first | exact DLe.slice _ _ | (intro b2 b3 n1 n2; exact DLe.slice _ _)
  · rw [show (i.op.val) = 21 from h]
    have h' : (i.op.val : Int) = 21 := by omega
    simp -implicitDefEqProofs only [go_sem, c183, hT, eEn, eIn, h', frz]
    intro b2 b3 n1 n2
    obtain ⟨ha, hal⟩ := opnd_sig ho h
    obtain ⟨k, hk⟩ : ∃ k : Nat, i.a = k := ⟨i.a.toNat, by omega⟩
    have hkl : k < e.sgs.length := by omega
    have hkn : i.a.toNat = k := by omega
    have hR : (rws eSg e.sgs)[k]?.getD [] = eSg e.sgs[k] := rws_at hkl
    have ht : (e.sgs[i.a.toNat]?) = some e.sgs[k] := by rw [hkn, List.getElem?_eq_getElem hkl]
    rw [show givesO e i 21 = ((e.sgs[i.a.toNat]?).map fun s => someR s.r).getD [] from rfl, ht]
    generalize e.sgs[k] = s at *
    simp -implicitDefEqProofs only [go_sem, hT, eEn, eIn, n1, n2, h', hk, hR, eSg]
    refine ⟨by omega, za4 (some115 s.r) ?_⟩
    simp -implicitDefEqProofs only [go_sem, hT]
  · rw [show (i.op.val) = 22 from h, show givesO e i 22 = [] from rfl]
    have h : (i.op.val : Int) = 22 := by omega
    simp -implicitDefEqProofs only [go_sem, c183, hT, eEn, eIn, h, frz]
    first | exact DLe.slice _ _ | (intro b2 b3 n1 n2; exact DLe.slice _ _)
  · rw [show (i.op.val) = 23 from h]
    have h' : (i.op.val : Int) = 23 := by omega
    simp -implicitDefEqProofs only [go_sem, c183, hT, eEn, eIn, h', frz]
    intro b2 b3 n1 n2
    obtain ⟨ha, hal⟩ := opnd_cls ho (by omega)
    obtain ⟨k, hk⟩ : ∃ k : Nat, i.a = k := ⟨i.a.toNat, by omega⟩
    rw [show givesO e i 23 = [ofClass i.a] from rfl, ofClass_eq hk (by omega)]
    simp -implicitDefEqProofs only [go_sem, hT, eEn, eIn, n1, n2, h', hk]
    refine za4 (class116 k (by omega)) ?_
    simp -implicitDefEqProofs only [go_sem, hT, frz]
    exact DLe.slice _ _
  · rw [show (i.op.val) = 24 from h]
    have h' : (i.op.val : Int) = 24 := by omega
    simp -implicitDefEqProofs only [go_sem, c183, hT, eEn, eIn, h', frz]
    intro b2 b3 n1 n2
    obtain ⟨⟨ha, hal⟩, hb, hbl⟩ := opnd_fld ho (by omega)
    have hup := refFieldsUp hc i.a hal
    have hfl := hc.flds i.a
    have hw1 := hc.wide.1.1
    obtain ⟨k, hk⟩ : ∃ k : Nat, i.a = k := ⟨i.a.toNat, by omega⟩
    obtain ⟨j, hj⟩ : ∃ j : Nat, i.b = j := ⟨i.b.toNat, by omega⟩
    have hjn : i.b.toNat = j := by omega
    have hF : flds e i = ze5 e.cs (lineR e.cs i.a).reverse := hup.symm
    rw [← hup, ← hF] at hfl
    have hcall := refFields114 e.cs .no i.a (by omega) (by rw [← hF]; omega)
    rw [← hF] at hcall
    have hjl : j < (flds e i).length := by omega
    have hRf : (rws eF (flds e i))[j]?.getD [] = eF (flds e i)[j] := rws_at hjl
    have hty : (flds e i)[i.b.toNat]? = some (flds e i)[j] := by rw [hjn, List.getElem?_eq_getElem hjl]
    rw [show givesO e i 24 = (((flds e i)[i.b.toNat]?).map fun f => someR f.ty).getD [] from rfl, hty]
    rw [hk] at hcall
    generalize (flds e i)[j] = fd at *
    generalize flds e i = F at *
    simp -implicitDefEqProofs only [go_sem, hT, eEn, eIn, n1, n2, h', hk, hj]
    refine ⟨by rintro b rfl; simp [n1, n2], za4 hcall ?_⟩
    simp -implicitDefEqProofs only [go_sem, hT, eEn, eIn, n1, n2, h', hk, hj, hRf, eF, eF_len]
    refine ⟨by omega, za4 (some115 fd.ty) ?_⟩
    simp -implicitDefEqProofs only [go_sem, hT]
  · rw [show (i.op.val) = 25 from h, show givesO e i 25 = [] from rfl]
    have h : (i.op.val : Int) = 25 := by omega
    simp -implicitDefEqProofs only [go_sem, c183, hT, eEn, eIn, h, frz]
    first | exact DLe.slice _ _ | (intro b2 b3 n1 n2; exact DLe.slice _ _)
  · rw [show (i.op.val) = 26 from h, show givesO e i 26 = [4] from rfl]
    have h : (i.op.val : Int) = 26 := by omega
    simp -implicitDefEqProofs only [go_sem, c183, hT, eEn, eIn, h, frz]
    first | exact DLe.slice _ _ | (intro b2 b3 n1 n2; exact DLe.slice _ _)
  · rw [show (i.op.val) = 27 from h, show givesO e i 27 = [1] from rfl]
    have h : (i.op.val : Int) = 27 := by omega
    simp -implicitDefEqProofs only [go_sem, c183, hT, eEn, eIn, h, frz]
    first | exact DLe.slice _ _ | (intro b2 b3 n1 n2; exact DLe.slice _ _)
  · rw [show (i.op.val) = 28 from h, show givesO e i 28 = [1] from rfl]
    have h : (i.op.val : Int) = 28 := by omega
    simp -implicitDefEqProofs only [go_sem, c183, hT, eEn, eIn, h, frz]
    first | exact DLe.slice _ _ | (intro b2 b3 n1 n2; exact DLe.slice _ _)
  · rw [show (i.op.val) = 29 from h, show givesO e i 29 = [] from rfl]
    have h : (i.op.val : Int) = 29 := by omega
    simp -implicitDefEqProofs only [go_sem, c183, hT, eEn, eIn, h, frz]
    first | exact DLe.slice _ _ | (intro b2 b3 n1 n2; exact DLe.slice _ _)
  · rw [show (i.op.val) = 30 from h]
    have h' : (i.op.val : Int) = 30 := by omega
    simp -implicitDefEqProofs only [go_sem, c183, hT, eEn, eIn, h', frz]
    intro b2 b3 n1 n2
    obtain ⟨ha, hal⟩ := opnd_cls ho (by omega)
    obtain ⟨k, hk⟩ : ∃ k : Nat, i.a = k := ⟨i.a.toNat, by omega⟩
    rw [show givesO e i 30 = [ofClass i.a] from rfl, ofClass_eq hk (by omega)]
    simp -implicitDefEqProofs only [go_sem, hT, eEn, eIn, n1, n2, h', hk]
    refine za4 (class116 k (by omega)) ?_
    simp -implicitDefEqProofs only [go_sem, hT, frz]
    exact DLe.slice _ _
  · rw [show (i.op.val) = 31 from h, show givesO e i 31 = [2] from rfl]
    have h : (i.op.val : Int) = 31 := by omega
    simp -implicitDefEqProofs only [go_sem, c183, hT, eEn, eIn, h, frz]
    first | exact DLe.slice _ _ | (intro b2 b3 n1 n2; exact DLe.slice _ _)
  · rw [show (i.op.val) = 32 from h, show givesO e i 32 = [] from rfl]
    have h : (i.op.val : Int) = 32 := by omega
    simp -implicitDefEqProofs only [go_sem, c183, hT, eEn, eIn, h, frz]
    first | exact DLe.slice _ _ | (intro b2 b3 n1 n2; exact DLe.slice _ _)
  · rw [show (i.op.val) = 33 from h, show givesO e i 33 = [] from rfl]
    have h : (i.op.val : Int) = 33 := by omega
    simp -implicitDefEqProofs only [go_sem, c183, hT, eEn, eIn, h, frz]
    first | exact DLe.slice _ _ | (intro b2 b3 n1 n2; exact DLe.slice _ _)
open Go.Proofs
theorem fieldsErr_stored {n : Nat} {a : List ByteArray} : ∀ (own : List ByteArray) (r : List Fd), fieldsErr n a own r = 0 → ∀ f ∈ r, storedN n f.ty = true
  | own, [], h, f, hf => by cases hf
  | own, g :: r, h, f, hf => by
    simp only [fieldsErr] at h
    repeat' split at h
    all_goals first
      | omega
      | skip
    rename_i h3
    rcases List.mem_cons.1 hf with rfl | hf
    · simpa using h3
    · exact fieldsErr_stored _ _ h f hf
theorem right_stored {w : ByteArray → Bool} {l : List Cl} (hr : Right w l l.length) {k : Nat} (hk : k < l.length) {f : Fd} (hf : f ∈ l[k].fields) : storedN l.length f.ty = true := by
  have := hr k hk hk
  unfold classErr at this
  repeat' split at this
  all_goals first
    | omega
    | exact fieldsErr_stored _ _ this f hf
theorem flds_stored {e : En} {i : Ins} (hc : Can e) {f : Fd} (hf : f ∈ flds e i) : f.ty.val ≠ 0 := by
  simp only [flds, ze5, List.mem_flatMap, List.mem_reverse] at hf
  obtain ⟨k, hk, hf⟩ := hf
  have hlt := upI_lt hk
  simp only [fieldsAt, List.getElem?_eq_getElem hlt, Option.map_some, Option.getD_some] at hf
  have := right_stored hc.right hlt hf
  simp only [storedN, Bool.and_eq_true, decide_eq_true_eq] at this
  exact this.2.1
open Go.Proofs
theorem refSub79 (l : List Cl) (o : Own) (a b : Ty) (hf : Falls l l.length) (hl : l.length * 48 ≤ 140737488355328) : zf9 Tryz.prog 91 [.slice o (rws eC l), .int .u8 a.val, .int .u8 b.val] (.bool (subB l a b)) := by
  refine F91.pcall' rfl fun T hT => ?_
  simp -implicitDefEqProofs only [go_sem, c91, hT]
  refine za4 (refValid87 l o a) ?_
  cases hva : validN l.length a
  · simp -implicitDefEqProofs only [go_sem, hT]
    exact zc2 (by simp [subB, hva])
  simp -implicitDefEqProofs only [go_sem, hT]
  refine za4 (refValid87 l o b) ?_
  cases hvb : validN l.length b
  · simp -implicitDefEqProofs only [go_sem, hT]
    exact zc2 (by simp [subB, hvb])
  by_cases e1 : (a.val : Int) = b.val
  · rw [show subB l a b = true by rw [subB, if_neg (by simp [hva, hvb]), if_pos (by rw [Fin.ext_iff]; omega)]]
    simp -implicitDefEqProofs only [go_sem, hT, e1]
  by_cases e2 : (b.val : Int) = 0
  · rw [show subB l a b = true by rw [subB, if_neg (by simp [hva, hvb]), if_pos (by rw [Fin.ext_iff]; omega)]]
    have e1' : ¬ (a.val : Int) = 0 := by omega
    simp -implicitDefEqProofs only [go_sem, hT, e1, e1', e2]
  have s1 : subB l a b = if a.val = 3 ∨ b.val = 5 then isRefB a && isRefB b else decide (16 ≤ a.val ∧ 16 ≤ b.val) && (upI l ((a.val : Int) - 16)).any fun k => decide ((k : Int) = (b.val : Int) - 16) := by
    rw [subB, if_neg (by simp [hva, hvb]), if_neg (by rw [Fin.ext_iff]; omega)]
  by_cases e3 : (a.val : Int) = 3
  · have ha3 : isRefB a = true := by simp [isRefB]; omega
    rw [s1, if_pos (by omega), ha3]
    have e1' : ¬ (3 : Int) = b.val := by omega
    simp -implicitDefEqProofs only [go_sem, hT, e1', e1, e2, e3]
    refine za4 (refIsRef120 b) ?_
    cases hr : isRefB b
    · have hr' : ¬ (b.val : Int) = 5 := fun h => by simp [isRefB] at hr; omega
      have h316 : ((3 : Int) < 16) = True := by simp
      simp -implicitDefEqProofs only [go_sem, hT, e1', e2, e3, h316]
      refine za4 (show zf9 Tryz.prog 132 [.int .u8 3] (.bool true) by have := refIsRef120 a; rw [ha3, e3] at this; exact this) ?_
      simp -implicitDefEqProofs only [go_sem, hT, e1', e2, e3, hr', h316]
      exact zc2 rfl
    · simp -implicitDefEqProofs only [go_sem, hT, e1', e2, e3]
      exact zc2 rfl
  have sx : ((a.val : Int) < 16 ∨ (b.val : Int) < 16) → isRefB a = false ∨ ¬ (b.val : Int) = 5 → subB l a b = false := by
    intro h h'
    rw [s1]
    by_cases h5 : b.val = 5
    · rw [if_pos (.inr h5)]
      rcases h' with h' | h'
      · rw [h']; rfl
      · omega
    · rw [if_neg (by omega), decide_eq_false (by omega)]; rfl
  simp -implicitDefEqProofs only [go_sem, hT, e1, e2, e3]
  refine za4 (refIsRef120 a) ?_
  have tail : isRefB a = false ∨ ¬ (b.val : Int) = 5 → 16 ≤ a.val → 16 ≤ b.val → subB l a b = (lineR l ((a.val : Int) - 16)).any fun k => decide ((k : Int) = (b.val : Int) - 16) := by
    intro h h1 h2
    have hv : a.val - 16 < l.length := by simp only [validN, decide_eq_true_eq] at hva; omega
    rw [s1, if_neg (by omega), decide_eq_true ⟨h1, h2⟩, Bool.true_and, lineR_up hf (by omega) (by omega)]
  by_cases e5 : isRefB a = true ∧ (b.val : Int) = 5
  · obtain ⟨hr, h5⟩ := e5
    have e1' : ¬ (a.val : Int) = 5 := by omega
    simp -implicitDefEqProofs only [go_sem, hT, e1, e1', e2, e3, hr, h5]
    exact zc2 (by rw [s1, if_pos (by omega), hr, Bool.true_and]; simp [isRefB]; omega)
  have e5' : isRefB a = false ∨ ¬ (b.val : Int) = 5 := by
    cases hr : isRefB a
    · exact .inl rfl
    · exact .inr fun h => e5 ⟨hr, h⟩
  have h2 : isRefB a = false ∨ isRefB a = true ∧ ¬ (b.val : Int) = 5 := by
    cases hr : isRefB a
    · exact .inl rfl
    · exact .inr ⟨rfl, fun h => e5 ⟨hr, h⟩⟩
  by_cases h16 : 16 ≤ a.val ∧ 16 ≤ b.val
  · have g1 : ((a.val : Int) < 16) = False := by simp; omega
    have g2 : ((b.val : Int) < 16) = False := by simp; omega
    have w1 : IntKind.wrap .u8 ((a.val : Int) - 16) = (a.val : Int) - 16 := wrap_u8 (by omega) (by omega)
    have w2 : IntKind.wrap .i64 ((a.val : Int) - 16) = (a.val : Int) - 16 := zb7 (by omega) (by omega)
    have w3 : IntKind.wrap .u8 ((b.val : Int) - 16) = (b.val : Int) - 16 := wrap_u8 (by omega) (by omega)
    have w4 : IntKind.wrap .i64 ((b.val : Int) - 16) = (b.val : Int) - 16 := zb7 (by omega) (by omega)
    obtain ⟨L, hL⟩ : ∃ L, lineR l ((a.val : Int) - 16) = L := ⟨_, rfl⟩
    have hlen : (toI L).length = L.length := by simp [toI]
    have hLl : L.length ≤ l.length + 1 := by rw [← hL]; exact lineF_len
    rcases h2 with hr | ⟨hr, h5⟩
    · simp -implicitDefEqProofs only [go_sem, hT, e1, e2, e3, hr, g1, g2, w1, w2]
      refine za4 (line121 l o _ hl) ?_
      rw [tail e5' h16.1 h16.2, hL]
      simp -implicitDefEqProofs only [go_sem, hT, Int.ofNat_zero]
      refine loopL F91 (fun i : Nat => [(2, .int .u8 b.val), (7, .slice .no (rws eI (toI L))), (8, .int .i64 i)]) (fun _ => {}) (fun i => i ≤ L.length ∧ ((L.take i).any fun k => decide ((k : Int) = (b.val : Int) - 16)) = false) (fun i => L.length - i) 0 ⟨by omega, rfl⟩ ?_ (St.le.nil _) ?_
      · simp -implicitDefEqProofs only [go_sem, hT, Int.ofNat_zero]
      clear hT T
      rintro i ⟨hi, hok⟩ T hT
      by_cases h : i < L.length
      · have h1 : ((i : Int) < L.length) = True := by simp; omega
        have htake : L.take (i + 1) = L.take i ++ [L[i]] := by rw [List.take_succ_eq_append_getElem h]
        have hin : L[i] ∈ L := by simp
        simp -implicitDefEqProofs only [go_sem, hT, h1, hlen, toI_at h, w3, w4]
        generalize L[i] = k at *
        refine ⟨by omega, ?_⟩
        by_cases hk : (k : Int) = (b.val : Int) - 16
        · rw [show (L.any fun k => decide ((k : Int) = (b.val : Int) - 16)) = true from List.any_eq_true.2 ⟨k, hin, by simp [hk]⟩]
          simp -implicitDefEqProofs only [go_sem, hT, hk]
        · simp -implicitDefEqProofs only [go_sem, hT, hk]
          refine ⟨i + 1, ⟨by omega, by rw [htake, List.any_append, hok]; simp [hk]⟩, by omega, ?_, St.le.refl _⟩
          rw [zb7 (by omega) (by omega)]; simp
      · have h1 : ((i : Int) < L.length) = False := by simp; omega
        rw [List.take_of_length_le (by omega)] at hok
        rw [hok]
        simp -implicitDefEqProofs only [go_sem, hT, h1, hlen]
    · simp -implicitDefEqProofs only [go_sem, hT, e1, e2, e3, hr, h5, g1, g2, w1, w2]
      refine za4 (line121 l o _ hl) ?_
      rw [tail e5' h16.1 h16.2, hL]
      simp -implicitDefEqProofs only [go_sem, hT, Int.ofNat_zero]
      refine loopL F91 (fun i : Nat => [(2, .int .u8 b.val), (7, .slice .no (rws eI (toI L))), (8, .int .i64 i)]) (fun _ => {}) (fun i => i ≤ L.length ∧ ((L.take i).any fun k => decide ((k : Int) = (b.val : Int) - 16)) = false) (fun i => L.length - i) 0 ⟨by omega, rfl⟩ ?_ (St.le.nil _) ?_
      · simp -implicitDefEqProofs only [go_sem, hT, Int.ofNat_zero]
      clear hT T
      rintro i ⟨hi, hok⟩ T hT
      by_cases h : i < L.length
      · have h1 : ((i : Int) < L.length) = True := by simp; omega
        have htake : L.take (i + 1) = L.take i ++ [L[i]] := by rw [List.take_succ_eq_append_getElem h]
        have hin : L[i] ∈ L := by simp
        simp -implicitDefEqProofs only [go_sem, hT, h1, hlen, toI_at h, w3, w4]
        generalize L[i] = k at *
        refine ⟨by omega, ?_⟩
        by_cases hk : (k : Int) = (b.val : Int) - 16
        · rw [show (L.any fun k => decide ((k : Int) = (b.val : Int) - 16)) = true from List.any_eq_true.2 ⟨k, hin, by simp [hk]⟩]
          simp -implicitDefEqProofs only [go_sem, hT, hk]
        · simp -implicitDefEqProofs only [go_sem, hT, hk]
          refine ⟨i + 1, ⟨by omega, by rw [htake, List.any_append, hok]; simp [hk]⟩, by omega, ?_, St.le.refl _⟩
          rw [zb7 (by omega) (by omega)]; simp
      · have h1 : ((i : Int) < L.length) = False := by simp; omega
        rw [List.take_of_length_le (by omega)] at hok
        rw [hok]
        simp -implicitDefEqProofs only [go_sem, hT, h1, hlen]
  · rw [sx (by omega) e5']
    by_cases ha : (a.val : Int) < 16
    · rcases h2 with hr | ⟨hr, h5⟩
      · simp -implicitDefEqProofs only [go_sem, hT, e1, e2, e3, hr, ha]
      · simp -implicitDefEqProofs only [go_sem, hT, e1, e2, e3, hr, h5, ha]
    · have hb : (b.val : Int) < 16 := by omega
      rcases h2 with hr | ⟨hr, h5⟩
      · simp -implicitDefEqProofs only [go_sem, hT, e1, e2, e3, hr, ha, hb]
      · simp -implicitDefEqProofs only [go_sem, hT, e1, e2, e3, hr, h5, ha, hb]
def wantedB (l : List Cl) (t w : Ty) : Bool :=
  if w.val = 255 then true else if w.val = 254 then decide (t.val ≠ 0) else if w.val = 253 then isRefB t else subB l t w
theorem wanted117 (l : List Cl) (o : Own) (t w : Ty) (hf : Falls l l.length) (hl : l.length * 48 ≤ 140737488355328) : zf9 Tryz.prog 182 [.slice o (rws eC l), .int .u8 t.val, .int .u8 w.val] (.bool (wantedB l t w)) := by
  refine F182.pcall' rfl fun T hT => ?_
  by_cases h1 : (w.val : Int) = 255
  · simp -implicitDefEqProofs only [go_sem, c182, hT, h1]
    exact zc2 (by rw [wantedB, if_pos (by omega)])
  by_cases h2 : (w.val : Int) = 254
  · simp -implicitDefEqProofs only [go_sem, c182, hT, h1, h2]
    exact zc2 (by rw [wantedB, if_neg (by omega), if_pos (by omega), Bool.eq_iff_iff]; simp)
  by_cases h3 : (w.val : Int) = 253
  · simp -implicitDefEqProofs only [go_sem, c182, hT, h1, h2, h3]
    refine za4 (refIsRef120 t) ?_
    simp -implicitDefEqProofs only [go_sem, hT]
    exact zc2 (by rw [wantedB, if_neg (by omega), if_neg (by omega), if_pos (by omega)])
  simp -implicitDefEqProofs only [go_sem, c182, hT, h1, h2, h3]
  refine za4 (refSub79 l o t w hf hl) ?_
  simp -implicitDefEqProofs only [go_sem, hT]
  exact zc2 (by rw [wantedB, if_neg (by omega), if_neg (by omega), if_neg (by omega)])
def fitsB (l : List Cl) (w : Wn) (t first : Ty) : Bool :=
  if w.kind = 1 then decide (t.val ≠ 0) else if w.kind = 2 then isRefB t else if w.kind = 3 then decide (t = first ∧ (t.val = 1 ∨ t.val = 2)) else if w.kind = 4 then subB l t w.t else true
theorem fits128 (l : List Cl) (o : Own) (w : Wn) (t first : Ty) (hl : l.length ≤ 140737488355328) : zf9 Tryz.prog 211 [.slice o (rws eC l), .agg (eW w), .int .u8 t.val, .int .u8 first.val] (.bool (fitsB l w t first)) := by
  refine F211.pcall' rfl fun T hT => ?_
  simp -implicitDefEqProofs only [go_sem, c211, hT, eW_len]
  intro b5
  have g0 : (eW w)[0]? = some (.int .i64 w.kind) := rfl
  have g1 : (eW w)[1]? = some (.int .u8 w.t.val) := rfl
  by_cases h1 : (w.kind : Int) = 1
  · simp -implicitDefEqProofs only [go_sem, hT, h1, g0, g1, eW_len, gdD]
    exact zc2 (by rw [fitsB, if_pos (by omega), Bool.eq_iff_iff]; simp)
  by_cases h2 : (w.kind : Int) = 2
  · simp -implicitDefEqProofs only [go_sem, hT, h1, h2, g0, g1, eW_len, gdD]
    refine za4 (isRef163 t) ?_
    simp -implicitDefEqProofs only [go_sem, hT]
    exact zc2 (by rw [fitsB, if_neg (by omega), if_pos (by omega)])
  by_cases h3 : (w.kind : Int) = 3
  · simp -implicitDefEqProofs only [go_sem, mmB, hT, h1, h2, h3, g0, g1, eW_len, gdD]
    exact zc2 (by rw [fitsB, if_neg (by omega), if_neg (by omega), if_pos (by omega), Bool.eq_iff_iff]; simp [Fin.ext_iff]; omega)
  by_cases h4 : (w.kind : Int) = 4
  · simp -implicitDefEqProofs only [go_sem, hT, h1, h2, h3, h4, g0, g1, eW_len, gdD]
    refine za4 (sub164 l o t w.t hl) ?_
    simp -implicitDefEqProofs only [go_sem, hT]
    exact zc2 (by rw [fitsB, if_neg (by omega), if_neg (by omega), if_neg (by omega), if_pos (by omega)])
  simp -implicitDefEqProofs only [go_sem, hT, h1, h2, h3, h4, g0, g1, eW_len, gdD]
  exact zc2 (by rw [fitsB, if_neg (by omega), if_neg (by omega), if_neg (by omega), if_neg (by omega)])
theorem bare_iff {f : Fr} : bareF f = f ↔ ∀ j : Nat, j < 24 → f.loc + f.h ≤ (j : Int) → slAt f j = 0 := by
  constructor
  · intro h j hj hle
    have : (bareF f).sl[j] = f.sl[j] := by rw [h]
    rw [slAt_lt f hj, ← this]
    simp only [bareF, Vector.getElem_ofFn]
    rw [if_neg (by omega)]
  · intro h
    obtain ⟨a, b, c⟩ := f
    simp only [bareF, Fr.mk.injEq, true_and]
    apply Vector.ext
    intro j hj
    simp only [Vector.getElem_ofFn]
    split
    · rfl
    · rename_i hn
      have := h j hj (by simp only at hn ⊢; omega)
      rw [slAt_lt _ hj] at this
      exact this.symm
theorem refCheck40 (l : List Cl) (o : Own) (f : Fr) : zf9 Tryz.prog 59 [.slice o (rws eC l), .agg (eFr f)] (.int .i64 (checkF l.length f)) := by
  refine F59.pcall' rfl fun T hT => ?_
  simp -implicitDefEqProofs only [go_sem, c59, hT, za6]
  intro b3
  simp -implicitDefEqProofs only [go_sem, hT, za6, za5]
  refine za4 (refShape86 f) ?_
  cases hs : shapedB f
  · rw [show checkF l.length f = 32 by rw [checkF, if_pos (.inl hs)]]
    simp -implicitDefEqProofs only [go_sem, hT]
    exact DLe.refl _
  obtain ⟨s1, s2, s3, s4⟩ := shaped_of hs
  obtain ⟨n, hn⟩ : ∃ n : Nat, f.loc + f.h = n := ⟨_, (Int.toNat_of_nonneg (by omega)).symm⟩
  have w1 : IntKind.wrap .i64 (f.loc + f.h) = n := by rw [zb7 (by omega) (by omega), hn]
  simp -implicitDefEqProofs only [go_sem, hT, za6, za5, fr_0, fr_1, gdD, w1]
  refine loopL F59 (fun i : Nat => [(0, .slice o (rws eC l)), (3, .ptr b3 0), (5, .int .i64 i)]) (fun _ => ({} : St).set b3 (eFr f)) (fun i => n ≤ i ∧ i ≤ 24 ∧ ∀ j : Nat, n ≤ j → j < i → slAt f j = 0) (fun i => 24 - i) n ⟨by omega, by omega, fun j _ _ => by omega⟩ ?_ (St.le.refl _) ?_
  · simp -implicitDefEqProofs only [go_sem, hT]
  clear hT T
  rintro i ⟨hni, hi, hok⟩ T hT
  by_cases h : i < 24
  · have h1 : ((i : Int) < 24) = True := by simp; omega
    have hx := fr_slAt f h
    simp -implicitDefEqProofs only [go_sem, hT, h1, za6, gdD, hx, Nat.mul_one]
    refine ⟨by omega, ?_⟩
    by_cases hz : ((slAt f i).val : Int) = 0
    · simp -implicitDefEqProofs only [go_sem, hT, hz]
      refine ⟨i + 1, ⟨by omega, by omega, fun j h1 h2 => ?_⟩, by omega, ?_, St.le.refl _⟩
      · by_cases hj : j = i
        · subst hj; exact Fin.ext (by simpa using hz)
        · exact hok j h1 (by omega)
      · rw [zb7 (by omega) (by omega)]; simp
    · rw [show checkF l.length f = 32 by
        rw [checkF, if_pos (.inr fun hb => hz (by rw [bare_iff.1 hb i h (by omega)]; rfl))]]
      simp -implicitDefEqProofs only [go_sem, hT, hz]
      exact DLe.refl _
  · have h1 : ((i : Int) < 24) = False := by simp; omega
    have hb : bareF f = f := bare_iff.2 fun j hj hle => hok j (by omega) (by omega)
    have hc : checkF l.length f = if (f.sl.toList.any fun t => !validN l.length t) = true then 22 else 0 := by rw [checkF, if_neg (by simp [hs, hb])]
    rw [hc]
    simp -implicitDefEqProofs only [go_sem, hT, h1, Int.ofNat_zero]
    refine loopL F59 (fun i : Nat => [(0, .slice o (rws eC l)), (3, .ptr b3 0), (6, .int .i64 i)]) (fun _ => ({} : St).set b3 (eFr f)) (fun i => i ≤ n ∧ ∀ j : Nat, j < i → validN l.length (slAt f j) = true) (fun i => 24 - i) 0 ⟨by omega, fun j hj => by omega⟩ ?_ (St.le.refl _) ?_
    · simp -implicitDefEqProofs only [go_sem, hT, Int.ofNat_zero]
    clear hT T h1
    rintro k ⟨hk, hv⟩ T hT
    by_cases hkn : k < n
    · have h1 : ((k : Int) < n) = True := by simp; omega
      have hx := fr_slAt f (show k < 24 by omega)
      simp -implicitDefEqProofs only [go_sem, hT, h1, za6, fr_0, fr_1, gdD, w1, hx, Nat.mul_one]
      refine ⟨by omega, za4 (refValid87 l o _) ?_⟩
      cases hvk : validN l.length (slAt f k)
      · rw [if_pos (List.any_eq_true.2 ⟨slAt f k, by rw [slAt_lt f (by omega)]; simp, by simp [hvk]⟩)]
        simp -implicitDefEqProofs only [go_sem, hT]
        exact DLe.refl _
      · simp -implicitDefEqProofs only [go_sem, hT]
        refine ⟨k + 1, ⟨by omega, fun j hj => ?_⟩, by omega, ?_, St.le.refl _⟩
        · by_cases hj' : j = k
          · subst hj'; exact hvk
          · exact hv j (by omega)
        · rw [zb7 (by omega) (by omega)]; simp
    · have h1 : ((k : Int) < n) = False := by simp; omega
      rw [if_neg (by
        simp only [List.any_eq_true, Bool.not_eq_true', not_exists, not_and, Bool.not_eq_false]
        intro t ht
        obtain ⟨j, hj, rfl⟩ := List.mem_iff_getElem.1 ht
        have hj24 : j < 24 := by simpa using hj
        have he : f.sl.toList[j] = slAt f j := by rw [slAt_lt f hj24]; simp
        rw [he]
        by_cases hjn : j < k
        · exact hv j hjn
        · rw [hok j (by omega) (by omega)]; rfl)]
      simp -implicitDefEqProofs only [go_sem, hT, h1, za6, fr_0, fr_1, gdD, w1]
      exact DLe.refl _
open Go.Proofs
def hadL (f : Fr) (n : Nat) : List Ty := (List.range n).map fun k => slAt f ((f.loc + f.h - n).toNat + k)
theorem hadL_len {f : Fr} {n : Nat} : (hadL f n).length = n := by simp [hadL]
theorem hadL_at {f : Fr} {n i : Nat} (h : i < n) : (hadL f n)[i]? = some (slAt f ((f.loc + f.h - n).toNat + i)) := by simp [hadL, h]
theorem hadL_take {f : Fr} {n i : Nat} (h : i < n) : (hadL f n).take (i + 1) = (hadL f n).take i ++ [slAt f ((f.loc + f.h - n).toNat + i)] := by
  rw [List.take_add_one, hadL_at h]; rfl
def fitsAll (l : List Cl) (ws : List Wn) (had : List Ty) : Bool := (ws.zip had).all fun p => fitsB l p.1 p.2 (had.headD 0)
def wantedAll (l : List Cl) (tk had : List Ty) : Bool := (tk.zip had).all fun p => wantedB l p.2 p.1
def takenF (l : List Cl) (f : Fr) (ws : List Wn) : List Ty × Nat :=
  if f.h < ws.length then ([], 30) else if fitsAll l ws (hadL f ws.length) = false then ([], 70) else (hadL f ws.length, 0)
theorem taken83 (l : List Cl) (o o2 : Own) (f : Fr) (ws : List Wn) (hs : shapedB f = true) (hl : l.length ≤ 140737488355328) :
    zf9 Tryz.prog 174 [.slice o (rws eC l), .agg (eFr f), .slice o2 (rws eW ws)] (.tup [.slice .no (rws eT (takenF l f ws).1), .int .i64 (takenF l f ws).2]) := by
  obtain ⟨s1, s2, s3, s4⟩ := shaped_of hs
  refine F174.pcall' rfl fun T hT => ?_
  simp -implicitDefEqProofs only [go_sem, c174, hT, za6]
  intro b4
  by_cases hh : f.h < ws.length
  · have h1 : (f.h < (ws.length : Int)) = True := by simp; omega
    rw [show takenF l f ws = ([], 30) by rw [takenF, if_pos hh]]
    simp -implicitDefEqProofs only [go_sem, hT, za6, za5, fr_0, fr_1, gdD, h1]
    exact DLe.tup (.cons (DLe.slice _ _) (.cons (.refl _) .nil))
  have h1 : (f.h < (ws.length : Int)) = False := by simp; omega
  have ht : takenF l f ws = if fitsAll l ws (hadL f ws.length) = false then ([], 70) else (hadL f ws.length, 0) := by rw [takenF, if_neg hh]
  rw [ht]
  obtain ⟨n, hn⟩ : ∃ n, ws.length = n := ⟨_, rfl⟩
  rw [hn] at hh h1 ht ⊢
  obtain ⟨H, hH⟩ : ∃ H, hadL f n = H := ⟨_, rfl⟩
  rw [hH]
  have hHl : H.length = n := by rw [← hH, hadL_len]
  simp -implicitDefEqProofs only [go_sem, hT, za6, za5, fr_0, fr_1, gdD, h1, hn, grD_none (s := 1)]
  refine loopL F174 (fun x : Nat × Option Nat => [(0, .slice o (rws eC l)), (2, .slice o2 (rws eW ws)), (4, .ptr b4 0), (8, grD 1 x.2 (rws eT (H.take x.1))), (20, .int .i64 n), (21, .int .i64 x.1)])
    (fun x => grS 1 x.1 x.2 (({} : St).set b4 (eFr f))) (fun x => x.1 ≤ n ∧ (x.2 = none → x.1 = 0) ∧ grN x.2 (({} : St).set b4 (eFr f))) (fun x => n - x.1) (0, none) ⟨Nat.zero_le _, fun _ => rfl, grN_none⟩ ?_ (St.le.refl _) ?_
  · simp -implicitDefEqProofs only [go_sem, hT, Int.ofNat_zero, List.take_zero, rws_mt]
  clear hT T h1
  rintro ⟨i, ob⟩ ⟨hi, hok, hgr⟩ T hT
  simp only at hi hok hgr hT ⊢
  by_cases h : i < n
  · have h1 : ((i : Int) < n) = True := by simp; omega
    have w1 : IntKind.wrap .i64 ((n : Int) - 1) = (n : Int) - 1 := zb7 (by omega) (by omega)
    have w2 : IntKind.wrap .i64 ((n : Int) - 1 - i) = ((n - 1 - i : Nat) : Int) := by rw [zb7 (by omega) (by omega)]; omega
    have htop := top127 f hs (n - 1 - i) (by omega)
    rw [show (f.loc + f.h - 1 - ((n - 1 - i : Nat) : Int)).toNat = (f.loc + f.h - n).toNat + i by omega] at htop
    simp -implicitDefEqProofs only [go_sem, hT, h1, za6, za5, hn, w1, w2]
    refine za4 htop ?_
    have htake : H.take (i + 1) = H.take i ++ [slAt f ((f.loc + f.h - n).toNat + i)] := by rw [← hH]; exact hadL_take h
    simp -implicitDefEqProofs only [go_sem, hT, za6, za5, frz]
    refine app_gr' Tryz.sli93 Tryz.sz81 Tryz.by81 Tryz.zero81 rfl (n := i) (m := 1) (base := ({} : St).set b4 (eFr f)) (by rw [za0, List.length_take]; omega) rfl (St.le.refl _) hgr hok (by simp) (by omega) fun o' σ' hbox hle hgn hno => ?_
    simp -implicitDefEqProofs only [go_sem, hT, hbox]
    refine ⟨(i + 1, o'), ⟨by omega, by simpa using hno, hgn⟩, by simp only; omega, ⟨?_, ?_⟩, hle⟩
    · rw [htake]; simp [rws, eT]
    · rw [zb7 (by omega) (by omega)]; simp
  · obtain rfl : i = n := by omega
    have h1 : ((i : Int) < i) = False := by simp
    rw [List.take_of_length_le (by omega)] at hT
    have hgl : (grD 1 ob (rws eT H)).cellQ = true := grD_cellQ
    simp -implicitDefEqProofs only [go_sem, hT, h1, za6, za5, hn, hHl]
    refine loopL F174 (fun k : Nat => [(0, .slice o (rws eC l)), (2, .slice o2 (rws eW ws)), (8, grD 1 ob (rws eT H)), (39, grD 1 ob (rws eT H)), (40, .int .i64 i), (41, .int .i64 k)])
      (fun x => grS 1 i ob (({} : St).set b4 (eFr f))) (fun k => k ≤ i ∧ (((ws.zip H).take k).all fun p => fitsB l p.1 p.2 (H.headD 0)) = true) (fun k => i - k) 0 ⟨Nat.zero_le _, rfl⟩ ?_ (St.le.refl _) ?_
    · simp -implicitDefEqProofs only [go_sem, hT, Int.ofNat_zero]
    clear hT T h1
    rintro k ⟨hk, hall⟩ T hT
    have hz : (ws.zip H).length = i := by simp [hn, hHl]
    by_cases h : k < i
    · have h1 : ((k : Int) < i) = True := by simp; omega
      have hkH : k < H.length := by omega
      have hkw : k < ws.length := by omega
      have h0H : 0 < H.length := by omega
      have r1 : (rws eT H)[k]?.getD [] = eT H[k] := rws_at hkH
      have r2 : (rws eW ws)[k]?.getD [] = eW ws[k] := rws_at hkw
      have r0 : (rws eT H)[0]?.getD [] = eT H[0] := rws_at h0H
      have hd : H.headD 0 = H[0] := by cases H with
        | nil => simp at h0H
        | cons a b => rfl
      have hzk : (ws.zip H)[k]? = some (ws[k], H[k]) := by
        rw [List.getElem?_eq_getElem (by omega)]; simp
      have htk : (ws.zip H).take (k + 1) = (ws.zip H).take k ++ [(ws[k], H[k])] := by rw [List.take_add_one, hzk]; rfl
      have hin : (ws[k], H[k]) ∈ ws.zip H := List.mem_of_getElem? hzk
      have hcast : (k : Int).toNat = k := by simp
      have ewt : (eW ws[k]).take 2 = eW ws[k] := rfl
      simp -implicitDefEqProofs only [go_sem, hT, h1, za6, za5, hn, hHl, r1, r2, r0, eT, eT_len, eW_len, ewt]
      refine ⟨by omega, by omega, by omega, za4 (fits128 l o ws[k] H[k] H[0] hl) ?_⟩
      cases hf : fitsB l ws[k] H[k] H[0]
      · have hno : fitsAll l ws H = false := by
          rw [fitsAll, List.all_eq_false]
          exact ⟨_, hin, by simp only [hd, hf]; simp⟩
        rw [if_pos hno]
        simp -implicitDefEqProofs only [go_sem, hT]
        exact DLe.tup (.cons (DLe.slice _ _) (.cons (.refl _) .nil))
      · simp -implicitDefEqProofs only [go_sem, hT]
        refine ⟨k + 1, ⟨by omega, by rw [htk, List.all_append, hall]; simp only [List.all_cons, List.all_nil, hd, hf, Bool.and_self]⟩, by omega, ?_, St.le.refl _⟩
        rw [zb7 (by omega) (by omega)]; simp
    · obtain rfl : k = i := by omega
      have h1 : ((k : Int) < k) = False := by simp
      rw [List.take_of_length_le (by omega)] at hall
      rw [if_neg (by rw [fitsAll, hall]; simp)]
      simp -implicitDefEqProofs only [go_sem, hT, h1]
      exact DLe.tup (.cons grD_le (.cons (.refl _) .nil))
open Go.Proofs
def popN : Nat → Fr → Fr
  | 0, f => f
  | k + 1, f => popF (popN k f)
theorem pop_loc {f : Fr} : (popF f).loc = f.loc := by unfold popF; exact bare_loc _
theorem pop_h {f : Fr} : (popF f).h = f.h - 1 := by unfold popF; exact bare_h _
theorem popN_loc : ∀ {k : Nat} {f : Fr}, (popN k f).loc = f.loc
  | 0, f => rfl
  | k + 1, f => by rw [popN, pop_loc, popN_loc]
theorem popN_h : ∀ {k : Nat} {f : Fr}, (popN k f).h = f.h - k
  | 0, f => by simp [popN]
  | k + 1, f => by rw [popN, pop_h, popN_h]; omega
theorem popN_shape {f : Fr} (hs : shapedB f = true) {k : Nat} (hk : (k : Int) ≤ f.h) : shapedB (popN k f) = true := by
  have := shaped_of hs
  simp only [shapedB, decide_eq_true_eq, popN_loc, popN_h]; omega
theorem popN_bare {f : Fr} (hb : bareF f = f) : ∀ k, bareF (popN k f) = popN k f
  | 0 => hb
  | k + 1 => by rw [popN, popF, bare_bare]
def pushAll : List Ty → Fr → Fr × Nat
  | [], f => (f, 0)
  | t :: ts, f => if (pushF f t).2 ≠ 0 then (fr0 0, (pushF f t).2) else pushAll ts (pushF f t).1
theorem push_shape {f : Fr} (hs : shapedB f = true) {t : Ty} (h : (pushF f t).2 = 0) : shapedB (pushF f t).1 = true := by
  have := shaped_of hs
  unfold pushF at h ⊢
  split
  · rename_i h1; rw [if_pos h1] at h; cases h
  · simp only [shapedB, decide_eq_true_eq]; omega
theorem setF_shape {f : Fr} {a : Int} {t : Ty} : shapedB (setF f a t) = shapedB f := by simp only [shapedB, setF_loc, setF_h]
def behindF (i : Ins) (f : Fr) (had gs : List Ty) : Fr × Nat :=
  if i.op.val = 22 ∧ 0 < (popN had.length f).h then (fr0 0, 73)
  else pushAll gs (if i.op.val = 5 then setF (bareF (popN had.length f)) i.a (had.headD 0) else popN had.length f)
theorem set3 {σ : St} {a b c : Nat} {x y z w : List D} (h1 : b ≠ a) (h2 : c ≠ a) : (((σ.set a x).set b y).set c z).set a w = ((σ.set a w).set b y).set c z := by
  rw [Go.AL.set_comm (σ := (σ.set a x).set b y) h2, Go.AL.set_comm (σ := σ.set a x) h1, za2]
theorem behind85 (i : Ins) (f : Fr) (had gs : List Ty) (o o2 : Own) (hs : shapedB f = true) (hh : (had.length : Int) ≤ f.h) (hgl : gs.length ≤ 1000) (h5 : i.op.val = 5 → 0 < had.length ∧ 0 ≤ i.a ∧ i.a < f.loc) :
    zf9 Tryz.prog 176 [.agg (eFr f), .agg (eIn i), .slice o (rws eT had), .slice o2 (rws eT gs)] (.tup [.agg (eFr (behindF i f had gs).1), .int .i64 (behindF i f had gs).2]) := by
  obtain ⟨s1, s2, s3, s4⟩ := shaped_of hs
  refine F176.pcall' rfl fun T hT => ?_
  simp -implicitDefEqProofs only [go_sem, ze4, c176, hT, za6, zb6]
  intro b4 b5 n1 n2 b8 n3 n4 n5 n6
  have ne1 : b5 ≠ b4 := fun e => by simp_all
  have ne2 : b8 ≠ b4 := fun e => by simp_all
  refine loopL F176 (fun k : Nat => [(2, .slice o (rws eT had)), (3, .slice o2 (rws eT gs)), (4, .ptr b4 0), (5, .ptr b5 0), (8, .ptr b8 0), (9, .int .i64 0), (15, .int .i64 had.length), (16, .int .i64 k)])
    (fun k => ((({} : St).set b4 (eFr (popN k f))).set b5 (eIn i)).set b8 zFr) (fun k => k ≤ had.length) (fun k => had.length - k) 0 (Nat.zero_le _) ?_ (St.le.refl _) ?_
  · simp -implicitDefEqProofs only [go_sem, hT, Int.ofNat_zero]
  clear hT T
  rintro k hk T hT
  by_cases h : k < had.length
  · have h1 : ((k : Int) < had.length) = True := by simp; omega
    have hp := pop129 (popN k f) (popN_shape hs (by omega)) (by rw [popN_h]; omega)
    simp -implicitDefEqProofs only [go_sem, hT, h1, za6, za5, n1, n2, n3, n4, n5, n6]
    refine za4 hp ?_
    simp -implicitDefEqProofs only [go_sem, hT, za6, za5, n1, n2, n3, n4, n5, n6, za7, anD]
    refine ⟨k + 1, by omega, by omega, ?_, ?_⟩
    · rw [zb7 (by omega) (by omega)]; simp
    · rw [set3 ne1 ne2]; exact St.le.refl _
  · obtain rfl : k = had.length := by omega
    have h1 : ((had.length : Int) < had.length) = False := by simp
    have i1 : (eIn i)[1]? = some (.int .u8 i.op.val) := rfl
    have i2 : (eIn i)[2]? = some (.int .i64 i.a) := rfl
    have gsh := popN_shape hs (k := had.length) hh
    have gl : (popN had.length f).loc = f.loc := popN_loc
    obtain ⟨X, hX⟩ : ∃ X, behindF i f had gs = X := ⟨_, rfl⟩
    rw [hX]
    rw [behindF] at hX
    generalize popN had.length f = g at gsh gl hX ⊢
    -- the pushes, from a frame on
    have rest : ∀ (g : Fr) (T : Env), shapedB g = true → pushAll gs g = X → envOk [(4, .ptr b4 0), (5, .ptr b5 0), (8, .ptr b8 0), (9, .int .i64 0), (47, .slice o2 (rws eT gs)), (48, .int .i64 gs.length), (49, .int .i64 0)] T → vcA Tryz.prog 66 (.loop ?c) ?Q T (((({} : St).set b4 (eFr g)).set b5 (eIn i)).set b8 zFr) := ?rest
    · by_cases o22 : (i.op.val : Int) = 22
      · by_cases hg : 0 < g.h
        · have hg' : (0 < g.h) = True := by simp [hg]
          rw [if_pos ⟨by omega, hg⟩] at hX
          rw [← hX, fr_fr0]
          simp -implicitDefEqProofs only [go_sem, ze4, ze2, ze6, zc5, hT, h1, za6, za5, zb6, fr_1, gdD, i1, o22, hg', n1, n2, n3, n4, n5, n6, za3, za2]
          exact DLe.refl _
        have hg' : (0 < g.h) = False := by simp; omega
        rw [if_neg (by omega), if_neg (by omega)] at hX
        simp -implicitDefEqProofs only [go_sem, ze4, hT, h1, za6, za5, zb6, fr_1, gdD, i1, o22, hg', n1, n2, n3, n4, n5, n6]
        refine rest g _ gsh hX ?_
        simp -implicitDefEqProofs only [go_sem, hT]
      rw [if_neg (by omega)] at hX
      by_cases o5 : (i.op.val : Int) = 5
      · obtain ⟨k1, k2, k3⟩ := h5 (by omega)
        rw [if_pos (by omega)] at hX
        have hh0 : had.headD 0 = had[0] := by cases had with
          | nil => simp at k1
          | cons a b => rfl
        have r0 : (rws eT had)[0]?.getD [] = eT had[0] := rws_at k1
        have hst := store130 g gsh i.a had[0] k2 (by omega)
        simp -implicitDefEqProofs only [go_sem, ze4, hT, h1, za6, za5, zb6, fr_1, gdD, i1, i2, o22, o5, r0, eT, eT_len, n1, n2, n3, n4, n5, n6]
        refine ⟨by omega, za4 hst ?_⟩
        simp -implicitDefEqProofs only [go_sem, ze4, hT, za6, za5, za7, anD, n1, n2, n3, n4, n5, n6, set3 ne1 ne2]
        rw [← hh0]
        refine rest _ _ (by rw [setF_shape, bare_shape]; exact gsh) hX ?_
        simp -implicitDefEqProofs only [go_sem, hT]
      · rw [if_neg (by omega)] at hX
        simp -implicitDefEqProofs only [go_sem, ze4, hT, h1, za6, za5, zb6, fr_1, gdD, i1, i2, o22, o5, n1, n2, n3, n4, n5, n6]
        refine rest g _ gsh hX ?_
        simp -implicitDefEqProofs only [go_sem, hT]
    clear hT T hX gsh gl g
    intro g T gsh hX hE
    refine loopL F176 (fun x : Nat × Fr => [(4, .ptr b4 0), (5, .ptr b5 0), (8, .ptr b8 0), (9, .int .i64 0), (47, .slice o2 (rws eT gs)), (48, .int .i64 gs.length), (49, .int .i64 x.1)])
      (fun x => ((({} : St).set b4 (eFr x.2)).set b5 (eIn i)).set b8 zFr) (fun x => x.1 ≤ gs.length ∧ shapedB x.2 = true ∧ pushAll (gs.drop x.1) x.2 = X) (fun x => gs.length - x.1) (0, g) ⟨Nat.zero_le _, gsh, hX⟩ hE (St.le.refl _) ?_
    clear hE T hX gsh g
    rintro ⟨k, g⟩ ⟨hk, gsh, hX⟩ T hT
    simp only at hk gsh hX hT ⊢
    by_cases h : k < gs.length
    · have h1 : ((k : Int) < gs.length) = True := by simp; omega
      have r0 : (rws eT gs)[k]?.getD [] = eT gs[k] := rws_at h
      rw [List.drop_eq_getElem_cons h, pushAll] at hX
      simp -implicitDefEqProofs only [go_sem, hT, h1, za6, za5, r0, eT, eT_len, n1, n2, n3, n4, n5, n6]
      generalize gs[k] = t at hX ⊢
      refine ⟨by omega, za4 (push131 g gsh t) ?_⟩
      have psh := push_shape gsh (t := t)
      obtain ⟨⟨g', z⟩, hP⟩ : ∃ P, pushF g t = P := ⟨_, rfl⟩
      rw [hP] at hX psh ⊢
      simp only at hX psh ⊢
      simp -implicitDefEqProofs only [go_sem, hT, ze4, ze6, zc5, n1, n2, n3, n4, n5, n6]
      intro b12 m1 m2 m3 m4 m5 m6
      by_cases hz : (z : Int) = 0
      · have hz0 : z = 0 := by omega
        rw [if_neg (by simp [hz0])] at hX
        simp -implicitDefEqProofs only [go_sem, hT, hz, za6, za5, za7, ze6, zc5, anD, n1, n2, n3, n4, n5, n6, m1, m2, m3, m4, m5, m6, za2]
        refine ⟨(k + 1, g'), ⟨by simp only; omega, psh hz0, hX⟩, by simp only; omega, ?_, ?_⟩
        · rw [zb7 (by omega) (by omega)]; simp
        · rw [Go.AL.set_comm (b := b4) (a := b12) (σ := ((({} : St).set b4 (eFr g)).set b5 (eIn i)).set b8 zFr) m5, set3 ne1 ne2]
          exact le_add (by simp [has_set, m1, m2, m3, m4, m5, m6, St.not_has_nil])
      · rw [if_pos (by omega)] at hX
        rw [← hX, fr_fr0]
        simp -implicitDefEqProofs only [go_sem, hT, hz, ze4, za6, za5, za7, ze6, ze2, zc5, anD, n1, n2, n3, n4, n5, n6, m1, m2, m3, m4, m5, m6, za2, za3]
    · have h1 : ((k : Int) < gs.length) = False := by simp; omega
      rw [List.drop_eq_nil_of_le (by omega), pushAll] at hX
      rw [← hX]
      simp -implicitDefEqProofs only [go_sem, hT, h1, za6, za5, za7, zc5, anD, ze6, n1, n2, n3, n4, n5, n6, za3, za2]
      exact DLe.refl _
open Go.Proofs
def givesV (g : Gv) (had : List Ty) : List Ty :=
  match g with
  | .no => []
  | .const l => l
  | .dup => [had.headD 0, had.headD 0]
  | .swap => [(had[1]?).getD 0, had.headD 0]
theorem callK_gv {N : Nat} {d : Option Nat} {st : Bool} {K : Env → St → Prop} {Q : XA → Env → St → Prop} {T : Env} {σ : St} {B : List Nat} {f : Ef} (hf : okEf f) (l : List Ty) (hl : l.length = f.takes.length) (o : Own)
    (hk : putK N d (.slice .no (rws eT (givesV f.gives l))) K T σ) : callK Tryz.prog N B st d (eG f.gives) [.slice o (rws eT l)] K Q T σ := by
  obtain ⟨ws, g⟩ := f
  cases g with
  | no => exact hf.elim
  | const c => exact za4 (gives184 _ _) hk
  | dup =>
    have h0 : 0 < l.length := by rw [hl]; exact hf
    refine za4 (dup156 l o h0) ?_
    simp only [givesV] at hk
    rw [show l.headD 0 = l[0] by cases l with | nil => simp at h0 | cons a b => rfl] at hk
    exact hk
  | swap =>
    have h0 : 1 < l.length := by rw [hl]; exact hf
    refine za4 (swap157 l o h0) ?_
    simp only [givesV] at hk
    rw [show l.headD 0 = l[0] by cases l with | nil => simp at h0 | cons a b => rfl, List.getElem?_eq_getElem h0] at hk
    exact hk
def locOp (i : Ins) : Prop := i.op.val = 4 ∨ i.op.val = 5
instance (i : Ins) : Decidable (locOp i) := by unfold locOp; infer_instance
def applyF (e : En) (f : Fr) (i : Ins) : Fr × Nat :=
  if canB e = false then (fr0 0, 1)
  else if checkF e.cs.length f ≠ 0 then (fr0 0, checkF e.cs.length f)
  else if (toldF e i).2 ≠ 0 then (fr0 0, (toldF e i).2)
  else if locOp i ∧ ¬ (0 ≤ i.a ∧ i.a < f.loc) then (fr0 0, 33)
  else if (takenF e.cs f (toldF e i).1.takes).2 ≠ 0 then (fr0 0, (takenF e.cs f (toldF e i).1.takes).2)
  else if i.op.val = 4 then (if slAt f i.a.toNat = 0 then (fr0 0, 70) else behindF i f (takenF e.cs f (toldF e i).1.takes).1 [slAt f i.a.toNat])
  else behindF i f (takenF e.cs f (toldF e i).1.takes).1 (givesV (toldF e i).1.gives (takenF e.cs f (toldF e i).1.takes).1)
theorem checkF_shape {n : Nat} {f : Fr} (h : checkF n f = 0) : shapedB f = true := by
  unfold checkF at h
  split at h
  · cases h
  · rename_i h1; cases hs : shapedB f
    · exact absurd (.inl hs) h1
    · rfl
theorem takenF_ok {l : List Cl} {f : Fr} {ws : List Wn} (h : (takenF l f ws).2 = 0) : (takenF l f ws).1 = hadL f ws.length ∧ (ws.length : Int) ≤ f.h := by
  unfold takenF at h ⊢
  split at h
  · cases h
  · rename_i h1
    rw [if_neg h1]
    split at h
    · cases h
    · rename_i h2; rw [if_neg h2]; exact ⟨rfl, by omega⟩
theorem told_lt {e : En} {i : Ins} (h : (toldF e i).2 = 0) : i.op.val < 34 := by
  by_cases h1 : 34 ≤ i.op.val
  · rw [toldF, if_pos h1] at h; cases h
  · omega
theorem told_store {e : En} {i : Ins} (h : i.op.val = 5) : (toldF e i).1.takes.length = 1 := by
  rw [toldF, if_neg (by omega), h]; rfl
theorem givesV_len {g : Gv} {had : List Ty} : (givesV g had).length = givesN g := by cases g <;> rfl
theorem tellF_gives (e : En) (i : Ins) (op : Nat) (h : op < 34) : givesN (tellF e i (tlOf op)).1.gives ≤ 2 := by
  have gv : ∀ g : Gv, (∀ l, g = .const l → l.length ≤ 2) → givesN g ≤ 2 := fun g hg => by cases g <;> simp [givesN] <;> exact hg _ rfl
  have fixedOk : ∀ ws g, tlOf op = .fixed ws g → givesN g ≤ 2 → givesN (tellF e i (tlOf op)).1.gives ≤ 2 := fun ws g he hk => by rw [he]; exact hk
  have hcall : tlOf op = .call → givesN (tellF e i (tlOf op)).1.gives ≤ 2 := fun he => by
    rw [he]; simp only [tellF]; split
    · simp only [givesN]; split <;> simp
    · simp [ef0, givesN]
  have hret : tlOf op = .ret → givesN (tellF e i (tlOf op)).1.gives ≤ 2 := fun he => by
    rw [he]; simp only [tellF]; split <;> simp [ef0, givesN]
  have hcls : ∀ ws c, tlOf op = .classed ws c → givesN (tellF e i (tlOf op)).1.gives ≤ 2 := fun ws c he => by
    rw [he]; simp only [tellF]; split <;> simp [ef0, givesN]
  have hfld : ∀ p, tlOf op = .field p → givesN (tellF e i (tlOf op)).1.gives ≤ 2 := fun p he => by
    rw [he]; simp only [tellF]; split
    · split <;> simp [givesN]
    · simp [ef0, givesN]
  have : op = 0 ∨ op = 1 ∨ op = 2 ∨ op = 3 ∨ op = 4 ∨ op = 5 ∨ op = 6 ∨ op = 7 ∨ op = 8 ∨ op = 9 ∨ op = 10 ∨ op = 11 ∨ op = 12 ∨ op = 13 ∨ op = 14 ∨ op = 15 ∨ op = 16 ∨ op = 17 ∨ op = 18 ∨ op = 19 ∨ op = 20 ∨ op = 21 ∨ op = 22 ∨ op = 23 ∨ op = 24 ∨ op = 25 ∨ op = 26 ∨ op = 27 ∨ op = 28 ∨ op = 29 ∨ op = 30 ∨ op = 31 ∨ op = 32 ∨ op = 33 := by omega
  rcases this with h | h | h | h | h | h | h | h | h | h | h | h | h | h | h | h | h | h | h | h | h | h | h | h | h | h | h | h | h | h | h | h | h | h <;> subst h <;> first
    | exact fixedOk _ _ rfl (by simp [givesN])
    | exact hcall rfl
    | exact hret rfl
    | exact hcls _ _ rfl
    | exact hfld _ rfl
theorem ef_0 (f : Ef) : (eEf f)[0]? = some (.slice .no (rws eW f.takes)) := rfl
theorem ef_1 (f : Ef) : (eEf f)[1]? = some (eG f.gives) := rfl
def bYdaZ0 := aI @ze4 (aI @ze6 (aI @ze2 (aI @zc5 (aI @zb2 (aI @zb6 (aI @za6 (aI @za9 (aI @zb3 (aI @za5 (aI @za7 @anD))))))))))
def bYdaZ1 := aI @ze4 (aI @ze6 (aI @ze2 (aI @zc5 (aI @zb2 (aI @zb6 (aI @za6 (aI @za9 (aI @zb3 (aI @za5 (aI @za7 (aI @anD (aI @za2 @za3))))))))))))
def bYdaZ2 := aI @ze4 (aI @ze6 (aI @ze2 (aI @zc5 (aI @zb2 (aI @zb6 (aI @za6 (aI @za9 (aI @zb3 (aI @za5 (aI @za7 (aI @anD (aI @ef_0 (aI @ef_1 (aI @fr_0 (aI @gdD (aI @za2 (aI @za3 @eEf_len)))))))))))))))))
theorem apply39 (e : En) (f : Fr) (i : Ins) (hw : WideE e) : zf9 Tryz.prog 144 [.agg (eEn e), .agg (eFr f), .agg (eIn i)] (.tup [.agg (eFr (applyF e f i).1), .int .i64 (applyF e f i).2]) := by
  have i1 : (eIn i)[1]? = some (.int .u8 i.op.val) := rfl
  have i2 : (eIn i)[2]? = some (.int .i64 i.a) := rfl
  have e0 : (eEn e)[0]? = some (.slice .no (rws eC e.cs)) := rfl
  refine F144.pcall' rfl fun T hT => ?_
  simp -implicitDefEqProofs only [go_sem, c144, hT, bYdaZ0]
  intro b3 b4 n1 n2 b5 n3 n4 n5 n6 b6 n7 n8 n9 n10 n11 n12
  simp -implicitDefEqProofs only [go_sem, hT, n1, n2, n3, n4, n5, n6, n7, n8, n9, n10, n11, n12, bYdaZ0]
  refine za4 (environment80 e hw) ?_
  cases hcan : canB e
  · simp -implicitDefEqProofs only [go_sem, hT, n1, n2, n3, n4, n5, n6, n7, n8, n9, n10, n11, n12, bYdaZ1]
    rw [applyF, if_pos hcan, fr_fr0]
    exact DLe.refl _
  have hc := canB_can hw hcan
  simp -implicitDefEqProofs only [go_sem, hT, ze4, ze6, ze2, zc5, zb2, zb6, za6, za9, zb3, za5, za7, anD, n1, n2, n3, n4, n5, n6, n7, n8, n9, n10, n11, n12, e0, gdD]
  refine za4 (check81 e.cs .no f) ?_
  by_cases hck : checkF e.cs.length f = 0
  case neg =>
    have hck' : ((checkF e.cs.length f : Int) = 0) = False := by simp; omega
    simp -implicitDefEqProofs only [go_sem, hT, n1, n2, n3, n4, n5, n6, n7, n8, n9, n10, n11, n12, hck', bYdaZ1]
    rw [applyF, if_neg (by simp [hcan]), if_pos hck, fr_fr0]
    exact DLe.refl _
  have hck' : ((checkF e.cs.length f : Int) = 0) = True := by simp; omega
  have hs := checkF_shape hck
  have ha : applyF e f i = if (toldF e i).2 ≠ 0 then (fr0 0, (toldF e i).2)
      else if locOp i ∧ ¬ (0 ≤ i.a ∧ i.a < f.loc) then (fr0 0, 33)
      else if (takenF e.cs f (toldF e i).1.takes).2 ≠ 0 then (fr0 0, (takenF e.cs f (toldF e i).1.takes).2)
      else if i.op.val = 4 then (if slAt f i.a.toNat = 0 then (fr0 0, 70) else behindF i f (takenF e.cs f (toldF e i).1.takes).1 [slAt f i.a.toNat])
      else behindF i f (takenF e.cs f (toldF e i).1.takes).1 (givesV (toldF e i).1.gives (takenF e.cs f (toldF e i).1.takes).1) := by
    rw [applyF, if_neg (by simp [hcan]), if_neg (by simp [hck])]
  rw [ha]
  simp -implicitDefEqProofs only [go_sem, hT, n1, n2, n3, n4, n5, n6, n7, n8, n9, n10, n11, n12, hck', bYdaZ0]
  refine za4 (told82 e i hc) ?_
  have hst : (toldF e i).2 = 0 → i.op.val = 5 → (toldF e i).1.takes.length = 1 := fun _ h => told_store h
  have hok : (toldF e i).2 = 0 → okEf (toldF e i).1 ∧ (toldF e i).1.takes.length ≤ 8 := fun h0 => by
    have h34 := told_lt h0
    rw [toldF, if_neg (by omega)] at h0 ⊢
    exact tellF_ok e i hc i.op.val h34 h0
  have hlt := told_lt (e := e) (i := i)
  have hgl : (toldF e i).2 = 0 → ∀ had, (givesV (toldF e i).1.gives had).length ≤ 1000 := fun h0 had => by
    have h34 := told_lt h0
    have := tellF_gives e i i.op.val h34
    rw [givesV_len, toldF, if_neg (by omega)]; omega
  generalize toldF e i = F at *
  clear ha hlt
  simp -implicitDefEqProofs only [go_sem, hT, ze4, ze6, ze2, zc5, zb2, zb6, za6, za9, zb3, za5, za7, anD, n1, n2, n3, n4, n5, n6, n7, n8, n9, n10, n11, n12, eEf_len]
  intro b9 m1 m2 m3 m4 m5 m6 m7 m8
  by_cases h0 : F.2 = 0
  case neg =>
    have h0' : ((F.2 : Int) = 0) = False := by simp; omega
    rw [if_pos h0, fr_fr0]
    simp -implicitDefEqProofs only [go_sem, mmB, hT, n1, n2, n3, n4, n5, n6, n7, n8, n9, n10, n11, n12, m1, m2, m3, m4, m5, m6, m7, m8, i1, i2, e0, h0', bYdaZ2]
  have h0' : ((F.2 : Int) = 0) = True := by simp; omega
  replace hok := hok h0
  replace hgl := hgl h0
  replace hst := hst h0
  rw [if_neg (show ¬ F.2 ≠ 0 by simp [h0])]
  by_cases hl : locOp i ∧ ¬ (0 ≤ i.a ∧ i.a < f.loc)
  · have hq : ((decide ((i.op.val : Int) = 4) || decide ((i.op.val : Int) = 5)) && (decide (i.a < 0) || decide (f.loc ≤ i.a))) = true := by
      simp only [Bool.and_eq_true, Bool.or_eq_true, decide_eq_true_eq]; unfold locOp at hl; omega
    rw [if_pos hl, fr_fr0]
    simp -implicitDefEqProofs only [go_sem, mmB, hT, n1, n2, n3, n4, n5, n6, n7, n8, n9, n10, n11, n12, m1, m2, m3, m4, m5, m6, m7, m8, i1, i2, e0, h0', hq, bYdaZ2]
    exact DLe.refl _
  have hq : ((decide ((i.op.val : Int) = 4) || decide ((i.op.val : Int) = 5)) && (decide (i.a < 0) || decide (f.loc ≤ i.a))) = false := by
    rw [← Bool.not_eq_true]
    simp only [Bool.and_eq_true, Bool.or_eq_true, decide_eq_true_eq]; unfold locOp at hl; omega
  rw [if_neg hl]
  simp -implicitDefEqProofs only [go_sem, mmB, hT, n1, n2, n3, n4, n5, n6, n7, n8, n9, n10, n11, n12, m1, m2, m3, m4, m5, m6, m7, m8, i1, i2, e0, h0', hq, bYdaZ2]
  refine za4 (taken83 e.cs .no .no f F.1.takes hs (by have := hc.wide.1.1; omega)) ?_
  have htk := takenF_ok (l := e.cs) (f := f) (ws := F.1.takes)
  generalize takenF e.cs f F.1.takes = H at *
  by_cases h1 : H.2 = 0
  case neg =>
    have h1' : ((H.2 : Int) = 0) = False := by simp; omega
    rw [if_pos h1, fr_fr0]
    simp -implicitDefEqProofs only [go_sem, hT, n1, n2, n3, n4, n5, n6, n7, n8, n9, n10, n11, n12, m1, m2, m3, m4, m5, m6, m7, m8, i1, i2, e0, h1', bYdaZ2]
  have h1' : ((H.2 : Int) = 0) = True := by simp; omega
  obtain ⟨hH, hle⟩ := htk h1
  have hHl : H.1.length = F.1.takes.length := by rw [hH, hadL_len]
  rw [if_neg (show ¬ H.2 ≠ 0 by simp [h1])]
  simp -implicitDefEqProofs only [go_sem, hT, n1, n2, n3, n4, n5, n6, n7, n8, n9, n10, n11, n12, m1, m2, m3, m4, m5, m6, m7, m8, i1, i2, e0, h1', bYdaZ2]
  refine callK_gv hok.1 H.1 hHl _ ?_
  by_cases o4 : i.op.val = 4
  · have o4' : (i.op.val : Int) = 4 := by omega
    have hla : 0 ≤ i.a ∧ i.a < f.loc := by unfold locOp at hl; omega
    rw [if_pos o4]
    simp -implicitDefEqProofs only [go_sem, hT, n1, n2, n3, n4, n5, n6, n7, n8, n9, n10, n11, n12, m1, m2, m3, m4, m5, m6, m7, m8, i1, i2, e0, o4', bYdaZ2]
    refine za4 (load84 f hs i.a hla.1 hla.2) ?_
    by_cases hz : slAt f i.a.toNat = 0
    · have hz' : (((slAt f i.a.toNat).val : Int) = 0) = True := by simp [hz]
      rw [if_pos hz, fr_fr0]
      simp -implicitDefEqProofs only [go_sem, hT, n1, n2, n3, n4, n5, n6, n7, n8, n9, n10, n11, n12, m1, m2, m3, m4, m5, m6, m7, m8, i1, i2, e0, o4', hz', bYdaZ2]
      exact DLe.refl _
    have hz' : (((slAt f i.a.toNat).val : Int) = 0) = False := by simp; rw [Fin.ext_iff] at hz; simpa using hz
    rw [if_neg hz]
    simp -implicitDefEqProofs only [go_sem, hT, n1, n2, n3, n4, n5, n6, n7, n8, n9, n10, n11, n12, m1, m2, m3, m4, m5, m6, m7, m8, i1, i2, e0, o4', hz', frz, bYdaZ2]
    refine za4 (behind85 i f H.1 [slAt f i.a.toNat] _ _ hs (by rw [hHl]; exact hle) (by simp) (by omega)) ?_
    simp -implicitDefEqProofs only [go_sem, hT, n1, n2, n3, n4, n5, n6, n7, n8, n9, n10, n11, n12, m1, m2, m3, m4, m5, m6, m7, m8, i1, i2, e0, bYdaZ2]
  have o4' : ((i.op.val : Int) = 4) = False := by simp; omega
  rw [if_neg o4]
  simp -implicitDefEqProofs only [go_sem, hT, n1, n2, n3, n4, n5, n6, n7, n8, n9, n10, n11, n12, m1, m2, m3, m4, m5, m6, m7, m8, i1, i2, e0, o4', bYdaZ2]
  refine za4 (behind85 i f H.1 (givesV F.1.gives H.1) _ _ hs (by rw [hHl]; exact hle) (hgl _) (fun h5 => ?_)) ?_
  · have := hst h5
    unfold locOp at hl; omega
  simp -implicitDefEqProofs only [go_sem, hT, n1, n2, n3, n4, n5, n6, n7, n8, n9, n10, n11, n12, m1, m2, m3, m4, m5, m6, m7, m8, i1, i2, e0, bYdaZ2]
open Go.Proofs
def givesR (e : En) (f : Fr) (i : Ins) (had : List Ty) : List Ty :=
  if i.op.val = 4 then [slAt f i.a.toNat] else if i.op.val = 7 then [had.headD 0, had.headD 0] else if i.op.val = 8 then [(had[1]?).getD 0, had.headD 0] else givesO e i i.op.val
def sameB (had : List Ty) : Bool := decide ((had[0]?).getD 0 = (had[1]?).getD 0 ∧ (((had[0]?).getD 0).val = 1 ∨ ((had[0]?).getD 0).val = 2))
def applyIn (e : En) (f : Fr) (i : Ins) : Fr × Nat :=
  if f.h < (zf7 e i i.op.val).length then (fr0 0, 30)
  else if wantedAll e.cs (zf7 e i i.op.val) (hadL f (zf7 e i i.op.val).length) = false then (fr0 0, 70)
  else if i.op.val = 16 ∧ sameB (hadL f 2) = false then (fr0 0, 70)
  else if i.op.val = 4 ∧ slAt f i.a.toNat = 0 then (fr0 0, 70)
  else behindF i f (hadL f (zf7 e i i.op.val).length) (givesR e f i (hadL f (zf7 e i i.op.val).length))
theorem checkF_bare {n : Nat} {f : Fr} (h : checkF n f = 0) : bareF f = f := by
  unfold checkF at h
  split at h
  · cases h
  · rename_i h1; exact Classical.byContradiction fun hb => h1 (.inr hb)
theorem takesO_len (e : En) (i : Ins) (hc : Can e) (h34 : i.op.val < 34) : (zf7 e i i.op.val).length ≤ 8 := by
  have : i.op.val = 0 ∨ i.op.val = 1 ∨ i.op.val = 2 ∨ i.op.val = 3 ∨ i.op.val = 4 ∨ i.op.val = 5 ∨ i.op.val = 6 ∨ i.op.val = 7 ∨ i.op.val = 8 ∨ i.op.val = 9 ∨ i.op.val = 10 ∨ i.op.val = 11 ∨ i.op.val = 12 ∨ i.op.val = 13 ∨ i.op.val = 14 ∨ i.op.val = 15 ∨ i.op.val = 16 ∨ i.op.val = 17 ∨ i.op.val = 18 ∨ i.op.val = 19 ∨ i.op.val = 20 ∨ i.op.val = 21 ∨ i.op.val = 22 ∨ i.op.val = 23 ∨ i.op.val = 24 ∨ i.op.val = 25 ∨ i.op.val = 26 ∨ i.op.val = 27 ∨ i.op.val = 28 ∨ i.op.val = 29 ∨ i.op.val = 30 ∨ i.op.val = 31 ∨ i.op.val = 32 ∨ i.op.val = 33 := by omega
  have sg : ∀ k : Nat, (((e.sgs[k]?).map Sg.ps).getD []).length ≤ 8 := fun k => by
    cases hk : e.sgs[k]? with
    | none => simp
    | some s => simpa using hc.sigs s (List.mem_of_getElem? hk)
  have rg : ∀ k : Nat, (((e.sgs[k]?).map fun s => someR s.r).getD []).length ≤ 8 := fun k => by
    cases hk : e.sgs[k]? with
    | none => simp
    | some s => simp only [Option.map_some, Option.getD_some, someR]; split <;> simp
  rcases this with h | h | h | h | h | h | h | h | h | h | h | h | h | h | h | h | h | h | h | h | h | h | h | h | h | h | h | h | h | h | h | h | h | h <;> rw [h] <;> first
    | exact sg _
    | exact rg _
    | simp [zf7]
theorem givesO_len (e : En) (i : Ins) (h34 : i.op.val < 34) : (givesO e i i.op.val).length ≤ 2 := by
  have : i.op.val = 0 ∨ i.op.val = 1 ∨ i.op.val = 2 ∨ i.op.val = 3 ∨ i.op.val = 4 ∨ i.op.val = 5 ∨ i.op.val = 6 ∨ i.op.val = 7 ∨ i.op.val = 8 ∨ i.op.val = 9 ∨ i.op.val = 10 ∨ i.op.val = 11 ∨ i.op.val = 12 ∨ i.op.val = 13 ∨ i.op.val = 14 ∨ i.op.val = 15 ∨ i.op.val = 16 ∨ i.op.val = 17 ∨ i.op.val = 18 ∨ i.op.val = 19 ∨ i.op.val = 20 ∨ i.op.val = 21 ∨ i.op.val = 22 ∨ i.op.val = 23 ∨ i.op.val = 24 ∨ i.op.val = 25 ∨ i.op.val = 26 ∨ i.op.val = 27 ∨ i.op.val = 28 ∨ i.op.val = 29 ∨ i.op.val = 30 ∨ i.op.val = 31 ∨ i.op.val = 32 ∨ i.op.val = 33 := by omega
  have sR : ∀ t : Ty, (someR t).length ≤ 2 := fun t => by unfold someR; split <;> simp
  have rg : ∀ k : Nat, (((e.sgs[k]?).map fun s => someR s.r).getD []).length ≤ 2 := fun k => by
    cases hk : e.sgs[k]? with
    | none => simp
    | some s => exact sR _
  have fg : ∀ k : Nat, ((((flds e i)[k]?).map fun f => someR f.ty).getD []).length ≤ 2 := fun k => by
    cases hk : (flds e i)[k]? with
    | none => simp
    | some s => exact sR _
  rcases this with h | h | h | h | h | h | h | h | h | h | h | h | h | h | h | h | h | h | h | h | h | h | h | h | h | h | h | h | h | h | h | h | h | h <;> rw [h] <;> first
    | exact rg _
    | exact fg _
    | simp [givesO]
theorem set4 {σ : St} {a b c d : Nat} {x y z w u : List D} (h1 : b ≠ a) (h2 : c ≠ a) (h3 : d ≠ a) : ((((σ.set a x).set b y).set c z).set d w).set a u = (((σ.set a u).set b y).set c z).set d w := by
  rw [Go.AL.set_comm (σ := ((σ.set a x).set b y).set c z) h3, set3 h1 h2]
theorem same_cond (a b : Ty) : (!decide ((a.val : Int) = b.val) || !decide ((a.val : Int) = 1) && !decide ((a.val : Int) = 2)) = !sameB [a, b] := by
  rw [Bool.eq_iff_iff]
  simp only [sameB, Bool.or_eq_true, Bool.and_eq_true, Bool.not_eq_true', decide_eq_false_iff_not, decide_eq_true_eq, List.getElem?_cons_zero, List.getElem?_cons_succ, Option.getD_some, Fin.ext_iff]
  omega
def bYebA0 := aI @ze4 (aI @ze6 (aI @ze2 (aI @zc5 (aI @zb2 (aI @zb6 (aI @za6 (aI @za9 (aI @zb3 (aI @za5 (aI @za7 (aI @anD (aI @fr_0 (aI @fr_1 (aI @gdD (aI @za2 @za3)))))))))))))))
def bYebA1 := aI @ze4 (aI @ze6 (aI @ze2 (aI @zc5 (aI @zb2 (aI @zb6 (aI @za6 (aI @za9 (aI @zb3 (aI @za5 (aI @za7 (aI @anD (aI @fr_0 (aI @fr_1 (aI @gdD (aI @za2 (aI @za3 @grS_boxa))))))))))))))))
def bYebA2 := aI @ze4 (aI @ze6 (aI @ze2 (aI @zc5 (aI @zb2 (aI @zb6 (aI @za6 (aI @za9 (aI @zb3 (aI @za5 (aI @za7 (aI @anD (aI @fr_0 (aI @fr_1 (aI @gdD (aI @za2 (aI @za3 @eT_len))))))))))))))))
theorem refApply78 (e : En) (f : Fr) (i : Ins) (hc : Can e) (hck : checkF e.cs.length f = 0) (ho : opndF e i = 0) (h34 : i.op.val < 34) (hl : ¬ (locOp i ∧ ¬ (0 ≤ i.a ∧ i.a < f.loc))) :
    zf9 Tryz.prog 148 [.agg (eEn e), .agg (eFr f), .agg (eIn i)] (.tup [.agg (eFr (applyIn e f i).1), .int .i64 (applyIn e f i).2]) := by
  have i1 : (eIn i)[1]? = some (.int .u8 i.op.val) := rfl
  have i2 : (eIn i)[2]? = some (.int .i64 i.a) := rfl
  have e0 : (eEn e)[0]? = some (.slice .no (rws eC e.cs)) := rfl
  have hs := checkF_shape hck
  have hb := checkF_bare hck
  obtain ⟨s1, s2, s3, s4⟩ := shaped_of hs
  have h8 := takesO_len e i hc h34
  have hla : i.op.val = 4 ∨ i.op.val = 5 → (0 ≤ i.a ∧ i.a < 24) ∧ i.a.toNat < 24 := fun h => by unfold locOp at hl; omega
  have ot : ∀ {n : Nat}, i.op.val = n → ((i.op.val : Int) = n) = True := fun h => by simp [h]
  have of : ∀ {n : Nat}, ¬ i.op.val = n → ((i.op.val : Int) = n) = False := fun h => by simp; omega
  clear hl
  refine F148.pcall' rfl fun T hT => ?_
  simp -implicitDefEqProofs only [go_sem, c148, hT, ze4, ze6, ze2, zc5, zb2, zb6, za6, za9, zb3, za5, za7, anD]
  intro b3 b4 n1 n2 b5 n3 n4 n5 n6 b6 n7 n8 n9 n10 n11 n12
  simp -implicitDefEqProofs only [go_sem, hT, ze4, ze6, ze2, zc5, zb2, zb6, za6, za9, zb3, za5, za7, anD, n1, n2, n3, n4, n5, n6, n7, n8, n9, n10, n11, n12]
  intro b8 m1 m2 m3 m4 m5 m6 m7 m8
  simp -implicitDefEqProofs only [go_sem, hT, n1, n2, n3, n4, n5, n6, n7, n8, n9, n10, n11, n12, m1, m2, m3, m4, m5, m6, m7, m8, i1, i2, e0, bYebA0]
  refine za4 (refTakes76 e i hc ho h34) ?_
  have hai : applyIn e f i = if f.h < (zf7 e i i.op.val).length then (fr0 0, 30)
      else if wantedAll e.cs (zf7 e i i.op.val) (hadL f (zf7 e i i.op.val).length) = false then (fr0 0, 70)
      else if i.op.val = 16 ∧ sameB (hadL f 2) = false then (fr0 0, 70)
      else if i.op.val = 4 ∧ slAt f i.a.toNat = 0 then (fr0 0, 70)
      else behindF i f (hadL f (zf7 e i i.op.val).length) (givesR e f i (hadL f (zf7 e i i.op.val).length)) := rfl
  rw [hai]
  have htS : i.op.val = 16 → zf7 e i i.op.val = [255, 255] := fun h => by rw [h]; rfl
  have htD : i.op.val = 7 → (zf7 e i i.op.val).length = 1 := fun h => by rw [h]; rfl
  have htW : i.op.val = 8 → (zf7 e i i.op.val).length = 2 := fun h => by rw [h]; rfl
  have htT : i.op.val = 5 → (zf7 e i i.op.val).length = 1 := fun h => by rw [h]; rfl
  generalize zf7 e i i.op.val = tk at *
  clear hai
  simp -implicitDefEqProofs only [go_sem, hT, n1, n2, n3, n4, n5, n6, n7, n8, n9, n10, n11, n12, m1, m2, m3, m4, m5, m6, m7, m8, i1, i2, e0, bYebA0]
  by_cases hh : f.h < tk.length
  · have hh' : (f.h < (tk.length : Int)) = True := by simp [hh]
    rw [if_pos hh, fr_fr0]
    simp -implicitDefEqProofs only [go_sem, hT, n1, n2, n3, n4, n5, n6, n7, n8, n9, n10, n11, n12, m1, m2, m3, m4, m5, m6, m7, m8, i1, i2, e0, hh', bYebA0]
    all_goals exact DLe.refl _
  have hh' : (f.h < (tk.length : Int)) = False := by simp; omega
  rw [if_neg hh]
  obtain ⟨n, hn⟩ : ∃ n, tk.length = n := ⟨_, rfl⟩
  have w1 : IntKind.wrap .i64 (f.loc + f.h) = f.loc + f.h := zb7 (by omega) (by omega)
  obtain ⟨k0, hk0⟩ : ∃ k0 : Nat, f.loc + f.h - n = k0 := ⟨_, (Int.toNat_of_nonneg (by omega)).symm⟩
  have w2 : IntKind.wrap .i64 (f.loc + f.h - n) = k0 := by rw [zb7 (by omega) (by omega), hk0]
  rw [hn] at hh hh' ⊢
  obtain ⟨H, hH⟩ : ∃ H, hadL f n = H := ⟨_, rfl⟩
  rw [hH]
  have hHl : H.length = n := by rw [← hH, hadL_len]
  simp -implicitDefEqProofs only [go_sem, hT, n1, n2, n3, n4, n5, n6, n7, n8, n9, n10, n11, n12, m1, m2, m3, m4, m5, m6, m7, m8, i1, i2, e0, hh', hn, w1, w2, grD_none (s := 1), bYebA0]
  obtain ⟨σ0, hσ0⟩ : ∃ σ0 : St, (((((({} : St).set b3 (eEn e)).set b4 (eFr f)).set b5 (eIn i)).set b6 zFr).set b8 zFr) = σ0 := ⟨_, rfl⟩
  refine loopL F148 (fun x : Nat × Option Nat => [(3, .ptr b3 0), (4, .ptr b4 0), (5, .ptr b5 0), (6, .ptr b6 0), (7, .int .i64 0), (8, .ptr b8 0), (9, .slice .no (rws eT tk)), (10, .int .i64 k0), (11, grD 1 x.2 (rws eT (H.take x.1))), (38, .slice .no (rws eT tk)), (39, .int .i64 n), (40, .int .i64 x.1)])
    (fun x => grS 1 x.1 x.2 (((((({} : St).set b3 (eEn e)).set b4 (eFr f)).set b5 (eIn i)).set b6 zFr).set b8 zFr)) (fun x => x.1 ≤ n ∧ (x.2 = none → x.1 = 0) ∧ grN x.2 (((((({} : St).set b3 (eEn e)).set b4 (eFr f)).set b5 (eIn i)).set b6 zFr).set b8 zFr) ∧ (((tk.zip H).take x.1).all fun p => wantedB e.cs p.2 p.1) = true) (fun x => n - x.1) (0, none) ⟨Nat.zero_le _, fun _ => rfl, grN_none, rfl⟩ ?_ (St.le.refl _) ?_
  · simp -implicitDefEqProofs only [go_sem, hT, Int.ofNat_zero, List.take_zero, rws_mt]
  clear hT T hh'
  rintro ⟨k, ob⟩ ⟨hk, hok, hgr, hall⟩ T hT
  simp only at hk hok hgr hall hT ⊢
  have hz : (tk.zip H).length = n := by simp [hn, hHl]
  by_cases h : k < n
  · have h1 : ((k : Int) < n) = True := by simp; omega
    have hkt : k < tk.length := by omega
    have r1 : (rws eT tk)[k]?.getD [] = eT tk[k] := rws_at hkt
    have w3 : IntKind.wrap .i64 ((k0 : Int) + k) = ((k0 + k : Nat) : Int) := by rw [zb7 (by omega) (by omega)]; omega
    have hx := fr_slAt f (show k0 + k < 24 by omega)
    have hHk : H[k]? = some (slAt f (k0 + k)) := by rw [← hH, hadL_at h, show (f.loc + f.h - n).toNat = k0 by omega]
    have htake : H.take (k + 1) = H.take k ++ [slAt f (k0 + k)] := by rw [List.take_add_one, hHk]; rfl
    have hzk : (tk.zip H)[k]? = some (tk[k], slAt f (k0 + k)) := by
      rw [List.getElem?_zip_eq_some]; exact ⟨by simp [hkt], hHk⟩
    have htk : (tk.zip H).take (k + 1) = (tk.zip H).take k ++ [(tk[k], slAt f (k0 + k))] := by rw [List.take_add_one, hzk]; rfl
    have hin : (tk[k], slAt f (k0 + k)) ∈ tk.zip H := List.mem_of_getElem? hzk
    generalize tk[k] = w at *
    generalize slAt f (k0 + k) = t at *
    simp -implicitDefEqProofs only [go_sem, hT, h1, ze4, ze6, ze2, zc5, zb2, zb6, za6, za9, zb3, za5, za7, anD, n1, n2, n3, n4, n5, n6, n7, n8, n9, n10, n11, n12, m1, m2, m3, m4, m5, m6, m7, m8, i1, i2, e0, fr_0, fr_1, gdD, za2, za3, hn, r1, eT, eT_len, grS_boxa, w3, hx, Nat.mul_one]
    refine ⟨by omega, ⟨by omega, by omega⟩, za4 (wanted117 e.cs .no t w hc.right.falls (by have := hc.cls; omega)) ?_⟩
    cases hv : wantedB e.cs t w
    · rw [if_pos (show wantedAll e.cs tk H = false by rw [wantedAll, List.all_eq_false]; exact ⟨_, hin, by simp [hv]⟩), fr_fr0]
      simp -implicitDefEqProofs only [go_sem, hT, n1, n2, n3, n4, n5, n6, n7, n8, n9, n10, n11, n12, m1, m2, m3, m4, m5, m6, m7, m8, i1, i2, e0, bYebA1]
      all_goals exact DLe.refl _
    simp -implicitDefEqProofs only [go_sem, hT, n1, n2, n3, n4, n5, n6, n7, n8, n9, n10, n11, n12, m1, m2, m3, m4, m5, m6, m7, m8, i1, i2, e0, frz, bYebA1]
    refine app_gr' Tryz.sli93 Tryz.sz81 Tryz.by81 Tryz.zero81 rfl (n := k) (m := 1) (base := (((((({} : St).set b3 (eEn e)).set b4 (eFr f)).set b5 (eIn i)).set b6 zFr).set b8 zFr)) (by rw [za0, List.length_take]; omega) rfl (St.le.refl _) hgr hok (by simp) (by omega) fun o' σ' hbox hle hgn hno => ?_
    simp -implicitDefEqProofs only [go_sem, hT, hbox]
    refine ⟨(k + 1, o'), ⟨by omega, by simpa using hno, hgn, by rw [htk, List.all_append, hall]; simp [hv]⟩, by simp only; omega, ⟨?_, ?_⟩, hle⟩
    · rw [htake]; simp [rws, eT]
    · rw [zb7 (by omega) (by omega)]; simp
  obtain rfl : k = n := by omega
  have h1 : ((k : Int) < k) = False := by simp
  rw [List.take_of_length_le (by omega)] at hT hall
  have hwA : wantedAll e.cs tk H = true := hall
  rw [if_neg (by rw [hwA]; simp)]
  have hgl : (grD 1 ob (rws eT H)).cellQ = true := grD_cellQ
  have hgv := refGives77 e i hc ho h34
  have hgR : ∀ had, givesR e f i had = if i.op.val = 4 then [slAt f i.a.toNat] else if i.op.val = 7 then [had.headD 0, had.headD 0] else if i.op.val = 8 then [(had[1]?).getD 0, had.headD 0] else givesO e i i.op.val := fun _ => rfl
  rw [hgR]
  have hgl8 : (givesO e i i.op.val).length ≤ 1000 := Nat.le_trans (givesO_len e i h34) (by simp)
  generalize givesO e i i.op.val = gs at *
  obtain ⟨X, hX⟩ : ∃ X, (if i.op.val = 16 ∧ sameB (hadL f 2) = false then (fr0 0, 70)
      else if i.op.val = 4 ∧ slAt f i.a.toNat = 0 then (fr0 0, 70)
      else behindF i f H (if i.op.val = 4 then [slAt f i.a.toNat] else if i.op.val = 7 then [H.headD 0, H.headD 0] else if i.op.val = 8 then [(H[1]?).getD 0, H.headD 0] else gs)) = X := ⟨_, rfl⟩
  rw [hX]
  have rest : ∀ (o2 : Own) (gs' : List Ty) (T : Env) (σ : St), St.le ((((({} : St).set b4 (eFr f)).set b5 (eIn i)).set b6 zFr).set b8 zFr) σ → gs'.length ≤ 1000 → behindF i f H gs' = X → envOk [(4, .ptr b4 0), (5, .ptr b5 0), (6, .ptr b6 0), (7, .int .i64 0), (8, .ptr b8 0), (9, .slice .no (rws eT tk)), (11, grD 1 ob (rws eT H)), (15, .slice o2 (rws eT gs'))] T → vcA Tryz.prog 175 c148_10 (bodyP Tryz.prog [.cell 6 84, .tmp 7] (.tup [.agg (eFr X.1), .int .i64 X.2])) T σ := ?rest
  · -- up to the pops
    have le0 : St.le ((((({} : St).set b4 (eFr f)).set b5 (eIn i)).set b6 zFr).set b8 zFr) (grS 1 k ob (((((({} : St).set b3 (eEn e)).set b4 (eFr f)).set b5 (eIn i)).set b6 zFr).set b8 zFr)) := by
      cases ob with
      | none => exact le_set (le_set (le_set (le_set (St.le.nil _))))
      | some b =>
        have hnb := hgr b rfl
        refine St.le.trans (le_set (le_set (le_set (le_set (St.le.nil (({} : St).set b3 (eEn e))))))) (le_addBuf hnb)
    by_cases o16 : i.op.val = 16
    · have htk2 := htS o16
      have hk2 : k = 2 := by rw [← hn, htk2]; rfl
      subst hk2
      obtain ⟨a, b, rfl⟩ : ∃ a b, H = [a, b] := by
        match H, hHl with
        | [a, b], _ => exact ⟨a, b, rfl⟩
      have o16' : ((i.op.val : Int) = 16) = True := ot o16
      have o4 : ¬ i.op.val = 4 := by rw [o16]; simp
      have o7 : ¬ i.op.val = 7 := by rw [o16]; simp
      have o8 : ¬ i.op.val = 8 := by rw [o16]; simp
      have o4' : ((i.op.val : Int) = 4) = False := of o4
      have o7' : ((i.op.val : Int) = 7) = False := of o7
      have o8' : ((i.op.val : Int) = 8) = False := of o8
      rw [hH] at hX
      simp only [o16, o4, o7, o8, true_and, false_and, if_false] at hX
      have hq := same_cond a b
      cases hsm : sameB [a, b]
      · rw [hsm] at hq
        rw [if_pos hsm] at hX
        rw [← hX, fr_fr0]
        simp -implicitDefEqProofs only [go_sem, mmB, hT, h1, n1, n2, n3, n4, n5, n6, n7, n8, n9, n10, n11, n12, m1, m2, m3, m4, m5, m6, m7, m8, i1, i2, e0, o16', rws, eT, hq, Bool.not_false, bYebA1]
        exact ⟨by simp, by simp, by simp, by simp, DLe.refl _⟩
      · rw [hsm] at hq
        rw [if_neg (by simp [hsm])] at hX
        simp -implicitDefEqProofs only [go_sem, mmB, hT, h1, n1, n2, n3, n4, n5, n6, n7, n8, n9, n10, n11, n12, m1, m2, m3, m4, m5, m6, m7, m8, i1, i2, e0, o16', rws, eT, hq, Bool.not_true, bYebA1]
        refine ⟨by simp, by simp, by simp, by simp, za4 hgv ?_⟩
        simp -implicitDefEqProofs only [go_sem, hT, n1, n2, n3, n4, n5, n6, n7, n8, n9, n10, n11, n12, m1, m2, m3, m4, m5, m6, m7, m8, i1, i2, e0, o4', o7', o8', bYebA1]
        refine rest .no gs _ _ le0 hgl8 hX ?_
        simp -implicitDefEqProofs only [go_sem, hT]
    rw [if_neg (fun h => o16 h.1)] at hX
    have o16' : ((i.op.val : Int) = 16) = False := of o16
    simp -implicitDefEqProofs only [go_sem, hT, h1, n1, n2, n3, n4, n5, n6, n7, n8, n9, n10, n11, n12, m1, m2, m3, m4, m5, m6, m7, m8, i1, i2, e0, o16', bYebA1]
    refine za4 hgv ?_
    by_cases o4 : i.op.val = 4
    · have o4' : ((i.op.val : Int) = 4) = True := ot o4
      have hx := fr_slAt f (hla (.inl o4)).2
      by_cases hz0 : slAt f i.a.toNat = 0
      · have hz' : (((slAt f i.a.toNat).val : Int) = 0) = True := by simp [hz0]
        rw [if_pos ⟨o4, hz0⟩] at hX
        rw [← hX, fr_fr0]
        simp -implicitDefEqProofs only [go_sem, hT, n1, n2, n3, n4, n5, n6, n7, n8, n9, n10, n11, n12, m1, m2, m3, m4, m5, m6, m7, m8, i1, i2, e0, o4', hx, hz', Nat.mul_one, bYebA1]
        exact ⟨(hla (.inl o4)).1, DLe.refl _⟩
      have hz' : (((slAt f i.a.toNat).val : Int) = 0) = False := by simp; rw [Fin.ext_iff] at hz0; simpa using hz0
      rw [if_neg (by simp [hz0]), if_pos o4] at hX
      simp -implicitDefEqProofs only [go_sem, hT, n1, n2, n3, n4, n5, n6, n7, n8, n9, n10, n11, n12, m1, m2, m3, m4, m5, m6, m7, m8, i1, i2, e0, o4', hx, hz', Nat.mul_one, frz, bYebA1]
      refine ⟨(hla (.inl o4)).1, (hla (.inl o4)).1, rest .exact [slAt f i.a.toNat] _ _ le0 (by simp) hX ?_⟩
      simp -implicitDefEqProofs only [go_sem, hT, rws, eT, List.map_cons, List.map_nil]
    have o4' : ((i.op.val : Int) = 4) = False := of o4
    rw [if_neg (fun h => o4 h.1), if_neg o4] at hX
    by_cases o7 : i.op.val = 7
    · have o7' : ((i.op.val : Int) = 7) = True := ot o7
      have hk1 : k = 1 := by rw [← hn]; exact htD o7
      subst hk1
      obtain ⟨a, rfl⟩ : ∃ a, H = [a] := by
        match H, hHl with
        | [a], _ => exact ⟨a, rfl⟩
      rw [if_pos o7] at hX
      simp -implicitDefEqProofs only [go_sem, hT, n1, n2, n3, n4, n5, n6, n7, n8, n9, n10, n11, n12, m1, m2, m3, m4, m5, m6, m7, m8, i1, i2, e0, o4', o7', rws, eT, frz, bYebA1]
      refine ⟨by simp, by simp, rest .exact [a, a] _ _ le0 (by simp) hX ?_⟩
      simp -implicitDefEqProofs only [go_sem, hT, rws, eT, List.map_cons, List.map_nil]
    have o7' : ((i.op.val : Int) = 7) = False := of o7
    rw [if_neg o7] at hX
    by_cases o8 : i.op.val = 8
    · have o8' : ((i.op.val : Int) = 8) = True := ot o8
      have hk2 : k = 2 := by rw [← hn]; exact htW o8
      subst hk2
      obtain ⟨a, b, rfl⟩ : ∃ a b, H = [a, b] := by
        match H, hHl with
        | [a, b], _ => exact ⟨a, b, rfl⟩
      rw [if_pos o8] at hX
      simp -implicitDefEqProofs only [go_sem, hT, n1, n2, n3, n4, n5, n6, n7, n8, n9, n10, n11, n12, m1, m2, m3, m4, m5, m6, m7, m8, i1, i2, e0, o4', o7', o8', rws, eT, frz, bYebA1]
      refine ⟨by simp, by simp, rest .exact [b, a] _ _ le0 (by simp) hX ?_⟩
      simp -implicitDefEqProofs only [go_sem, hT, rws, eT, List.map_cons, List.map_nil]
    have o8' : ((i.op.val : Int) = 8) = False := of o8
    rw [if_neg o8] at hX
    simp -implicitDefEqProofs only [go_sem, hT, n1, n2, n3, n4, n5, n6, n7, n8, n9, n10, n11, n12, m1, m2, m3, m4, m5, m6, m7, m8, i1, i2, e0, o4', o7', o8', bYebA1]
    refine rest .no gs _ _ le0 hgl8 hX ?_
    simp -implicitDefEqProofs only [go_sem, hT]
  intro o2 gs' T σ hle hgl' hX' hE
  simp only [envOk_nil, envOk_cons] at hE
  obtain ⟨h4, h5, h6, h7, h8', h9, h11, h15, _⟩ := hE
  simp -implicitDefEqProofs only [go_sem, c148_10, h4, h5, h6, h7, h8', h9, h11, h15, hn]
  have ne1 : b5 ≠ b4 := fun e => n3 e
  refine loopL F148 (fun j : Nat => [(4, .ptr b4 0), (5, .ptr b5 0), (6, .ptr b6 0), (7, .int .i64 0), (8, .ptr b8 0), (11, grD 1 ob (rws eT H)), (15, .slice o2 (rws eT gs')), (127, .int .i64 k), (128, .int .i64 j)])
    (fun j => (((({} : St).set b4 (eFr (popN j f))).set b5 (eIn i)).set b6 zFr).set b8 zFr) (fun j => j ≤ k) (fun j => k - j) 0 (Nat.zero_le _) ?_ hle ?_
  · simp -implicitDefEqProofs only [go_sem, h4, h5, h6, h7, h8', h9, h11, h15, Int.ofNat_zero]
  clear h4 h5 h6 h7 h8' h9 h11 h15 hT hle T σ
  have hkh : (k : Int) ≤ f.h := Int.not_lt.1 hh
  clear hX hwA hall hgr hok hgv hgR hgl hh hgl8 htS htD htW
  have h50 : i.op.val = 5 → 0 < H.length ∧ 0 ≤ i.a ∧ i.a < 24 := fun h => ⟨by rw [hHl, ← hn, htT h]; exact Nat.one_pos, (hla (.inr h)).1⟩
  have popS : ∀ j : Nat, j ≤ k → shapedB (popN j f) = true := fun j hj => popN_shape hs (by omega)
  have popH : ∀ j : Nat, j < k → 0 < (popN j f).h := fun j hj => by rw [popN_h]; omega
  have popB : bareF (popN k f) = popN k f := popN_bare hb k
  rintro j hj T hT
  by_cases hjk : j < k
  · have hj1 : ((j : Int) < k) = True := by simp [hjk]
    have hp := refPop118 (popN j f) (popS j hj) (popH j hjk)
    simp -implicitDefEqProofs only [go_sem, hT, hj1, n1, n2, n3, n4, n5, n6, n7, n8, n9, n10, n11, n12, m1, m2, m3, m4, m5, m6, m7, m8, i1, i2, e0, bYebA0]
    refine za4 hp ?_
    simp -implicitDefEqProofs only [go_sem, hT, n1, n2, n3, n4, n5, n6, n7, n8, n9, n10, n11, n12, m1, m2, m3, m4, m5, m6, m7, m8, i1, i2, e0, bYebA0]
    refine ⟨j + 1, hjk, Nat.sub_lt_sub_left hjk (Nat.lt_succ_self j), ?_, ?_⟩
    · rw [zb7 (by omega) (by omega)]; simp
    · rw [show popF (popN j f) = popN (j + 1) f from rfl]
      rw [set4 n3 n9 m5]; exact St.le.refl _
  obtain rfl : j = k := Nat.le_antisymm hj (Nat.not_lt.1 hjk)
  have hj1 : ((j : Int) < j) = False := by simp
  have gsh := popS j (Nat.le_refl _)
  have gl : (popN j f).loc = f.loc := popN_loc
  rw [behindF, hHl] at hX'
  rw [popB] at hX'
  clear popS popH
  generalize popN j f = g at gsh gl popB hX' ⊢
  have fin : ∀ (g : Fr) (T : Env), shapedB g = true → pushAll gs' g = X → envOk [(4, .ptr b4 0), (5, .ptr b5 0), (6, .ptr b6 0), (7, .int .i64 0), (8, .ptr b8 0), (156, .slice o2 (rws eT gs')), (157, .int .i64 gs'.length), (158, .int .i64 0)] T → vcA Tryz.prog 175 (.loop ?c) ?Q T ((((({} : St).set b4 (eFr g)).set b5 (eIn i)).set b6 zFr).set b8 zFr) := ?fin
  · by_cases o22 : i.op.val = 22
    · have o22' : ((i.op.val : Int) = 22) = True := ot o22
      have o5' : ((i.op.val : Int) = 5) = False := of (by rw [o22]; simp)
      by_cases hg : 0 < g.h
      · have hg' : (0 < g.h) = True := by simp [hg]
        rw [if_pos ⟨o22, hg⟩] at hX'
        rw [← hX', fr_fr0]
        simp -implicitDefEqProofs only [go_sem, hT, hj1, n1, n2, n3, n4, n5, n6, n7, n8, n9, n10, n11, n12, m1, m2, m3, m4, m5, m6, m7, m8, i1, i2, e0, o22', hg', bYebA0]
        all_goals exact DLe.refl _
      have hg' : (0 < g.h) = False := by simp [hg]
      rw [if_neg (fun h => hg h.2), if_neg (by rw [o22]; simp)] at hX'
      simp -implicitDefEqProofs only [go_sem, hT, hj1, n1, n2, n3, n4, n5, n6, n7, n8, n9, n10, n11, n12, m1, m2, m3, m4, m5, m6, m7, m8, i1, i2, e0, o22', hg', o5', bYebA0]
      refine fin g _ gsh hX' ?_
      simp -implicitDefEqProofs only [go_sem, hT]
    have o22' : ((i.op.val : Int) = 22) = False := of o22
    rw [if_neg (fun h => o22 h.1)] at hX'
    by_cases o5 : i.op.val = 5
    · have o5' : ((i.op.val : Int) = 5) = True := ot o5
      obtain ⟨k1, k2, k3⟩ := h50 o5
      rw [if_pos o5] at hX'
      have hh0 : H.headD 0 = H[0] := by cases H with
        | nil => simp at k1
        | cons a b => rfl
      have r0 : (rws eT H)[0]?.getD [] = eT H[0] := rws_at k1
      have hst := fr_setF (f := g) (t := H[0]) k2 k3
      rw [hh0] at hX'
      simp -implicitDefEqProofs only [go_sem, hT, hj1, n1, n2, n3, n4, n5, n6, n7, n8, n9, n10, n11, n12, m1, m2, m3, m4, m5, m6, m7, m8, i1, i2, e0, o22', o5', r0, eT, Nat.mul_one, hst, bYebA2]
      refine ⟨Int.ofNat_lt.2 k1, ⟨k2, k3⟩, (by omega), ?_⟩
      rw [set4 n3 n9 m5]
      refine fin _ _ (by rw [setF_shape]; exact gsh) hX' ?_
      simp -implicitDefEqProofs only [go_sem, hT]
    have o5' : ((i.op.val : Int) = 5) = False := of o5
    rw [if_neg o5] at hX'
    simp -implicitDefEqProofs only [go_sem, hT, hj1, n1, n2, n3, n4, n5, n6, n7, n8, n9, n10, n11, n12, m1, m2, m3, m4, m5, m6, m7, m8, i1, i2, e0, o22', o5', bYebA0]
    refine fin g _ gsh hX' ?_
    simp -implicitDefEqProofs only [go_sem, hT]
  clear hT T hX' gsh gl popB g
  intro g T gsh hX hE
  refine loopL F148 (fun x : Nat × Fr => [(4, .ptr b4 0), (5, .ptr b5 0), (6, .ptr b6 0), (7, .int .i64 0), (8, .ptr b8 0), (156, .slice o2 (rws eT gs')), (157, .int .i64 gs'.length), (158, .int .i64 x.1)])
    (fun x => (((({} : St).set b4 (eFr x.2)).set b5 (eIn i)).set b6 zFr).set b8 zFr) (fun x => x.1 ≤ gs'.length ∧ shapedB x.2 = true ∧ pushAll (gs'.drop x.1) x.2 = X) (fun x => gs'.length - x.1) (0, g) ⟨Nat.zero_le _, gsh, hX⟩ hE (St.le.refl _) ?_
  clear hE T hX gsh g
  rintro ⟨k, g⟩ ⟨hk, gsh, hX⟩ T hT
  simp only at hk gsh hX hT ⊢
  by_cases h : k < gs'.length
  · have h1 : ((k : Int) < gs'.length) = True := by simp [h]
    have r0 : (rws eT gs')[k]?.getD [] = eT gs'[k] := rws_at h
    rw [List.drop_eq_getElem_cons h, pushAll] at hX
    simp -implicitDefEqProofs only [go_sem, hT, h1, n1, n2, n3, n4, n5, n6, n7, n8, n9, n10, n11, n12, m1, m2, m3, m4, m5, m6, m7, m8, i1, i2, e0, r0, eT, bYebA2]
    generalize gs'[k] = t at hX ⊢
    refine ⟨Int.natCast_nonneg _, za4 (refPush119 g gsh t) ?_⟩
    have psh := push_shape gsh (t := t)
    obtain ⟨⟨g', z⟩, hP⟩ : ∃ P, pushF g t = P := ⟨_, rfl⟩
    rw [hP] at hX psh ⊢
    simp only at hX psh ⊢
    simp -implicitDefEqProofs only [go_sem, hT, n1, n2, n3, n4, n5, n6, n7, n8, n9, n10, n11, n12, m1, m2, m3, m4, m5, m6, m7, m8, i1, i2, e0, bYebA0]
    intro b12 q1 q2 q3 q4 q5 q6 q7 q8
    by_cases hz : z = 0
    · subst hz
      rw [if_neg (by simp)] at hX
      simp -implicitDefEqProofs only [go_sem, hT, ze4, ze6, ze2, zc5, zb2, zb6, za6, za9, zb3, za5, za7, anD, n1, n2, n3, n4, n5, n6, n7, n8, n9, n10, n11, n12, m1, m2, m3, m4, m5, m6, m7, m8, q1, q2, q3, q4, q5, q6, q7, q8, i1, i2, e0, fr_0, fr_1, gdD, za2, za3, Int.ofNat_zero]
      refine ⟨(k + 1, g'), ⟨h, psh rfl, hX⟩, Nat.sub_lt_sub_left h (Nat.lt_succ_self k), ?_, ?_⟩
      · rw [zb7 (by omega) (by omega)]; simp
      · rw [Go.AL.set_comm (b := b4) (a := b12) (σ := (((({} : St).set b4 (eFr g)).set b5 (eIn i)).set b6 zFr).set b8 zFr) q7, set4 n3 n9 m5]
        exact le_add (by simp [has_set, St.not_has_nil, n1, n2, n3, n4, n5, n6, n7, n8, n9, n10, n11, n12, m1, m2, m3, m4, m5, m6, m7, m8, q1, q2, q3, q4, q5, q6, q7, q8])
    · have hz' : ((z : Int) = 0) = False := by simp [hz]
      rw [if_pos hz] at hX
      rw [← hX, fr_fr0]
      simp -implicitDefEqProofs only [go_sem, hT, n1, n2, n3, n4, n5, n6, n7, n8, n9, n10, n11, n12, m1, m2, m3, m4, m5, m6, m7, m8, q1, q2, q3, q4, q5, q6, q7, q8, i1, i2, e0, hz', bYebA0]
  · have h1 : ((k : Int) < gs'.length) = False := by simp [h]
    rw [List.drop_eq_nil_of_le (by omega), pushAll] at hX
    rw [← hX]
    simp -implicitDefEqProofs only [go_sem, hT, h1, n1, n2, n3, n4, n5, n6, n7, n8, n9, n10, n11, n12, m1, m2, m3, m4, m5, m6, m7, m8, i1, i2, e0, bYebA0]
    all_goals exact DLe.refl _
open Go.Proofs
def applyR (e : En) (f : Fr) (i : Ins) : Fr × Nat :=
  if canB e = false then (fr0 0, 1)
  else if checkF e.cs.length f ≠ 0 then (fr0 0, checkF e.cs.length f)
  else if 34 ≤ i.op.val then (fr0 0, 40)
  else if locOp i ∧ ¬ (0 ≤ i.a ∧ i.a < f.loc) then (fr0 0, 33)
  else if opndF e i ≠ 0 then (fr0 0, opndF e i)
  else applyIn e f i
def bYebB0 := aI @ze4 (aI @ze6 (aI @ze2 (aI @zc5 (aI @zb2 (aI @zb6 (aI @za6 (aI @za9 (aI @zb3 (aI @za5 (aI @za7 (aI @anD (aI @fr_0 (aI @fr_1 (aI @gdD (aI @za2 @za3)))))))))))))))
theorem refApply37 (e : En) (f : Fr) (i : Ins) (hw : WideE e) : zf9 Tryz.prog 107 [.agg (eEn e), .agg (eFr f), .agg (eIn i)] (.tup [.agg (eFr (applyR e f i).1), .int .i64 (applyR e f i).2]) := by
  have i1 : (eIn i)[1]? = some (.int .u8 i.op.val) := rfl
  have i2 : (eIn i)[2]? = some (.int .i64 i.a) := rfl
  have e0 : (eEn e)[0]? = some (.slice .no (rws eC e.cs)) := rfl
  refine F107.pcall' rfl fun T hT => ?_
  simp -implicitDefEqProofs only [go_sem, c107, hT, ze4, ze6, ze2, zc5, zb2, zb6, za6, za9, zb3, za5, za7, anD]
  intro b3 b4 n1 n2 b5 n3 n4 n5 n6 b6 n7 n8 n9 n10 n11 n12
  simp -implicitDefEqProofs only [go_sem, hT, ze4, ze6, ze2, zc5, zb2, zb6, za6, za9, zb3, za5, za7, anD, n1, n2, n3, n4, n5, n6, n7, n8, n9, n10, n11, n12]
  intro b8 m1 m2 m3 m4 m5 m6 m7 m8
  simp -implicitDefEqProofs only [go_sem, hT, n1, n2, n3, n4, n5, n6, n7, n8, n9, n10, n11, n12, m1, m2, m3, m4, m5, m6, m7, m8, i1, i2, e0, bYebB0]
  refine za4 (can73 e hw) ?_
  cases hcan : canB e
  · simp -implicitDefEqProofs only [go_sem, hT, n1, n2, n3, n4, n5, n6, n7, n8, n9, n10, n11, n12, m1, m2, m3, m4, m5, m6, m7, m8, i1, i2, e0, bYebB0]
    rw [applyR, if_pos hcan, fr_fr0]
    exact DLe.refl _
  have hc := canB_can hw hcan
  simp -implicitDefEqProofs only [go_sem, hT, n1, n2, n3, n4, n5, n6, n7, n8, n9, n10, n11, n12, m1, m2, m3, m4, m5, m6, m7, m8, i1, i2, e0, bYebB0]
  refine za4 (refCheck40 e.cs .no f) ?_
  by_cases hck : checkF e.cs.length f = 0
  case neg =>
    have hck' : ((checkF e.cs.length f : Int) = 0) = False := by simp; omega
    simp -implicitDefEqProofs only [go_sem, hT, n1, n2, n3, n4, n5, n6, n7, n8, n9, n10, n11, n12, m1, m2, m3, m4, m5, m6, m7, m8, i1, i2, e0, hck', bYebB0]
    rw [applyR, if_neg (by simp [hcan]), if_pos hck, fr_fr0]
    exact DLe.refl _
  have hck' : ((checkF e.cs.length f : Int) = 0) = True := by simp; omega
  have hR : applyR e f i = if 34 ≤ i.op.val then (fr0 0, 40) else if locOp i ∧ ¬ (0 ≤ i.a ∧ i.a < f.loc) then (fr0 0, 33) else if opndF e i ≠ 0 then (fr0 0, opndF e i) else applyIn e f i := by
    rw [applyR, if_neg (by simp [hcan]), if_neg (by simp [hck])]
  simp -implicitDefEqProofs only [go_sem, hT, n1, n2, n3, n4, n5, n6, n7, n8, n9, n10, n11, n12, m1, m2, m3, m4, m5, m6, m7, m8, i1, i2, e0, hck', bYebB0]
  refine za4 (refSize74 i.op) ?_
  by_cases h34 : 34 ≤ i.op.val
  · have hs : sizeOp i.op.val = 0 := by rw [sizeOp, if_pos h34]
    simp -implicitDefEqProofs only [go_sem, hT, ze4, ze6, ze2, zc5, zb2, zb6, za6, za9, zb3, za5, za7, anD, n1, n2, n3, n4, n5, n6, n7, n8, n9, n10, n11, n12, m1, m2, m3, m4, m5, m6, m7, m8, i1, i2, e0, fr_0, fr_1, gdD, za2, za3, hs, Int.ofNat_zero]
    rw [hR, if_pos h34, fr_fr0]
    exact DLe.refl _
  have hs : ((sizeOp i.op.val : Int) = 0) = False := by
    simp only [eq_iff_iff, iff_false]
    rw [sizeOp, if_neg h34]; omega
  rw [if_neg h34] at hR
  by_cases hl : locOp i ∧ ¬ (0 ≤ i.a ∧ i.a < f.loc)
  · have hq : ((decide ((i.op.val : Int) = 4) || decide ((i.op.val : Int) = 5)) && (decide (i.a < 0) || decide (f.loc ≤ i.a))) = true := by
      simp only [Bool.and_eq_true, Bool.or_eq_true, decide_eq_true_eq]; unfold locOp at hl; omega
    rw [hR, if_pos hl, fr_fr0]
    simp -implicitDefEqProofs only [go_sem, hT, n1, n2, n3, n4, n5, n6, n7, n8, n9, n10, n11, n12, m1, m2, m3, m4, m5, m6, m7, m8, i1, i2, e0, hs, bYebB0]
    simp -implicitDefEqProofs only [go_sem, mmB, hT, n1, n2, n3, n4, n5, n6, n7, n8, n9, n10, n11, n12, m1, m2, m3, m4, m5, m6, m7, m8, i1, i2, e0, hs, hq, bYebB0]
    exact DLe.refl _
  have hq : ((decide ((i.op.val : Int) = 4) || decide ((i.op.val : Int) = 5)) && (decide (i.a < 0) || decide (f.loc ≤ i.a))) = false := by
    rw [← Bool.not_eq_true]
    simp only [Bool.and_eq_true, Bool.or_eq_true, decide_eq_true_eq]; unfold locOp at hl; omega
  rw [if_neg hl] at hR
  simp -implicitDefEqProofs only [go_sem, mmB, hT, n1, n2, n3, n4, n5, n6, n7, n8, n9, n10, n11, n12, m1, m2, m3, m4, m5, m6, m7, m8, i1, i2, e0, hs, hq, bYebB0]
  refine za4 (operands75 e i hc) ?_
  by_cases h0 : opndF e i = 0
  case neg =>
    have h0' : ((opndF e i : Int) = 0) = False := by simp; omega
    rw [hR, if_pos h0, fr_fr0]
    simp -implicitDefEqProofs only [go_sem, hT, n1, n2, n3, n4, n5, n6, n7, n8, n9, n10, n11, n12, m1, m2, m3, m4, m5, m6, m7, m8, i1, i2, e0, h0', bYebB0]
    all_goals exact DLe.refl _
  have h0' : ((opndF e i : Int) = 0) = True := by simp; omega
  rw [if_neg (by simp [h0])] at hR
  rw [hR]
  simp -implicitDefEqProofs only [go_sem, hT, n1, n2, n3, n4, n5, n6, n7, n8, n9, n10, n11, n12, m1, m2, m3, m4, m5, m6, m7, m8, i1, i2, e0, h0', bYebB0]
  refine za4 (refApply78 e f i hc hck h0 (by omega) hl) ?_
  simp -implicitDefEqProofs only [go_sem, hT, n1, n2, n3, n4, n5, n6, n7, n8, n9, n10, n11, n12, m1, m2, m3, m4, m5, m6, m7, m8, i1, i2, e0, bYebB0]
  all_goals exact DLe.refl _
open Go.Proofs
def Mt (w : Wn) (t : Ty) : Prop := (w.kind = 0 ∧ t.val = 255) ∨ (w.kind = 1 ∧ t.val = 254) ∨ (w.kind = 2 ∧ t.val = 253) ∨ (w.kind = 4 ∧ w.t = t ∧ t.val < 253)
theorem fits_wanted {l : List Cl} {w : Wn} {t : Ty} (h : Mt w t) (x first : Ty) : fitsB l w x first = wantedB l x t := by
  rcases h with ⟨h1, h2⟩ | ⟨h1, h2⟩ | ⟨h1, h2⟩ | ⟨h1, h2, h3⟩
  · simp [fitsB, wantedB, h1, h2]
  · simp [fitsB, wantedB, h1, h2]
  · simp [fitsB, wantedB, h1, h2]
  · subst h2
    rw [fitsB, if_neg (by omega), if_neg (by omega), if_neg (by omega), if_pos h1, wantedB, if_neg (by omega), if_neg (by omega), if_neg (by omega)]
theorem mt_all {l : List Cl} {ws : List Wn} {ts : List Ty} (h : All2 Mt ws ts) (first : Ty) : ∀ had : List Ty, ((ws.zip had).all fun p => fitsB l p.1 p.2 first) = ((ts.zip had).all fun p => wantedB l p.2 p.1) := by
  induction h with
  | nil => intro had; simp
  | cons h1 _ ih =>
    intro had
    cases had with
    | nil => simp
    | cons x had => simp only [List.zip_cons_cons, List.all_cons, fits_wanted h1, ih]
theorem fitsAll_wanted {l : List Cl} {ws : List Wn} {ts : List Ty} (h : All2 Mt ws ts) (had : List Ty) : fitsAll l ws had = wantedAll l ts had := mt_all h _ had
theorem fitsAll_same {l : List Cl} (a b : Ty) : fitsAll l [⟨3, 0⟩, ⟨3, 0⟩] [a, b] = sameB [a, b] := by
  simp only [fitsAll, sameB, List.zip_cons_cons, List.zip_nil_left, List.all_cons, List.all_nil, List.headD_cons, Bool.and_true, fitsB]
  rw [Bool.eq_iff_iff]
  simp only [Fin.ext_iff]
  simp
  omega
theorem wantedAll_any {l : List Cl} (a b : Ty) : wantedAll l [255, 255] [a, b] = true := by
  have h : (255 : Ty).val = 255 := rfl
  simp [wantedAll, wantedB, h]
theorem stored_lt {n : Nat} {t : Ty} (hn : n ≤ 32) (h : storedN n t = true) : t.val < 253 := by
  simp only [storedN, validN, Bool.and_eq_true, decide_eq_true_eq] at h; omega
theorem canB_sig {e : En} (h : canB e = true) {s : Sg} (hs : s ∈ e.sgs) : (∀ t ∈ s.ps, storedN e.cs.length t = true) ∧ (s.r.val = 0 ∨ storedN e.cs.length s.r = true) := by
  simp only [canB, Bool.and_eq_true] at h
  have := List.all_eq_true.1 h.2 s hs
  simp only [sigMayB, Bool.and_eq_true, decide_eq_true_eq, Bool.or_eq_true, Bool.not_eq_true', List.any_eq_false] at this
  exact ⟨fun t ht => by simpa using this.1.2 t ht, this.2⟩
theorem ofClass_lt {e : En} (hc : Can e) {a : Int} (h1 : a < e.cs.length) : (ofClass a).val < 253 := by
  have h32 := hc.cls
  simp only [ofClass, Fin.ofNat]; omega
theorem flds_lt {e : En} {i : Ins} (hc : Can e) {f : Fd} (hf : f ∈ flds e i) : f.ty.val < 253 := by
  have h32 := hc.cls
  simp only [flds, ze5, List.mem_flatMap, List.mem_reverse] at hf
  obtain ⟨k, hk, hf⟩ := hf
  have hlt := upI_lt hk
  simp only [fieldsAt, List.getElem?_eq_getElem hlt, Option.map_some, Option.getD_some] at hf
  exact stored_lt h32 (right_stored hc.right hlt hf)
theorem mt4 {t : Ty} (h : t.val < 253) : Mt ⟨4, t⟩ t := .inr (.inr (.inr ⟨rfl, rfl, h⟩))
theorem mt_map {ts : List Ty} (h : ∀ t ∈ ts, t.val < 253) : All2 Mt (ts.map fun t => (⟨4, t⟩ : Wn)) ts := by
  induction ts with
  | nil => exact .nil
  | cons t ts ih => exact .cons (mt4 (h t (by simp))) (ih fun x hx => h x (by simp [hx]))
theorem mt0 : Mt ⟨0, 0⟩ 255 := .inl ⟨rfl, rfl⟩
theorem mt1 : Mt ⟨1, 0⟩ 254 := .inr (.inl ⟨rfl, rfl⟩)
theorem mt2 : Mt ⟨2, 0⟩ 253 := .inr (.inr (.inl ⟨rfl, rfl⟩))
structure Agree (e : En) (i : Ins) (F : Ef) : Prop where
  takes : i.op.val ≠ 16 → All2 Mt F.takes (zf7 e i i.op.val)
  same : i.op.val = 16 → F.takes = [⟨3, 0⟩, ⟨3, 0⟩]
  gives : ∀ had, i.op.val ≠ 4 → givesV F.gives had = (if i.op.val = 7 then [had.headD 0, had.headD 0] else if i.op.val = 8 then [(had[1]?).getD 0, had.headD 0] else givesO e i i.op.val)
theorem opnd_eq_call {e : En} {i : Ins} (h : i.op.val = 21) : opndF e i = if 0 ≤ i.a ∧ i.a.toNat < e.sgs.length then 0 else 71 := by rw [opndF, if_pos h]
theorem opnd_eq_cls {e : En} {i : Ins} (h : i.op.val = 23 ∨ i.op.val = 30 ∨ i.op.val = 31) : opndF e i = if 0 ≤ i.a ∧ i.a < e.cs.length then 0 else 72 := by
  have h1 : ¬ i.op.val = 21 := by omega
  rw [opndF, if_neg h1, if_pos h]
theorem opnd_eq_fld {e : En} {i : Ins} (h : i.op.val = 24 ∨ i.op.val = 25) : opndF e i = if (0 ≤ i.a ∧ i.a < e.cs.length) ∧ 0 ≤ i.b ∧ i.b.toNat < (ze5 e.cs (upI e.cs i.a).reverse).length then 0 else 72 := by
  have h1 : ¬ i.op.val = 21 := by omega
  have h2 : ¬ (i.op.val = 23 ∨ i.op.val = 30 ∨ i.op.val = 31) := by omega
  rw [opndF, if_neg h1, if_neg h2, if_pos h]
theorem told_agree (e : En) (i : Ins) (hw : WideE e) (hcan : canB e = true) (h34 : i.op.val < 34) : (toldF e i).2 = opndF e i ∧ (opndF e i = 0 → Agree e i (toldF e i).1) := by
  have hc := canB_can hw hcan
  have h32 := hc.cls
  rw [toldF, if_neg (by omega)]
  have hk34 : i.op.val = 0 ∨ i.op.val = 1 ∨ i.op.val = 2 ∨ i.op.val = 3 ∨ i.op.val = 4 ∨ i.op.val = 5 ∨ i.op.val = 6 ∨ i.op.val = 7 ∨ i.op.val = 8 ∨ i.op.val = 9 ∨ i.op.val = 10 ∨ i.op.val = 11 ∨ i.op.val = 12 ∨ i.op.val = 13 ∨ i.op.val = 14 ∨ i.op.val = 15 ∨ i.op.val = 16 ∨ i.op.val = 17 ∨ i.op.val = 18 ∨ i.op.val = 19 ∨ i.op.val = 20 ∨ i.op.val = 21 ∨ i.op.val = 22 ∨ i.op.val = 23 ∨ i.op.val = 24 ∨ i.op.val = 25 ∨ i.op.val = 26 ∨ i.op.val = 27 ∨ i.op.val = 28 ∨ i.op.val = 29 ∨ i.op.val = 30 ∨ i.op.val = 31 ∨ i.op.val = 32 ∨ i.op.val = 33 := by omega
  have op0 : (¬ i.op.val = 21 ∧ ¬ (i.op.val = 23 ∨ i.op.val = 30 ∨ i.op.val = 31) ∧ ¬ (i.op.val = 24 ∨ i.op.val = 25)) → opndF e i = 0 := fun ⟨h1, h2, h3⟩ => by rw [opndF, if_neg h1, if_neg h2, if_neg h3]
  have fx : ∀ ws g ts gs, tlOf i.op.val = .fixed ws g → (¬ i.op.val = 21 ∧ ¬ (i.op.val = 23 ∨ i.op.val = 30 ∨ i.op.val = 31) ∧ ¬ (i.op.val = 24 ∨ i.op.val = 25)) → i.op.val ≠ 16 → zf7 e i i.op.val = ts → givesO e i i.op.val = gs →
      All2 Mt ws ts → (i.op.val ≠ 4 → ∀ had, givesV g had = (if i.op.val = 7 then [had.headD 0, had.headD 0] else if i.op.val = 8 then [(had[1]?).getD 0, had.headD 0] else gs)) →
      (tellF e i (tlOf i.op.val)).2 = opndF e i ∧ (opndF e i = 0 → Agree e i (tellF e i (tlOf i.op.val)).1) := fun ws g ts gs h1 h2 h3 h4 h5 h6 h7 => by
    rw [h1, op0 h2]
    exact ⟨rfl, fun _ => ⟨fun _ => by rw [h4]; exact h6, fun h => absurd h h3, fun had hn => by rw [h5]; exact h7 hn had⟩⟩
  have g1 : Mt wi 1 := mt4 (by decide)
  have g2 : Mt wb 2 := mt4 (by decide)
  have g4 : Mt wr 4 := mt4 (by decide)
  rcases hk34 with h | h | h | h | h | h | h | h | h | h | h | h | h | h | h | h | h | h | h | h | h | h | h | h | h | h | h | h | h | h | h | h | h | h
  · exact fx _ _ _ _ (by rw [h]; rfl) (by omega) (by omega) (by rw [h]) (by rw [h]) (by first | exact .nil | exact .cons g1 .nil | exact .cons g2 .nil | exact .cons g4 .nil | exact .cons g1 (.cons g1 .nil) | exact .cons mt0 .nil | exact .cons mt1 .nil | exact .cons mt0 (.cons mt0 .nil) | exact .cons mt2 (.cons mt2 .nil) | exact .cons g4 (.cons g1 .nil) | exact .cons g4 (.cons g1 (.cons g1 .nil))) (fun hn had => by first | exact absurd h hn | (rw [h]; rfl))
  · exact fx _ _ _ _ (by rw [h]; rfl) (by omega) (by omega) (by rw [h]) (by rw [h]) (by first | exact .nil | exact .cons g1 .nil | exact .cons g2 .nil | exact .cons g4 .nil | exact .cons g1 (.cons g1 .nil) | exact .cons mt0 .nil | exact .cons mt1 .nil | exact .cons mt0 (.cons mt0 .nil) | exact .cons mt2 (.cons mt2 .nil) | exact .cons g4 (.cons g1 .nil) | exact .cons g4 (.cons g1 (.cons g1 .nil))) (fun hn had => by first | exact absurd h hn | (rw [h]; rfl))
  · exact fx _ _ _ _ (by rw [h]; rfl) (by omega) (by omega) (by rw [h]) (by rw [h]) (by first | exact .nil | exact .cons g1 .nil | exact .cons g2 .nil | exact .cons g4 .nil | exact .cons g1 (.cons g1 .nil) | exact .cons mt0 .nil | exact .cons mt1 .nil | exact .cons mt0 (.cons mt0 .nil) | exact .cons mt2 (.cons mt2 .nil) | exact .cons g4 (.cons g1 .nil) | exact .cons g4 (.cons g1 (.cons g1 .nil))) (fun hn had => by first | exact absurd h hn | (rw [h]; rfl))
  · exact fx _ _ _ _ (by rw [h]; rfl) (by omega) (by omega) (by rw [h]) (by rw [h]) (by first | exact .nil | exact .cons g1 .nil | exact .cons g2 .nil | exact .cons g4 .nil | exact .cons g1 (.cons g1 .nil) | exact .cons mt0 .nil | exact .cons mt1 .nil | exact .cons mt0 (.cons mt0 .nil) | exact .cons mt2 (.cons mt2 .nil) | exact .cons g4 (.cons g1 .nil) | exact .cons g4 (.cons g1 (.cons g1 .nil))) (fun hn had => by first | exact absurd h hn | (rw [h]; rfl))
  · exact fx _ _ _ _ (by rw [h]; rfl) (by omega) (by omega) (by rw [h]) (by rw [h]) (by first | exact .nil | exact .cons g1 .nil | exact .cons g2 .nil | exact .cons g4 .nil | exact .cons g1 (.cons g1 .nil) | exact .cons mt0 .nil | exact .cons mt1 .nil | exact .cons mt0 (.cons mt0 .nil) | exact .cons mt2 (.cons mt2 .nil) | exact .cons g4 (.cons g1 .nil) | exact .cons g4 (.cons g1 (.cons g1 .nil))) (fun hn had => by first | exact absurd h hn | (rw [h]; rfl))
  · exact fx _ _ _ _ (by rw [h]; rfl) (by omega) (by omega) (by rw [h]) (by rw [h]) (by first | exact .nil | exact .cons g1 .nil | exact .cons g2 .nil | exact .cons g4 .nil | exact .cons g1 (.cons g1 .nil) | exact .cons mt0 .nil | exact .cons mt1 .nil | exact .cons mt0 (.cons mt0 .nil) | exact .cons mt2 (.cons mt2 .nil) | exact .cons g4 (.cons g1 .nil) | exact .cons g4 (.cons g1 (.cons g1 .nil))) (fun hn had => by first | exact absurd h hn | (rw [h]; rfl))
  · exact fx _ _ _ _ (by rw [h]; rfl) (by omega) (by omega) (by rw [h]) (by rw [h]) (by first | exact .nil | exact .cons g1 .nil | exact .cons g2 .nil | exact .cons g4 .nil | exact .cons g1 (.cons g1 .nil) | exact .cons mt0 .nil | exact .cons mt1 .nil | exact .cons mt0 (.cons mt0 .nil) | exact .cons mt2 (.cons mt2 .nil) | exact .cons g4 (.cons g1 .nil) | exact .cons g4 (.cons g1 (.cons g1 .nil))) (fun hn had => by first | exact absurd h hn | (rw [h]; rfl))
  · exact fx _ _ _ _ (by rw [h]; rfl) (by omega) (by omega) (by rw [h]) (by rw [h]) (by first | exact .nil | exact .cons g1 .nil | exact .cons g2 .nil | exact .cons g4 .nil | exact .cons g1 (.cons g1 .nil) | exact .cons mt0 .nil | exact .cons mt1 .nil | exact .cons mt0 (.cons mt0 .nil) | exact .cons mt2 (.cons mt2 .nil) | exact .cons g4 (.cons g1 .nil) | exact .cons g4 (.cons g1 (.cons g1 .nil))) (fun hn had => by first | exact absurd h hn | (rw [h]; rfl))
  · exact fx _ _ _ _ (by rw [h]; rfl) (by omega) (by omega) (by rw [h]) (by rw [h]) (by first | exact .nil | exact .cons g1 .nil | exact .cons g2 .nil | exact .cons g4 .nil | exact .cons g1 (.cons g1 .nil) | exact .cons mt0 .nil | exact .cons mt1 .nil | exact .cons mt0 (.cons mt0 .nil) | exact .cons mt2 (.cons mt2 .nil) | exact .cons g4 (.cons g1 .nil) | exact .cons g4 (.cons g1 (.cons g1 .nil))) (fun hn had => by first | exact absurd h hn | (rw [h]; rfl))
  · exact fx _ _ _ _ (by rw [h]; rfl) (by omega) (by omega) (by rw [h]) (by rw [h]) (by first | exact .nil | exact .cons g1 .nil | exact .cons g2 .nil | exact .cons g4 .nil | exact .cons g1 (.cons g1 .nil) | exact .cons mt0 .nil | exact .cons mt1 .nil | exact .cons mt0 (.cons mt0 .nil) | exact .cons mt2 (.cons mt2 .nil) | exact .cons g4 (.cons g1 .nil) | exact .cons g4 (.cons g1 (.cons g1 .nil))) (fun hn had => by first | exact absurd h hn | (rw [h]; rfl))
  · exact fx _ _ _ _ (by rw [h]; rfl) (by omega) (by omega) (by rw [h]) (by rw [h]) (by first | exact .nil | exact .cons g1 .nil | exact .cons g2 .nil | exact .cons g4 .nil | exact .cons g1 (.cons g1 .nil) | exact .cons mt0 .nil | exact .cons mt1 .nil | exact .cons mt0 (.cons mt0 .nil) | exact .cons mt2 (.cons mt2 .nil) | exact .cons g4 (.cons g1 .nil) | exact .cons g4 (.cons g1 (.cons g1 .nil))) (fun hn had => by first | exact absurd h hn | (rw [h]; rfl))
  · exact fx _ _ _ _ (by rw [h]; rfl) (by omega) (by omega) (by rw [h]) (by rw [h]) (by first | exact .nil | exact .cons g1 .nil | exact .cons g2 .nil | exact .cons g4 .nil | exact .cons g1 (.cons g1 .nil) | exact .cons mt0 .nil | exact .cons mt1 .nil | exact .cons mt0 (.cons mt0 .nil) | exact .cons mt2 (.cons mt2 .nil) | exact .cons g4 (.cons g1 .nil) | exact .cons g4 (.cons g1 (.cons g1 .nil))) (fun hn had => by first | exact absurd h hn | (rw [h]; rfl))
  · exact fx _ _ _ _ (by rw [h]; rfl) (by omega) (by omega) (by rw [h]) (by rw [h]) (by first | exact .nil | exact .cons g1 .nil | exact .cons g2 .nil | exact .cons g4 .nil | exact .cons g1 (.cons g1 .nil) | exact .cons mt0 .nil | exact .cons mt1 .nil | exact .cons mt0 (.cons mt0 .nil) | exact .cons mt2 (.cons mt2 .nil) | exact .cons g4 (.cons g1 .nil) | exact .cons g4 (.cons g1 (.cons g1 .nil))) (fun hn had => by first | exact absurd h hn | (rw [h]; rfl))
  · exact fx _ _ _ _ (by rw [h]; rfl) (by omega) (by omega) (by rw [h]) (by rw [h]) (by first | exact .nil | exact .cons g1 .nil | exact .cons g2 .nil | exact .cons g4 .nil | exact .cons g1 (.cons g1 .nil) | exact .cons mt0 .nil | exact .cons mt1 .nil | exact .cons mt0 (.cons mt0 .nil) | exact .cons mt2 (.cons mt2 .nil) | exact .cons g4 (.cons g1 .nil) | exact .cons g4 (.cons g1 (.cons g1 .nil))) (fun hn had => by first | exact absurd h hn | (rw [h]; rfl))
  · exact fx _ _ _ _ (by rw [h]; rfl) (by omega) (by omega) (by rw [h]) (by rw [h]) (by first | exact .nil | exact .cons g1 .nil | exact .cons g2 .nil | exact .cons g4 .nil | exact .cons g1 (.cons g1 .nil) | exact .cons mt0 .nil | exact .cons mt1 .nil | exact .cons mt0 (.cons mt0 .nil) | exact .cons mt2 (.cons mt2 .nil) | exact .cons g4 (.cons g1 .nil) | exact .cons g4 (.cons g1 (.cons g1 .nil))) (fun hn had => by first | exact absurd h hn | (rw [h]; rfl))
  · exact fx _ _ _ _ (by rw [h]; rfl) (by omega) (by omega) (by rw [h]) (by rw [h]) (by first | exact .nil | exact .cons g1 .nil | exact .cons g2 .nil | exact .cons g4 .nil | exact .cons g1 (.cons g1 .nil) | exact .cons mt0 .nil | exact .cons mt1 .nil | exact .cons mt0 (.cons mt0 .nil) | exact .cons mt2 (.cons mt2 .nil) | exact .cons g4 (.cons g1 .nil) | exact .cons g4 (.cons g1 (.cons g1 .nil))) (fun hn had => by first | exact absurd h hn | (rw [h]; rfl))
  · have ht : tlOf i.op.val = .fixed [⟨3, 0⟩, ⟨3, 0⟩] (.const [2]) := by rw [h]; rfl
    rw [ht, op0 (by omega)]
    exact ⟨rfl, fun _ => ⟨fun h' => absurd h h', fun _ => rfl, fun had _ => by rw [h]; rfl⟩⟩
  · exact fx _ _ _ _ (by rw [h]; rfl) (by omega) (by omega) (by rw [h]) (by rw [h]) (by first | exact .nil | exact .cons g1 .nil | exact .cons g2 .nil | exact .cons g4 .nil | exact .cons g1 (.cons g1 .nil) | exact .cons mt0 .nil | exact .cons mt1 .nil | exact .cons mt0 (.cons mt0 .nil) | exact .cons mt2 (.cons mt2 .nil) | exact .cons g4 (.cons g1 .nil) | exact .cons g4 (.cons g1 (.cons g1 .nil))) (fun hn had => by first | exact absurd h hn | (rw [h]; rfl))
  · exact fx _ _ _ _ (by rw [h]; rfl) (by omega) (by omega) (by rw [h]) (by rw [h]) (by first | exact .nil | exact .cons g1 .nil | exact .cons g2 .nil | exact .cons g4 .nil | exact .cons g1 (.cons g1 .nil) | exact .cons mt0 .nil | exact .cons mt1 .nil | exact .cons mt0 (.cons mt0 .nil) | exact .cons mt2 (.cons mt2 .nil) | exact .cons g4 (.cons g1 .nil) | exact .cons g4 (.cons g1 (.cons g1 .nil))) (fun hn had => by first | exact absurd h hn | (rw [h]; rfl))
  · exact fx _ _ _ _ (by rw [h]; rfl) (by omega) (by omega) (by rw [h]) (by rw [h]) (by first | exact .nil | exact .cons g1 .nil | exact .cons g2 .nil | exact .cons g4 .nil | exact .cons g1 (.cons g1 .nil) | exact .cons mt0 .nil | exact .cons mt1 .nil | exact .cons mt0 (.cons mt0 .nil) | exact .cons mt2 (.cons mt2 .nil) | exact .cons g4 (.cons g1 .nil) | exact .cons g4 (.cons g1 (.cons g1 .nil))) (fun hn had => by first | exact absurd h hn | (rw [h]; rfl))
  · exact fx _ _ _ _ (by rw [h]; rfl) (by omega) (by omega) (by rw [h]) (by rw [h]) (by first | exact .nil | exact .cons g1 .nil | exact .cons g2 .nil | exact .cons g4 .nil | exact .cons g1 (.cons g1 .nil) | exact .cons mt0 .nil | exact .cons mt1 .nil | exact .cons mt0 (.cons mt0 .nil) | exact .cons mt2 (.cons mt2 .nil) | exact .cons g4 (.cons g1 .nil) | exact .cons g4 (.cons g1 (.cons g1 .nil))) (fun hn had => by first | exact absurd h hn | (rw [h]; rfl))
  · have ht : tlOf i.op.val = .call := by rw [h]; rfl
    rw [ht]
    simp only [tellF]
    by_cases hq : 0 ≤ i.a ∧ i.a.toNat < e.sgs.length
    · rw [dif_pos hq, opnd_eq_call h, if_pos hq]
      have hget : e.sgs[i.a.toNat]? = some e.sgs[i.a.toNat] := List.getElem?_eq_getElem hq.2
      have hsg := canB_sig hcan (List.getElem_mem hq.2)
      generalize e.sgs[i.a.toNat] = s at *
      refine ⟨rfl, fun _ => ⟨fun _ => ?_, fun h' => by omega, fun had _ => ?_⟩⟩
      · rw [h, show zf7 e i 21 = ((e.sgs[i.a.toNat]?).map Sg.ps).getD [] from rfl, hget]
        exact mt_map fun t ht => stored_lt h32 (hsg.1 t ht)
      · rw [h, if_neg (show ¬ (21 : Nat) = 7 by omega), if_neg (show ¬ (21 : Nat) = 8 by omega), show givesO e i 21 = ((e.sgs[i.a.toNat]?).map fun s => someR s.r).getD [] from rfl, hget]
        simp only [givesV, Option.map_some, Option.getD_some, someR]
    · rw [dif_neg hq, opnd_eq_call h, if_neg hq]
      exact ⟨rfl, fun h' => by cases h'⟩
  · have ht : tlOf i.op.val = .ret := by rw [h]; rfl
    rw [ht, op0 (by omega)]
    simp only [tellF, dif_pos hc.fn1]
    have hget : e.sgs[e.fn.toNat]? = some (e.sgs[e.fn.toNat]'hc.fn1) := List.getElem?_eq_getElem hc.fn1
    have hsg := canB_sig hcan (List.getElem_mem hc.fn1)
    generalize e.sgs[e.fn.toNat]'hc.fn1 = s at *
    refine ⟨trivial, fun _ => ⟨fun _ => ?_, fun h' => by omega, fun had _ => by rw [h]; rfl⟩⟩
    rw [h, show zf7 e i 22 = ((e.sgs[e.fn.toNat]?).map fun s => someR s.r).getD [] from rfl, hget]
    simp only [Option.map_some, Option.getD_some, someR]
    split
    · exact .nil
    · rename_i h0
      exact .cons (mt4 (stored_lt h32 (hsg.2.resolve_left h0))) .nil
  · have ht : tlOf i.op.val = .classed [] true := by rw [h]; rfl
    rw [ht]
    simp only [tellF]
    by_cases hq : 0 ≤ i.a ∧ i.a < e.cs.length
    · rw [if_neg (show ¬ (i.a < 0 ∨ (e.cs.length : Int) ≤ i.a) by omega), opnd_eq_cls (by omega), if_pos hq]
      exact ⟨rfl, fun _ => ⟨fun _ => by rw [h]; exact .nil, fun h' => by omega, fun had _ => by rw [h]; rfl⟩⟩
    · rw [if_pos (show i.a < 0 ∨ (e.cs.length : Int) ≤ i.a by omega), opnd_eq_cls (by omega), if_neg hq]
      exact ⟨rfl, fun h' => by cases h'⟩
  · have ht : tlOf i.op.val = .field false := by rw [h]; rfl
    rw [ht]
    simp only [tellF]
    by_cases hq : (0 ≤ i.a ∧ i.a < e.cs.length) ∧ 0 ≤ i.b ∧ i.b.toNat < (ze5 e.cs (upI e.cs i.a).reverse).length
    · rw [dif_pos hq, opnd_eq_fld (by omega), if_pos hq]
      have hmem : (ze5 e.cs (upI e.cs i.a).reverse)[i.b.toNat]'hq.2.2 ∈ flds e i := List.getElem_mem _
      have hget : (flds e i)[i.b.toNat]? = some ((ze5 e.cs (upI e.cs i.a).reverse)[i.b.toNat]'hq.2.2) := List.getElem?_eq_getElem hq.2.2
      have hlt := flds_lt hc hmem
      have hne := flds_stored hc hmem
      generalize (ze5 e.cs (upI e.cs i.a).reverse)[i.b.toNat]'hq.2.2 = fd at *
      refine ⟨rfl, fun _ => ⟨fun _ => ?_, fun h' => by omega, fun had _ => ?_⟩⟩
      · rw [h]; exact .cons (mt4 (ofClass_lt hc hq.1.2)) .nil
      · rw [h]; rw [show givesO e i 24 = (((flds e i)[i.b.toNat]?).map fun f => someR f.ty).getD [] from rfl, hget]
        simp only [Bool.false_eq_true, if_false, givesV, Option.map_some, Option.getD_some, someR]
        rw [if_neg hne]; rfl
    · rw [dif_neg hq, opnd_eq_fld (by omega), if_neg hq]
      exact ⟨rfl, fun h' => by cases h'⟩
  · have ht : tlOf i.op.val = .field true := by rw [h]; rfl
    rw [ht]
    simp only [tellF]
    by_cases hq : (0 ≤ i.a ∧ i.a < e.cs.length) ∧ 0 ≤ i.b ∧ i.b.toNat < (ze5 e.cs (upI e.cs i.a).reverse).length
    · rw [dif_pos hq, opnd_eq_fld (by omega), if_pos hq]
      have hmem : (ze5 e.cs (upI e.cs i.a).reverse)[i.b.toNat]'hq.2.2 ∈ flds e i := List.getElem_mem _
      have hget : (flds e i)[i.b.toNat]? = some ((ze5 e.cs (upI e.cs i.a).reverse)[i.b.toNat]'hq.2.2) := List.getElem?_eq_getElem hq.2.2
      have hlt := flds_lt hc hmem
      have hne := flds_stored hc hmem
      generalize (ze5 e.cs (upI e.cs i.a).reverse)[i.b.toNat]'hq.2.2 = fd at *
      refine ⟨rfl, fun _ => ⟨fun _ => ?_, fun h' => by omega, fun had _ => ?_⟩⟩
      · rw [h]; rw [show zf7 e i 25 = [ofClass i.a, (((flds e i)[i.b.toNat]?).map Fd.ty).getD 0] from rfl, hget]
        exact .cons (mt4 (ofClass_lt hc hq.1.2)) (.cons (mt4 hlt) .nil)
      · rw [h]; rfl
    · rw [dif_neg hq, opnd_eq_fld (by omega), if_neg hq]
      exact ⟨rfl, fun h' => by cases h'⟩
  · exact fx _ _ _ _ (by rw [h]; rfl) (by omega) (by omega) (by rw [h]) (by rw [h]) (by first | exact .nil | exact .cons g1 .nil | exact .cons g2 .nil | exact .cons g4 .nil | exact .cons g1 (.cons g1 .nil) | exact .cons mt0 .nil | exact .cons mt1 .nil | exact .cons mt0 (.cons mt0 .nil) | exact .cons mt2 (.cons mt2 .nil) | exact .cons g4 (.cons g1 .nil) | exact .cons g4 (.cons g1 (.cons g1 .nil))) (fun hn had => by first | exact absurd h hn | (rw [h]; rfl))
  · exact fx _ _ _ _ (by rw [h]; rfl) (by omega) (by omega) (by rw [h]) (by rw [h]) (by first | exact .nil | exact .cons g1 .nil | exact .cons g2 .nil | exact .cons g4 .nil | exact .cons g1 (.cons g1 .nil) | exact .cons mt0 .nil | exact .cons mt1 .nil | exact .cons mt0 (.cons mt0 .nil) | exact .cons mt2 (.cons mt2 .nil) | exact .cons g4 (.cons g1 .nil) | exact .cons g4 (.cons g1 (.cons g1 .nil))) (fun hn had => by first | exact absurd h hn | (rw [h]; rfl))
  · exact fx _ _ _ _ (by rw [h]; rfl) (by omega) (by omega) (by rw [h]) (by rw [h]) (by first | exact .nil | exact .cons g1 .nil | exact .cons g2 .nil | exact .cons g4 .nil | exact .cons g1 (.cons g1 .nil) | exact .cons mt0 .nil | exact .cons mt1 .nil | exact .cons mt0 (.cons mt0 .nil) | exact .cons mt2 (.cons mt2 .nil) | exact .cons g4 (.cons g1 .nil) | exact .cons g4 (.cons g1 (.cons g1 .nil))) (fun hn had => by first | exact absurd h hn | (rw [h]; rfl))
  · exact fx _ _ _ _ (by rw [h]; rfl) (by omega) (by omega) (by rw [h]) (by rw [h]) (by first | exact .nil | exact .cons g1 .nil | exact .cons g2 .nil | exact .cons g4 .nil | exact .cons g1 (.cons g1 .nil) | exact .cons mt0 .nil | exact .cons mt1 .nil | exact .cons mt0 (.cons mt0 .nil) | exact .cons mt2 (.cons mt2 .nil) | exact .cons g4 (.cons g1 .nil) | exact .cons g4 (.cons g1 (.cons g1 .nil))) (fun hn had => by first | exact absurd h hn | (rw [h]; rfl))
  · have ht : tlOf i.op.val = .classed [⟨2, 0⟩] true := by rw [h]; rfl
    rw [ht]
    simp only [tellF]
    by_cases hq : 0 ≤ i.a ∧ i.a < e.cs.length
    · rw [if_neg (show ¬ (i.a < 0 ∨ (e.cs.length : Int) ≤ i.a) by omega), opnd_eq_cls (by omega), if_pos hq]
      exact ⟨rfl, fun _ => ⟨fun _ => by rw [h]; exact .cons mt2 .nil, fun h' => by omega, fun had _ => by rw [h]; rfl⟩⟩
    · rw [if_pos (show i.a < 0 ∨ (e.cs.length : Int) ≤ i.a by omega), opnd_eq_cls (by omega), if_neg hq]
      exact ⟨rfl, fun h' => by cases h'⟩
  · have ht : tlOf i.op.val = .classed [⟨2, 0⟩] false := by rw [h]; rfl
    rw [ht]
    simp only [tellF]
    by_cases hq : 0 ≤ i.a ∧ i.a < e.cs.length
    · rw [if_neg (show ¬ (i.a < 0 ∨ (e.cs.length : Int) ≤ i.a) by omega), opnd_eq_cls (by omega), if_pos hq]
      exact ⟨rfl, fun _ => ⟨fun _ => by rw [h]; exact .cons mt2 .nil, fun h' => by omega, fun had _ => by rw [h]; rfl⟩⟩
    · rw [if_pos (show i.a < 0 ∨ (e.cs.length : Int) ≤ i.a by omega), opnd_eq_cls (by omega), if_neg hq]
      exact ⟨rfl, fun h' => by cases h'⟩
  · exact fx _ _ _ _ (by rw [h]; rfl) (by omega) (by omega) (by rw [h]) (by rw [h]) (by first | exact .nil | exact .cons g1 .nil | exact .cons g2 .nil | exact .cons g4 .nil | exact .cons g1 (.cons g1 .nil) | exact .cons mt0 .nil | exact .cons mt1 .nil | exact .cons mt0 (.cons mt0 .nil) | exact .cons mt2 (.cons mt2 .nil) | exact .cons g4 (.cons g1 .nil) | exact .cons g4 (.cons g1 (.cons g1 .nil))) (fun hn had => by first | exact absurd h hn | (rw [h]; rfl))
  · exact fx _ _ _ _ (by rw [h]; rfl) (by omega) (by omega) (by rw [h]) (by rw [h]) (by first | exact .nil | exact .cons g1 .nil | exact .cons g2 .nil | exact .cons g4 .nil | exact .cons g1 (.cons g1 .nil) | exact .cons mt0 .nil | exact .cons mt1 .nil | exact .cons mt0 (.cons mt0 .nil) | exact .cons mt2 (.cons mt2 .nil) | exact .cons g4 (.cons g1 .nil) | exact .cons g4 (.cons g1 (.cons g1 .nil))) (fun hn had => by first | exact absurd h hn | (rw [h]; rfl))
theorem apply_eq (e : En) (f : Fr) (i : Ins) (hw : WideE e) : applyF e f i = applyR e f i := by
  unfold applyF applyR
  cases hcan : canB e
  · rfl
  simp only [Bool.true_eq_false, if_false]
  by_cases hck : checkF e.cs.length f = 0
  case neg => rw [if_pos hck, if_pos hck]
  have nck : ¬ checkF e.cs.length f ≠ 0 := fun h => h hck
  rw [if_neg nck, if_neg nck]
  by_cases h34 : 34 ≤ i.op.val
  · have : (toldF e i).2 = 40 := by rw [toldF, if_pos h34]
    rw [if_pos (show (toldF e i).2 ≠ 0 by omega), if_pos h34, this]
  obtain ⟨h1, h2⟩ := told_agree e i hw hcan (by omega)
  rw [if_neg h34, h1]
  have hop : locOp i → opndF e i = 0 := fun h => by unfold locOp at h; rw [opndF, if_neg (by omega), if_neg (by omega), if_neg (by omega)]
  by_cases hl : locOp i ∧ ¬ (0 ≤ i.a ∧ i.a < f.loc)
  · rw [if_neg (show ¬ opndF e i ≠ 0 from fun h => h (hop hl.1)), if_pos hl, if_pos hl]
  rw [if_neg hl, if_neg hl]
  by_cases h0 : opndF e i = 0
  case neg => rw [if_pos h0, if_pos h0]
  have n0 : ¬ opndF e i ≠ 0 := fun h => h h0
  rw [if_neg n0, if_neg n0]
  have ha := h2 h0
  generalize (toldF e i).1 = F at *
  have hlen : F.takes.length = (zf7 e i i.op.val).length := by
    by_cases h16 : i.op.val = 16
    · rw [ha.same h16, h16]; rfl
    · exact (ha.takes h16).length_eq
  unfold applyIn
  by_cases hh : f.h < (zf7 e i i.op.val).length
  · have : takenF e.cs f F.takes = ([], 30) := by rw [takenF, hlen, if_pos hh]
    rw [this, if_pos hh, if_pos (by simp)]
  rw [if_neg hh]
  have htk : takenF e.cs f F.takes = if fitsAll e.cs F.takes (hadL f F.takes.length) = false then ([], 70) else (hadL f F.takes.length, 0) := by rw [takenF, hlen, if_neg hh]
  have hfw : fitsAll e.cs F.takes (hadL f F.takes.length) = true ↔ wantedAll e.cs (zf7 e i i.op.val) (hadL f (zf7 e i i.op.val).length) = true ∧ ¬ (i.op.val = 16 ∧ sameB (hadL f 2) = false) := by
    by_cases h16 : i.op.val = 16
    · rw [ha.same h16, h16, show zf7 e i 16 = [255, 255] from rfl]
      have e1 : fitsAll e.cs [⟨3, 0⟩, ⟨3, 0⟩] (hadL f 2) = sameB (hadL f 2) := fitsAll_same _ _
      have e2 : wantedAll e.cs [255, 255] (hadL f 2) = true := wantedAll_any _ _
      simp only [List.length_cons, List.length_nil, e1, e2]
      simp
    · rw [fitsAll_wanted (ha.takes h16), hlen]; simp [h16]
  by_cases hf : fitsAll e.cs F.takes (hadL f F.takes.length) = true
  case neg =>
    have hf' : fitsAll e.cs F.takes (hadL f F.takes.length) = false := by simpa using hf
    rw [htk, if_pos hf', if_pos (by simp)]
    by_cases hwa : wantedAll e.cs (zf7 e i i.op.val) (hadL f (zf7 e i i.op.val).length) = false
    · rw [if_pos hwa]
    · rw [if_neg hwa, if_pos (Classical.byContradiction fun hn => hf (hfw.2 ⟨by simpa using hwa, hn⟩))]
  obtain ⟨w1, w2⟩ := hfw.1 hf
  have nf : ¬ fitsAll e.cs F.takes (hadL f F.takes.length) = false := fun h => by rw [hf] at h; cases h
  have nw : ¬ wantedAll e.cs (zf7 e i i.op.val) (hadL f (zf7 e i i.op.val).length) = false := fun h => by rw [w1] at h; cases h
  rw [if_neg nf, hlen] at htk
  rw [htk]
  rw [if_neg nw, if_neg w2]
  simp only [ne_eq, not_true_eq_false, if_false]
  by_cases o4 : i.op.val = 4
  · rw [if_pos o4]
    by_cases hz : slAt f i.a.toNat = 0
    · rw [if_pos hz, if_pos ⟨o4, hz⟩]
    · rw [if_neg hz, if_neg (fun h => hz h.2), givesR, if_pos o4]
  · rw [if_neg o4, if_neg (fun h => o4 h.1), ha.gives _ o4, givesR, if_neg o4]
open Go.Proofs
end Go.AL
