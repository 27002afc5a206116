import Derived.Test.YtobmoajkfbigkaaGreatJt
import Derived.Test.YtobmoajkfbigkaaGreatJj
import Derived.Test.YtobmoajkfbigkaaGreatJd
import Derived.Test.YtobmoajkfbigkaaGreatRows
set_option linter.unusedSimpArgs false
set_option linter.unusedVariables false
set_option maxRecDepth 100000
set_option maxHeartbeats 4000000
set_option linter.defProp false
namespace Go.AL
open Go.Proofs
def sgsM (m : Md) : List Sg := m.fs.map (·.sg)
def rmB (b1 b5 : Nat) (m : Md) (i : Nat) (ob : Option Nat) (k : Int) : St := (({} : St).set b1 (eMd m)).set b5 [.slice .no (rws eC m.cs), grD 2 ob (rws eSg ((sgsM m).take i)), .int .i64 k]
theorem rmB_5 {b1 b5 : Nat} {m : Md} {i : Nat} {ob : Option Nat} {k : Int} : (rmB b1 b5 m i ob k).box b5 = some [.slice .no (rws eC m.cs), grD 2 ob (rws eSg ((sgsM m).take i)), .int .i64 k] := by simp [rmB, St.set_box]
theorem rmB_1 {b1 b5 : Nat} {m : Md} {i : Nat} {ob : Option Nat} {k : Int} (h : b1 ≠ b5) : (rmB b1 b5 m i ob k).box b1 = some (eMd m) := by simp [rmB, St.set_box, h]
theorem rmB_gr {b1 b5 : Nat} {m : Md} {i i' : Nat} {ob ob' o : Option Nat} {k k' : Int} (h : grN o (rmB b1 b5 m i ob k)) : grN o (rmB b1 b5 m i' ob' k') := fun b hb hin => h b hb (by simp only [rmB, has_set] at hin ⊢; exact hin)
theorem envM_le {m : Md} {ob : Option Nat} {k : Int} : DLe (.agg [.slice .no (rws eC m.cs), grD 2 ob (rws eSg (sgsM m)), .int .i64 k]) (.agg (eEn (envM m k))) := DLe.agg (.cons (.refl _) (.cons grD_le (.refl _)))
theorem refModule39 (m : Md) (hw : WideM m) : PCall Tryz.prog 39 [.agg (eMd m)] (.tup [.int .i64 (moduleD m).1, .int .i64 (moduleD m).2.1, .int .i64 (moduleD m).2.2]) := by
  have hwe := fun k => envM_wide hw k
  obtain ⟨hw1, hw2, hw3, hw4, hw5⟩ := hw
  refine F39.pcall' rfl fun T hT => ?_
  simp -implicitDefEqProofs only [go_sem, c39, hT, eMd]
  intro b1 b5 h1 h2
  simp -implicitDefEqProofs only [go_sem, hT, eMd, h1, h2, set_set]
  have hne : b1 ≠ b5 := h2
  refine loopL F39 (fun x : Nat × Option Nat => [(1, .ptr b1 0), (5, .ptr b5 0), (17, .slice .no (rws eFn m.fs)), (18, .int .i64 m.fs.length), (19, .int .i64 x.1)]) (fun x => grS 2 x.1 x.2 (rmB b1 b5 m x.1 x.2 0))
    (fun x => x.1 ≤ m.fs.length ∧ (x.2 = none → x.1 = 0) ∧ grN x.2 (rmB b1 b5 m x.1 x.2 0)) (fun x => m.fs.length - x.1) (0, none)
    ⟨Nat.zero_le _, fun _ => rfl, grN_none⟩ ?_ (St.le.refl _) ?_
  · simp -implicitDefEqProofs only [go_sem, hT, Int.ofNat_zero]
  clear hT T
  rintro ⟨i, ob⟩ ⟨hi, hok, hgr⟩ T hT
  simp only at hi hok hgr hT ⊢
  by_cases h : i < m.fs.length
  · have h3 : ((i : Int) < m.fs.length) = True := eq_true (by omega)
    have h0 : (0 ≤ (i : Int)) = True := eq_true (by omega)
    have hls : (sgsM m).length = m.fs.length := List.length_map ..
    have htake : (sgsM m).take (i + 1) = (sgsM m).take i ++ [m.fs[i].sg] := by
      rw [List.take_succ_eq_append_getElem (by omega)]
      simp [sgsM]
    have hR : (rws eFn m.fs)[i]?.getD [] = eFn m.fs[i] := rws_at h
    have htl : ((sgsM m).take i).length = i := by simp; omega
    generalize m.fs[i] = x at *
    simp -implicitDefEqProofs only [go_sem, hT, h3, h0, hR, eFn_len, eFn_take, Int.toNat_natCast]
    intro b7 hb7
    have f5 : ¬ b5 = b7 := fun he => by subst he; exact hb7 (.inl (by rw [grS_boxa, rmB_5]; simp))
    simp -implicitDefEqProofs only [go_sem, hT, f5, rmB_5, set_set, eFn_eq, frz]
    have hrow : [[.slice .no (rws eT x.sg.ps), .int .u8 x.sg.r.val]] = rws eSg [x.sg] := rfl
    refine app_gr' Tryz.sli23 Tryz.sz95 Tryz.by95 Tryz.zero95 rfl (n := i) (m := 1) (base := rmB b1 b5 m i ob 0) (by rw [rws_len, htl]) rfl (le_add hb7) hgr hok (by simp) (by omega) fun o' σ' hbox hle hn hno => ?_
    simp -implicitDefEqProofs only [go_sem, hT, hbox, f5, rmB_5, set_set]
    have hle' := le_set (b := b5) (cs := [.slice .no (rws eC m.cs), grD 2 o' (rws eSg ((sgsM m).take i) ++ [[.slice .no (rws eT x.sg.ps), .int .u8 x.sg.r.val]]), .int .i64 0]) hle
    rw [grS_set, rmB, set_set] at hle'
    have happ : rws eSg ((sgsM m).take i) ++ [[.slice .no (rws eT x.sg.ps), .int .u8 x.sg.r.val]] = rws eSg ((sgsM m).take (i + 1)) := by rw [htake]; simp [rws, eSg]
    rw [happ] at hle' ⊢
    refine ⟨(i + 1, o'), ⟨by omega, by simpa using hno, rmB_gr hn⟩, by omega, ?_, hle'⟩
    rw [wrap_i64 (by omega) (by omega)]; simp
  have h3 : ((i : Int) < m.fs.length) = False := eq_false (by omega)
  obtain rfl : i = m.fs.length := by omega
  have hls : (sgsM m).length = m.fs.length := List.length_map ..
  have hfull : (sgsM m).take m.fs.length = sgsM m := List.take_of_length_le (by omega)
  have k5 := @rmB_5 b1 b5 m m.fs.length ob
  rw [hfull] at k5
  have k1 := fun k => rmB_1 (m := m) (i := m.fs.length) (ob := ob) (k := k) hne
  simp -implicitDefEqProofs only [go_sem, hT, h3, k5]
  refine callB_pure ((can73 (envM m 0) (hwe 0)).args (.cons envM_le .nil)) ?_
  cases hcan : canB (envM m 0) with
  | false =>
    have hD : moduleD m = (0, 0, 1) := if_pos (.inr hcan)
    rw [hD]
    simp -implicitDefEqProofs only [go_sem, hT, k5, k1, eMd, Bool.not_false]
    exact DLe.refl _
  | true =>
    by_cases hlen : m.certs.length = m.fs.length
    rotate_left
    · have p1 : ((m.certs.length : Int) = m.fs.length) = False := eq_false (by omega)
      have hD : moduleD m = (0, 0, 1) := if_pos (.inl hlen)
      rw [hD]
      simp -implicitDefEqProofs only [go_sem, hT, k5, k1, eMd, Bool.not_true, p1]
      exact DLe.refl _
    have p1 : ((m.certs.length : Int) = m.fs.length) = True := eq_true (by omega)
    have hD : moduleD m = runM m (m.fs.zip m.certs) 0 := if_neg (by rintro (h | h); exact h hlen; rw [hcan] at h; cases h)
    rw [hD]
    simp -implicitDefEqProofs only [go_sem, hT, k5, k1, eMd, Bool.not_true, p1]
    have hzl : (m.fs.zip m.certs).length = m.fs.length := by rw [List.length_zip]; omega
    refine loopL F39 (fun x : Nat × Int => [(1, .ptr b1 0), (5, .ptr b5 0), (44, .slice .no (rws eFn m.fs)), (45, .int .i64 m.fs.length), (46, .int .i64 x.1)]) (fun x => grS 2 m.fs.length ob (rmB b1 b5 m m.fs.length ob x.2))
      (fun x => x.1 ≤ m.fs.length ∧ runM m ((m.fs.zip m.certs).drop x.1) x.1 = runM m (m.fs.zip m.certs) 0) (fun x => m.fs.length - x.1) (0, 0)
      ⟨Nat.zero_le _, rfl⟩ ?_ (St.le.refl _) ?_
    · simp -implicitDefEqProofs only [go_sem, hT, Int.ofNat_zero]
    clear hT T
    rintro ⟨k, kp⟩ ⟨hk, hrun⟩ T hT
    simp only at hk hrun hT ⊢
    by_cases h : k < m.fs.length
    · have h3 : ((k : Int) < m.fs.length) = True := eq_true (by omega)
      have h0 : (0 ≤ (k : Int)) = True := eq_true (by omega)
      have h4 : ((k : Int) < m.certs.length) = True := eq_true (by omega)
      have hR : (rws eFn m.fs)[k]?.getD [] = eFn m.fs[k] := rws_at h
      have hR2 : (rws eBy m.certs)[k]?.getD [] = [.slice .no (rws eT (m.certs[k]'(by omega)))] := by rw [rws_at (by omega)]; rfl
      have hdrop : (m.fs.zip m.certs).drop k = (m.fs[k], m.certs[k]'(by omega)) :: (m.fs.zip m.certs).drop (k + 1) := by
        rw [List.drop_eq_getElem_cons (by omega), List.getElem_zip]
      have hwf := hw3 m.fs[k] (by simp)
      have hwc := hw5 (m.certs[k]'(by omega)) (by simp)
      rw [hdrop, runM] at hrun
      generalize m.fs[k] = x at *
      generalize m.certs[k]'(by omega) = c at *
      have hch := refCheck18 (envM m k) x.loc x.code c .no .no (hwe k) (by have := hwf.2; omega) (by omega)
      simp -implicitDefEqProofs only [go_sem, hT, h3, h0, hR, eFn_len, eFn_take, Int.toNat_natCast]
      intro b9 hb9
      have f5 : ¬ b5 = b9 := fun he => by subst he; exact hb9 (.inl (by rw [grS_boxa, k5]; simp))
      have f1 : ¬ b1 = b9 := fun he => by subst he; exact hb9 (.inl (by rw [grS_boxa, k1]; simp))
      simp -implicitDefEqProofs only [go_sem, hT, h3, h0, h4, f5, f1, h1, h2, Ne.symm f5, Ne.symm f1, k5, k1, set_set, eFn_eq, eMd, hR2, Int.toNat_natCast]
      generalize checkD (envM m k) x.loc x.code c = r at *
      obtain ⟨⟨cmp, fet⟩, a, w⟩ := r
      simp only at hrun hch
      refine callB_pure (hch.args (.cons envM_le (.refl _))) ?_
      simp -implicitDefEqProofs only [go_sem, hT, gh_len, f5, f1]
      intro b10 q9 q9' q5 q5' hb10
      refine br_split (fun h' => ?_) fun h' => ?_
      · have hz : w ≠ 0 := by simpa using h'
        rw [if_pos hz] at hrun
        rw [← hrun]
        exact DLe.refl _
      · have hz : w = 0 := by simpa using h'
        rw [if_neg (by simp [hz])] at hrun
        refine ⟨(k + 1, (k : Int)), ⟨by omega, hrun⟩, by omega, by rw [wrap_i64 (by omega) (by omega)]; simp, ?_⟩
        have hset : grS 2 m.fs.length ob (rmB b1 b5 m m.fs.length ob k) = (grS 2 m.fs.length ob (rmB b1 b5 m m.fs.length ob kp)).set b5 [.slice .no (rws eC m.cs), grD 2 ob (rws eSg (sgsM m)), .int .i64 k] := by
          rw [grS_set, rmB, rmB, set_set, hfull]
        have hin : ∀ S : St, S = ((grS 2 m.fs.length ob (rmB b1 b5 m m.fs.length ob kp)).set b9 (eFn x)).set b5 [.slice .no (rws eC m.cs), grD 2 ob (rws eSg (sgsM m)), .int .i64 k] → ¬ S.has b10 := by
          rintro S rfl hin
          rw [set_has, set_has] at hin
          rcases hin with hin | hin | hin
          · exact q9 hin
          · exact q5 hin
          · exact hb10 hin
        rw [hset]
        have l1 := le_set (b := b5) (cs := [.slice .no (rws eC m.cs), grD 2 ob (rws eSg (sgsM m)), .int .i64 k]) (le_add (cs := eFn x) hb9)
        first
          | exact St.le.trans l1 (le_add (hin _ rfl))
          | (rw [set_set]; exact St.le.trans l1 (le_add (hin _ rfl)))
    have h3 : ((k : Int) < m.fs.length) = False := eq_false (by omega)
    obtain rfl : k = m.fs.length := by omega
    rw [List.drop_of_length_le (by omega), runM] at hrun
    rw [← hrun]
    simp -implicitDefEqProofs only [go_sem, hT, h3]
    exact DLe.refl _
theorem module38 (m : Md) (hw : WideM m) : PCall Tryz.prog 38 [.agg (eMd m)] (.tup [.int .i64 (moduleD m).1, .int .i64 (moduleD m).2.1, .int .i64 (moduleD m).2.2]) := by
  have hwe := fun k => envM_wide hw k
  obtain ⟨hw1, hw2, hw3, hw4, hw5⟩ := hw
  refine F38.pcall' rfl fun T hT => ?_
  by_cases hlen : m.certs.length = m.fs.length
  rotate_left
  · have p1 : ((m.certs.length : Int) = m.fs.length) = False := eq_false (by omega)
    have hD : moduleD m = (0, 0, 1) := if_pos (.inl hlen)
    rw [hD]
    simp -implicitDefEqProofs only [go_sem, c38, hT, eMd, p1]
    exact DLe.refl _
  have p1 : ((m.certs.length : Int) = m.fs.length) = True := eq_true (by omega)
  simp -implicitDefEqProofs only [go_sem, c38, hT, eMd, p1]
  intro b1 b5 h1 h2
  simp -implicitDefEqProofs only [go_sem, hT, eMd, h1, h2, set_set]
  have hne : b1 ≠ b5 := h2
  refine loopL F38 (fun x : Nat × Option Nat => [(1, .ptr b1 0), (5, .ptr b5 0), (24, .slice .no (rws eFn m.fs)), (25, .int .i64 m.fs.length), (26, .int .i64 x.1)]) (fun x => grS 2 x.1 x.2 (rmB b1 b5 m x.1 x.2 0))
    (fun x => x.1 ≤ m.fs.length ∧ (x.2 = none → x.1 = 0) ∧ grN x.2 (rmB b1 b5 m x.1 x.2 0)) (fun x => m.fs.length - x.1) (0, none)
    ⟨Nat.zero_le _, fun _ => rfl, grN_none⟩ ?_ (St.le.refl _) ?_
  · simp -implicitDefEqProofs only [go_sem, hT, Int.ofNat_zero]
  clear hT T
  rintro ⟨i, ob⟩ ⟨hi, hok, hgr⟩ T hT
  simp only at hi hok hgr hT ⊢
  by_cases h : i < m.fs.length
  · have h3 : ((i : Int) < m.fs.length) = True := eq_true (by omega)
    have h0 : (0 ≤ (i : Int)) = True := eq_true (by omega)
    have hls : (sgsM m).length = m.fs.length := List.length_map ..
    have htake : (sgsM m).take (i + 1) = (sgsM m).take i ++ [m.fs[i].sg] := by
      rw [List.take_succ_eq_append_getElem (by omega)]
      simp [sgsM]
    have hR : (rws eFn m.fs)[i]?.getD [] = eFn m.fs[i] := rws_at h
    have htl : ((sgsM m).take i).length = i := by simp; omega
    generalize m.fs[i] = x at *
    simp -implicitDefEqProofs only [go_sem, hT, h3, h0, hR, eFn_len, eFn_take, Int.toNat_natCast]
    intro b7 hb7
    have f5 : ¬ b5 = b7 := fun he => by subst he; exact hb7 (.inl (by rw [grS_boxa, rmB_5]; simp))
    simp -implicitDefEqProofs only [go_sem, hT, f5, rmB_5, set_set, eFn_eq, frz]
    have hrow : [[.slice .no (rws eT x.sg.ps), .int .u8 x.sg.r.val]] = rws eSg [x.sg] := rfl
    refine app_gr' Tryz.sli23 Tryz.sz95 Tryz.by95 Tryz.zero95 rfl (n := i) (m := 1) (base := rmB b1 b5 m i ob 0) (by rw [rws_len, htl]) rfl (le_add hb7) hgr hok (by simp) (by omega) fun o' σ' hbox hle hn hno => ?_
    simp -implicitDefEqProofs only [go_sem, hT, hbox, f5, rmB_5, set_set]
    have hle' := le_set (b := b5) (cs := [.slice .no (rws eC m.cs), grD 2 o' (rws eSg ((sgsM m).take i) ++ [[.slice .no (rws eT x.sg.ps), .int .u8 x.sg.r.val]]), .int .i64 0]) hle
    rw [grS_set, rmB, set_set] at hle'
    have happ : rws eSg ((sgsM m).take i) ++ [[.slice .no (rws eT x.sg.ps), .int .u8 x.sg.r.val]] = rws eSg ((sgsM m).take (i + 1)) := by rw [htake]; simp [rws, eSg]
    rw [happ] at hle' ⊢
    refine ⟨(i + 1, o'), ⟨by omega, by simpa using hno, rmB_gr hn⟩, by omega, ?_, hle'⟩
    rw [wrap_i64 (by omega) (by omega)]; simp
  have h3 : ((i : Int) < m.fs.length) = False := eq_false (by omega)
  obtain rfl : i = m.fs.length := by omega
  have hls : (sgsM m).length = m.fs.length := List.length_map ..
  have hfull : (sgsM m).take m.fs.length = sgsM m := List.take_of_length_le (by omega)
  have k5 := @rmB_5 b1 b5 m m.fs.length ob
  rw [hfull] at k5
  have k1 := fun k => rmB_1 (m := m) (i := m.fs.length) (ob := ob) (k := k) hne
  simp -implicitDefEqProofs only [go_sem, hT, h3, k5]
  refine callB_pure ((may31 (envM m 0) 16 (hwe 0)).args (.cons envM_le (.refl _))) ?_
  cases hcan : canB (envM m 0) with
  | false =>
    have hD : moduleD m = (0, 0, 1) := if_pos (.inr hcan)
    rw [hD]
    have p2 : ((mayE (envM m 0) 16 : Int) = 0) = False := eq_false fun h => by
      have h' : mayE (envM m 0) 16 = 0 := by omega
      rw [may16, hcan] at h'
      cases h'
    simp -implicitDefEqProofs only [go_sem, hT, p2]
    exact DLe.refl _
  | true =>
    have hD : moduleD m = runM m (m.fs.zip m.certs) 0 := if_neg (by rintro (h | h); exact h hlen; rw [hcan] at h; cases h)
    rw [hD]
    have p2 : ((mayE (envM m 0) 16 : Int) = 0) = True := eq_true (by
      have h' : mayE (envM m 0) 16 = 0 := by rw [may16]; exact hcan
      omega)
    simp -implicitDefEqProofs only [go_sem, hT, p2, k1, eMd]
    have hzl : (m.fs.zip m.certs).length = m.fs.length := by rw [List.length_zip]; omega
    refine loopL F38 (fun x : Nat × Int => [(1, .ptr b1 0), (5, .ptr b5 0), (42, .slice .no (rws eFn m.fs)), (43, .int .i64 m.fs.length), (44, .int .i64 x.1)]) (fun x => grS 2 m.fs.length ob (rmB b1 b5 m m.fs.length ob x.2))
      (fun x => x.1 ≤ m.fs.length ∧ runM m ((m.fs.zip m.certs).drop x.1) x.1 = runM m (m.fs.zip m.certs) 0) (fun x => m.fs.length - x.1) (0, 0)
      ⟨Nat.zero_le _, rfl⟩ ?_ (St.le.refl _) ?_
    · simp -implicitDefEqProofs only [go_sem, hT, Int.ofNat_zero]
    clear hT T
    rintro ⟨k, kp⟩ ⟨hk, hrun⟩ T hT
    simp only at hk hrun hT ⊢
    by_cases h : k < m.fs.length
    · have h3 : ((k : Int) < m.fs.length) = True := eq_true (by omega)
      have h0 : (0 ≤ (k : Int)) = True := eq_true (by omega)
      have h4 : ((k : Int) < m.certs.length) = True := eq_true (by omega)
      have hR : (rws eFn m.fs)[k]?.getD [] = eFn m.fs[k] := rws_at h
      have hR2 : (rws eBy m.certs)[k]?.getD [] = [.slice .no (rws eT (m.certs[k]'(by omega)))] := by rw [rws_at (by omega)]; rfl
      have hdrop : (m.fs.zip m.certs).drop k = (m.fs[k], m.certs[k]'(by omega)) :: (m.fs.zip m.certs).drop (k + 1) := by
        rw [List.drop_eq_getElem_cons (by omega), List.getElem_zip]
      have hwf := hw3 m.fs[k] (by simp)
      have hwc := hw5 (m.certs[k]'(by omega)) (by simp)
      rw [hdrop, runM] at hrun
      generalize m.fs[k] = x at *
      generalize m.certs[k]'(by omega) = c at *
      have hch := check15 (envM m k) x.loc x.code c .no .no (hwe k) (by have := hwf.2; omega) (by omega)
      simp -implicitDefEqProofs only [go_sem, hT, h3, h0, hR, eFn_len, eFn_take, Int.toNat_natCast]
      intro b9 hb9
      have f5 : ¬ b5 = b9 := fun he => by subst he; exact hb9 (.inl (by rw [grS_boxa, k5]; simp))
      have f1 : ¬ b1 = b9 := fun he => by subst he; exact hb9 (.inl (by rw [grS_boxa, k1]; simp))
      simp -implicitDefEqProofs only [go_sem, hT, h3, h0, h4, f5, f1, h1, h2, Ne.symm f5, Ne.symm f1, k5, k1, set_set, eFn_eq, eMd, hR2, Int.toNat_natCast]
      generalize checkD (envM m k) x.loc x.code c = r at *
      obtain ⟨⟨cmp, fet⟩, a, w⟩ := r
      simp only at hrun hch
      refine callB_pure (hch.args (.cons envM_le (.refl _))) ?_
      simp -implicitDefEqProofs only [go_sem, hT, gh_len, f5, f1]
      intro b10 q9 q9' q5 q5' hb10
      refine br_split (fun h' => ?_) fun h' => ?_
      · have hz : w ≠ 0 := by simpa using h'
        rw [if_pos hz] at hrun
        rw [← hrun]
        exact DLe.refl _
      · have hz : w = 0 := by simpa using h'
        rw [if_neg (by simp [hz])] at hrun
        refine ⟨(k + 1, (k : Int)), ⟨by omega, hrun⟩, by omega, by rw [wrap_i64 (by omega) (by omega)]; simp, ?_⟩
        have hset : grS 2 m.fs.length ob (rmB b1 b5 m m.fs.length ob k) = (grS 2 m.fs.length ob (rmB b1 b5 m m.fs.length ob kp)).set b5 [.slice .no (rws eC m.cs), grD 2 ob (rws eSg (sgsM m)), .int .i64 k] := by
          rw [grS_set, rmB, rmB, set_set, hfull]
        have hin : ∀ S : St, S = ((grS 2 m.fs.length ob (rmB b1 b5 m m.fs.length ob kp)).set b9 (eFn x)).set b5 [.slice .no (rws eC m.cs), grD 2 ob (rws eSg (sgsM m)), .int .i64 k] → ¬ S.has b10 := by
          rintro S rfl hin
          rw [set_has, set_has] at hin
          rcases hin with hin | hin | hin
          · exact q9 hin
          · exact q5 hin
          · exact hb10 hin
        rw [hset]
        have l1 := le_set (b := b5) (cs := [.slice .no (rws eC m.cs), grD 2 ob (rws eSg (sgsM m)), .int .i64 k]) (le_add (cs := eFn x) hb9)
        first
          | exact St.le.trans l1 (le_add (hin _ rfl))
          | (rw [set_set]; exact St.le.trans l1 (le_add (hin _ rfl)))
    have h3 : ((k : Int) < m.fs.length) = False := eq_false (by omega)
    obtain rfl : k = m.fs.length := by omega
    rw [List.drop_of_length_le (by omega), runM] at hrun
    rw [← hrun]
    simp -implicitDefEqProofs only [go_sem, hT, h3]
    exact DLe.refl _
theorem law9 (m : Md) (hw : WideM m) : PCall Tryz.prog 9 [.agg (eMd m)] (.bool true) := by
  refine F9.pcall' rfl fun T hT => ?_
  simp -implicitDefEqProofs only [go_sem, c9, hT, eMd_len, eMd_take]
  intro b1
  refine callB_pure (module37 m hw) ?_
  simp -implicitDefEqProofs only [go_sem, hT, eMd_len, eMd_take]
  intro b3 n1 n2
  refine callB_pure (module38 m hw) ?_
  simp -implicitDefEqProofs only [go_sem, hT, eMd_len, eMd_take, n1, n2]
  refine callB_pure (refModule39 m hw) ?_
  simp -implicitDefEqProofs only [go_sem, hT, eMd_len, eMd_take, n1, n2]
  refine callB_pure (sameModule40 m hw) ?_
  simp -implicitDefEqProofs only [go_sem, hT, eMd_len, eMd_take, n1, n2]
end Go.AL
namespace Go.AL
open Go.Proofs Go.ChangeShapes Go.WideShapes Go.ChangeAt Go.RowKit
open Go.Proofs.YtobmoajkfbigkaaGreat
theorem rws_of {α : Type} {enc : α → List D} : ∀ {es : List (List D)}, (∀ r ∈ es, ∃ x, r = enc x) → ∃ xs, es = rws enc xs
  | [], _ => ⟨[], rfl⟩
  | r :: es, h => by
    obtain ⟨x, rfl⟩ := h r (by simp)
    obtain ⟨xs, rfl⟩ := rws_of (es := es) (fun r hr => h r (by simp [hr]))
    exact ⟨x :: xs, rfl⟩
theorem wt_int {P : Program} {n : Nat} {t : TypeId} {k : IntKind} {ds : List D} (hu : P.underlying t = some (.int k)) (h : WT P n t ds) : ∃ z, ds = [.int k z] ∧ (Lit.int k z).wf = true := by
  cases n with
  | zero => exact h.elim
  | succ n => unfold WT at h; rw [hu] at h; exact h
theorem wt_slice {P : Program} {n : Nat} {t e : TypeId} {ds : List D} (hu : P.underlying t = some (.slice e)) (h : WT P (n + 1) t ds) : ∃ es, ds = [.slice .no es] ∧ es.length * P.bytesOf e ≤ reachBytes ∧ ∀ r ∈ es, WT P n e r := by
  unfold WT at h; rw [hu] at h; exact h
theorem wt_struct {P : Program} {n : Nat} {t : TypeId} {fs : Array Field} {ds : List D} (hu : P.underlying t = some (.struct fs)) (h : WT P (n + 1) t ds) : WTs (WT P n) (fs.toList.map (·.type)) ds := by
  unfold WT at h; rw [hu] at h; exact h
theorem wf_u8 {z : Int} (h : (Lit.int .u8 z).wf = true) : ∃ t : Ty, z = t.val := by
  simp [Lit.wf, IntKind.min, IntKind.max, IntKind.signed, IntKind.bits] at h
  exact ⟨⟨z.toNat, by omega⟩, by simp; omega⟩
theorem reach_eq : reachBytes = 140737488351232 := rfl
theorem wt22 {n : Nat} {ds : List D} (h : WT Tryz.prog (n + 1) 93 ds) : ∃ ts : List Ty, ds = [.slice .no (rws eT ts)] ∧ ts.length ≤ 140737488351232 := by
  obtain ⟨es, rfl, hl, hr⟩ := wt_slice Tryz.underlying93 h
  obtain ⟨ts, rfl⟩ := rws_of (enc := eT) (fun r hr' => by
    obtain ⟨z, rfl, hz⟩ := wt_int Tryz.underlying81 (hr r hr')
    obtain ⟨t, rfl⟩ := wf_u8 hz
    exact ⟨t, rfl⟩)
  have hb : Tryz.prog.bytesOf 81 = 1 := by kernel_rfl
  rw [hb, rws_len] at hl
  exact ⟨ts, rfl, by rw [reach_eq] at hl; omega⟩
theorem wt25 {n : Nat} {ds : List D} (h : WT Tryz.prog (n + 2) 95 ds) : ∃ s : Sg, ds = eSg s ∧ s.ps.length ≤ 140737488351232 := by
  obtain ⟨d1, d2, rfl, h1, d3, d4, rfl, h2, h3⟩ := wt_struct Tryz.underlying95 h
  obtain ⟨ts, rfl, hl⟩ := wt22 h1
  obtain ⟨z, rfl, hz⟩ := wt_int Tryz.underlying81 h2
  obtain ⟨t, rfl⟩ := wf_u8 hz
  obtain rfl : d4 = [] := h3
  exact ⟨⟨ts, t⟩, rfl, hl⟩
theorem wt_str {P : Program} {n : Nat} {t : TypeId} {ds : List D} (hu : P.underlying t = some .string) (h : WT P n t ds) : ∃ s : ByteArray, ds = [.str s] := by
  cases n with
  | zero => exact h.elim
  | succ n => unfold WT at h; rw [hu] at h; obtain ⟨s, hs, _⟩ := h; exact ⟨s, hs⟩
theorem rws_of' {α : Type} {enc : α → List D} {p : α → Prop} : ∀ {es : List (List D)}, (∀ r ∈ es, ∃ x, r = enc x ∧ p x) → ∃ xs, es = rws enc xs ∧ ∀ x ∈ xs, p x
  | [], _ => ⟨[], rfl, by simp⟩
  | r :: es, h => by
    obtain ⟨x, rfl, hx⟩ := h r (by simp)
    obtain ⟨xs, rfl, hxs⟩ := rws_of' (es := es) (fun r hr => h r (by simp [hr]))
    exact ⟨x :: xs, rfl, by simpa using ⟨hx, hxs⟩⟩
theorem wt110 {n : Nat} {ds : List D} (h : WT Tryz.prog (n + 2) 157 ds) : ∃ f : Fd, ds = eF f := by
  obtain ⟨d1, d2, rfl, h1, d3, d4, rfl, h2, h3⟩ := wt_struct Tryz.underlying157 h
  obtain ⟨s, rfl⟩ := wt_str Tryz.underlying9 h1
  obtain ⟨z, rfl, hz⟩ := wt_int Tryz.underlying81 h2
  obtain ⟨t, rfl⟩ := wf_u8 hz
  obtain rfl : d4 = [] := h3
  exact ⟨⟨s, t⟩, rfl⟩
theorem wt105 {n : Nat} {ds : List D} (h : WT Tryz.prog (n + 3) 152 ds) : ∃ fs : List Fd, ds = [.slice .no (rws eF fs)] ∧ fs.length * 24 ≤ 140737488351232 := by
  obtain ⟨es, rfl, hl, hr⟩ := wt_slice Tryz.underlying152 h
  obtain ⟨ts, rfl⟩ := rws_of (enc := eF) (fun r hr' => wt110 (hr r hr'))
  have hb : Tryz.prog.bytesOf 157 = 24 := by kernel_rfl
  rw [hb, rws_len] at hl
  exact ⟨ts, rfl, by rw [reach_eq] at hl; omega⟩
theorem wt107 {n : Nat} {ds : List D} (h : WT Tryz.prog (n + 4) 154 ds) : ∃ c : Cl, ds = eC c ∧ c.fields.length * 24 ≤ 140737488351232 := by
  obtain ⟨d1, d2, rfl, h1, d3, d4, rfl, h2, d5, d6, rfl, h3, h4⟩ := wt_struct Tryz.underlying154 h
  obtain ⟨s, rfl⟩ := wt_str Tryz.underlying9 h1
  obtain ⟨z, rfl, hz⟩ := wt_int Tryz.underlying3 h2
  obtain ⟨fs, rfl, hl⟩ := wt105 h3
  obtain rfl : d6 = [] := h4
  exact ⟨⟨s, z, fs⟩, rfl, hl⟩
theorem wt52 {n : Nat} {ds : List D} (h : WT Tryz.prog (n + 5) 22 ds) : ∃ l : List Cl, ds = [.slice .no (rws eC l)] ∧ Wide l := by
  obtain ⟨es, rfl, hl, hr⟩ := wt_slice Tryz.underlying22 h
  obtain ⟨l, rfl, hw⟩ := rws_of' (enc := eC) (fun r hr' => wt107 (hr r hr'))
  have hb : Tryz.prog.bytesOf 154 = 48 := by kernel_rfl
  rw [hb, rws_len] at hl
  exact ⟨l, rfl, by rw [reach_eq] at hl; omega, hw⟩
end Go.AL
namespace Go.AL
open Go.Proofs Go.ChangeShapes Go.WideShapes Go.ChangeAt Go.RowKit
theorem wt26b {n : Nat} {ds : List D} (h : WT Tryz.prog (n + 1) 26 ds) : ∃ ts : List Ty, ds = [.slice .no (rws eT ts)] ∧ ts.length ≤ 140737488351232 := by
  obtain ⟨es, rfl, hl, hr⟩ := wt_slice Tryz.underlying26 h
  obtain ⟨ts, rfl⟩ := rws_of (enc := eT) (fun r hr' => by
    obtain ⟨z, rfl, hz⟩ := wt_int Tryz.underlying5 (hr r hr')
    obtain ⟨t, rfl⟩ := wf_u8 hz
    exact ⟨t, rfl⟩)
  have hb : Tryz.prog.bytesOf 5 = 1 := by kernel_rfl
  rw [hb, rws_len] at hl
  exact ⟨ts, rfl, by rw [reach_eq] at hl; omega⟩
end Go.AL
namespace Go.AL
open Go.Proofs Go.ChangeShapes Go.WideShapes Go.ChangeAt Go.RowKit
theorem wt97 {n : Nat} {ds : List D} (h : WT Tryz.prog (n + 3) 97 ds) : ∃ f : Fn', ds = eFn f ∧ WideN f := by
  obtain ⟨d1, d2, rfl, h1, d3, d4, rfl, h2, d5, d6, rfl, h3, d7, d8, rfl, h4, h5⟩ := wt_struct Tryz.underlying97 h
  obtain ⟨s, rfl⟩ := wt_str Tryz.underlying9 h1
  obtain ⟨g, rfl, hg⟩ := wt25 h2
  obtain ⟨z, rfl, hz⟩ := wt_int Tryz.underlying3 h3
  obtain ⟨b, rfl, hb⟩ := wt26b h4
  obtain rfl : d8 = [] := h5
  exact ⟨⟨s, g, z, b⟩, rfl, hg, hb⟩
theorem wt71 {n : Nat} {ds : List D} (h : WT Tryz.prog (n + 4) 71 ds) : ∃ l : List Fn', ds = [.slice .no (rws eFn l)] ∧ l.length * 80 ≤ 140737488351232 ∧ ∀ f ∈ l, WideN f := by
  obtain ⟨es, rfl, hl, hr⟩ := wt_slice Tryz.underlying71 h
  obtain ⟨l, rfl, hw⟩ := rws_of' (enc := eFn) (fun r hr' => wt97 (hr r hr'))
  have hb : Tryz.prog.bytesOf 97 = 80 := by kernel_rfl
  rw [hb, rws_len] at hl
  exact ⟨l, rfl, by rw [reach_eq] at hl; omega, hw⟩
theorem wt72 {n : Nat} {ds : List D} (h : WT Tryz.prog (n + 2) 72 ds) : ∃ l : List (List Ty), ds = [.slice .no (rws eBy l)] ∧ l.length * 24 ≤ 140737488351232 ∧ ∀ c ∈ l, c.length ≤ 140737488351232 := by
  obtain ⟨es, rfl, hl, hr⟩ := wt_slice Tryz.underlying72 h
  obtain ⟨l, rfl, hw⟩ := rws_of' (enc := eBy) (fun r hr' => wt26b (hr r hr'))
  have hb : Tryz.prog.bytesOf 26 = 24 := by kernel_rfl
  rw [hb, rws_len] at hl
  exact ⟨l, rfl, by rw [reach_eq] at hl; omega, hw⟩
theorem wt74 {n : Nat} {ds : List D} (h : WT Tryz.prog (n + 6) 74 ds) : ∃ m : Md, ds = eMd m ∧ WideM m := by
  obtain ⟨d1, d2, rfl, h1, d3, d4, rfl, h2, d5, d6, rfl, h3, d7, d8, rfl, h4, h5⟩ := wt_struct Tryz.underlying74 h
  obtain ⟨s, rfl⟩ := wt_str Tryz.underlying9 h1
  obtain ⟨cs, rfl, hc⟩ := wt52 h2
  obtain ⟨fs, rfl, hf, hff⟩ := wt71 h3
  obtain ⟨cc, rfl, hg, hgg⟩ := wt72 h4
  obtain rfl : d8 = [] := h5
  exact ⟨⟨s, cs, fs, cc⟩, rfl, hc, hf, hff, hg, hgg⟩
end Go.AL
