import Derived.Test.YtobmoajkfbigkaaGreatKe
set_option linter.unusedSimpArgs false
set_option linter.unusedVariables false
set_option maxRecDepth 100000
set_option linter.defProp false
namespace Go.AL
open Go.Proofs
set_option maxHeartbeats 2000000 in
theorem check64 (l : List Cl) (o : Own) (hw : Wide l) : zf9 Tryz.prog 119 [.slice o (rws eC l)] (.tup [.int .i64 (checkL isWordB l).1, .int .i64 (checkL isWordB l).2]) := by
  have hw1 := hw.1
  refine F119.pcall' rfl fun T hT => ?_
  simp -implicitDefEqProofs only [go_sem, c119, hT]
  refine loopL F119 (fun i : Nat => [(0, .slice o (rws eC l)), (7, .slice o (rws eC l)), (8, .int .i64 l.length), (9, .int .i64 i)]) (fun _ => {}) (fun i => i ≤ l.length ∧ Right isWordB l i ∧ checkL isWordB l = checkFrom isWordB l (l.length - i) i) (fun i => l.length - i) 0
    ⟨Nat.zero_le _, fun i h h' => by omega, rfl⟩ ?_ (St.le.refl _) ?_
  · simp -implicitDefEqProofs only [go_sem, hT, Int.ofNat_zero]
  clear hT T
  rintro i ⟨hi, hr, heq⟩ T hT
  by_cases h : i < l.length
  · have h1 : ((i : Int) < l.length) = True := by simp; omega
    have hwc := hw.2 l[i] (by simp)
    rw [show l.length - i = (l.length - (i + 1)) + 1 by omega, checkFrom, dif_pos h] at heq
    have hf := fields104 l o i h hw hr
    have next : classErr isWordB l i l[i] = 0 → ∃ y : Nat, (y ≤ l.length ∧ Right isWordB l y ∧ checkL isWordB l = checkFrom isWordB l (l.length - y) y) ∧ l.length - y < l.length - i ∧ D.int .i64 (IntKind.wrap .i64 ((i : Int) + 1)) = D.int .i64 (y : Int) := fun he =>
      ⟨i + 1, ⟨by omega, fun j hj hj' => by
        rcases Nat.lt_or_eq_of_le (Nat.le_of_lt_succ hj') with hj' | rfl
        · exact hr j hj hj'
        · exact he, by rw [if_pos he] at heq; exact heq⟩, by omega, by rw [zb7 (by omega) (by omega)]; simp⟩
    have stop : ∀ e : Nat, e ≠ 0 → classErr isWordB l i l[i] = e → DLe (.tup [.int .i64 i, .int .i64 e]) (.tup [.int .i64 (checkL isWordB l).1, .int .i64 (checkL isWordB l).2]) := fun e h0 he => by
      rw [if_neg (by rw [he]; exact h0), he] at heq
      rw [heq]; exact DLe.refl _
    generalize hx : l[i] = x at *
    have hR : (rws eC l)[i]?.getD [] = eC x := by rw [rws_at h, hx]
    simp -implicitDefEqProofs only [go_sem, hT, h1, hR, eC, eC_len]
    refine ⟨by omega, fun b5 => ?_⟩
    by_cases h32 : 32 ≤ i
    · have h2 : ((32 : Int) ≤ i) = True := by simp; omega
      simp -implicitDefEqProofs only [go_sem, hT, h1, hR, eC, h2, za2]
      exact stop 4 (by decide) (by simp [classErr, h32])
    have h2 : ((32 : Int) ≤ i) = False := by simp; omega
    simp -implicitDefEqProofs only [go_sem, hT, h1, hR, eC, h2, za2]
    refine ⟨fun _ h => h, za4 (isName99 x.name) ?_⟩
    cases hN : isNameB x.name
    · simp -implicitDefEqProofs only [go_sem, hT, h1, eC, h2, za2]
      exact stop 6 (by decide) (by simp [classErr, h32, hN])
    simp -implicitDefEqProofs only [go_sem, hT, h1, eC, h2, za2]
    refine za4 words101 ?_
    simp -implicitDefEqProofs only [go_sem, hT, h1, eC, h2, za2]
    refine za4 (contains100 wordsL .no x.name (by decide)) ?_
    have hWe : hasN wordsL x.name = isWordB x.name := rfl
    rw [hWe]
    cases hW : isWordB x.name
    case true =>
      simp -implicitDefEqProofs only [go_sem, hT, h1, eC, h2, za2]
      exact stop 6 (by decide) (by simp [classErr, h32, hW])
    simp -implicitDefEqProofs only [go_sem, hT, h1, eC, h2, za2, rws_take]
    refine ⟨⟨by omega, by simp [rws, eC_len]⟩, ?_⟩
    have hpre : (l.take i).map (fun t : Cl => eC t) = rws eC (l.take i) := rfl
    refine callB_all (contFunc102 (l.take i) .no 156 [] [.ptr b5 0] (fun t => decide (t.name = x.name)) _ (by simp; omega) fun t _ => same103 t x b5 _ (by simp [St.set_box, eC])) ?_
    rintro d s' ⟨rfl, rfl⟩
    cases hA : (l.take i).any fun t => decide (t.name = x.name)
    case true =>
      simp -implicitDefEqProofs only [go_sem, hT, h1, eC, h2, za2]
      exact stop 20 (by decide) (by simp [classErr, h32, hN, hW, hA])
    have pre : ∀ e : Nat, (if x.parent < -1 ∨ (i : Int) ≤ x.parent then 21 else fieldsErr l.length (namesUp l x.parent) [] x.fields) = e → classErr isWordB l i x = e := fun e he => by
      rw [classErr, if_neg h32, if_neg (by simp [hN, hW]), if_neg (by simp [hA]), he]
    by_cases hp : x.parent < -1 ∨ (i : Int) ≤ x.parent
    · have hp' : (decide (x.parent < -1) || decide ((i : Int) ≤ x.parent)) = true := by simpa using hp
      simp -implicitDefEqProofs only [go_sem, mmB, hT, h1, eC, h2, za2, hp']
      exact stop 21 (by decide) (pre 21 (if_pos hp))
    have hp' : (decide (x.parent < -1) || decide ((i : Int) ≤ x.parent)) = false := by simpa using hp
    replace pre := fun e he => pre e ((if_neg hp).trans he)
    simp -implicitDefEqProofs only [go_sem, mmB, hT, h1, eC, h2, za2, hp']
    refine za4 (hf (by omega)) ?_
    by_cases he : fieldsErr l.length (namesUp l x.parent) [] x.fields = 0
    · simp -implicitDefEqProofs only [go_sem, mmB, hT, h1, he]
      obtain ⟨y, h1, h2, h3⟩ := next (pre 0 he)
      exact ⟨y, h1, h2, h3, St.le.nil _⟩
    · have h3 : (((fieldsErr l.length (namesUp l x.parent) [] x.fields : Nat) : Int) = 0) = False := by simp; omega
      simp -implicitDefEqProofs only [go_sem, mmB, hT, h1, h3]
      exact stop _ he (pre _ rfl)
  · have h1 : ((i : Int) < l.length) = False := by simp; omega
    rw [show l.length - i = 0 by omega, checkFrom] at heq
    simp -implicitDefEqProofs only [go_sem, hT, h1]
    rw [heq]
    exact DLe.refl _
open Go.Proofs
theorem clone98 (xs : List Fd) (o : Own) (h0 : nilOk o xs.length) (hl : xs.length * 24 ≤ 140737488355328) : zf9 Tryz.prog 89 [.slice o (rws eF xs)] (.slice .no (rws eF xs)) := by
  refine F89.pcall' rfl fun T hT => ?_
  simp -implicitDefEqProofs only [go_sem, c89, hT]
  intro r hr
  refine br_split (fun h => ?_) fun h => ?_
  · exact DLe_nils (nilR_nil hr h fun h => by simpa [rws_nil] using h0 h)
  · simp -implicitDefEqProofs only [go_sem, hT, rws_one eF_len, rws_nil, hl]
    rintro rfl
    exact DLe_nils rfl
open Go.Proofs
theorem classes63 (l : List Cl) (o : Own) (hw : Wide l) : zf9 Tryz.prog 56 [.slice o (rws eC l)] (.slice .no (rws eC l)) := by
  have hw1 := hw.1
  refine F56.pcall' rfl fun T hT => ?_
  simp -implicitDefEqProofs only [go_sem, c56, hT]
  refine loopL F56 (fun x : Nat × Option Nat => [(3, grD 3 x.2 (rws eC (l.take x.1))), (6, .slice o (rws eC l)), (7, .int .i64 l.length), (8, .int .i64 x.1)]) (fun x => grS 3 x.1 x.2 {}) (fun x => x.1 ≤ l.length ∧ (x.2 = none → x.1 = 0)) (fun x => l.length - x.1) (0, none)
    ⟨Nat.zero_le _, fun _ => rfl⟩ ?_ (St.le.refl _) ?_
  · simp -implicitDefEqProofs only [go_sem, hT, Int.ofNat_zero]
    rfl
  clear hT T
  rintro ⟨i, ob⟩ ⟨hi, hok⟩ T hT
  simp only at hi hok hT ⊢
  by_cases h : i < l.length
  · have h1 : ((i : Int) < l.length) = True := by simp; omega
    have hwf := hw.2 l[i] (by simp)
    have htake : l.take (i + 1) = l.take i ++ [l[i]] := List.take_succ_eq_append_getElem h
    have hR : (rws eC l)[i]?.getD [] = eC l[i] := rws_at h
    generalize l[i] = x at *
    have htl : (l.take i).length = i := by simp; omega
    simp -implicitDefEqProofs only [go_sem, hT, h1, hR, eC, eC_len]
    refine ⟨by omega, fun b hb => ?_⟩
    simp -implicitDefEqProofs only [go_sem, hT, eC, za2]
    refine za4 (clone98 x.fields .no (by simp [nilOk]) (by omega)) ?_
    simp -implicitDefEqProofs only [go_sem, hT, eC, za2, frz]
    refine app_gr' Tryz.sli22 Tryz.sz154 Tryz.by154 Tryz.zero154 rfl (n := i) (m := 1) (base := {}) (by rw [za0, htl]) rfl (le_add hb) grN_nil hok (by simp) (by omega) fun o' σ' hbox hle _ hno => ?_
    simp -implicitDefEqProofs only [go_sem, hT]
    refine ⟨(i + 1, o'), ⟨by omega, by simpa using hno⟩, by omega, ⟨?_, ?_⟩, hle⟩
    · rw [htake]; simp [rws, eC]
    · rw [zb7 (by omega) (by omega)]; simp
  · have h1 : ((i : Int) < l.length) = False := by simp; omega
    simp -implicitDefEqProofs only [go_sem, hT, h1]
    rw [List.take_of_length_le (by omega)]
    exact grD_le
open Go.Proofs
structure En where
  cs : List Cl
  sgs : List Sg
  fn : Int
  deriving DecidableEq
def eEn (e : En) : List D := [.slice .no (rws eC e.cs), .slice .no (rws eSg e.sgs), .int .i64 e.fn]
theorem zb2 (e : En) : (eEn e).length = 3 := rfl
def WideE (e : En) : Prop := Wide e.cs ∧ e.sgs.length * 32 ≤ 140737488351232 ∧ ∀ s ∈ e.sgs, s.ps.length ≤ 140737488351232
def envB (b1 b2 b3 : Nat) (e : En) (i : Nat) (ob : Option Nat) : St := ((({} : St).set b1 (eEn e)).set b2 [.slice .nil [], .slice .nil [], .int .i64 0]).set b3 [.slice .no (rws eC e.cs), grD 2 ob (rws eSg (e.sgs.take i)), .int .i64 e.fn]
def envS (b1 b2 b3 : Nat) (e : En) (i : Nat) (ob : Option Nat) : St := grS 2 i ob (envB b1 b2 b3 e i ob)
theorem envS_3 {b1 b2 b3 : Nat} {e : En} {i : Nat} {ob : Option Nat} : (envS b1 b2 b3 e i ob).box b3 = some [.slice .no (rws eC e.cs), grD 2 ob (rws eSg (e.sgs.take i)), .int .i64 e.fn] := by simp [envS, envB, grS_boxa, St.set_box]
theorem envS_2 {b1 b2 b3 : Nat} {e : En} {i : Nat} {ob : Option Nat} (h : b2 ≠ b3) : (envS b1 b2 b3 e i ob).box b2 = some [.slice .nil [], .slice .nil [], .int .i64 0] := by simp [envS, envB, grS_boxa, St.set_box, h]
theorem env30 (e : En) (hw : WideE e) : zf9 Tryz.prog 16 [.agg (eEn e)] (.agg (eEn e)) := by
  obtain ⟨hw1, hw2, hw3⟩ := hw
  refine F16.pcall' rfl fun T hT => ?_
  simp -implicitDefEqProofs only [go_sem, c16, hT, eEn]
  intro b1 b2 h1 h2
  have hne : ¬ b1 = b2 := h2
  simp -implicitDefEqProofs only [go_sem, hT, eEn, h1, h2]
  refine ⟨by rintro b rfl; simp, za4 (classes63 e.cs .no hw1) ?_⟩
  simp -implicitDefEqProofs only [go_sem, hT, eEn, h1, h2]
  intro b3 n1 n2 n3 n4
  simp -implicitDefEqProofs only [go_sem, hT, eEn, h1, h2, n1, n2, n3, n4, za2]
  refine loopL F16 (fun x : Nat × Option Nat => [(2, .ptr b2 0), (3, .ptr b3 0), (13, .slice .no (rws eSg e.sgs)), (14, .int .i64 e.sgs.length), (15, .int .i64 x.1)]) (fun x => envS b1 b2 b3 e x.1 x.2)
    (fun x => x.1 ≤ e.sgs.length ∧ (x.2 = none → x.1 = 0) ∧ grN x.2 (envB b1 b2 b3 e x.1 x.2)) (fun x => e.sgs.length - x.1) (0, none)
    ⟨Nat.zero_le _, fun _ => rfl, grN_none⟩ ?_ (St.le.refl _) ?_
  · simp -implicitDefEqProofs only [go_sem, hT, Int.ofNat_zero]
  clear hT T
  rintro ⟨i, ob⟩ ⟨hi, hok, hgr⟩ T hT
  simp only at hi hok hgr hT ⊢
  by_cases h : i < e.sgs.length
  · have h3 : ((i : Int) < e.sgs.length) = True := by simp; omega
    have hwf := hw3 e.sgs[i] (by simp)
    have htake : e.sgs.take (i + 1) = e.sgs.take i ++ [e.sgs[i]] := List.take_succ_eq_append_getElem h
    have hR : (rws eSg e.sgs)[i]?.getD [] = eSg e.sgs[i] := rws_at h
    have htl : (e.sgs.take i).length = i := by simp; omega
    generalize e.sgs[i] = x at *
    simp -implicitDefEqProofs only [go_sem, hT, h3, hR, eSg]
    refine ⟨by omega, fun b5 hb5 => ?_⟩
    have f3 : ¬ b3 = b5 := fun he => by subst he; exact hb5 (.inl (by rw [envS_3]; simp))
    simp -implicitDefEqProofs only [go_sem, hT, f3, envS_3, za2, eSg]
    refine ⟨by rintro b rfl; simp [envS_3], ?_⟩
    refine za4 (sig11 x (by omega)) ?_
    simp -implicitDefEqProofs only [go_sem, hT, f3, envS_3, za2, eSg, frz]
    refine app_gr' Tryz.sli23 Tryz.sz95 Tryz.by95 Tryz.zero95 rfl (n := i) (m := 1) (base := envB b1 b2 b3 e i ob) (by rw [za0, htl]) rfl (le_add hb5) hgr hok (by simp) (by omega) fun o' σ' hbox hle hn hno => ?_
    simp -implicitDefEqProofs only [go_sem, hT, hbox, f3, envS_3, za2]
    have hle' := le_set (b := b3) (cs := [.slice .no (rws eC e.cs), grD 2 o' (rws eSg (e.sgs.take i) ++ [[.slice .no (rws eT x.ps), .int .u8 x.r.val]]), .int .i64 e.fn]) hle
    rw [grS_set, envB, za2] at hle'
    have happ : rws eSg (e.sgs.take i) ++ [[.slice .no (rws eT x.ps), .int .u8 x.r.val]] = rws eSg (e.sgs.take (i + 1)) := by rw [htake]; simp [rws, eSg]
    rw [happ] at hle' ⊢
    refine ⟨(i + 1, o'), ⟨by omega, by simpa using hno, fun b hb hin => hn b hb ?_⟩, by omega, ?_, hle'⟩
    · simp only [envB, has_set] at hin ⊢; exact hin
    · rw [zb7 (by omega) (by omega)]; simp
  · have h3 : ((i : Int) < e.sgs.length) = False := by simp; omega
    have hne2 : b2 ≠ b3 := n2
    simp -implicitDefEqProofs only [go_sem, hT, h3, envS_3, envS_2 hne2]
    rw [List.take_of_length_le (by omega)]
    exact DLe.agg (.cons (.refl _) (.cons grD_le (.cons (.refl _) .nil)))
open Go.Proofs
theorem za3 {P : Program} {T : Env} {σ : St} {a : Nat} {t : TypeId} {rs : List ResultVar} : resMany P T σ (.cell a t :: rs) = (match resC P t σ (T a) with | some d => (resMany P T σ rs).map (d :: ·) | none => none) := by
  simp only [resMany, resOne, resC]
  cases T a <;> simp
  rename_i b off
  cases σ.box b <;> simp
  rename_i cs
  cases partD P t (cs.drop off) 0 <;> simp
  cases resMany P T σ rs <;> rfl
structure Fr where
  loc : Int
  h : Int
  sl : Vector Ty 24
  deriving DecidableEq
def eFr (f : Fr) : List D := .int .i64 f.loc :: .int .i64 f.h :: f.sl.toList.map fun t => .int .u8 (t.val : Int)
theorem za6 (f : Fr) : (eFr f).length = 26 := by simp [eFr]
def fr0 (n : Int) : Fr := ⟨n, 0, Vector.replicate 24 0⟩
def slOf (ts : List Ty) : Vector Ty 24 := Vector.ofFn fun i => (ts[i.val]?).getD 0
theorem za5 (f : Fr) : (eFr f).take 26 = eFr f := List.take_of_length_le (by rw [za6]; exact Nat.le_refl _)
theorem za7 (f : Fr) : (eFr f).drop 26 = [] := List.drop_eq_nil_of_le (by rw [za6]; exact Nat.le_refl _)
theorem fr_set {f : Fr} {i : Nat} (h : i < 24) {t : Ty} : (eFr f).take (2 + i) ++ [D.int .u8 (t.val : Int)] ++ (eFr f).drop (2 + i + 1) = eFr ⟨f.loc, f.h, f.sl.set i t⟩ := by
  simp only [eFr]
  rw [show 2 + i = i + 1 + 1 by omega]
  simp only [List.take_succ_cons, List.drop_succ_cons, List.cons_append]
  congr 2
  simp only [Vector.toList_set, List.map_set]
  rw [List.set_eq_take_append_cons_drop, if_pos (by simpa using h)]
  simp
theorem slOf_set {ts : List Ty} {i : Nat} (hi : i < ts.length) (h : i < 24) : (slOf (ts.take i)).set i ts[i] = slOf (ts.take (i + 1)) := by
  apply Vector.ext
  intro j hj
  simp only [slOf, Vector.getElem_set, Vector.getElem_ofFn]
  split
  · rename_i he; subst he; simp [List.getElem?_take, hi]
  · rename_i he
    by_cases hlt : j < i
    · simp [List.getElem?_take, hlt, show j < i + 1 by omega]
    · simp [List.getElem?_take, hlt, show ¬ j < i + 1 by omega]
theorem slOf_nil : slOf [] = Vector.replicate 24 0 := by
  apply Vector.ext
  intro j hj
  simp [slOf]
def emptyF (n : Int) : Fr × Nat := if n < 0 ∨ 16 < n then (fr0 0, 1) else (fr0 n, 0)
theorem empty107 (n : Int) : zf9 Tryz.prog 140 [.int .i64 n] (.tup [.agg (eFr (emptyF n).1), .int .i64 (emptyF n).2]) := by
  refine F140.pcall' rfl fun T hT => ?_
  by_cases h : n < 0 ∨ 16 < n
  · have hc : (decide (n < 0) || decide (16 < n)) = true := by simpa using h
    simp -implicitDefEqProofs only [go_sem, mmB, c140, hT, hc, za2, za3]
    rw [emptyF, if_pos h]
    exact DLe.of_eq rfl
  · have hc : (decide (n < 0) || decide (16 < n)) = false := by simpa using h
    simp -implicitDefEqProofs only [go_sem, mmB, c140, hT, hc, za2, za3]
    rw [emptyF, if_neg h]
    exact DLe.of_eq rfl
theorem refEmpty110 (n : Int) : zf9 Tryz.prog 104 [.int .i64 n] (.tup [.agg (eFr (emptyF n).1), .int .i64 (emptyF n).2]) := by
  refine F104.pcall' rfl fun T hT => ?_
  by_cases h : n < 0 ∨ 16 < n
  · have hc : (decide (n < 0) || decide (16 < n)) = true := by simpa using h
    simp -implicitDefEqProofs only [go_sem, mmB, c104, hT, hc, za2, za3]
    rw [emptyF, if_pos h]
    exact DLe.of_eq rfl
  · have hc : (decide (n < 0) || decide (16 < n)) = false := by simpa using h
    simp -implicitDefEqProofs only [go_sem, mmB, c104, hT, hc, za2, za3]
    rw [emptyF, if_neg h]
    exact DLe.of_eq rfl
def startF (c : Nat) (ts : List Ty) (n : Int) : Fr × Nat := if n < 0 ∨ 16 < n ∨ 8 < ts.length ∨ n < ts.length ∨ (ts.any fun t => !storedN c t) = true then (fr0 0, 1) else (⟨n, 0, slOf ts⟩, 0)
def bYcaY0 := aI @za2 (aI @za3 (aI @za6 (aI @za7 @Int.ofNat_zero)))
def bYcaY1 := aI @za2 (aI @za3 (aI @za6 (aI @za7 @za5)))
theorem start68 (l : List Cl) (o o2 : Own) (ts : List Ty) (n : Int) (hl : ts.length ≤ 140737488355328) : zf9 Tryz.prog 97 [.slice o (rws eC l), .slice o2 (rws eT ts), .int .i64 n] (.tup [.agg (eFr (startF l.length ts n).1), .int .i64 (startF l.length ts n).2]) := by
  refine F97.pcall' rfl fun T hT => ?_
  simp -implicitDefEqProofs only [go_sem, c97, hT]
  intro b6
  refine za4 (empty107 n) ?_
  by_cases h : n < 0 ∨ 16 < n
  · rw [startF, if_pos (h.elim (fun h => .inl h) fun h => .inr (.inl h)), emptyF, if_pos h]
    simp -implicitDefEqProofs only [go_sem, hT, za6]
    intro b8 n1 n2
    simp -implicitDefEqProofs only [go_sem, hT, za2, n1, n2, za3, za6, za7, Int.ofNat_one]
    exact DLe.of_eq rfl
  rw [emptyF, if_neg h]
  simp -implicitDefEqProofs only [go_sem, hT, za6]
  intro b8 n1 n2
  by_cases h8 : (8 : Int) < ts.length
  · rw [startF, if_pos (.inr (.inr (.inl (by omega))))]
    simp -implicitDefEqProofs only [go_sem, hT, n1, n2, h8, bYcaY0]
    exact DLe.of_eq rfl
  by_cases hn : n < ts.length
  · rw [startF, if_pos (.inr (.inr (.inr (.inl (by omega)))))]
    simp -implicitDefEqProofs only [go_sem, hT, n1, n2, h8, hn, bYcaY0]
    exact DLe.of_eq rfl
  have hs : startF l.length ts n = if (ts.any fun t => !storedN l.length t) = true then (fr0 0, 1) else (⟨n, 0, slOf ts⟩, 0) := by
    cases ha : ts.any fun t => !storedN l.length t
    · rw [startF, ha, if_neg (by simp; omega)]; rfl
    · rw [startF, ha, if_pos (.inr (.inr (.inr (.inr rfl))))]; rfl
  simp -implicitDefEqProofs only [go_sem, hT, n1, n2, h8, hn, bYcaY0]
  generalize hz : (D.int .i64 0 :: D.int .i64 0 :: _ : List D) = z0
  refine loopL F97 (fun i : Nat => [(0, .slice o (rws eC l)), (6, .ptr b6 0), (8, .ptr b8 0), (31, .slice o2 (rws eT ts)), (32, .int .i64 ts.length), (33, .int .i64 i)]) (fun i => (({} : St).set b6 z0).set b8 (eFr ⟨n, 0, slOf (ts.take i)⟩))
    (fun i => i ≤ ts.length ∧ (ts.take i).any (fun t => !storedN l.length t) = false) (fun i => ts.length - i) 0 ⟨Nat.zero_le _, rfl⟩ ?_ ?_ ?_
  · simp -implicitDefEqProofs only [go_sem, hT, Int.ofNat_zero]
  · rw [List.take_zero, slOf_nil]; exact St.le.refl _
  clear hT T
  rintro i ⟨hi, hok⟩ T hT
  have hz26 : z0.length = 26 := by rw [← hz]; rfl
  have hzd : z0.drop 26 = [] := List.drop_eq_nil_of_le (by omega)
  by_cases h2 : i < ts.length
  · have h3 : ((i : Int) < ts.length) = True := by simp; omega
    have htake : ts.take (i + 1) = ts.take i ++ [ts[i]] := List.take_succ_eq_append_getElem h2
    have hR : (rws eT ts)[i]?.getD [] = eT ts[i] := rws_at h2
    have hset := slOf_set h2 (show i < 24 by omega)
    have hin : ts[i] ∈ ts := by simp
    generalize ts[i] = t at *
    simp -implicitDefEqProofs only [go_sem, hT, h3, hR, eT, eT_len, za2, n1, n2, za3, za6, za7, za5, hz26, hzd]
    refine ⟨by omega, ?_⟩
    refine za4 (valid105 l o t) ?_
    have hsv : storedN l.length t = (validN l.length t && decide (t.val ≠ 0 ∧ t.val ≠ 3)) := rfl
    cases hv : validN l.length t
    · have hst : storedN l.length t = false := by rw [hsv, hv]; rfl
      simp -implicitDefEqProofs only [go_sem, hT, n1, n2, hz26, hzd, bYcaY1]
      rw [hs, if_pos (List.any_eq_true.2 ⟨t, hin, by simp [hst]⟩)]
      exact DLe.of_eq rfl
    by_cases h0 : (t.val : Int) = 0
    · have hst : storedN l.length t = false := by rw [hsv, hv]; simp; omega
      simp -implicitDefEqProofs only [go_sem, hT, h0, n1, n2, hz26, hzd, bYcaY1]
      rw [hs, if_pos (List.any_eq_true.2 ⟨t, hin, by simp [hst]⟩)]
      exact DLe.of_eq rfl
    by_cases h1 : (t.val : Int) = 3
    · have hst : storedN l.length t = false := by rw [hsv, hv]; simp; omega
      simp -implicitDefEqProofs only [go_sem, hT, h0, h1, n1, n2, hz26, hzd, bYcaY1]
      rw [hs, if_pos (List.any_eq_true.2 ⟨t, hin, by simp [hst]⟩)]
      exact DLe.of_eq rfl
    · have hst : storedN l.length t = true := by rw [hsv, hv]; simp; omega
      simp -implicitDefEqProofs only [go_sem, hT, h0, h1, n1, n2, hz26, hzd, Nat.mul_one, fr_set (f := ⟨n, 0, slOf (ts.take i)⟩) (i := i) (by omega), bYcaY1]
      refine ⟨by omega, by omega, ?_⟩
      refine ⟨i + 1, ⟨by omega, ?_⟩, by omega, ?_, ?_⟩
      · rw [htake, List.any_append, hok]; simp [hst]
      · rw [zb7 (by omega) (by omega)]; simp
      · rw [hset]; exact St.le.refl _
  · have h3 : ((i : Int) < ts.length) = False := by simp; omega
    rw [List.take_of_length_le (by omega)] at hok
    simp -implicitDefEqProofs only [go_sem, hT, h3, za2, n1, n2, za3, za6, za7, za5, hz26, hzd, Int.ofNat_zero, List.take_of_length_le (show ts.length ≤ i by omega)]
    rw [hs, hok]
    exact DLe.of_eq rfl
theorem refStart71 (l : List Cl) (o o2 : Own) (ts : List Ty) (n : Int) (hl : ts.length ≤ 140737488355328) : zf9 Tryz.prog 60 [.slice o (rws eC l), .slice o2 (rws eT ts), .int .i64 n] (.tup [.agg (eFr (startF l.length ts n).1), .int .i64 (startF l.length ts n).2]) := by
  refine F60.pcall' rfl fun T hT => ?_
  simp -implicitDefEqProofs only [go_sem, c60, hT]
  intro b6
  refine za4 (refEmpty110 n) ?_
  by_cases h : n < 0 ∨ 16 < n
  · rw [startF, if_pos (h.elim (fun h => .inl h) fun h => .inr (.inl h)), emptyF, if_pos h]
    simp -implicitDefEqProofs only [go_sem, hT, za6]
    intro b8 n1 n2
    simp -implicitDefEqProofs only [go_sem, hT, za2, n1, n2, za3, za6, za7, Int.ofNat_one]
    exact DLe.of_eq rfl
  rw [emptyF, if_neg h]
  simp -implicitDefEqProofs only [go_sem, hT, za6]
  intro b8 n1 n2
  by_cases h8 : (8 : Int) < ts.length
  · rw [startF, if_pos (.inr (.inr (.inl (by omega))))]
    simp -implicitDefEqProofs only [go_sem, hT, n1, n2, h8, bYcaY0]
    exact DLe.of_eq rfl
  by_cases hn : n < ts.length
  · rw [startF, if_pos (.inr (.inr (.inr (.inl (by omega)))))]
    simp -implicitDefEqProofs only [go_sem, hT, n1, n2, h8, hn, bYcaY0]
    exact DLe.of_eq rfl
  have hs : startF l.length ts n = if (ts.any fun t => !storedN l.length t) = true then (fr0 0, 1) else (⟨n, 0, slOf ts⟩, 0) := by
    cases ha : ts.any fun t => !storedN l.length t
    · rw [startF, ha, if_neg (by simp; omega)]; rfl
    · rw [startF, ha, if_pos (.inr (.inr (.inr (.inr rfl))))]; rfl
  simp -implicitDefEqProofs only [go_sem, hT, n1, n2, h8, hn, bYcaY0]
  generalize hz : (D.int .i64 0 :: D.int .i64 0 :: _ : List D) = z0
  refine loopL F60 (fun i : Nat => [(0, .slice o (rws eC l)), (6, .ptr b6 0), (8, .ptr b8 0), (31, .slice o2 (rws eT ts)), (32, .int .i64 ts.length), (33, .int .i64 i)]) (fun i => (({} : St).set b6 z0).set b8 (eFr ⟨n, 0, slOf (ts.take i)⟩))
    (fun i => i ≤ ts.length ∧ (ts.take i).any (fun t => !storedN l.length t) = false) (fun i => ts.length - i) 0 ⟨Nat.zero_le _, rfl⟩ ?_ ?_ ?_
  · simp -implicitDefEqProofs only [go_sem, hT, Int.ofNat_zero]
  · rw [List.take_zero, slOf_nil]; exact St.le.refl _
  clear hT T
  rintro i ⟨hi, hok⟩ T hT
  have hz26 : z0.length = 26 := by rw [← hz]; rfl
  have hzd : z0.drop 26 = [] := List.drop_eq_nil_of_le (by omega)
  by_cases h2 : i < ts.length
  · have h3 : ((i : Int) < ts.length) = True := by simp; omega
    have htake : ts.take (i + 1) = ts.take i ++ [ts[i]] := List.take_succ_eq_append_getElem h2
    have hR : (rws eT ts)[i]?.getD [] = eT ts[i] := rws_at h2
    have hset := slOf_set h2 (show i < 24 by omega)
    have hin : ts[i] ∈ ts := by simp
    generalize ts[i] = t at *
    simp -implicitDefEqProofs only [go_sem, hT, h3, hR, eT, eT_len, za2, n1, n2, za3, za6, za7, za5, hz26, hzd]
    refine ⟨by omega, ?_⟩
    refine za4 (refStored111 l o t) ?_
    cases hst : storedN l.length t
    · simp -implicitDefEqProofs only [go_sem, hT, n1, n2, hz26, hzd, bYcaY1]
      rw [hs, if_pos (List.any_eq_true.2 ⟨t, hin, by simp [hst]⟩)]
      exact DLe.of_eq rfl
    · simp -implicitDefEqProofs only [go_sem, hT, n1, n2, hz26, hzd, Nat.mul_one, fr_set (f := ⟨n, 0, slOf (ts.take i)⟩) (i := i) (by omega), bYcaY1]
      refine ⟨by omega, by omega, ?_⟩
      refine ⟨i + 1, ⟨by omega, ?_⟩, by omega, ?_, ?_⟩
      · rw [htake, List.any_append, hok]; simp [hst]
      · rw [zb7 (by omega) (by omega)]; simp
      · rw [hset]; exact St.le.refl _
  · have h3 : ((i : Int) < ts.length) = False := by simp; omega
    rw [List.take_of_length_le (by omega)] at hok
    simp -implicitDefEqProofs only [go_sem, hT, h3, za2, n1, n2, za3, za6, za7, za5, hz26, hzd, Int.ofNat_zero, List.take_of_length_le (show ts.length ≤ i by omega)]
    rw [hs, hok]
    exact DLe.of_eq rfl
open Go.Proofs
def c172 : AC :=
.seq (rg [oO 1 (.box 25 (tT 0)), oO 2 (.assign (.const (.bool false)))])
 (.seq (rg [oO 11 (.fieldAddr 25 (tT 1) 0), oO 12 (.load 22 (tT 11)), oO 13 (cF (.func 119) #[tT 12] #[22]), oO 10 (.move (tT 13)), oO 14 (.extract (tT 10) 0), oO 15 (.extract (tT 10) 1), oO 3 (.assign (tT 14)), oO 4 (.assign (tT 15))])
 (.seq (.seq (rg [oO 16 (.move (tT 4)), oO 17 (.binOp .neq 32 (tT 16) (kI 0) 32), oO 18 (.move (tT 17)), oG 19 (.fieldAddr 25 (tT 1) 1) 18 false, oG 20 (.load 23 (tT 19)) 18 false, oG 21 (cB .len #[tT 20] #[23]) 18 false, oG 22 (.binOp .gtr 3 (tT 21) (kI 64) 3) 18 false, oO 23 (.pick (tT 18) (.const (.bool true)) (tT 22)), oO 24 (.move (tT 23)), oG 25 (.fieldAddr 25 (tT 1) 2) 24 false, oG 26 (.load 3 (tT 25)) 24 false, oG 27 (.binOp .lss 3 (tT 26) (kI 0) 3) 24 false, oO 28 (.pick (tT 24) (.const (.bool true)) (tT 27)), oO 29 (.move (tT 28)), oG 30 (.fieldAddr 25 (tT 1) 2) 29 false, oG 31 (.load 3 (tT 30)) 29 false, oG 32 (.fieldAddr 25 (tT 1) 1) 29 false, oG 33 (.load 23 (tT 32)) 29 false, oG 34 (cB .len #[tT 33] #[23]) 29 false, oG 35 (.binOp .geq 3 (tT 31) (tT 34) 3) 29 false, oO 36 (.pick (tT 29) (.const (.bool true)) (tT 35))])
 (.cond (tT 36) (.seq (rg [oO 2 (.assign (.const (.bool false)))])
 (.ret))
 (.skip)))
 (.seq (rg [oO 37 (.makeFunc (.func 208) #[] #[tT 1]), oO 5 (.assign (tT 37))])
 (.seq (.seq (rg [oO 38 (.fieldAddr 25 (tT 1) 1), oO 39 (.load 23 (tT 38)), oO 40 (cB .len #[tT 39] #[23]), oO 41 (.move (kI 0))])
 (.block 0 (.loop (.seq (rg [oO 42 (.binOp .lss 3 (tT 41) (tT 40) 3)])
 (.seq (.cond (tT 42) (.skip)
 (.exit 0))
 (.seq (.block 1 (.seq (rg [oO 43 (.indexAddr 23 (tT 39) (tT 41)), oO 44 (.load 95 (tT 43)), oO 7 (.alloc 95), oN (.store 95 (tT 7) (tT 44))])
 (.seq (.seq (rg [oO 45 (.fieldAddr 95 (tT 7) 0), oO 46 (.load 93 (tT 45)), oO 47 (cB .len #[tT 46] #[93]), oO 48 (.binOp .gtr 3 (tT 47) (kI 8) 3), oO 49 (.move (tT 48)), oG 50 (.fieldAddr 95 (tT 7) 1) 49 false, oG 51 (.load 81 (tT 50)) 49 false, oG 52 (.binOp .neq 81 (tT 51) (kB 0) 81) 49 false, oG 53 (.move (tT 52)) 49 false, oG 54 (.move (tT 5)) 53 true, oG 55 (.fieldAddr 95 (tT 7) 1) 53 true, oG 56 (.load 81 (tT 55)) 53 true, oG 57 (cF (tT 54) #[tT 56] #[81]) 53 true, oG 58 (.unOp .not 4 (tT 57)) 53 true, oG 59 (.pick (tT 53) (tT 58) (.const (.bool false))) 49 false, oO 60 (.pick (tT 49) (.const (.bool true)) (tT 59))])
 (.cond (tT 60) (.seq (rg [oO 2 (.assign (.const (.bool false)))])
 (.ret))
 (.skip)))
 (.seq (rg [oO 61 (.fieldAddr 95 (tT 7) 0), oO 62 (.load 93 (tT 61)), oO 63 (cB .len #[tT 62] #[93]), oO 64 (.move (kI 0))])
 (.block 2 (.loop (.seq (rg [oO 65 (.binOp .lss 3 (tT 64) (tT 63) 3)])
 (.seq (.cond (tT 65) (.skip)
 (.exit 2))
 (.seq (.block 3 (.seq (rg [oO 66 (.indexAddr 93 (tT 62) (tT 64)), oO 67 (.load 81 (tT 66)), oO 9 (.assign (tT 67))])
 (.seq (rg [oO 68 (.move (tT 5)), oO 69 (.move (tT 9)), oO 70 (cF (tT 68) #[tT 69] #[81]), oO 71 (.unOp .not 4 (tT 70))])
 (.cond (tT 71) (.seq (rg [oO 2 (.assign (.const (.bool false)))])
 (.ret))
 (.skip)))))
 (rg [oO 72 (.binOp .add 3 (tT 64) (kI 1) 3), oO 64 (.move (tT 72))]))))))))))
 (rg [oO 73 (.binOp .add 3 (tT 41) (kI 1) 3), oO 41 (.move (tT 73))])))))))
 (.seq (rg [oO 2 (.assign (.const (.bool true)))])
 .ret)))))
theorem F172 : Fun1 Tryz.prog 172 74 c172 [.tmp 2] := mkT Tryz.func172 rfl (by decide +kernel) Tryz.ntmps172 rfl (by kernel_rfl) rfl
def c208 : AC :=
.seq (rg [oO 3 (.assign (.const (.bool false)))])
 (.seq (rg [oO 4 (.fieldAddr 25 (tT 1) 0), oO 5 (.load 22 (tT 4)), oO 6 (.move (tT 0)), oO 7 (cF (.func 139) #[tT 5, tT 6] #[22, 81]), oO 8 (.move (tT 7)), oG 9 (.move (tT 0)) 8 true, oG 10 (.binOp .neq 81 (tT 9) (kB 0) 81) 8 true, oO 11 (.pick (tT 8) (tT 10) (.const (.bool false))), oO 12 (.move (tT 11)), oG 13 (.move (tT 0)) 12 true, oG 14 (.binOp .neq 81 (tT 13) (kB 3) 81) 12 true, oO 15 (.pick (tT 12) (tT 14) (.const (.bool false))), oO 3 (.assign (tT 15))])
 .ret)
theorem F208 : Fun1 Tryz.prog 208 16 c208 [.tmp 3] := mkT Tryz.func208 rfl (by decide +kernel) Tryz.ntmps208 rfl (by kernel_rfl) rfl
def c173 : AC :=
.seq (rg [oO 2 (.box 25 (tT 0)), oO 3 (.box 38 (tT 1)), oO 4 (.alloc 229), oO 5 (.assign (kI 0))])
 (.seq (.seq (rg [oO 6 (.fieldAddr 38 (tT 3) 1), oO 7 (.load 5 (tT 6)), oO 8 (cF (.func 84) #[tT 7] #[5]), oO 9 (.binOp .eql 3 (tT 8) (kI 0) 3)])
 (.cond (tT 9) (.seq (rg [oO 10 (.build 229 #[]), oN (.store 229 (tT 4) (tT 10)), oO 5 (.assign (kI 40))])
 (.ret))
 (.skip)))
 (.seq (.seq (.reg true [3, 2] [⟨⟨some 11, cF (.func 209) #[] #[], none⟩, false, true⟩, ⟨⟨some 12, .fieldAddr 38 (tT 3) 1, none⟩, true, true⟩, ⟨⟨some 13, .load 5 (tT 12), none⟩, true, true⟩, ⟨⟨some 14, .index 262 (tT 11) (tT 13), none⟩, false, true⟩, ⟨⟨some 15, .load 25 (tT 2), none⟩, true, true⟩, ⟨⟨some 16, .load 38 (tT 3), none⟩, true, false⟩])
 (rg [oO 17 (cF (tT 14) #[tT 15, tT 16] #[25, 38]), ⟨⟨some 18, .extract (tT 17) 0, none⟩, false, true⟩, oO 19 (.extract (tT 17) 1), oN (.store 229 (tT 4) (tT 18)), oO 5 (.assign (tT 19))]))
 .ret))
theorem F173 : Fun1 Tryz.prog 173 20 c173 [.cell 4 229, .tmp 5] := mkT Tryz.func173 rfl (by decide +kernel) Tryz.ntmps173 rfl (by kernel_rfl) rfl
def c84 : AC :=
.seq (rg [oO 2 (.assign (kI 0))])
 (.seq (.seq (rg [oO 5 (.move (tT 0)), oO 6 (.binOp .geq 5 (tT 5) (kB 34) 5)])
 (.cond (tT 6) (.seq (rg [oO 2 (.assign (kI 0))])
 (.ret))
 (.skip)))
 (.seq (rg [oO 8 (.move (tT 0)), oO 9 (cF (.func 128) #[tT 8] #[5]), oO 7 (.move (tT 9)), oO 10 (.extract (tT 7) 0), oO 11 (.extract (tT 7) 1), oO 3 (.assign (tT 10)), oO 4 (.assign (tT 11))])
 (.seq (rg [oO 12 (.move (tT 3)), oO 13 (.binOp .add 3 (kI 1) (tT 12) 3), oO 14 (.move (tT 4)), oO 15 (.binOp .add 3 (tT 13) (tT 14) 3), oO 2 (.assign (tT 15))])
 .ret)))
theorem F84 : Fun1 Tryz.prog 84 16 c84 [.tmp 2] := mkT Tryz.func84 rfl (by decide +kernel) Tryz.ntmps84 rfl (by kernel_rfl) rfl
def c128 : AC :=
.seq (rg [oO 2 (.assign (kI 0)), oO 3 (.assign (kI 0))])
 (.seq (.seq (rg [oO 4 (.move (tT 0))])
 (.block 0 (.seq (.block 5 (.block 4 (.seq (.block 3 (.seq (.block 2 (.seq (.block 1 (.seq (.seq (.seq (rg [oO 6 (.binOp .eql 5 (tT 4) (kB 1) 5), oO 5 (.assign (tT 6))])
 (.cond (tT 5) (.exit 1)
 (.skip)))
 (.seq (.seq (.seq (rg [oO 8 (.binOp .eql 5 (tT 4) (kB 19) 5), oO 7 (.assign (tT 8))])
 (.cond (tT 7) (.skip)
 (rg [oO 9 (.binOp .eql 5 (tT 4) (kB 20) 5), oO 7 (.assign (tT 9))])))
 (.cond (tT 7) (.exit 2)
 (.skip)))
 (.seq (.seq (.seq (rg [oO 11 (.binOp .eql 5 (tT 4) (kB 24) 5), oO 10 (.assign (tT 11))])
 (.cond (tT 10) (.skip)
 (rg [oO 12 (.binOp .eql 5 (tT 4) (kB 25) 5), oO 10 (.assign (tT 12))])))
 (.cond (tT 10) (.exit 3)
 (.skip)))
 (.seq (.seq (.seq (rg [oO 14 (.binOp .eql 5 (tT 4) (kB 2) 5), oO 13 (.assign (tT 14))])
 (.cond (tT 13) (.skip)
 (.seq (rg [oO 15 (.binOp .eql 5 (tT 4) (kB 4) 5), oO 13 (.assign (tT 15))])
 (.cond (tT 13) (.skip)
 (rg [oO 16 (.binOp .eql 5 (tT 4) (kB 5) 5), oO 13 (.assign (tT 16))])))))
 (.cond (tT 13) (.exit 4)
 (.skip)))
 (.seq (.seq (rg [oO 18 (.binOp .eql 5 (tT 4) (kB 21) 5), oO 17 (.assign (tT 18))])
 (.cond (tT 17) (.skip)
 (.seq (rg [oO 19 (.binOp .eql 5 (tT 4) (kB 23) 5), oO 17 (.assign (tT 19))])
 (.cond (tT 17) (.skip)
 (.seq (rg [oO 20 (.binOp .eql 5 (tT 4) (kB 30) 5), oO 17 (.assign (tT 20))])
 (.cond (tT 17) (.skip)
 (.seq (rg [oO 21 (.binOp .eql 5 (tT 4) (kB 31) 5), oO 17 (.assign (tT 21))])
 (.cond (tT 17) (.skip)
 (rg [oO 22 (.binOp .eql 5 (tT 4) (kB 32) 5), oO 17 (.assign (tT 22))])))))))))
 (.cond (tT 17) (.exit 5)
 (.skip)))))))
 (.exit 0)))
 (.seq (.seq (rg [oO 2 (.assign (kI 4)), oO 3 (.assign (kI 0))])
 (.ret))
 (.exit 0))))
 (.seq (.seq (rg [oO 2 (.assign (kI 2)), oO 3 (.assign (kI 0))])
 (.ret))
 (.exit 0))))
 (.seq (.seq (rg [oO 2 (.assign (kI 1)), oO 3 (.assign (kI 1))])
 (.ret))
 (.exit 0)))))
 (.seq (.seq (rg [oO 2 (.assign (kI 1)), oO 3 (.assign (kI 0))])
 (.ret))
 (.exit 0)))))
 (.seq (rg [oO 2 (.assign (kI 0)), oO 3 (.assign (kI 0))])
 .ret))
theorem F128 : Fun1 Tryz.prog 128 23 c128 [.tmp 2, .tmp 3] := mkT Tryz.func128 rfl (by decide +kernel) Tryz.ntmps128 rfl (by kernel_rfl) rfl
def c209 : AC :=
.seq (rg [oO 0 (.alloc 262)])
 (.seq (rg [oO 11 (cF (.func 229) #[kB 1] #[81]), oO 12 (cF (.func 229) #[kB 2] #[81]), oO 13 (cF (.func 229) #[kB 4] #[81]), oO 1 (.alloc 266), oO 2 (.alloc 266), oO 3 (.alloc 266), oN (.store 266 (tT 1) (tT 11)), oN (.store 266 (tT 2) (tT 12)), oN (.store 266 (tT 3) (tT 13))])
 (.seq (rg [oO 14 (.load 266 (tT 1)), oO 15 (.load 266 (tT 1)), oO 16 (.buildSlice 227 2 #[(0, .tmp 14), (1, .tmp 15)]), oO 4 (.assign (tT 16))])
 (.seq (rg [oO 17 (cF (.func 230) #[.const (.slice none 0 0)] #[93]), oO 5 (.alloc 158), oN (.store 158 (tT 5) (tT 17))])
 (.seq (rg [oO 6 (.alloc 262)])
 (.seq (.seq (rg [oO 18 (.buildSlice 26 3 #[(0, kB 0), (1, kB 19), (2, kB 32)]), oO 19 (cB .len #[tT 18] #[26]), oO 20 (.move (kI 0))])
 (.block 0 (.loop (.seq (rg [oO 21 (.binOp .lss 3 (tT 20) (tT 19) 3)])
 (.seq (.cond (tT 21) (.skip)
 (.exit 0))
 (.seq (.block 1 (.seq (rg [oO 22 (.indexAddr 26 (tT 18) (tT 20)), oO 23 (.load 5 (tT 22)), oO 8 (.assign (tT 23))])
 (rg [oO 24 (.move (tT 8)), oO 25 (.load 158 (tT 5)), oO 26 (cF (.func 231) #[.const (.slice none 0 0), tT 25] #[227, 158]), oO 27 (.indexAddr 262 (tT 6) (tT 24)), oN (.store 261 (tT 27) (tT 26))])))
 (rg [oO 28 (.binOp .add 3 (tT 20) (kI 1) 3), oO 20 (.move (tT 28))])))))))
 (.seq (rg [oO 29 (.buildSlice 93 1 #[(0, kB 1)]), oO 30 (cF (.func 230) #[tT 29] #[93]), oO 31 (cF (.func 231) #[.const (.slice none 0 0), tT 30] #[227, 158]), oO 32 (.indexAddr 262 (tT 6) (kB 1)), oN (.store 261 (tT 32) (tT 31))])
 (.seq (rg [oO 33 (.buildSlice 93 1 #[(0, kB 2)]), oO 34 (cF (.func 230) #[tT 33] #[93]), oO 35 (cF (.func 231) #[.const (.slice none 0 0), tT 34] #[227, 158]), oO 36 (.indexAddr 262 (tT 6) (kB 2)), oN (.store 261 (tT 36) (tT 35))])
 (.seq (rg [oO 37 (.buildSlice 93 1 #[(0, kB 3)]), oO 38 (cF (.func 230) #[tT 37] #[93]), oO 39 (cF (.func 231) #[.const (.slice none 0 0), tT 38] #[227, 158]), oO 40 (.indexAddr 262 (tT 6) (kB 3)), oN (.store 261 (tT 40) (tT 39))])
 (.seq (rg [oO 41 (.buildSlice 93 1 #[(0, kB 0)]), oO 42 (cF (.func 230) #[tT 41] #[93]), oO 43 (cF (.func 231) #[.const (.slice none 0 0), tT 42] #[227, 158]), oO 44 (.indexAddr 262 (tT 6) (kB 4)), oN (.store 261 (tT 44) (tT 43))])
 (.seq (rg [oO 45 (.build 266 #[(0, kI 1)]), oO 46 (.buildSlice 227 1 #[(0, .tmp 45)]), oO 47 (.load 158 (tT 5)), oO 48 (cF (.func 231) #[tT 46, tT 47] #[227, 158]), oO 49 (.indexAddr 262 (tT 6) (kB 5)), oN (.store 261 (tT 49) (tT 48))])
 (.seq (rg [oO 50 (.build 266 #[(0, kI 0)]), oO 51 (.buildSlice 227 1 #[(0, .tmp 50)]), oO 52 (.load 158 (tT 5)), oO 53 (cF (.func 231) #[tT 51, tT 52] #[227, 158]), oO 54 (.indexAddr 262 (tT 6) (kB 6)), oN (.store 261 (tT 54) (tT 53))])
 (.seq (rg [oO 55 (.build 266 #[(0, kI 0)]), oO 56 (.buildSlice 227 1 #[(0, .tmp 55)]), oO 57 (cF (.func 231) #[tT 56, .func 232] #[227, 158]), oO 58 (.indexAddr 262 (tT 6) (kB 7)), oN (.store 261 (tT 58) (tT 57))])
 (.seq (rg [oO 59 (.build 266 #[(0, kI 0)]), oO 60 (.build 266 #[(0, kI 0)]), oO 61 (.buildSlice 227 2 #[(0, .tmp 59), (1, .tmp 60)]), oO 62 (cF (.func 231) #[tT 61, .func 233] #[227, 158]), oO 63 (.indexAddr 262 (tT 6) (kB 8)), oN (.store 261 (tT 63) (tT 62))])
 (.seq (.seq (rg [oO 64 (.buildSlice 26 5 #[(0, kB 9), (1, kB 10), (2, kB 11), (3, kB 12), (4, kB 13)]), oO 65 (cB .len #[tT 64] #[26]), oO 66 (.move (kI 0))])
 (.block 2 (.loop (.seq (rg [oO 67 (.binOp .lss 3 (tT 66) (tT 65) 3)])
 (.seq (.cond (tT 67) (.skip)
 (.exit 2))
 (.seq (.block 3 (.seq (rg [oO 68 (.indexAddr 26 (tT 64) (tT 66)), oO 69 (.load 5 (tT 68)), oO 10 (.assign (tT 69))])
 (rg [oO 70 (.move (tT 10)), oO 71 (.move (tT 4)), oO 72 (.buildSlice 93 1 #[(0, kB 1)]), oO 73 (cF (.func 230) #[tT 72] #[93]), oO 74 (cF (.func 231) #[tT 71, tT 73] #[227, 158]), oO 75 (.indexAddr 262 (tT 6) (tT 70)), oN (.store 261 (tT 75) (tT 74))])))
 (rg [oO 76 (.binOp .add 3 (tT 66) (kI 1) 3), oO 66 (.move (tT 76))])))))))
 (.seq (.seq (.reg true [1] [⟨⟨some 77, .load 266 (tT 1), none⟩, true, true⟩, ⟨⟨some 78, .buildSlice 227 1 #[(0, .tmp 77)], none⟩, true, true⟩, oO 79 (.buildSlice 93 1 #[(0, kB 1)]), oO 80 (cF (.func 230) #[tT 79] #[93])])
 (rg [oO 81 (cF (.func 231) #[tT 78, tT 80] #[227, 158]), oO 82 (.indexAddr 262 (tT 6) (kB 14)), oN (.store 261 (tT 82) (tT 81))]))
 (.seq (rg [oO 83 (.move (tT 4)), oO 84 (.buildSlice 93 1 #[(0, kB 2)]), oO 85 (cF (.func 230) #[tT 84] #[93]), oO 86 (cF (.func 231) #[tT 83, tT 85] #[227, 158]), oO 87 (.indexAddr 262 (tT 6) (kB 15)), oN (.store 261 (tT 87) (tT 86))])
 (.seq (rg [oO 88 (.build 266 #[(0, kI 3)]), oO 89 (.build 266 #[(0, kI 3)]), oO 90 (.buildSlice 227 2 #[(0, .tmp 88), (1, .tmp 89)]), oO 91 (.buildSlice 93 1 #[(0, kB 2)]), oO 92 (cF (.func 230) #[tT 91] #[93]), oO 93 (cF (.func 231) #[tT 90, tT 92] #[227, 158]), oO 94 (.indexAddr 262 (tT 6) (kB 16)), oN (.store 261 (tT 94) (tT 93))])
 (.seq (.seq (.reg true [2] [⟨⟨some 95, .load 266 (tT 2), none⟩, true, true⟩, ⟨⟨some 96, .buildSlice 227 1 #[(0, .tmp 95)], none⟩, true, true⟩, oO 97 (.buildSlice 93 1 #[(0, kB 2)]), oO 98 (cF (.func 230) #[tT 97] #[93])])
 (rg [oO 99 (cF (.func 231) #[tT 96, tT 98] #[227, 158]), oO 100 (.indexAddr 262 (tT 6) (kB 17)), oN (.store 261 (tT 100) (tT 99))]))
 (.seq (rg [oO 101 (.build 266 #[(0, kI 2)]), oO 102 (.build 266 #[(0, kI 2)]), oO 103 (.buildSlice 227 2 #[(0, .tmp 101), (1, .tmp 102)]), oO 104 (.buildSlice 93 1 #[(0, kB 2)]), oO 105 (cF (.func 230) #[tT 104] #[93]), oO 106 (cF (.func 231) #[tT 103, tT 105] #[227, 158]), oO 107 (.indexAddr 262 (tT 6) (kB 18)), oN (.store 261 (tT 107) (tT 106))])
 (.seq (rg [oO 108 (.load 266 (tT 2)), oO 109 (.buildSlice 227 1 #[(0, .tmp 108)]), oO 110 (.load 158 (tT 5)), oO 111 (cF (.func 231) #[tT 109, tT 110] #[227, 158]), oO 112 (.indexAddr 262 (tT 6) (kB 20)), oN (.store 261 (tT 112) (tT 111))])
 (.seq (rg [oO 113 (.indexAddr 262 (tT 6) (kB 21)), oN (.store 261 (tT 113) (.func 234))])
 (.seq (rg [oO 114 (.makeFunc (.func 235) #[] #[tT 5]), oO 115 (.indexAddr 262 (tT 6) (kB 22)), oN (.store 261 (tT 115) (tT 114))])
 (.seq (rg [oO 116 (cF (.func 237) #[.const (.slice none 0 0), .const (.bool true)] #[227, 4]), oO 117 (.indexAddr 262 (tT 6) (kB 23)), oN (.store 261 (tT 117) (tT 116))])
 (.seq (rg [oO 118 (cF (.func 238) #[.const (.bool false)] #[4]), oO 119 (.indexAddr 262 (tT 6) (kB 24)), oN (.store 261 (tT 119) (tT 118))])
 (.seq (rg [oO 120 (cF (.func 238) #[.const (.bool true)] #[4]), oO 121 (.indexAddr 262 (tT 6) (kB 25)), oN (.store 261 (tT 121) (tT 120))])
 (.seq (.seq (.reg true [1] [⟨⟨some 122, .load 266 (tT 1), none⟩, true, true⟩, ⟨⟨some 123, .buildSlice 227 1 #[(0, .tmp 122)], none⟩, true, true⟩, oO 124 (.buildSlice 93 1 #[(0, kB 4)]), oO 125 (cF (.func 230) #[tT 124] #[93])])
 (rg [oO 126 (cF (.func 231) #[tT 123, tT 125] #[227, 158]), oO 127 (.indexAddr 262 (tT 6) (kB 26)), oN (.store 261 (tT 127) (tT 126))]))
 (.seq (.seq (.reg true [3] [⟨⟨some 128, .load 266 (tT 3), none⟩, true, true⟩, ⟨⟨some 129, .buildSlice 227 1 #[(0, .tmp 128)], none⟩, true, true⟩, oO 130 (.buildSlice 93 1 #[(0, kB 1)]), oO 131 (cF (.func 230) #[tT 130] #[93])])
 (rg [oO 132 (cF (.func 231) #[tT 129, tT 131] #[227, 158]), oO 133 (.indexAddr 262 (tT 6) (kB 27)), oN (.store 261 (tT 133) (tT 132))]))
 (.seq (.seq (.reg true [3, 1] [⟨⟨some 134, .load 266 (tT 3), none⟩, true, true⟩, ⟨⟨some 135, .load 266 (tT 1), none⟩, true, true⟩, ⟨⟨some 136, .buildSlice 227 2 #[(0, .tmp 134), (1, .tmp 135)], none⟩, true, true⟩, oO 137 (.buildSlice 93 1 #[(0, kB 1)]), oO 138 (cF (.func 230) #[tT 137] #[93])])
 (rg [oO 139 (cF (.func 231) #[tT 136, tT 138] #[227, 158]), oO 140 (.indexAddr 262 (tT 6) (kB 28)), oN (.store 261 (tT 140) (tT 139))]))
 (.seq (rg [oO 141 (.load 266 (tT 3)), oO 142 (.load 266 (tT 1)), oO 143 (.load 266 (tT 1)), oO 144 (.buildSlice 227 3 #[(0, .tmp 141), (1, .tmp 142), (2, .tmp 143)]), oO 145 (.load 158 (tT 5)), oO 146 (cF (.func 231) #[tT 144, tT 145] #[227, 158]), oO 147 (.indexAddr 262 (tT 6) (kB 29)), oN (.store 261 (tT 147) (tT 146))])
 (.seq (rg [oO 148 (.build 266 #[(0, kI 2)]), oO 149 (.buildSlice 227 1 #[(0, .tmp 148)]), oO 150 (cF (.func 237) #[tT 149, .const (.bool true)] #[227, 4]), oO 151 (.indexAddr 262 (tT 6) (kB 30)), oN (.store 261 (tT 151) (tT 150))])
 (.seq (rg [oO 152 (.build 266 #[(0, kI 2)]), oO 153 (.buildSlice 227 1 #[(0, .tmp 152)]), oO 154 (cF (.func 237) #[tT 153, .const (.bool false)] #[227, 4]), oO 155 (.indexAddr 262 (tT 6) (kB 31)), oN (.store 261 (tT 155) (tT 154))])
 (.seq (rg [oO 156 (.load 266 (tT 1)), oO 157 (.buildSlice 227 1 #[(0, .tmp 156)]), oO 158 (.load 158 (tT 5)), oO 159 (cF (.func 231) #[tT 157, tT 158] #[227, 158]), oO 160 (.indexAddr 262 (tT 6) (kB 33)), oN (.store 261 (tT 160) (tT 159))])
 (.seq (rg [oO 161 (.load 262 (tT 6)), oN (.store 262 (tT 0) (tT 161))])
 .ret)))))))))))))))))))))))))))))))))
theorem F209 : Fun1 Tryz.prog 209 162 c209 [.cell 0 262] := mkT Tryz.func209 rfl (by decide +kernel) Tryz.ntmps209 rfl (by kernel_rfl) rfl
def c229 : AC :=
.seq (rg [oO 2 (.alloc 266)])
 (.seq (rg [oO 3 (.move (tT 0)), oO 4 (.build 266 #[(0, kI 4), (1, .tmp 3)]), oN (.store 266 (tT 2) (tT 4))])
 .ret)
theorem F229 : Fun1 Tryz.prog 229 5 c229 [.cell 2 266] := mkT Tryz.func229 rfl (by decide +kernel) Tryz.ntmps229 rfl (by kernel_rfl) rfl
def c230 : AC :=
.seq (rg [oO 1 (.box 93 (tT 0)), oO 2 (.assign (.const .nilFunc))])
 (.seq (rg [oO 3 (.makeFunc (.func 242) #[] #[tT 1]), oO 2 (.assign (tT 3))])
 .ret)
theorem F230 : Fun1 Tryz.prog 230 4 c230 [.tmp 2] := mkT Tryz.func230 rfl (by decide +kernel) Tryz.ntmps230 rfl (by kernel_rfl) rfl
def c231 : AC :=
.seq (rg [oO 2 (.box 227 (tT 0)), oO 3 (.box 158 (tT 1)), oO 4 (.assign (.const .nilFunc))])
 (.seq (rg [oO 5 (.makeFunc (.func 243) #[] #[tT 2, tT 3]), oO 4 (.assign (tT 5))])
 .ret)
theorem F231 : Fun1 Tryz.prog 231 6 c231 [.tmp 4] := mkT Tryz.func231 rfl (by decide +kernel) Tryz.ntmps231 rfl (by kernel_rfl) rfl
def c232 : AC :=
.seq (rg [oO 2 (.assign (.const (.slice none 0 0)))])
 (.seq (.reg true [] [⟨⟨some 3, .move (tT 0), none⟩, false, true⟩, ⟨⟨some 4, .indexAddr 93 (tT 3) (kI 0), none⟩, false, true⟩, ⟨⟨some 5, .load 81 (tT 4), none⟩, false, true⟩, oO 6 (.move (tT 0)), oO 7 (.indexAddr 93 (tT 6) (kI 0)), oO 8 (.load 81 (tT 7)), oO 9 (.buildSlice 93 2 #[(0, .tmp 5), (1, .tmp 8)]), oO 2 (.assign (tT 9))])
 .ret)
theorem F232 : Fun1 Tryz.prog 232 10 c232 [.tmp 2] := mkT Tryz.func232 rfl (by decide +kernel) Tryz.ntmps232 rfl (by kernel_rfl) rfl
def c233 : AC :=
.seq (rg [oO 2 (.assign (.const (.slice none 0 0)))])
 (.seq (.reg true [] [⟨⟨some 3, .move (tT 0), none⟩, false, true⟩, ⟨⟨some 4, .indexAddr 93 (tT 3) (kI 1), none⟩, false, true⟩, ⟨⟨some 5, .load 81 (tT 4), none⟩, false, true⟩, oO 6 (.move (tT 0)), oO 7 (.indexAddr 93 (tT 6) (kI 0)), oO 8 (.load 81 (tT 7)), oO 9 (.buildSlice 93 2 #[(0, .tmp 5), (1, .tmp 8)]), oO 2 (.assign (tT 9))])
 .ret)
theorem F233 : Fun1 Tryz.prog 233 10 c233 [.tmp 2] := mkT Tryz.func233 rfl (by decide +kernel) Tryz.ntmps233 rfl (by kernel_rfl) rfl
def c234 : AC :=
.seq (rg [oO 2 (.box 25 (tT 0)), oO 3 (.box 38 (tT 1)), oO 4 (.alloc 229), oO 5 (.assign (kI 0))])
 (.seq (.seq (rg [oO 10 (.fieldAddr 38 (tT 3) 2), oO 11 (.load 3 (tT 10)), oO 12 (.binOp .lss 3 (tT 11) (kI 0) 3), oO 13 (.move (tT 12)), oG 14 (.fieldAddr 38 (tT 3) 2) 13 false, oG 15 (.load 3 (tT 14)) 13 false, oG 16 (.fieldAddr 25 (tT 2) 1) 13 false, oG 17 (.load 23 (tT 16)) 13 false, oG 18 (cB .len #[tT 17] #[23]) 13 false, oG 19 (.binOp .geq 3 (tT 15) (tT 18) 3) 13 false, oO 20 (.pick (tT 13) (.const (.bool true)) (tT 19))])
 (.cond (tT 20) (.seq (rg [oO 21 (.build 229 #[]), oN (.store 229 (tT 4) (tT 21)), oO 5 (.assign (kI 71))])
 (.ret))
 (.skip)))
 (.seq (rg [oO 22 (.fieldAddr 25 (tT 2) 1), oO 23 (.load 23 (tT 22)), oO 24 (.fieldAddr 38 (tT 3) 2), oO 25 (.load 3 (tT 24)), oO 26 (.indexAddr 23 (tT 23) (tT 25)), oO 27 (.load 95 (tT 26)), oO 6 (.alloc 95), oN (.store 95 (tT 6) (tT 27))])
 (.seq (rg [oO 7 (.assign (.const (.slice none 0 0)))])
 (.seq (.seq (rg [oO 28 (.fieldAddr 95 (tT 6) 0), oO 29 (.load 93 (tT 28)), oO 30 (cB .len #[tT 29] #[93]), oO 31 (.move (kI 0))])
 (.block 0 (.loop (.seq (rg [oO 32 (.binOp .lss 3 (tT 31) (tT 30) 3)])
 (.seq (.cond (tT 32) (.skip)
 (.exit 0))
 (.seq (.block 1 (.seq (rg [oO 33 (.indexAddr 93 (tT 29) (tT 31)), oO 34 (.load 81 (tT 33)), oO 9 (.assign (tT 34))])
 (rg [oO 35 (.move (tT 7)), oO 36 (.move (tT 9)), oO 37 (cF (.func 229) #[tT 36] #[81]), oO 38 (.buildSlice 227 1 #[(0, .tmp 37)]), oO 39 (cB .append #[tT 35, tT 38] #[227, 227]), oO 7 (.assign (tT 39))])))
 (rg [oO 40 (.binOp .add 3 (tT 31) (kI 1) 3), oO 31 (.move (tT 40))])))))))
 (.seq (.seq (rg [oO 41 (.fieldAddr 95 (tT 6) 1), oO 42 (.load 81 (tT 41)), oO 43 (.binOp .eql 81 (tT 42) (kB 0) 81)])
 (.cond (tT 43) (.seq (rg [oO 44 (.move (tT 7)), oO 45 (cF (.func 230) #[.const (.slice none 0 0)] #[93]), oO 46 (.build 229 #[(0, .tmp 44), (1, .tmp 45)]), oN (.store 229 (tT 4) (tT 46)), oO 5 (.assign (kI 0))])
 (.ret))
 (.skip)))
 (.seq (rg [oO 47 (.move (tT 7)), oO 48 (.fieldAddr 95 (tT 6) 1), oO 49 (.load 81 (tT 48)), oO 50 (.buildSlice 93 1 #[(0, .tmp 49)]), oO 51 (cF (.func 230) #[tT 50] #[93]), oO 52 (.build 229 #[(0, .tmp 47), (1, .tmp 51)]), oN (.store 229 (tT 4) (tT 52)), oO 5 (.assign (kI 0))])
 .ret))))))
theorem F234 : Fun1 Tryz.prog 234 53 c234 [.cell 4 229, .tmp 5] := mkT Tryz.func234 rfl (by decide +kernel) Tryz.ntmps234 rfl (by kernel_rfl) rfl
def c235 : AC :=
.seq (rg [oO 3 (.box 25 (tT 0)), oO 4 (.box 38 (tT 1)), oO 5 (.alloc 229), oO 6 (.assign (kI 0))])
 (.seq (.seq (.reg true [2] [⟨⟨some 7, .fieldAddr 25 (tT 3) 1, none⟩, false, true⟩, ⟨⟨some 8, .load 23 (tT 7), none⟩, false, true⟩, ⟨⟨some 9, .fieldAddr 25 (tT 3) 2, none⟩, false, true⟩, ⟨⟨some 10, .load 3 (tT 9), none⟩, false, true⟩, ⟨⟨some 11, .indexAddr 23 (tT 8) (tT 10), none⟩, false, true⟩, ⟨⟨some 12, .fieldAddr 95 (tT 11) 1, none⟩, false, true⟩, ⟨⟨some 13, .load 81 (tT 12), none⟩, false, true⟩, ⟨⟨some 14, cF (.func 236) #[tT 13] #[81], none⟩, false, true⟩, ⟨⟨some 15, .load 158 (tT 2), none⟩, true, false⟩])
 (rg [oO 16 (.build 229 #[(0, .tmp 14), (1, .tmp 15)]), oN (.store 229 (tT 5) (tT 16)), oO 6 (.assign (kI 0))]))
 .ret)
theorem F235 : Fun1 Tryz.prog 235 17 c235 [.cell 5 229, .tmp 6] := mkT Tryz.func235 rfl (by decide +kernel) Tryz.ntmps235 rfl (by kernel_rfl) rfl
def c236 : AC :=
.seq (rg [oO 2 (.assign (.const (.slice none 0 0)))])
 (.seq (.seq (rg [oO 3 (.move (tT 0)), oO 4 (.binOp .eql 81 (tT 3) (kB 0) 81)])
 (.cond (tT 4) (.seq (rg [oO 2 (.assign (.const (.slice none 0 0)))])
 (.ret))
 (.skip)))
 (.seq (rg [oO 5 (.move (tT 0)), oO 6 (cF (.func 229) #[tT 5] #[81]), oO 7 (.buildSlice 227 1 #[(0, .tmp 6)]), oO 2 (.assign (tT 7))])
 .ret))
theorem F236 : Fun1 Tryz.prog 236 8 c236 [.tmp 2] := mkT Tryz.func236 rfl (by decide +kernel) Tryz.ntmps236 rfl (by kernel_rfl) rfl
def c237 : AC :=
.seq (rg [oO 2 (.box 227 (tT 0)), oO 3 (.box 4 (tT 1)), oO 4 (.assign (.const .nilFunc))])
 (.seq (rg [oO 5 (.makeFunc (.func 244) #[] #[tT 3, tT 2]), oO 4 (.assign (tT 5))])
 .ret)
theorem F237 : Fun1 Tryz.prog 237 6 c237 [.tmp 4] := mkT Tryz.func237 rfl (by decide +kernel) Tryz.ntmps237 rfl (by kernel_rfl) rfl
def c238 : AC :=
.seq (rg [oO 1 (.box 4 (tT 0)), oO 2 (.assign (.const .nilFunc))])
 (.seq (rg [oO 3 (.makeFunc (.func 246) #[] #[tT 1]), oO 2 (.assign (tT 3))])
 .ret)
theorem F238 : Fun1 Tryz.prog 238 4 c238 [.tmp 2] := mkT Tryz.func238 rfl (by decide +kernel) Tryz.ntmps238 rfl (by kernel_rfl) rfl
def c242 : AC :=
.seq (rg [oO 3 (.assign (.const (.slice none 0 0)))])
 (.seq (rg [oO 4 (.load 93 (tT 1)), oO 3 (.assign (tT 4))])
 .ret)
theorem F242 : Fun1 Tryz.prog 242 5 c242 [.tmp 3] := mkT Tryz.func242 rfl (by decide +kernel) Tryz.ntmps242 rfl (by kernel_rfl) rfl
def c243 : AC :=
.seq (rg [oO 4 (.box 25 (tT 0)), oO 5 (.box 38 (tT 1)), oO 6 (.alloc 229), oO 7 (.assign (kI 0))])
 (.seq (rg [oO 8 (.load 227 (tT 2)), oO 9 (.load 158 (tT 3)), oO 10 (.build 229 #[(0, .tmp 8), (1, .tmp 9)]), oN (.store 229 (tT 6) (tT 10)), oO 7 (.assign (kI 0))])
 .ret)
theorem F243 : Fun1 Tryz.prog 243 11 c243 [.cell 6 229, .tmp 7] := mkT Tryz.func243 rfl (by decide +kernel) Tryz.ntmps243 rfl (by kernel_rfl) rfl
def c244 : AC :=
.seq (rg [oO 4 (.box 25 (tT 0)), oO 5 (.box 38 (tT 1)), oO 6 (.alloc 229), oO 7 (.assign (kI 0))])
 (.seq (.seq (rg [oO 8 (.fieldAddr 38 (tT 5) 2), oO 9 (.load 3 (tT 8)), oO 10 (.binOp .lss 3 (tT 9) (kI 0) 3), oO 11 (.move (tT 10)), oG 12 (.fieldAddr 38 (tT 5) 2) 11 false, oG 13 (.load 3 (tT 12)) 11 false, oG 14 (.fieldAddr 25 (tT 4) 0) 11 false, oG 15 (.load 22 (tT 14)) 11 false, oG 16 (cB .len #[tT 15] #[22]) 11 false, oG 17 (.binOp .geq 3 (tT 13) (tT 16) 3) 11 false, oO 18 (.pick (tT 11) (.const (.bool true)) (tT 17))])
 (.cond (tT 18) (.seq (rg [oO 19 (.build 229 #[]), oN (.store 229 (tT 6) (tT 19)), oO 7 (.assign (kI 72))])
 (.ret))
 (.skip)))
 (.seq (.seq (rg [oO 20 (.load 4 (tT 2)), oO 21 (.unOp .not 4 (tT 20))])
 (.cond (tT 21) (.seq (.seq (.reg true [3] [⟨⟨some 22, .load 227 (tT 3), none⟩, true, true⟩, oO 23 (.buildSlice 93 1 #[(0, kB 2)]), oO 24 (cF (.func 230) #[tT 23] #[93])])
 (rg [oO 25 (.build 229 #[(0, .tmp 22), (1, .tmp 24)]), oN (.store 229 (tT 6) (tT 25)), oO 7 (.assign (kI 0))]))
 (.ret))
 (.skip)))
 (.seq (.seq (.reg true [3] [⟨⟨some 26, .load 227 (tT 3), none⟩, true, true⟩, oO 27 (.fieldAddr 38 (tT 5) 2), oO 28 (.load 3 (tT 27)), oO 29 (cF (.func 245) #[tT 28] #[3]), oO 30 (.buildSlice 93 1 #[(0, .tmp 29)]), oO 31 (cF (.func 230) #[tT 30] #[93])])
 (rg [oO 32 (.build 229 #[(0, .tmp 26), (1, .tmp 31)]), oN (.store 229 (tT 6) (tT 32)), oO 7 (.assign (kI 0))]))
 .ret)))
theorem F244 : Fun1 Tryz.prog 244 33 c244 [.cell 6 229, .tmp 7] := mkT Tryz.func244 rfl (by decide +kernel) Tryz.ntmps244 rfl (by kernel_rfl) rfl
def c245 : AC :=
.seq (rg [oO 2 (.assign (kB 0))])
 (.seq (rg [oO 3 (.move (tT 0)), oO 4 (.convert 3 81 (tT 3)), oO 5 (.binOp .add 81 (kB 16) (tT 4) 81), oO 2 (.assign (tT 5))])
 .ret)
theorem F245 : Fun1 Tryz.prog 245 6 c245 [.tmp 2] := mkT Tryz.func245 rfl (by decide +kernel) Tryz.ntmps245 rfl (by kernel_rfl) rfl
def c246 : AC :=
.seq (rg [oO 3 (.box 25 (tT 0)), oO 4 (.box 38 (tT 1)), oO 5 (.alloc 229), oO 6 (.assign (kI 0))])
 (.seq (rg [oO 9 (.fieldAddr 25 (tT 3) 0), oO 10 (.load 22 (tT 9)), oO 11 (.fieldAddr 38 (tT 4) 2), oO 12 (.load 3 (tT 11)), oO 13 (cF (.func 247) #[tT 10, tT 12] #[22, 3]), oO 7 (.assign (tT 13))])
 (.seq (.seq (rg [oO 14 (.fieldAddr 38 (tT 4) 2), oO 15 (.load 3 (tT 14)), oO 16 (.binOp .lss 3 (tT 15) (kI 0) 3), oO 17 (.move (tT 16)), oG 18 (.fieldAddr 38 (tT 4) 2) 17 false, oG 19 (.load 3 (tT 18)) 17 false, oG 20 (.fieldAddr 25 (tT 3) 0) 17 false, oG 21 (.load 22 (tT 20)) 17 false, oG 22 (cB .len #[tT 21] #[22]) 17 false, oG 23 (.binOp .geq 3 (tT 19) (tT 22) 3) 17 false, oO 24 (.pick (tT 17) (.const (.bool true)) (tT 23)), oO 25 (.move (tT 24)), oG 26 (.fieldAddr 38 (tT 4) 3) 25 false, oG 27 (.load 3 (tT 26)) 25 false, oG 28 (.binOp .lss 3 (tT 27) (kI 0) 3) 25 false, oO 29 (.pick (tT 25) (.const (.bool true)) (tT 28)), oO 30 (.move (tT 29)), oG 31 (.fieldAddr 38 (tT 4) 3) 30 false, oG 32 (.load 3 (tT 31)) 30 false, oG 33 (.move (tT 7)) 30 false, oG 34 (cB .len #[tT 33] #[152]) 30 false, oG 35 (.binOp .geq 3 (tT 32) (tT 34) 3) 30 false, oO 36 (.pick (tT 30) (.const (.bool true)) (tT 35))])
 (.cond (tT 36) (.seq (rg [oO 37 (.build 229 #[]), oN (.store 229 (tT 5) (tT 37)), oO 6 (.assign (kI 72))])
 (.ret))
 (.skip)))
 (.seq (rg [oO 38 (.move (tT 7)), oO 39 (.fieldAddr 38 (tT 4) 3), oO 40 (.load 3 (tT 39)), oO 41 (.indexAddr 152 (tT 38) (tT 40)), oO 42 (.fieldAddr 157 (tT 41) 1), oO 43 (.load 81 (tT 42)), oO 8 (.assign (tT 43))])
 (.seq (.seq (rg [oO 44 (.load 4 (tT 2))])
 (.cond (tT 44) (.seq (rg [oO 45 (.fieldAddr 38 (tT 4) 2), oO 46 (.load 3 (tT 45)), oO 47 (cF (.func 245) #[tT 46] #[3]), oO 48 (cF (.func 229) #[tT 47] #[81]), oO 49 (.move (tT 8)), oO 50 (cF (.func 229) #[tT 49] #[81]), oO 51 (.buildSlice 227 2 #[(0, .tmp 48), (1, .tmp 50)]), oO 52 (cF (.func 230) #[.const (.slice none 0 0)] #[93]), oO 53 (.build 229 #[(0, .tmp 51), (1, .tmp 52)]), oN (.store 229 (tT 5) (tT 53)), oO 6 (.assign (kI 0))])
 (.ret))
 (.skip)))
 (.seq (rg [oO 54 (.fieldAddr 38 (tT 4) 2), oO 55 (.load 3 (tT 54)), oO 56 (cF (.func 245) #[tT 55] #[3]), oO 57 (cF (.func 229) #[tT 56] #[81]), oO 58 (.buildSlice 227 1 #[(0, .tmp 57)]), oO 59 (.move (tT 8)), oO 60 (.buildSlice 93 1 #[(0, .tmp 59)]), oO 61 (cF (.func 230) #[tT 60] #[93]), oO 62 (.build 229 #[(0, .tmp 58), (1, .tmp 61)]), oN (.store 229 (tT 5) (tT 62)), oO 6 (.assign (kI 0))])
 .ret)))))
theorem F246 : Fun1 Tryz.prog 246 63 c246 [.cell 5 229, .tmp 6] := mkT Tryz.func246 rfl (by decide +kernel) Tryz.ntmps246 rfl (by kernel_rfl) rfl
def c247 : AC :=
.seq (rg [oO 4 (.assign (.const (.slice none 0 0)))])
 (.seq (rg [oO 5 (.alloc 29)])
 (.seq (rg [oO 8 (.move (tT 0)), oO 9 (.move (tT 1)), oO 10 (.makeFunc (.func 248) #[] #[tT 5]), oO 11 (cF (.func 189) #[tT 8, tT 9, tT 10] #[22, 3, 188])])
 (.seq (rg [oO 6 (.assign (.const (.slice none 0 0)))])
 (.seq (.seq (rg [oO 12 (.load 29 (tT 5)), oO 13 (cB .len #[tT 12] #[29]), oO 14 (.binOp .sub 3 (tT 13) (kI 1) 3), oO 7 (.assign (tT 14))])
 (.block 0 (.loop (.seq (.seq (rg [oO 15 (.move (tT 7)), oO 16 (.binOp .geq 3 (tT 15) (kI 0) 3)])
 (.cond (tT 16) (.skip)
 (.exit 0)))
 (.seq (.block 1 (rg [oO 19 (.move (tT 6)), oO 20 (.move (tT 0)), oO 21 (.load 29 (tT 5)), oO 22 (.move (tT 7)), oO 23 (.indexAddr 29 (tT 21) (tT 22)), oO 24 (.load 3 (tT 23)), oO 25 (.indexAddr 22 (tT 20) (tT 24)), oO 26 (.fieldAddr 154 (tT 25) 2), oO 27 (.load 152 (tT 26)), oO 28 (cB .append #[tT 19, tT 27] #[152, 152]), oO 6 (.assign (tT 28))]))
 (rg [oO 17 (.move (tT 7)), oO 18 (.binOp .sub 3 (tT 17) (kI 1) 3), oO 7 (.assign (tT 18))]))))))
 (.seq (rg [oO 29 (.move (tT 6)), oO 4 (.assign (tT 29))])
 .ret)))))
theorem F247 : Fun1 Tryz.prog 247 30 c247 [.tmp 4] := mkT Tryz.func247 rfl (by decide +kernel) Tryz.ntmps247 rfl (by kernel_rfl) rfl
def c248 : AC :=
.seq (rg [oO 3 (.assign (.const (.bool false)))])
 (.seq (rg [oO 4 (.load 29 (tT 1)), oO 5 (.move (tT 0)), oO 6 (.buildSlice 29 1 #[(0, .tmp 5)]), oO 7 (cB .append #[tT 4, tT 6] #[29, 29]), oN (.store 29 (tT 1) (tT 7))])
 (.seq (rg [oO 3 (.assign (.const (.bool true)))])
 .ret))
theorem F248 : Fun1 Tryz.prog 248 8 c248 [.tmp 3] := mkT Tryz.func248 rfl (by decide +kernel) Tryz.ntmps248 rfl (by kernel_rfl) rfl
def c58 : AC :=
.seq (rg [oO 1 (.box 25 (tT 0)), oO 2 (.assign (.const (.bool false)))])
 (.seq (.seq (rg [oO 10 (.fieldAddr 25 (tT 1) 0), oO 11 (.load 22 (tT 10)), oO 12 (cF (.func 100) #[tT 11] #[22]), oO 9 (.move (tT 12)), oO 13 (.extract (tT 9) 0), oO 14 (.extract (tT 9) 1), oO 3 (.assign (tT 13)), oO 4 (.assign (tT 14))])
 (.seq (rg [oO 15 (.move (tT 4)), oO 16 (.binOp .neq 32 (tT 15) (kI 0) 32)])
 (.cond (tT 16) (.seq (rg [oO 2 (.assign (.const (.bool false)))])
 (.ret))
 (.skip))))
 (.seq (.seq (rg [oO 17 (.fieldAddr 25 (tT 1) 1), oO 18 (.load 23 (tT 17)), oO 19 (cB .len #[tT 18] #[23]), oO 20 (.binOp .gtr 3 (tT 19) (kI 64) 3), oO 21 (.move (tT 20)), oG 22 (.fieldAddr 25 (tT 1) 2) 21 false, oG 23 (.load 3 (tT 22)) 21 false, oG 24 (.binOp .lss 3 (tT 23) (kI 0) 3) 21 false, oO 25 (.pick (tT 21) (.const (.bool true)) (tT 24)), oO 26 (.move (tT 25)), oG 27 (.fieldAddr 25 (tT 1) 2) 26 false, oG 28 (.load 3 (tT 27)) 26 false, oG 29 (.fieldAddr 25 (tT 1) 1) 26 false, oG 30 (.load 23 (tT 29)) 26 false, oG 31 (cB .len #[tT 30] #[23]) 26 false, oG 32 (.binOp .geq 3 (tT 28) (tT 31) 3) 26 false, oO 33 (.pick (tT 26) (.const (.bool true)) (tT 32))])
 (.cond (tT 33) (.seq (rg [oO 2 (.assign (.const (.bool false)))])
 (.ret))
 (.skip)))
 (.seq (.seq (rg [oO 34 (.fieldAddr 25 (tT 1) 1), oO 35 (.load 23 (tT 34)), oO 36 (cB .len #[tT 35] #[23]), oO 37 (.move (kI 0))])
 (.block 0 (.loop (.seq (rg [oO 38 (.binOp .lss 3 (tT 37) (tT 36) 3)])
 (.seq (.cond (tT 38) (.skip)
 (.exit 0))
 (.seq (.block 1 (.seq (rg [oO 39 (.indexAddr 23 (tT 35) (tT 37)), oO 40 (.load 95 (tT 39)), oO 6 (.alloc 95), oN (.store 95 (tT 6) (tT 40))])
 (.seq (.seq (rg [oO 41 (.fieldAddr 95 (tT 6) 0), oO 42 (.load 93 (tT 41)), oO 43 (cB .len #[tT 42] #[93]), oO 44 (.binOp .gtr 3 (tT 43) (kI 8) 3), oO 45 (.move (tT 44)), oG 46 (.fieldAddr 95 (tT 6) 1) 45 false, oG 47 (.load 81 (tT 46)) 45 false, oG 48 (.binOp .neq 81 (tT 47) (kB 0) 81) 45 false, oG 49 (.move (tT 48)) 45 false, oG 50 (.fieldAddr 25 (tT 1) 0) 49 true, oG 51 (.load 22 (tT 50)) 49 true, oG 52 (.fieldAddr 95 (tT 6) 1) 49 true, oG 53 (.load 81 (tT 52)) 49 true, oG 54 (cF (.func 101) #[tT 51, tT 53] #[22, 81]) 49 true, oG 55 (.unOp .not 4 (tT 54)) 49 true, oG 56 (.pick (tT 49) (tT 55) (.const (.bool false))) 45 false, oO 57 (.pick (tT 45) (.const (.bool true)) (tT 56))])
 (.cond (tT 57) (.seq (rg [oO 2 (.assign (.const (.bool false)))])
 (.ret))
 (.skip)))
 (.seq (rg [oO 58 (.fieldAddr 95 (tT 6) 0), oO 59 (.load 93 (tT 58)), oO 60 (cB .len #[tT 59] #[93]), oO 61 (.move (kI 0))])
 (.block 2 (.loop (.seq (rg [oO 62 (.binOp .lss 3 (tT 61) (tT 60) 3)])
 (.seq (.cond (tT 62) (.skip)
 (.exit 2))
 (.seq (.block 3 (.seq (rg [oO 63 (.indexAddr 93 (tT 59) (tT 61)), oO 64 (.load 81 (tT 63)), oO 8 (.assign (tT 64))])
 (.seq (rg [oO 65 (.fieldAddr 25 (tT 1) 0), oO 66 (.load 22 (tT 65)), oO 67 (.move (tT 8)), oO 68 (cF (.func 101) #[tT 66, tT 67] #[22, 81]), oO 69 (.unOp .not 4 (tT 68))])
 (.cond (tT 69) (.seq (rg [oO 2 (.assign (.const (.bool false)))])
 (.ret))
 (.skip)))))
 (rg [oO 70 (.binOp .add 3 (tT 61) (kI 1) 3), oO 61 (.move (tT 70))]))))))))))
 (rg [oO 71 (.binOp .add 3 (tT 37) (kI 1) 3), oO 37 (.move (tT 71))])))))))
 (.seq (rg [oO 2 (.assign (.const (.bool true)))])
 .ret))))
theorem F58 : Fun1 Tryz.prog 58 72 c58 [.tmp 2] := mkT Tryz.func58 rfl (by decide +kernel) Tryz.ntmps58 rfl (by kernel_rfl) rfl
def c20 : AC :=
.seq (rg [oO 2 (.assign (kI 0))])
 (.seq (.seq (rg [oO 5 (.move (tT 0)), oO 6 (.binOp .geq 5 (tT 5) (kB 34) 5)])
 (.cond (tT 6) (.seq (rg [oO 2 (.assign (kI 0))])
 (.ret))
 (.skip)))
 (.seq (rg [oO 8 (.move (tT 0)), oO 9 (cF (.func 63) #[tT 8] #[5]), oO 7 (.move (tT 9)), oO 10 (.extract (tT 7) 0), oO 11 (.extract (tT 7) 1), oO 3 (.assign (tT 10)), oO 4 (.assign (tT 11))])
 (.seq (rg [oO 12 (.move (tT 3)), oO 13 (.binOp .add 3 (kI 1) (tT 12) 3), oO 14 (.move (tT 4)), oO 15 (.binOp .add 3 (tT 13) (tT 14) 3), oO 2 (.assign (tT 15))])
 .ret)))
theorem F20 : Fun1 Tryz.prog 20 16 c20 [.tmp 2] := mkT Tryz.func20 rfl (by decide +kernel) Tryz.ntmps20 rfl (by kernel_rfl) rfl
def c63 : AC :=
.seq (rg [oO 2 (.assign (kI 0)), oO 3 (.assign (kI 0))])
 (.seq (.seq (rg [oO 4 (.move (tT 0))])
 (.block 0 (.seq (rg [oO 6 (.binOp .eql 5 (tT 4) (kB 1) 5), oO 5 (.assign (tT 6))])
 (.cond (tT 5) (.seq (rg [oO 2 (.assign (kI 4)), oO 3 (.assign (kI 0))])
 (.ret))
 (.seq (.seq (rg [oO 8 (.binOp .eql 5 (tT 4) (kB 19) 5), oO 7 (.assign (tT 8))])
 (.cond (tT 7) (.skip)
 (rg [oO 9 (.binOp .eql 5 (tT 4) (kB 20) 5), oO 7 (.assign (tT 9))])))
 (.cond (tT 7) (.seq (rg [oO 2 (.assign (kI 2)), oO 3 (.assign (kI 0))])
 (.ret))
 (.seq (.seq (rg [oO 11 (.binOp .eql 5 (tT 4) (kB 24) 5), oO 10 (.assign (tT 11))])
 (.cond (tT 10) (.skip)
 (rg [oO 12 (.binOp .eql 5 (tT 4) (kB 25) 5), oO 10 (.assign (tT 12))])))
 (.cond (tT 10) (.seq (rg [oO 2 (.assign (kI 1)), oO 3 (.assign (kI 1))])
 (.ret))
 (.seq (.seq (rg [oO 14 (.binOp .eql 5 (tT 4) (kB 2) 5), oO 13 (.assign (tT 14))])
 (.cond (tT 13) (.skip)
 (.seq (rg [oO 15 (.binOp .eql 5 (tT 4) (kB 4) 5), oO 13 (.assign (tT 15))])
 (.cond (tT 13) (.skip)
 (.seq (rg [oO 16 (.binOp .eql 5 (tT 4) (kB 5) 5), oO 13 (.assign (tT 16))])
 (.cond (tT 13) (.skip)
 (.seq (rg [oO 17 (.binOp .eql 5 (tT 4) (kB 21) 5), oO 13 (.assign (tT 17))])
 (.cond (tT 13) (.skip)
 (.seq (rg [oO 18 (.binOp .eql 5 (tT 4) (kB 23) 5), oO 13 (.assign (tT 18))])
 (.cond (tT 13) (.skip)
 (.seq (rg [oO 19 (.binOp .eql 5 (tT 4) (kB 30) 5), oO 13 (.assign (tT 19))])
 (.cond (tT 13) (.skip)
 (.seq (rg [oO 20 (.binOp .eql 5 (tT 4) (kB 31) 5), oO 13 (.assign (tT 20))])
 (.cond (tT 13) (.skip)
 (rg [oO 21 (.binOp .eql 5 (tT 4) (kB 32) 5), oO 13 (.assign (tT 21))])))))))))))))))
 (.cond (tT 13) (.seq (rg [oO 2 (.assign (kI 1)), oO 3 (.assign (kI 0))])
 (.ret))
 (.skip)))))))))))
 (.seq (rg [oO 2 (.assign (kI 0)), oO 3 (.assign (kI 0))])
 .ret))
theorem F63 : Fun1 Tryz.prog 63 22 c63 [.tmp 2, .tmp 3] := mkT Tryz.func63 rfl (by decide +kernel) Tryz.ntmps63 rfl (by kernel_rfl) rfl
def c147 : AC :=
.seq (rg [oO 2 (.box 25 (tT 0)), oO 3 (.box 38 (tT 1)), oO 4 (.assign (kI 0))])
 (.seq (.seq (rg [oO 5 (.fieldAddr 38 (tT 3) 1), oO 6 (.load 5 (tT 5))])
 (.block 0 (.seq (rg [oO 8 (.binOp .eql 5 (tT 6) (kB 21) 5), oO 7 (.assign (tT 8))])
 (.cond (tT 7) (.seq (rg [oO 9 (.fieldAddr 38 (tT 3) 2), oO 10 (.load 3 (tT 9)), oO 11 (.binOp .lss 3 (tT 10) (kI 0) 3), oO 12 (.move (tT 11)), oG 13 (.fieldAddr 38 (tT 3) 2) 12 false, oG 14 (.load 3 (tT 13)) 12 false, oG 15 (.fieldAddr 25 (tT 2) 1) 12 false, oG 16 (.load 23 (tT 15)) 12 false, oG 17 (cB .len #[tT 16] #[23]) 12 false, oG 18 (.binOp .geq 3 (tT 14) (tT 17) 3) 12 false, oO 19 (.pick (tT 12) (.const (.bool true)) (tT 18))])
 (.cond (tT 19) (.seq (rg [oO 4 (.assign (kI 71))])
 (.ret))
 (.skip)))
 (.seq (.seq (rg [oO 21 (.binOp .eql 5 (tT 6) (kB 23) 5), oO 20 (.assign (tT 21))])
 (.cond (tT 20) (.skip)
 (.seq (rg [oO 22 (.binOp .eql 5 (tT 6) (kB 30) 5), oO 20 (.assign (tT 22))])
 (.cond (tT 20) (.skip)
 (.seq (rg [oO 23 (.binOp .eql 5 (tT 6) (kB 31) 5), oO 20 (.assign (tT 23))])
 (.cond (tT 20) (.skip)
 (.seq (rg [oO 24 (.binOp .eql 5 (tT 6) (kB 24) 5), oO 20 (.assign (tT 24))])
 (.cond (tT 20) (.skip)
 (rg [oO 25 (.binOp .eql 5 (tT 6) (kB 25) 5), oO 20 (.assign (tT 25))])))))))))
 (.cond (tT 20) (.seq (rg [oO 26 (.fieldAddr 38 (tT 3) 2), oO 27 (.load 3 (tT 26)), oO 28 (.binOp .lss 3 (tT 27) (kI 0) 3), oO 29 (.move (tT 28)), oG 30 (.fieldAddr 38 (tT 3) 2) 29 false, oG 31 (.load 3 (tT 30)) 29 false, oG 32 (.fieldAddr 25 (tT 2) 0) 29 false, oG 33 (.load 22 (tT 32)) 29 false, oG 34 (cB .len #[tT 33] #[22]) 29 false, oG 35 (.binOp .geq 3 (tT 31) (tT 34) 3) 29 false, oO 36 (.pick (tT 29) (.const (.bool true)) (tT 35))])
 (.cond (tT 36) (.seq (rg [oO 4 (.assign (kI 72))])
 (.ret))
 (.skip)))
 (.skip)))))))
 (.seq (.seq (rg [oO 37 (.fieldAddr 38 (tT 3) 1), oO 38 (.load 5 (tT 37)), oO 39 (.binOp .eql 5 (tT 38) (kB 24) 5), oO 40 (.move (tT 39)), oG 41 (.fieldAddr 38 (tT 3) 1) 40 false, oG 42 (.load 5 (tT 41)) 40 false, oG 43 (.binOp .eql 5 (tT 42) (kB 25) 5) 40 false, oO 44 (.pick (tT 40) (.const (.bool true)) (tT 43))])
 (.cond (tT 44) (.seq (.reg true [3] [oO 45 (.fieldAddr 38 (tT 3) 3), oO 46 (.load 3 (tT 45)), oO 47 (.binOp .lss 3 (tT 46) (kI 0) 3), oO 48 (.move (tT 47)), ⟨⟨some 49, .fieldAddr 38 (tT 3) 3, some (48, false)⟩, true, true⟩, ⟨⟨some 50, .load 3 (tT 49), some (48, false)⟩, true, true⟩, ⟨⟨some 51, .fieldAddr 25 (tT 2) 0, some (48, false)⟩, false, true⟩, ⟨⟨some 52, .load 22 (tT 51), some (48, false)⟩, false, true⟩, oG 53 (.fieldAddr 38 (tT 3) 2) 48 false, oG 54 (.load 3 (tT 53)) 48 false, oG 55 (cF (.func 179) #[tT 52, tT 54] #[22, 3]) 48 false, oG 56 (cB .len #[tT 55] #[152]) 48 false, oG 57 (.binOp .geq 3 (tT 50) (tT 56) 3) 48 false, oO 58 (.pick (tT 48) (.const (.bool true)) (tT 57))])
 (.cond (tT 58) (.seq (rg [oO 4 (.assign (kI 72))])
 (.ret))
 (.skip)))
 (.skip)))
 (.seq (rg [oO 4 (.assign (kI 0))])
 .ret)))
theorem F147 : Fun1 Tryz.prog 147 59 c147 [.tmp 4] := mkT Tryz.func147 rfl (by decide +kernel) Tryz.ntmps147 rfl (by kernel_rfl) rfl
def c181 : AC :=
.seq (rg [oO 2 (.box 25 (tT 0)), oO 3 (.box 38 (tT 1)), oO 4 (.assign (.const (.slice none 0 0)))])
 (.seq (.seq (rg [oO 5 (.fieldAddr 38 (tT 3) 1), oO 6 (.load 5 (tT 5))])
 (.block 0 (.seq (rg [oO 8 (.binOp .eql 5 (tT 6) (kB 5) 5), oO 7 (.assign (tT 8))])
 (.cond (tT 7) (.seq (rg [oO 9 (.buildSlice 93 1 #[(0, kB 254)]), oO 4 (.assign (tT 9))])
 (.ret))
 (.seq (.seq (rg [oO 11 (.binOp .eql 5 (tT 6) (kB 6) 5), oO 10 (.assign (tT 11))])
 (.cond (tT 10) (.skip)
 (rg [oO 12 (.binOp .eql 5 (tT 6) (kB 7) 5), oO 10 (.assign (tT 12))])))
 (.cond (tT 10) (.seq (rg [oO 13 (.buildSlice 93 1 #[(0, kB 255)]), oO 4 (.assign (tT 13))])
 (.ret))
 (.seq (rg [oO 15 (.binOp .eql 5 (tT 6) (kB 8) 5), oO 14 (.assign (tT 15))])
 (.cond (tT 14) (.seq (rg [oO 16 (.buildSlice 93 2 #[(0, kB 255), (1, kB 255)]), oO 4 (.assign (tT 16))])
 (.ret))
 (.seq (.seq (rg [oO 18 (.binOp .eql 5 (tT 6) (kB 9) 5), oO 17 (.assign (tT 18))])
 (.cond (tT 17) (.skip)
 (.seq (rg [oO 19 (.binOp .eql 5 (tT 6) (kB 10) 5), oO 17 (.assign (tT 19))])
 (.cond (tT 17) (.skip)
 (.seq (rg [oO 20 (.binOp .eql 5 (tT 6) (kB 11) 5), oO 17 (.assign (tT 20))])
 (.cond (tT 17) (.skip)
 (.seq (rg [oO 21 (.binOp .eql 5 (tT 6) (kB 12) 5), oO 17 (.assign (tT 21))])
 (.cond (tT 17) (.skip)
 (.seq (rg [oO 22 (.binOp .eql 5 (tT 6) (kB 13) 5), oO 17 (.assign (tT 22))])
 (.cond (tT 17) (.skip)
 (rg [oO 23 (.binOp .eql 5 (tT 6) (kB 15) 5), oO 17 (.assign (tT 23))])))))))))))
 (.cond (tT 17) (.seq (rg [oO 24 (.buildSlice 93 2 #[(0, kB 1), (1, kB 1)]), oO 4 (.assign (tT 24))])
 (.ret))
 (.seq (.seq (rg [oO 26 (.binOp .eql 5 (tT 6) (kB 14) 5), oO 25 (.assign (tT 26))])
 (.cond (tT 25) (.skip)
 (.seq (rg [oO 27 (.binOp .eql 5 (tT 6) (kB 26) 5), oO 25 (.assign (tT 27))])
 (.cond (tT 25) (.skip)
 (rg [oO 28 (.binOp .eql 5 (tT 6) (kB 33) 5), oO 25 (.assign (tT 28))])))))
 (.cond (tT 25) (.seq (rg [oO 29 (.buildSlice 93 1 #[(0, kB 1)]), oO 4 (.assign (tT 29))])
 (.ret))
 (.seq (rg [oO 31 (.binOp .eql 5 (tT 6) (kB 16) 5), oO 30 (.assign (tT 31))])
 (.cond (tT 30) (.seq (rg [oO 32 (.buildSlice 93 2 #[(0, kB 255), (1, kB 255)]), oO 4 (.assign (tT 32))])
 (.ret))
 (.seq (.seq (rg [oO 34 (.binOp .eql 5 (tT 6) (kB 17) 5), oO 33 (.assign (tT 34))])
 (.cond (tT 33) (.skip)
 (rg [oO 35 (.binOp .eql 5 (tT 6) (kB 20) 5), oO 33 (.assign (tT 35))])))
 (.cond (tT 33) (.seq (rg [oO 36 (.buildSlice 93 1 #[(0, kB 2)]), oO 4 (.assign (tT 36))])
 (.ret))
 (.seq (rg [oO 38 (.binOp .eql 5 (tT 6) (kB 18) 5), oO 37 (.assign (tT 38))])
 (.cond (tT 37) (.seq (rg [oO 39 (.buildSlice 93 2 #[(0, kB 253), (1, kB 253)]), oO 4 (.assign (tT 39))])
 (.ret))
 (.seq (rg [oO 41 (.binOp .eql 5 (tT 6) (kB 21) 5), oO 40 (.assign (tT 41))])
 (.cond (tT 40) (.seq (rg [oO 42 (.fieldAddr 25 (tT 2) 1), oO 43 (.load 23 (tT 42)), oO 44 (.fieldAddr 38 (tT 3) 2), oO 45 (.load 3 (tT 44)), oO 46 (.indexAddr 23 (tT 43) (tT 45)), oO 47 (.fieldAddr 95 (tT 46) 0), oO 48 (.load 93 (tT 47)), oO 4 (.assign (tT 48))])
 (.ret))
 (.seq (rg [oO 50 (.binOp .eql 5 (tT 6) (kB 22) 5), oO 49 (.assign (tT 50))])
 (.cond (tT 49) (.seq (rg [oO 51 (.fieldAddr 25 (tT 2) 1), oO 52 (.load 23 (tT 51)), oO 53 (.fieldAddr 25 (tT 2) 2), oO 54 (.load 3 (tT 53)), oO 55 (.indexAddr 23 (tT 52) (tT 54)), oO 56 (.fieldAddr 95 (tT 55) 1), oO 57 (.load 81 (tT 56)), oO 58 (cF (.func 216) #[tT 57] #[81]), oO 4 (.assign (tT 58))])
 (.ret))
 (.seq (rg [oO 60 (.binOp .eql 5 (tT 6) (kB 24) 5), oO 59 (.assign (tT 60))])
 (.cond (tT 59) (.seq (rg [oO 61 (.fieldAddr 38 (tT 3) 2), oO 62 (.load 3 (tT 61)), oO 63 (cF (.func 217) #[tT 62] #[3]), oO 64 (.buildSlice 93 1 #[(0, .tmp 63)]), oO 4 (.assign (tT 64))])
 (.ret))
 (.seq (rg [oO 66 (.binOp .eql 5 (tT 6) (kB 25) 5), oO 65 (.assign (tT 66))])
 (.cond (tT 65) (.seq (.reg true [2, 3] [⟨⟨some 67, .fieldAddr 38 (tT 3) 2, none⟩, false, true⟩, ⟨⟨some 68, .load 3 (tT 67), none⟩, false, true⟩, ⟨⟨some 69, cF (.func 217) #[tT 68] #[3], none⟩, false, true⟩, ⟨⟨some 70, .fieldAddr 25 (tT 2) 0, none⟩, true, true⟩, ⟨⟨some 71, .load 22 (tT 70), none⟩, true, true⟩, ⟨⟨some 72, .fieldAddr 38 (tT 3) 2, none⟩, true, true⟩, ⟨⟨some 73, .load 3 (tT 72), none⟩, true, true⟩, ⟨⟨some 74, cF (.func 179) #[tT 71, tT 73] #[22, 3], none⟩, false, true⟩, ⟨⟨some 75, .fieldAddr 38 (tT 3) 3, none⟩, true, false⟩, ⟨⟨some 76, .load 3 (tT 75), none⟩, true, false⟩, oO 77 (.indexAddr 152 (tT 74) (tT 76)), oO 78 (.fieldAddr 157 (tT 77) 1), oO 79 (.load 81 (tT 78)), oO 80 (.buildSlice 93 2 #[(0, .tmp 69), (1, .tmp 79)]), oO 4 (.assign (tT 80))])
 (.ret))
 (.seq (rg [oO 82 (.binOp .eql 5 (tT 6) (kB 27) 5), oO 81 (.assign (tT 82))])
 (.cond (tT 81) (.seq (rg [oO 83 (.buildSlice 93 1 #[(0, kB 4)]), oO 4 (.assign (tT 83))])
 (.ret))
 (.seq (rg [oO 85 (.binOp .eql 5 (tT 6) (kB 28) 5), oO 84 (.assign (tT 85))])
 (.cond (tT 84) (.seq (rg [oO 86 (.buildSlice 93 2 #[(0, kB 4), (1, kB 1)]), oO 4 (.assign (tT 86))])
 (.ret))
 (.seq (rg [oO 88 (.binOp .eql 5 (tT 6) (kB 29) 5), oO 87 (.assign (tT 88))])
 (.cond (tT 87) (.seq (rg [oO 89 (.buildSlice 93 3 #[(0, kB 4), (1, kB 1), (2, kB 1)]), oO 4 (.assign (tT 89))])
 (.ret))
 (.seq (.seq (rg [oO 91 (.binOp .eql 5 (tT 6) (kB 30) 5), oO 90 (.assign (tT 91))])
 (.cond (tT 90) (.skip)
 (rg [oO 92 (.binOp .eql 5 (tT 6) (kB 31) 5), oO 90 (.assign (tT 92))])))
 (.cond (tT 90) (.seq (rg [oO 93 (.buildSlice 93 1 #[(0, kB 253)]), oO 4 (.assign (tT 93))])
 (.ret))
 (.skip)))))))))))))))))))))))))))))))))))
 (.seq (rg [oO 4 (.assign (.const (.slice none 0 0)))])
 .ret))
theorem F181 : Fun1 Tryz.prog 181 94 c181 [.tmp 4] := mkT Tryz.func181 rfl (by decide +kernel) Tryz.ntmps181 rfl (by kernel_rfl) rfl
def c183 : AC :=
.seq (rg [oO 2 (.box 25 (tT 0)), oO 3 (.box 38 (tT 1)), oO 4 (.assign (.const (.slice none 0 0)))])
 (.seq (.seq (rg [oO 5 (.fieldAddr 38 (tT 3) 1), oO 6 (.load 5 (tT 5))])
 (.block 0 (.seq (.seq (rg [oO 8 (.binOp .eql 5 (tT 6) (kB 1) 5), oO 7 (.assign (tT 8))])
 (.cond (tT 7) (.skip)
 (.seq (rg [oO 9 (.binOp .eql 5 (tT 6) (kB 9) 5), oO 7 (.assign (tT 9))])
 (.cond (tT 7) (.skip)
 (.seq (rg [oO 10 (.binOp .eql 5 (tT 6) (kB 10) 5), oO 7 (.assign (tT 10))])
 (.cond (tT 7) (.skip)
 (.seq (rg [oO 11 (.binOp .eql 5 (tT 6) (kB 11) 5), oO 7 (.assign (tT 11))])
 (.cond (tT 7) (.skip)
 (.seq (rg [oO 12 (.binOp .eql 5 (tT 6) (kB 12) 5), oO 7 (.assign (tT 12))])
 (.cond (tT 7) (.skip)
 (.seq (rg [oO 13 (.binOp .eql 5 (tT 6) (kB 13) 5), oO 7 (.assign (tT 13))])
 (.cond (tT 7) (.skip)
 (.seq (rg [oO 14 (.binOp .eql 5 (tT 6) (kB 14) 5), oO 7 (.assign (tT 14))])
 (.cond (tT 7) (.skip)
 (.seq (rg [oO 15 (.binOp .eql 5 (tT 6) (kB 27) 5), oO 7 (.assign (tT 15))])
 (.cond (tT 7) (.skip)
 (rg [oO 16 (.binOp .eql 5 (tT 6) (kB 28) 5), oO 7 (.assign (tT 16))])))))))))))))))))
 (.cond (tT 7) (.seq (rg [oO 17 (.buildSlice 93 1 #[(0, kB 1)]), oO 4 (.assign (tT 17))])
 (.ret))
 (.seq (.seq (rg [oO 19 (.binOp .eql 5 (tT 6) (kB 2) 5), oO 18 (.assign (tT 19))])
 (.cond (tT 18) (.skip)
 (.seq (rg [oO 20 (.binOp .eql 5 (tT 6) (kB 15) 5), oO 18 (.assign (tT 20))])
 (.cond (tT 18) (.skip)
 (.seq (rg [oO 21 (.binOp .eql 5 (tT 6) (kB 16) 5), oO 18 (.assign (tT 21))])
 (.cond (tT 18) (.skip)
 (.seq (rg [oO 22 (.binOp .eql 5 (tT 6) (kB 17) 5), oO 18 (.assign (tT 22))])
 (.cond (tT 18) (.skip)
 (.seq (rg [oO 23 (.binOp .eql 5 (tT 6) (kB 18) 5), oO 18 (.assign (tT 23))])
 (.cond (tT 18) (.skip)
 (rg [oO 24 (.binOp .eql 5 (tT 6) (kB 31) 5), oO 18 (.assign (tT 24))])))))))))))
 (.cond (tT 18) (.seq (rg [oO 25 (.buildSlice 93 1 #[(0, kB 2)]), oO 4 (.assign (tT 25))])
 (.ret))
 (.seq (rg [oO 27 (.binOp .eql 5 (tT 6) (kB 3) 5), oO 26 (.assign (tT 27))])
 (.cond (tT 26) (.seq (rg [oO 28 (.buildSlice 93 1 #[(0, kB 3)]), oO 4 (.assign (tT 28))])
 (.ret))
 (.seq (rg [oO 30 (.binOp .eql 5 (tT 6) (kB 4) 5), oO 29 (.assign (tT 30))])
 (.cond (tT 29) (.seq (rg [oO 31 (.buildSlice 93 1 #[(0, kB 255)]), oO 4 (.assign (tT 31))])
 (.ret))
 (.seq (.seq (rg [oO 33 (.binOp .eql 5 (tT 6) (kB 7) 5), oO 32 (.assign (tT 33))])
 (.cond (tT 32) (.skip)
 (rg [oO 34 (.binOp .eql 5 (tT 6) (kB 8) 5), oO 32 (.assign (tT 34))])))
 (.cond (tT 32) (.seq (rg [oO 35 (.buildSlice 93 2 #[(0, kB 255), (1, kB 255)]), oO 4 (.assign (tT 35))])
 (.ret))
 (.seq (rg [oO 37 (.binOp .eql 5 (tT 6) (kB 21) 5), oO 36 (.assign (tT 37))])
 (.cond (tT 36) (.seq (rg [oO 38 (.fieldAddr 25 (tT 2) 1), oO 39 (.load 23 (tT 38)), oO 40 (.fieldAddr 38 (tT 3) 2), oO 41 (.load 3 (tT 40)), oO 42 (.indexAddr 23 (tT 39) (tT 41)), oO 43 (.fieldAddr 95 (tT 42) 1), oO 44 (.load 81 (tT 43)), oO 45 (cF (.func 216) #[tT 44] #[81]), oO 4 (.assign (tT 45))])
 (.ret))
 (.seq (.seq (rg [oO 47 (.binOp .eql 5 (tT 6) (kB 23) 5), oO 46 (.assign (tT 47))])
 (.cond (tT 46) (.skip)
 (rg [oO 48 (.binOp .eql 5 (tT 6) (kB 30) 5), oO 46 (.assign (tT 48))])))
 (.cond (tT 46) (.seq (rg [oO 49 (.fieldAddr 38 (tT 3) 2), oO 50 (.load 3 (tT 49)), oO 51 (cF (.func 217) #[tT 50] #[3]), oO 52 (.buildSlice 93 1 #[(0, .tmp 51)]), oO 4 (.assign (tT 52))])
 (.ret))
 (.seq (rg [oO 54 (.binOp .eql 5 (tT 6) (kB 24) 5), oO 53 (.assign (tT 54))])
 (.cond (tT 53) (.seq (.reg true [3] [⟨⟨some 55, .fieldAddr 25 (tT 2) 0, none⟩, false, true⟩, ⟨⟨some 56, .load 22 (tT 55), none⟩, false, true⟩, ⟨⟨some 57, .fieldAddr 38 (tT 3) 2, none⟩, false, true⟩, ⟨⟨some 58, .load 3 (tT 57), none⟩, false, true⟩, ⟨⟨some 59, cF (.func 179) #[tT 56, tT 58] #[22, 3], none⟩, false, true⟩, ⟨⟨some 60, .fieldAddr 38 (tT 3) 3, none⟩, true, false⟩, ⟨⟨some 61, .load 3 (tT 60), none⟩, true, false⟩, oO 62 (.indexAddr 152 (tT 59) (tT 61)), oO 63 (.fieldAddr 157 (tT 62) 1), oO 64 (.load 81 (tT 63)), oO 65 (cF (.func 216) #[tT 64] #[81]), oO 4 (.assign (tT 65))])
 (.ret))
 (.seq (rg [oO 67 (.binOp .eql 5 (tT 6) (kB 26) 5), oO 66 (.assign (tT 67))])
 (.cond (tT 66) (.seq (rg [oO 68 (.buildSlice 93 1 #[(0, kB 4)]), oO 4 (.assign (tT 68))])
 (.ret))
 (.skip)))))))))))))))))))))
 (.seq (rg [oO 4 (.assign (.const (.slice none 0 0)))])
 .ret))
theorem F183 : Fun1 Tryz.prog 183 69 c183 [.tmp 4] := mkT Tryz.func183 rfl (by decide +kernel) Tryz.ntmps183 rfl (by kernel_rfl) rfl
def c216 : AC :=
.seq (rg [oO 2 (.assign (.const (.slice none 0 0)))])
 (.seq (.seq (rg [oO 3 (.move (tT 0)), oO 4 (.binOp .eql 81 (tT 3) (kB 0) 81)])
 (.cond (tT 4) (.seq (rg [oO 2 (.assign (.const (.slice none 0 0)))])
 (.ret))
 (.skip)))
 (.seq (rg [oO 5 (.move (tT 0)), oO 6 (.buildSlice 93 1 #[(0, .tmp 5)]), oO 2 (.assign (tT 6))])
 .ret))
theorem F216 : Fun1 Tryz.prog 216 7 c216 [.tmp 2] := mkT Tryz.func216 rfl (by decide +kernel) Tryz.ntmps216 rfl (by kernel_rfl) rfl
def c217 : AC :=
.seq (rg [oO 2 (.assign (kB 0))])
 (.seq (rg [oO 3 (.move (tT 0)), oO 4 (.convert 3 81 (tT 3)), oO 5 (.binOp .add 81 (kB 16) (tT 4) 81), oO 2 (.assign (tT 5))])
 .ret)
theorem F217 : Fun1 Tryz.prog 217 6 c217 [.tmp 2] := mkT Tryz.func217 rfl (by decide +kernel) Tryz.ntmps217 rfl (by kernel_rfl) rfl
def c101 : AC :=
.seq (rg [oO 4 (.assign (.const (.bool false)))])
 (.seq (rg [oO 5 (.move (tT 0)), oO 6 (.move (tT 1)), oO 7 (cF (.func 103) #[tT 5, tT 6] #[22, 81]), oO 8 (.move (tT 7)), oG 9 (.move (tT 1)) 8 true, oG 10 (.binOp .neq 81 (tT 9) (kB 0) 81) 8 true, oO 11 (.pick (tT 8) (tT 10) (.const (.bool false))), oO 12 (.move (tT 11)), oG 13 (.move (tT 1)) 12 true, oG 14 (.binOp .neq 81 (tT 13) (kB 3) 81) 12 true, oO 15 (.pick (tT 12) (tT 14) (.const (.bool false))), oO 4 (.assign (tT 15))])
 .ret)
theorem F101 : Fun1 Tryz.prog 101 16 c101 [.tmp 4] := mkT Tryz.func101 rfl (by decide +kernel) Tryz.ntmps101 rfl (by kernel_rfl) rfl
open Go.Proofs
def c107 : AC :=
.seq (rg [oO 3 (.box 25 (tT 0)), oO 4 (.box 84 (tT 1)), oO 5 (.box 38 (tT 2)), oO 6 (.alloc 84), oO 7 (.assign (kI 0))])
 (.seq (rg [oO 12 (.build 84 #[]), oO 8 (.alloc 84), oN (.store 84 (tT 8) (tT 12))])
 (.seq (.seq (rg [oO 13 (.load 25 (tT 3)), oO 14 (cF (.func 58) #[tT 13] #[25]), oO 15 (.unOp .not 4 (tT 14))])
 (.cond (tT 15) (.seq (rg [oO 16 (.load 84 (tT 8)), oN (.store 84 (tT 6) (tT 16)), oO 7 (.assign (kI 1))])
 (.ret))
 (.skip)))
 (.seq (.seq (rg [oO 17 (.fieldAddr 25 (tT 3) 0), oO 18 (.load 22 (tT 17)), oO 19 (.load 84 (tT 4)), oO 20 (cF (.func 59) #[tT 18, tT 19] #[22, 84]), oO 9 (.assign (tT 20))])
 (.seq (rg [oO 21 (.move (tT 9)), oO 22 (.binOp .neq 32 (tT 21) (kI 0) 32)])
 (.cond (tT 22) (.seq (rg [oO 23 (.load 84 (tT 8)), oO 24 (.move (tT 9)), oN (.store 84 (tT 6) (tT 23)), oO 7 (.assign (tT 24))])
 (.ret))
 (.skip))))
 (.seq (.seq (rg [oO 25 (.fieldAddr 38 (tT 5) 1), oO 26 (.load 5 (tT 25)), oO 27 (cF (.func 20) #[tT 26] #[5]), oO 28 (.binOp .eql 3 (tT 27) (kI 0) 3)])
 (.cond (tT 28) (.seq (rg [oO 29 (.load 84 (tT 8)), oN (.store 84 (tT 6) (tT 29)), oO 7 (.assign (kI 40))])
 (.ret))
 (.skip)))
 (.seq (rg [oO 30 (.fieldAddr 38 (tT 5) 1), oO 31 (.load 5 (tT 30)), oO 32 (.binOp .eql 5 (tT 31) (kB 4) 5), oO 33 (.move (tT 32)), oG 34 (.fieldAddr 38 (tT 5) 1) 33 false, oG 35 (.load 5 (tT 34)) 33 false, oG 36 (.binOp .eql 5 (tT 35) (kB 5) 5) 33 false, oO 37 (.pick (tT 33) (.const (.bool true)) (tT 36)), oO 10 (.assign (tT 37))])
 (.seq (.seq (rg [oO 38 (.move (tT 10)), oO 39 (.move (tT 38)), oG 40 (.fieldAddr 38 (tT 5) 2) 39 true, oG 41 (.load 3 (tT 40)) 39 true, oG 42 (.binOp .lss 3 (tT 41) (kI 0) 3) 39 true, oG 43 (.move (tT 42)) 39 true, oG 44 (.fieldAddr 38 (tT 5) 2) 43 false, oG 45 (.load 3 (tT 44)) 43 false, oG 46 (.fieldAddr 84 (tT 4) 0) 43 false, oG 47 (.load 3 (tT 46)) 43 false, oG 48 (.binOp .geq 3 (tT 45) (tT 47) 3) 43 false, oG 49 (.pick (tT 43) (.const (.bool true)) (tT 48)) 39 true, oO 50 (.pick (tT 39) (tT 49) (.const (.bool false)))])
 (.cond (tT 50) (.seq (rg [oO 51 (.load 84 (tT 8)), oN (.store 84 (tT 6) (tT 51)), oO 7 (.assign (kI 33))])
 (.ret))
 (.skip)))
 (.seq (.seq (rg [oO 52 (.load 25 (tT 3)), oO 53 (.load 38 (tT 5)), oO 54 (cF (.func 147) #[tT 52, tT 53] #[25, 38]), oO 11 (.assign (tT 54))])
 (.seq (rg [oO 55 (.move (tT 11)), oO 56 (.binOp .neq 32 (tT 55) (kI 0) 32)])
 (.cond (tT 56) (.seq (rg [oO 57 (.load 84 (tT 8)), oO 58 (.move (tT 11)), oN (.store 84 (tT 6) (tT 57)), oO 7 (.assign (tT 58))])
 (.ret))
 (.skip))))
 (.seq (rg [oO 59 (.load 25 (tT 3)), oO 60 (.load 84 (tT 4)), oO 61 (.load 38 (tT 5)), oO 62 (cF (.func 148) #[tT 59, tT 60, tT 61] #[25, 84, 38]), oO 63 (.extract (tT 62) 0), oO 64 (.extract (tT 62) 1), oN (.store 84 (tT 6) (tT 63)), oO 7 (.assign (tT 64))])
 .ret))))))))
theorem F107 : Fun1 Tryz.prog 107 65 c107 [.cell 6 84, .tmp 7] := mkT Tryz.func107 rfl (by decide +kernel) Tryz.ntmps107 rfl (by kernel_rfl) rfl
def c50 : AC :=
.seq (rg [oO 4 (.box 84 (tT 1)), oO 5 (.box 84 (tT 2)), oO 6 (.assign (.const (.bool false)))])
 (.seq (.seq (rg [oO 8 (.move (tT 0)), oO 9 (.load 84 (tT 4)), oO 10 (cF (.func 59) #[tT 8, tT 9] #[22, 84]), oO 11 (.binOp .neq 32 (tT 10) (kI 0) 32), oO 12 (.move (tT 11)), oG 13 (.move (tT 0)) 12 false, oG 14 (.load 84 (tT 5)) 12 false, oG 15 (cF (.func 59) #[tT 13, tT 14] #[22, 84]) 12 false, oG 16 (.binOp .neq 32 (tT 15) (kI 0) 32) 12 false, oO 17 (.pick (tT 12) (.const (.bool true)) (tT 16)), oO 18 (.move (tT 17)), oG 19 (.fieldAddr 84 (tT 4) 0) 18 false, oG 20 (.load 3 (tT 19)) 18 false, oG 21 (.fieldAddr 84 (tT 5) 0) 18 false, oG 22 (.load 3 (tT 21)) 18 false, oG 23 (.binOp .neq 3 (tT 20) (tT 22) 3) 18 false, oO 24 (.pick (tT 18) (.const (.bool true)) (tT 23)), oO 25 (.move (tT 24)), oG 26 (.fieldAddr 84 (tT 4) 1) 25 false, oG 27 (.load 3 (tT 26)) 25 false, oG 28 (.fieldAddr 84 (tT 5) 1) 25 false, oG 29 (.load 3 (tT 28)) 25 false, oG 30 (.binOp .neq 3 (tT 27) (tT 29) 3) 25 false, oO 31 (.pick (tT 25) (.const (.bool true)) (tT 30))])
 (.cond (tT 31) (.seq (rg [oO 6 (.assign (.const (.bool false)))])
 (.ret))
 (.skip)))
 (.seq (.seq (rg [oO 7 (.assign (kI 0))])
 (.block 0 (.loop (.seq (.seq (rg [oO 32 (.move (tT 7)), oO 33 (.fieldAddr 84 (tT 4) 0), oO 34 (.load 3 (tT 33)), oO 35 (.fieldAddr 84 (tT 4) 1), oO 36 (.load 3 (tT 35)), oO 37 (.binOp .add 3 (tT 34) (tT 36) 3), oO 38 (.binOp .lss 3 (tT 32) (tT 37) 3)])
 (.cond (tT 38) (.skip)
 (.exit 0)))
 (.seq (.block 1 (.seq (.reg true [] [⟨⟨some 41, .move (tT 0), none⟩, false, true⟩, ⟨⟨some 42, .move (tT 7), none⟩, false, true⟩, ⟨⟨some 43, .fieldAddr 84 (tT 4) 2, none⟩, false, true⟩, ⟨⟨some 44, .indexAddr 82 (tT 43) (tT 42), none⟩, false, true⟩, ⟨⟨some 45, .load 81 (tT 44), none⟩, false, true⟩, ⟨⟨some 46, .move (tT 7), none⟩, false, true⟩, oO 47 (.fieldAddr 84 (tT 5) 2), oO 48 (.indexAddr 82 (tT 47) (tT 46)), oO 49 (.load 81 (tT 48)), oO 50 (cF (.func 91) #[tT 41, tT 45, tT 49] #[22, 81, 81]), oO 51 (.unOp .not 4 (tT 50))])
 (.cond (tT 51) (.seq (rg [oO 6 (.assign (.const (.bool false)))])
 (.ret))
 (.skip))))
 (rg [oO 39 (.move (tT 7)), oO 40 (.binOp .add 3 (tT 39) (kI 1) 3), oO 7 (.assign (tT 40))]))))))
 (.seq (rg [oO 6 (.assign (.const (.bool true)))])
 .ret)))
theorem F50 : Fun1 Tryz.prog 50 52 c50 [.tmp 6] := mkT Tryz.func50 rfl (by decide +kernel) Tryz.ntmps50 rfl (by kernel_rfl) rfl
def c144 : AC :=
.seq (rg [oO 3 (.box 25 (tT 0)), oO 4 (.box 84 (tT 1)), oO 5 (.box 38 (tT 2)), oO 6 (.alloc 84), oO 7 (.assign (kI 0))])
 (.seq (.seq (rg [oO 15 (.load 25 (tT 3)), oO 16 (cF (.func 172) #[tT 15] #[25]), oO 17 (.unOp .not 4 (tT 16))])
 (.cond (tT 17) (.seq (rg [oO 18 (.build 84 #[]), oN (.store 84 (tT 6) (tT 18)), oO 7 (.assign (kI 1))])
 (.ret))
 (.skip)))
 (.seq (rg [oO 19 (.fieldAddr 25 (tT 3) 0), oO 20 (.load 22 (tT 19)), oO 21 (.load 84 (tT 4)), oO 22 (cF (.func 96) #[tT 20, tT 21] #[22, 84]), oO 8 (.assign (tT 22))])
 (.seq (.seq (rg [oO 23 (.move (tT 8)), oO 24 (.binOp .neq 32 (tT 23) (kI 0) 32)])
 (.cond (tT 24) (.seq (rg [oO 25 (.build 84 #[]), oO 26 (.move (tT 8)), oN (.store 84 (tT 6) (tT 25)), oO 7 (.assign (tT 26))])
 (.ret))
 (.skip)))
 (.seq (rg [oO 28 (.load 25 (tT 3)), oO 29 (.load 38 (tT 5)), oO 30 (cF (.func 173) #[tT 28, tT 29] #[25, 38]), oO 27 (.move (tT 30)), oO 31 (.extract (tT 27) 0), oO 32 (.extract (tT 27) 1), oO 9 (.alloc 229), oN (.store 229 (tT 9) (tT 31)), oO 8 (.assign (tT 32))])
 (.seq (rg [oO 33 (.fieldAddr 38 (tT 5) 1), oO 34 (.load 5 (tT 33)), oO 35 (.binOp .eql 5 (tT 34) (kB 4) 5), oO 36 (.move (tT 35)), oG 37 (.fieldAddr 38 (tT 5) 1) 36 false, oG 38 (.load 5 (tT 37)) 36 false, oG 39 (.binOp .eql 5 (tT 38) (kB 5) 5) 36 false, oO 40 (.pick (tT 36) (.const (.bool true)) (tT 39)), oO 10 (.assign (tT 40))])
 (.seq (.seq (rg [oO 41 (.move (tT 8)), oO 42 (.binOp .eql 32 (tT 41) (kI 0) 32), oO 43 (.move (tT 42)), oG 44 (.move (tT 10)) 43 true, oO 45 (.pick (tT 43) (tT 44) (.const (.bool false))), oO 46 (.move (tT 45)), oG 47 (.fieldAddr 38 (tT 5) 2) 46 true, oG 48 (.load 3 (tT 47)) 46 true, oG 49 (.binOp .lss 3 (tT 48) (kI 0) 3) 46 true, oG 50 (.move (tT 49)) 46 true, oG 51 (.fieldAddr 38 (tT 5) 2) 50 false, oG 52 (.load 3 (tT 51)) 50 false, oG 53 (.fieldAddr 84 (tT 4) 0) 50 false, oG 54 (.load 3 (tT 53)) 50 false, oG 55 (.binOp .geq 3 (tT 52) (tT 54) 3) 50 false, oG 56 (.pick (tT 50) (.const (.bool true)) (tT 55)) 46 true, oO 57 (.pick (tT 46) (tT 56) (.const (.bool false)))])
 (.cond (tT 57) (rg [oO 8 (.assign (kI 33))])
 (.skip)))
 (.seq (.seq (rg [oO 58 (.move (tT 8)), oO 59 (.binOp .neq 32 (tT 58) (kI 0) 32)])
 (.cond (tT 59) (.seq (rg [oO 60 (.build 84 #[]), oO 61 (.move (tT 8)), oN (.store 84 (tT 6) (tT 60)), oO 7 (.assign (tT 61))])
 (.ret))
 (.skip)))
 (.seq (rg [oO 63 (.fieldAddr 25 (tT 3) 0), oO 64 (.load 22 (tT 63)), oO 65 (.load 84 (tT 4)), oO 66 (.fieldAddr 229 (tT 9) 0), oO 67 (.load 227 (tT 66)), oO 68 (cF (.func 174) #[tT 64, tT 65, tT 67] #[22, 84, 227]), oO 62 (.move (tT 68)), oO 69 (.extract (tT 62) 0), oO 70 (.extract (tT 62) 1), oO 11 (.assign (tT 69)), oO 8 (.assign (tT 70))])
 (.seq (.seq (rg [oO 71 (.move (tT 8)), oO 72 (.binOp .neq 32 (tT 71) (kI 0) 32)])
 (.cond (tT 72) (.seq (rg [oO 73 (.build 84 #[]), oO 74 (.move (tT 8)), oN (.store 84 (tT 6) (tT 73)), oO 7 (.assign (tT 74))])
 (.ret))
 (.skip)))
 (.seq (rg [oO 75 (.fieldAddr 229 (tT 9) 1), oO 76 (.load 158 (tT 75)), oO 77 (.move (tT 11)), oO 78 (cF (tT 76) #[tT 77] #[93]), oO 12 (.assign (tT 78))])
 (.seq (.seq (rg [oO 79 (.fieldAddr 38 (tT 5) 1), oO 80 (.load 5 (tT 79)), oO 81 (.binOp .eql 5 (tT 80) (kB 4) 5)])
 (.cond (tT 81) (.seq (rg [oO 83 (.load 84 (tT 4)), oO 84 (.fieldAddr 38 (tT 5) 2), oO 85 (.load 3 (tT 84)), oO 86 (cF (.func 175) #[tT 83, tT 85] #[84, 3]), oO 82 (.move (tT 86)), oO 87 (.extract (tT 82) 0), oO 88 (.extract (tT 82) 1), oO 13 (.assign (tT 87)), oO 14 (.assign (tT 88))])
 (.seq (.seq (rg [oO 89 (.move (tT 13)), oO 90 (.binOp .eql 81 (tT 89) (kB 0) 81)])
 (.cond (tT 90) (.seq (rg [oO 91 (.build 84 #[]), oN (.store 84 (tT 6) (tT 91)), oO 7 (.assign (kI 70))])
 (.ret))
 (.skip)))
 (rg [oO 92 (.move (tT 13)), oO 93 (.buildSlice 93 1 #[(0, .tmp 92)]), oO 12 (.assign (tT 93))])))
 (.skip)))
 (.seq (rg [oO 94 (.load 84 (tT 4)), oO 95 (.load 38 (tT 5)), oO 96 (.move (tT 11)), oO 97 (.move (tT 12)), oO 98 (cF (.func 176) #[tT 94, tT 95, tT 96, tT 97] #[84, 38, 93, 93]), oO 99 (.extract (tT 98) 0), oO 100 (.extract (tT 98) 1), oN (.store 84 (tT 6) (tT 99)), oO 7 (.assign (tT 100))])
 .ret))))))))))))
theorem F144 : Fun1 Tryz.prog 144 101 c144 [.cell 6 84, .tmp 7] := mkT Tryz.func144 rfl (by decide +kernel) Tryz.ntmps144 rfl (by kernel_rfl) rfl
def c59 : AC :=
.seq (rg [oO 3 (.box 84 (tT 1)), oO 4 (.assign (kI 0))])
 (.seq (.seq (rg [oO 7 (.load 84 (tT 3)), oO 8 (cF (.func 102) #[tT 7] #[84]), oO 9 (.unOp .not 4 (tT 8))])
 (.cond (tT 9) (.seq (rg [oO 4 (.assign (kI 32))])
 (.ret))
 (.skip)))
 (.seq (.seq (rg [oO 10 (.fieldAddr 84 (tT 3) 0), oO 11 (.load 3 (tT 10)), oO 12 (.fieldAddr 84 (tT 3) 1), oO 13 (.load 3 (tT 12)), oO 14 (.binOp .add 3 (tT 11) (tT 13) 3), oO 5 (.assign (tT 14))])
 (.block 0 (.loop (.seq (.seq (rg [oO 15 (.move (tT 5)), oO 16 (.binOp .lss 3 (tT 15) (kI 24) 3)])
 (.cond (tT 16) (.skip)
 (.exit 0)))
 (.seq (.block 1 (.seq (rg [oO 19 (.move (tT 5)), oO 20 (.fieldAddr 84 (tT 3) 2), oO 21 (.indexAddr 82 (tT 20) (tT 19)), oO 22 (.load 81 (tT 21)), oO 23 (.binOp .neq 81 (tT 22) (kB 0) 81)])
 (.cond (tT 23) (.seq (rg [oO 4 (.assign (kI 32))])
 (.ret))
 (.skip))))
 (rg [oO 17 (.move (tT 5)), oO 18 (.binOp .add 3 (tT 17) (kI 1) 3), oO 5 (.assign (tT 18))]))))))
 (.seq (.seq (rg [oO 6 (.assign (kI 0))])
 (.block 2 (.loop (.seq (.seq (rg [oO 24 (.move (tT 6)), oO 25 (.fieldAddr 84 (tT 3) 0), oO 26 (.load 3 (tT 25)), oO 27 (.fieldAddr 84 (tT 3) 1), oO 28 (.load 3 (tT 27)), oO 29 (.binOp .add 3 (tT 26) (tT 28) 3), oO 30 (.binOp .lss 3 (tT 24) (tT 29) 3)])
 (.cond (tT 30) (.skip)
 (.exit 2)))
 (.seq (.block 3 (.seq (rg [oO 33 (.move (tT 0)), oO 34 (.move (tT 6)), oO 35 (.fieldAddr 84 (tT 3) 2), oO 36 (.indexAddr 82 (tT 35) (tT 34)), oO 37 (.load 81 (tT 36)), oO 38 (cF (.func 103) #[tT 33, tT 37] #[22, 81]), oO 39 (.unOp .not 4 (tT 38))])
 (.cond (tT 39) (.seq (rg [oO 4 (.assign (kI 22))])
 (.ret))
 (.skip))))
 (rg [oO 31 (.move (tT 6)), oO 32 (.binOp .add 3 (tT 31) (kI 1) 3), oO 6 (.assign (tT 32))]))))))
 (.seq (rg [oO 4 (.assign (kI 0))])
 .ret))))
theorem F59 : Fun1 Tryz.prog 59 40 c59 [.tmp 4] := mkT Tryz.func59 rfl (by decide +kernel) Tryz.ntmps59 rfl (by kernel_rfl) rfl
def c148_10 : AC :=
.seq (.seq (rg [oO 126 (.move (tT 9)), oO 127 (cB .len #[tT 126] #[93]), oO 128 (.move (kI 0))])
 (.block 3 (.loop (.seq (rg [oO 129 (.binOp .lss 3 (tT 128) (tT 127) 3)])
 (.seq (.cond (tT 129) (.skip)
 (.exit 3))
 (.seq (.block 4 (rg [oO 131 (.load 84 (tT 4)), oO 132 (cF (.func 184) #[tT 131] #[84]), oO 130 (.move (tT 132)), oO 133 (.extract (tT 130) 0), oO 134 (.extract (tT 130) 1), oO 135 (.extract (tT 130) 2), oN (.store 84 (tT 4) (tT 133))]))
 (rg [oO 136 (.binOp .add 3 (tT 128) (kI 1) 3), oO 128 (.move (tT 136))])))))))
 (.seq (.seq (rg [oO 137 (.fieldAddr 38 (tT 5) 1), oO 138 (.load 5 (tT 137)), oO 139 (.binOp .eql 5 (tT 138) (kB 22) 5), oO 140 (.move (tT 139)), oG 141 (.fieldAddr 84 (tT 4) 1) 140 true, oG 142 (.load 3 (tT 141)) 140 true, oG 143 (.binOp .gtr 3 (tT 142) (kI 0) 3) 140 true, oO 144 (.pick (tT 140) (tT 143) (.const (.bool false)))])
 (.cond (tT 144) (.seq (rg [oO 145 (.load 84 (tT 8)), oN (.store 84 (tT 6) (tT 145)), oO 7 (.assign (kI 73))])
 (.ret))
 (.skip)))
 (.seq (.seq (rg [oO 146 (.fieldAddr 38 (tT 5) 1), oO 147 (.load 5 (tT 146)), oO 148 (.binOp .eql 5 (tT 147) (kB 5) 5)])
 (.cond (tT 148) (.reg true [] [⟨⟨some 149, .fieldAddr 38 (tT 5) 2, none⟩, false, true⟩, ⟨⟨some 150, .load 3 (tT 149), none⟩, false, true⟩, ⟨⟨some 151, .move (tT 11), none⟩, false, true⟩, ⟨⟨some 152, .indexAddr 93 (tT 151) (kI 0), none⟩, false, true⟩, ⟨⟨some 153, .load 81 (tT 152), none⟩, false, true⟩, oO 154 (.fieldAddr 84 (tT 4) 2), oO 155 (.indexAddr 82 (tT 154) (tT 150)), oN (.store 81 (tT 155) (tT 153))])
 (.skip)))
 (.seq (.seq (rg [oO 156 (.move (tT 15)), oO 157 (cB .len #[tT 156] #[93]), oO 158 (.move (kI 0))])
 (.block 5 (.loop (.seq (rg [oO 159 (.binOp .lss 3 (tT 158) (tT 157) 3)])
 (.seq (.cond (tT 159) (.skip)
 (.exit 5))
 (.seq (.block 6 (.seq (rg [oO 160 (.indexAddr 93 (tT 156) (tT 158)), oO 161 (.load 81 (tT 160)), oO 17 (.assign (tT 161))])
 (.seq (rg [oO 163 (.load 84 (tT 4)), oO 164 (.move (tT 17)), oO 165 (cF (.func 185) #[tT 163, tT 164] #[84, 81]), oO 162 (.move (tT 165)), oO 166 (.extract (tT 162) 0), oO 167 (.extract (tT 162) 1), oO 18 (.alloc 84), oN (.store 84 (tT 18) (tT 166)), oO 19 (.assign (tT 167))])
 (.seq (.seq (rg [oO 168 (.move (tT 19)), oO 169 (.binOp .neq 32 (tT 168) (kI 0) 32)])
 (.cond (tT 169) (.seq (rg [oO 170 (.load 84 (tT 8)), oO 171 (.move (tT 19)), oN (.store 84 (tT 6) (tT 170)), oO 7 (.assign (tT 171))])
 (.ret))
 (.skip)))
 (rg [oO 172 (.load 84 (tT 18)), oN (.store 84 (tT 4) (tT 172))])))))
 (rg [oO 173 (.binOp .add 3 (tT 158) (kI 1) 3), oO 158 (.move (tT 173))])))))))
 (.seq (rg [oO 174 (.load 84 (tT 4)), oN (.store 84 (tT 6) (tT 174)), oO 7 (.assign (kI 0))])
 .ret))))
def c148 : AC :=
.seq (rg [oO 3 (.box 25 (tT 0)), oO 4 (.box 84 (tT 1)), oO 5 (.box 38 (tT 2)), oO 6 (.alloc 84), oO 7 (.assign (kI 0))])
 (.seq (rg [oO 20 (.build 84 #[]), oO 8 (.alloc 84), oN (.store 84 (tT 8) (tT 20))])
 (.seq (rg [oO 21 (.load 25 (tT 3)), oO 22 (.load 38 (tT 5)), oO 23 (cF (.func 181) #[tT 21, tT 22] #[25, 38]), oO 9 (.assign (tT 23))])
 (.seq (.seq (rg [oO 24 (.fieldAddr 84 (tT 4) 1), oO 25 (.load 3 (tT 24)), oO 26 (.move (tT 9)), oO 27 (cB .len #[tT 26] #[93]), oO 28 (.binOp .lss 3 (tT 25) (tT 27) 3)])
 (.cond (tT 28) (.seq (rg [oO 29 (.load 84 (tT 8)), oN (.store 84 (tT 6) (tT 29)), oO 7 (.assign (kI 30))])
 (.ret))
 (.skip)))
 (.seq (rg [oO 30 (.fieldAddr 84 (tT 4) 0), oO 31 (.load 3 (tT 30)), oO 32 (.fieldAddr 84 (tT 4) 1), oO 33 (.load 3 (tT 32)), oO 34 (.binOp .add 3 (tT 31) (tT 33) 3), oO 35 (.move (tT 9)), oO 36 (cB .len #[tT 35] #[93]), oO 37 (.binOp .sub 3 (tT 34) (tT 36) 3), oO 10 (.assign (tT 37))])
 (.seq (rg [oO 11 (.assign (.const (.slice none 0 0)))])
 (.seq (.seq (rg [oO 38 (.move (tT 9)), oO 39 (cB .len #[tT 38] #[93]), oO 40 (.move (kI 0))])
 (.block 0 (.loop (.seq (rg [oO 41 (.binOp .lss 3 (tT 40) (tT 39) 3)])
 (.seq (.cond (tT 41) (.skip)
 (.exit 0))
 (.seq (.block 1 (.seq (rg [oO 42 (.move (tT 40)), oO 43 (.indexAddr 93 (tT 38) (tT 40)), oO 44 (.load 81 (tT 43)), oO 12 (.assign (tT 42)), oO 13 (.assign (tT 44))])
 (.seq (rg [oO 45 (.move (tT 10)), oO 46 (.move (tT 12)), oO 47 (.binOp .add 3 (tT 45) (tT 46) 3), oO 48 (.fieldAddr 84 (tT 4) 2), oO 49 (.indexAddr 82 (tT 48) (tT 47)), oO 50 (.load 81 (tT 49)), oO 14 (.assign (tT 50))])
 (.seq (.seq (rg [oO 51 (.fieldAddr 25 (tT 3) 0), oO 52 (.load 22 (tT 51)), oO 53 (.move (tT 14)), oO 54 (.move (tT 13)), oO 55 (cF (.func 182) #[tT 52, tT 53, tT 54] #[22, 81, 81]), oO 56 (.unOp .not 4 (tT 55))])
 (.cond (tT 56) (.seq (rg [oO 57 (.load 84 (tT 8)), oN (.store 84 (tT 6) (tT 57)), oO 7 (.assign (kI 70))])
 (.ret))
 (.skip)))
 (rg [oO 58 (.move (tT 11)), oO 59 (.move (tT 14)), oO 60 (.buildSlice 93 1 #[(0, .tmp 59)]), oO 61 (cB .append #[tT 58, tT 60] #[93, 93]), oO 11 (.assign (tT 61))])))))
 (rg [oO 62 (.binOp .add 3 (tT 40) (kI 1) 3), oO 40 (.move (tT 62))])))))))
 (.seq (.seq (.reg true [] [oO 63 (.fieldAddr 38 (tT 5) 1), oO 64 (.load 5 (tT 63)), oO 65 (.binOp .eql 5 (tT 64) (kB 16) 5), oO 66 (.move (tT 65)), ⟨⟨some 67, .move (tT 11), some (66, true)⟩, false, true⟩, ⟨⟨some 68, .indexAddr 93 (tT 67) (kI 0), some (66, true)⟩, false, true⟩, ⟨⟨some 69, .load 81 (tT 68), some (66, true)⟩, false, true⟩, oG 70 (.move (tT 11)) 66 true, oG 71 (.indexAddr 93 (tT 70) (kI 1)) 66 true, oG 72 (.load 81 (tT 71)) 66 true, oG 73 (.binOp .neq 81 (tT 69) (tT 72) 81) 66 true, oG 74 (.move (tT 73)) 66 true, oG 75 (.move (tT 11)) 74 false, oG 76 (.indexAddr 93 (tT 75) (kI 0)) 74 false, oG 77 (.load 81 (tT 76)) 74 false, oG 78 (.binOp .neq 81 (tT 77) (kB 1) 81) 74 false, oG 79 (.move (tT 78)) 74 false, oG 80 (.move (tT 11)) 79 true, oG 81 (.indexAddr 93 (tT 80) (kI 0)) 79 true, oG 82 (.load 81 (tT 81)) 79 true, oG 83 (.binOp .neq 81 (tT 82) (kB 2) 81) 79 true, oG 84 (.pick (tT 79) (tT 83) (.const (.bool false))) 74 false, oG 85 (.pick (tT 74) (.const (.bool true)) (tT 84)) 66 true, oO 86 (.pick (tT 66) (tT 85) (.const (.bool false)))])
 (.cond (tT 86) (.seq (rg [oO 87 (.load 84 (tT 8)), oN (.store 84 (tT 6) (tT 87)), oO 7 (.assign (kI 70))])
 (.ret))
 (.skip)))
 (.seq (rg [oO 88 (.load 25 (tT 3)), oO 89 (.load 38 (tT 5)), oO 90 (cF (.func 183) #[tT 88, tT 89] #[25, 38]), oO 15 (.assign (tT 90))])
 (.seq (.seq (rg [oO 91 (.fieldAddr 38 (tT 5) 1), oO 92 (.load 5 (tT 91))])
 (.block 2 (.seq (rg [oO 94 (.binOp .eql 5 (tT 92) (kB 4) 5), oO 93 (.assign (tT 94))])
 (.cond (tT 93) (.seq (.seq (rg [oO 95 (.fieldAddr 38 (tT 5) 2), oO 96 (.load 3 (tT 95)), oO 97 (.fieldAddr 84 (tT 4) 2), oO 98 (.indexAddr 82 (tT 97) (tT 96)), oO 99 (.load 81 (tT 98)), oO 100 (.binOp .eql 81 (tT 99) (kB 0) 81)])
 (.cond (tT 100) (.seq (rg [oO 101 (.load 84 (tT 8)), oN (.store 84 (tT 6) (tT 101)), oO 7 (.assign (kI 70))])
 (.ret))
 (.skip)))
 (rg [oO 102 (.fieldAddr 38 (tT 5) 2), oO 103 (.load 3 (tT 102)), oO 104 (.fieldAddr 84 (tT 4) 2), oO 105 (.indexAddr 82 (tT 104) (tT 103)), oO 106 (.load 81 (tT 105)), oO 107 (.buildSlice 93 1 #[(0, .tmp 106)]), oO 15 (.assign (tT 107))]))
 (.seq (rg [oO 109 (.binOp .eql 5 (tT 92) (kB 7) 5), oO 108 (.assign (tT 109))])
 (.cond (tT 108) (.reg true [] [⟨⟨some 110, .move (tT 11), none⟩, false, true⟩, ⟨⟨some 111, .indexAddr 93 (tT 110) (kI 0), none⟩, false, true⟩, ⟨⟨some 112, .load 81 (tT 111), none⟩, false, true⟩, oO 113 (.move (tT 11)), oO 114 (.indexAddr 93 (tT 113) (kI 0)), oO 115 (.load 81 (tT 114)), oO 116 (.buildSlice 93 2 #[(0, .tmp 112), (1, .tmp 115)]), oO 15 (.assign (tT 116))])
 (.seq (rg [oO 118 (.binOp .eql 5 (tT 92) (kB 8) 5), oO 117 (.assign (tT 118))])
 (.cond (tT 117) (.reg true [] [⟨⟨some 119, .move (tT 11), none⟩, false, true⟩, ⟨⟨some 120, .indexAddr 93 (tT 119) (kI 1), none⟩, false, true⟩, ⟨⟨some 121, .load 81 (tT 120), none⟩, false, true⟩, oO 122 (.move (tT 11)), oO 123 (.indexAddr 93 (tT 122) (kI 0)), oO 124 (.load 81 (tT 123)), oO 125 (.buildSlice 93 2 #[(0, .tmp 121), (1, .tmp 124)]), oO 15 (.assign (tT 125))])
 (.skip)))))))))
 c148_10)))))))))
theorem F148 : Fun1 Tryz.prog 148 175 c148 [.cell 6 84, .tmp 7] := mkT Tryz.func148 rfl (by decide +kernel) Tryz.ntmps148 rfl (by kernel_rfl) rfl
def c91 : AC :=
.seq (rg [oO 6 (.assign (.const (.bool false)))])
 (.seq (.seq (rg [oO 9 (.move (tT 0)), oO 10 (.move (tT 1)), oO 11 (cF (.func 103) #[tT 9, tT 10] #[22, 81]), oO 12 (.unOp .not 4 (tT 11)), oO 13 (.move (tT 12)), oG 14 (.move (tT 0)) 13 false, oG 15 (.move (tT 2)) 13 false, oG 16 (cF (.func 103) #[tT 14, tT 15] #[22, 81]) 13 false, oG 17 (.unOp .not 4 (tT 16)) 13 false, oO 18 (.pick (tT 13) (.const (.bool true)) (tT 17))])
 (.cond (tT 18) (.seq (rg [oO 6 (.assign (.const (.bool false)))])
 (.ret))
 (.skip)))
 (.seq (.seq (rg [oO 19 (.move (tT 1)), oO 20 (.move (tT 2)), oO 21 (.binOp .eql 81 (tT 19) (tT 20) 81), oO 22 (.move (tT 21)), oG 23 (.move (tT 2)) 22 false, oG 24 (.binOp .eql 81 (tT 23) (kB 0) 81) 22 false, oO 25 (.pick (tT 22) (.const (.bool true)) (tT 24)), oO 26 (.move (tT 25)), oG 27 (.move (tT 1)) 26 false, oG 28 (.binOp .eql 81 (tT 27) (kB 3) 81) 26 false, oG 29 (.move (tT 28)) 26 false, oG 30 (.move (tT 2)) 29 true, oG 31 (cF (.func 132) #[tT 30] #[81]) 29 true, oG 32 (.pick (tT 29) (tT 31) (.const (.bool false))) 26 false, oO 33 (.pick (tT 26) (.const (.bool true)) (tT 32)), oO 34 (.move (tT 33)), oG 35 (.move (tT 1)) 34 false, oG 36 (cF (.func 132) #[tT 35] #[81]) 34 false, oG 37 (.move (tT 36)) 34 false, oG 38 (.move (tT 2)) 37 true, oG 39 (.binOp .eql 81 (tT 38) (kB 5) 81) 37 true, oG 40 (.pick (tT 37) (tT 39) (.const (.bool false))) 34 false, oO 41 (.pick (tT 34) (.const (.bool true)) (tT 40))])
 (.cond (tT 41) (.seq (rg [oO 6 (.assign (.const (.bool true)))])
 (.ret))
 (.skip)))
 (.seq (.seq (rg [oO 42 (.move (tT 1)), oO 43 (.binOp .lss 81 (tT 42) (kB 16) 81), oO 44 (.move (tT 43)), oG 45 (.move (tT 2)) 44 false, oG 46 (.binOp .lss 81 (tT 45) (kB 16) 81) 44 false, oO 47 (.pick (tT 44) (.const (.bool true)) (tT 46))])
 (.cond (tT 47) (.seq (rg [oO 6 (.assign (.const (.bool false)))])
 (.ret))
 (.skip)))
 (.seq (rg [oO 48 (.move (tT 0)), oO 49 (.move (tT 1)), oO 50 (.binOp .sub 81 (tT 49) (kB 16) 81), oO 51 (.convert 81 3 (tT 50)), oO 52 (cF (.func 133) #[tT 48, tT 51] #[22, 3]), oO 7 (.assign (tT 52))])
 (.seq (.seq (rg [oO 8 (.assign (kI 0))])
 (.block 0 (.loop (.seq (.seq (rg [oO 53 (.move (tT 8)), oO 54 (.move (tT 7)), oO 55 (cB .len #[tT 54] #[29]), oO 56 (.binOp .lss 3 (tT 53) (tT 55) 3)])
 (.cond (tT 56) (.skip)
 (.exit 0)))
 (.seq (.block 1 (.seq (rg [oO 59 (.move (tT 7)), oO 60 (.move (tT 8)), oO 61 (.indexAddr 29 (tT 59) (tT 60)), oO 62 (.load 3 (tT 61)), oO 63 (.move (tT 2)), oO 64 (.binOp .sub 81 (tT 63) (kB 16) 81), oO 65 (.convert 81 3 (tT 64)), oO 66 (.binOp .eql 3 (tT 62) (tT 65) 3)])
 (.cond (tT 66) (.seq (rg [oO 6 (.assign (.const (.bool true)))])
 (.ret))
 (.skip))))
 (rg [oO 57 (.move (tT 8)), oO 58 (.binOp .add 3 (tT 57) (kI 1) 3), oO 8 (.assign (tT 58))]))))))
 (.seq (rg [oO 6 (.assign (.const (.bool false)))])
 .ret))))))
theorem F91 : Fun1 Tryz.prog 91 67 c91 [.tmp 6] := mkT Tryz.func91 rfl (by decide +kernel) Tryz.ntmps91 rfl (by kernel_rfl) rfl
def c96 : AC :=
.seq (rg [oO 3 (.box 84 (tT 1)), oO 4 (.assign (kI 0))])
 (.seq (.seq (.reg true [3] [oO 7 (.load 84 (tT 3)), oO 8 (cF (.func 137) #[tT 7] #[84]), oO 9 (.unOp .not 4 (tT 8)), oO 10 (.move (tT 9)), ⟨⟨some 11, .load 84 (tT 3), some (10, false)⟩, false, true⟩, ⟨⟨some 12, cF (.func 138) #[tT 11] #[84], some (10, false)⟩, false, true⟩, ⟨⟨some 13, .load 84 (tT 3), some (10, false)⟩, true, false⟩, oG 14 (.binOp .neq 84 (tT 12) (tT 13) 84) 10 false, oO 15 (.pick (tT 10) (.const (.bool true)) (tT 14))])
 (.cond (tT 15) (.seq (rg [oO 4 (.assign (kI 32))])
 (.ret))
 (.skip)))
 (.seq (.seq (rg [oO 16 (.fieldAddr 84 (tT 3) 2), oO 17 (.load 82 (tT 16)), oO 18 (.move (kI 0))])
 (.block 0 (.loop (.seq (rg [oO 19 (.binOp .lss 3 (tT 18) (kI 24) 3)])
 (.seq (.cond (tT 19) (.skip)
 (.exit 0))
 (.seq (.block 1 (.seq (rg [oO 20 (.index 82 (tT 17) (tT 18)), oO 6 (.assign (tT 20))])
 (.seq (rg [oO 21 (.move (tT 0)), oO 22 (.move (tT 6)), oO 23 (cF (.func 139) #[tT 21, tT 22] #[22, 81]), oO 24 (.unOp .not 4 (tT 23))])
 (.cond (tT 24) (.seq (rg [oO 4 (.assign (kI 22))])
 (.ret))
 (.skip)))))
 (rg [oO 25 (.binOp .add 3 (tT 18) (kI 1) 3), oO 18 (.move (tT 25))])))))))
 (.seq (rg [oO 4 (.assign (kI 0))])
 .ret)))
theorem F96 : Fun1 Tryz.prog 96 26 c96 [.tmp 4] := mkT Tryz.func96 rfl (by decide +kernel) Tryz.ntmps96 rfl (by kernel_rfl) rfl
def c174 : AC :=
.seq (rg [oO 4 (.box 84 (tT 1)), oO 6 (.assign (.const (.slice none 0 0))), oO 7 (.assign (kI 0))])
 (.seq (.seq (rg [oO 14 (.fieldAddr 84 (tT 4) 1), oO 15 (.load 3 (tT 14)), oO 16 (.move (tT 2)), oO 17 (cB .len #[tT 16] #[227]), oO 18 (.binOp .lss 3 (tT 15) (tT 17) 3)])
 (.cond (tT 18) (.seq (rg [oO 6 (.assign (.const (.slice none 0 0))), oO 7 (.assign (kI 30))])
 (.ret))
 (.skip)))
 (.seq (rg [oO 8 (.assign (.const (.slice none 0 0)))])
 (.seq (.seq (rg [oO 19 (.move (tT 2)), oO 20 (cB .len #[tT 19] #[227]), oO 21 (.move (kI 0))])
 (.block 0 (.loop (.seq (rg [oO 22 (.binOp .lss 3 (tT 21) (tT 20) 3)])
 (.seq (.cond (tT 22) (.skip)
 (.exit 0))
 (.seq (.block 1 (.seq (rg [oO 23 (.move (tT 21)), oO 9 (.assign (tT 23))])
 (.seq (rg [oO 25 (.load 84 (tT 4)), oO 26 (.move (tT 2)), oO 27 (cB .len #[tT 26] #[227]), oO 28 (.binOp .sub 3 (tT 27) (kI 1) 3), oO 29 (.move (tT 9)), oO 30 (.binOp .sub 3 (tT 28) (tT 29) 3), oO 31 (cF (.func 210) #[tT 25, tT 30] #[84, 3]), oO 24 (.move (tT 31)), oO 32 (.extract (tT 24) 0), oO 33 (.extract (tT 24) 1), oO 10 (.assign (tT 32)), oO 11 (.assign (tT 33))])
 (rg [oO 34 (.move (tT 8)), oO 35 (.move (tT 10)), oO 36 (.buildSlice 93 1 #[(0, .tmp 35)]), oO 37 (cB .append #[tT 34, tT 36] #[93, 93]), oO 8 (.assign (tT 37))]))))
 (rg [oO 38 (.binOp .add 3 (tT 21) (kI 1) 3), oO 21 (.move (tT 38))])))))))
 (.seq (.seq (rg [oO 39 (.move (tT 8)), oO 40 (cB .len #[tT 39] #[93]), oO 41 (.move (kI 0))])
 (.block 2 (.loop (.seq (rg [oO 42 (.binOp .lss 3 (tT 41) (tT 40) 3)])
 (.seq (.cond (tT 42) (.skip)
 (.exit 2))
 (.seq (.block 3 (.seq (rg [oO 43 (.move (tT 41)), oO 44 (.indexAddr 93 (tT 39) (tT 41)), oO 45 (.load 81 (tT 44)), oO 12 (.assign (tT 43)), oO 13 (.assign (tT 45))])
 (.seq (.reg true [] [⟨⟨some 46, .move (tT 0), none⟩, false, true⟩, ⟨⟨some 47, .move (tT 2), none⟩, false, true⟩, ⟨⟨some 48, .move (tT 12), none⟩, false, true⟩, ⟨⟨some 49, .indexAddr 227 (tT 47) (tT 48), none⟩, false, true⟩, ⟨⟨some 50, .load 266 (tT 49), none⟩, false, true⟩, ⟨⟨some 51, .move (tT 13), none⟩, false, true⟩, oO 52 (.move (tT 8)), oO 53 (.indexAddr 93 (tT 52) (kI 0)), oO 54 (.load 81 (tT 53)), oO 55 (cF (.func 211) #[tT 46, tT 50, tT 51, tT 54] #[22, 266, 81, 81]), oO 56 (.unOp .not 4 (tT 55))])
 (.cond (tT 56) (.seq (rg [oO 6 (.assign (.const (.slice none 0 0))), oO 7 (.assign (kI 70))])
 (.ret))
 (.skip)))))
 (rg [oO 57 (.binOp .add 3 (tT 41) (kI 1) 3), oO 41 (.move (tT 57))])))))))
 (.seq (rg [oO 58 (.move (tT 8)), oO 6 (.assign (tT 58)), oO 7 (.assign (kI 0))])
 .ret)))))
theorem F174 : Fun1 Tryz.prog 174 59 c174 [.tmp 6, .tmp 7] := mkT Tryz.func174 rfl (by decide +kernel) Tryz.ntmps174 rfl (by kernel_rfl) rfl
def c175 : AC :=
.seq (rg [oO 2 (.box 84 (tT 0)), oO 4 (.assign (kB 0)), oO 5 (.assign (kI 0))])
 (.seq (.block 0 (.seq (rg [oO 7 (.load 84 (tT 2)), oO 8 (cF (.func 137) #[tT 7] #[84]), oO 9 (.unOp .not 4 (tT 8)), oO 6 (.assign (tT 9))])
 (.cond (tT 6) (.seq (rg [oO 4 (.assign (kB 0)), oO 5 (.assign (kI 32))])
 (.ret))
 (.seq (rg [oO 11 (.move (tT 1)), oO 12 (.binOp .lss 3 (tT 11) (kI 0) 3), oO 13 (.move (tT 12)), oG 14 (.move (tT 1)) 13 false, oG 15 (.fieldAddr 84 (tT 2) 0) 13 false, oG 16 (.load 3 (tT 15)) 13 false, oG 17 (.binOp .geq 3 (tT 14) (tT 16) 3) 13 false, oO 18 (.pick (tT 13) (.const (.bool true)) (tT 17)), oO 10 (.assign (tT 18))])
 (.cond (tT 10) (.seq (rg [oO 4 (.assign (kB 0)), oO 5 (.assign (kI 33))])
 (.ret))
 (.skip))))))
 (.seq (rg [oO 19 (.move (tT 1)), oO 20 (.fieldAddr 84 (tT 2) 2), oO 21 (.indexAddr 82 (tT 20) (tT 19)), oO 22 (.load 81 (tT 21)), oO 4 (.assign (tT 22)), oO 5 (.assign (kI 0))])
 .ret))
theorem F175 : Fun1 Tryz.prog 175 23 c175 [.tmp 4, .tmp 5] := mkT Tryz.func175 rfl (by decide +kernel) Tryz.ntmps175 rfl (by kernel_rfl) rfl
def c176 : AC :=
.seq (rg [oO 4 (.box 84 (tT 0)), oO 5 (.box 38 (tT 1)), oO 8 (.alloc 84), oO 9 (.assign (kI 0))])
 (.seq (.seq (rg [oO 14 (.move (tT 2)), oO 15 (cB .len #[tT 14] #[93]), oO 16 (.move (kI 0))])
 (.block 0 (.loop (.seq (rg [oO 17 (.binOp .lss 3 (tT 16) (tT 15) 3)])
 (.seq (.cond (tT 17) (.skip)
 (.exit 0))
 (.seq (.block 1 (rg [oO 19 (.load 84 (tT 4)), oO 20 (cF (.func 212) #[tT 19] #[84]), oO 18 (.move (tT 20)), oO 21 (.extract (tT 18) 0), oO 22 (.extract (tT 18) 1), oO 23 (.extract (tT 18) 2), oN (.store 84 (tT 4) (tT 21))]))
 (rg [oO 24 (.binOp .add 3 (tT 16) (kI 1) 3), oO 16 (.move (tT 24))])))))))
 (.seq (.seq (rg [oO 25 (.fieldAddr 38 (tT 5) 1), oO 26 (.load 5 (tT 25)), oO 27 (.binOp .eql 5 (tT 26) (kB 22) 5), oO 28 (.move (tT 27)), oG 29 (.fieldAddr 84 (tT 4) 1) 28 true, oG 30 (.load 3 (tT 29)) 28 true, oG 31 (.binOp .gtr 3 (tT 30) (kI 0) 3) 28 true, oO 32 (.pick (tT 28) (tT 31) (.const (.bool false)))])
 (.cond (tT 32) (.seq (rg [oO 33 (.build 84 #[]), oN (.store 84 (tT 8) (tT 33)), oO 9 (.assign (kI 73))])
 (.ret))
 (.skip)))
 (.seq (.seq (rg [oO 34 (.fieldAddr 38 (tT 5) 1), oO 35 (.load 5 (tT 34)), oO 36 (.binOp .eql 5 (tT 35) (kB 5) 5)])
 (.cond (tT 36) (.reg true [] [⟨⟨some 38, .load 84 (tT 4), none⟩, false, true⟩, ⟨⟨some 39, .fieldAddr 38 (tT 5) 2, none⟩, false, true⟩, ⟨⟨some 40, .load 3 (tT 39), none⟩, false, true⟩, oO 41 (.move (tT 2)), oO 42 (.indexAddr 93 (tT 41) (kI 0)), oO 43 (.load 81 (tT 42)), oO 44 (cF (.func 213) #[tT 38, tT 40, tT 43] #[84, 3, 81]), oO 37 (.move (tT 44)), ⟨⟨some 45, .extract (tT 37) 0, none⟩, false, true⟩, ⟨⟨some 46, .extract (tT 37) 1, none⟩, true, true⟩, oN (.store 84 (tT 4) (tT 45))])
 (.skip)))
 (.seq (.seq (rg [oO 47 (.move (tT 3)), oO 48 (cB .len #[tT 47] #[93]), oO 49 (.move (kI 0))])
 (.block 2 (.loop (.seq (rg [oO 50 (.binOp .lss 3 (tT 49) (tT 48) 3)])
 (.seq (.cond (tT 50) (.skip)
 (.exit 2))
 (.seq (.block 3 (.seq (rg [oO 51 (.indexAddr 93 (tT 47) (tT 49)), oO 52 (.load 81 (tT 51)), oO 11 (.assign (tT 52))])
 (.seq (rg [oO 54 (.load 84 (tT 4)), oO 55 (.move (tT 11)), oO 56 (cF (.func 214) #[tT 54, tT 55] #[84, 81]), oO 53 (.move (tT 56)), oO 57 (.extract (tT 53) 0), oO 58 (.extract (tT 53) 1), oO 12 (.alloc 84), oN (.store 84 (tT 12) (tT 57)), oO 13 (.assign (tT 58))])
 (.seq (.seq (rg [oO 59 (.move (tT 13)), oO 60 (.binOp .neq 32 (tT 59) (kI 0) 32)])
 (.cond (tT 60) (.seq (rg [oO 61 (.build 84 #[]), oO 62 (.move (tT 13)), oN (.store 84 (tT 8) (tT 61)), oO 9 (.assign (tT 62))])
 (.ret))
 (.skip)))
 (rg [oO 63 (.load 84 (tT 12)), oN (.store 84 (tT 4) (tT 63))])))))
 (rg [oO 64 (.binOp .add 3 (tT 49) (kI 1) 3), oO 49 (.move (tT 64))])))))))
 (.seq (rg [oO 65 (.load 84 (tT 4)), oN (.store 84 (tT 8) (tT 65)), oO 9 (.assign (kI 0))])
 .ret)))))
theorem F176 : Fun1 Tryz.prog 176 66 c176 [.cell 8 84, .tmp 9] := mkT Tryz.func176 rfl (by decide +kernel) Tryz.ntmps176 rfl (by kernel_rfl) rfl
def c102 : AC :=
.seq (rg [oO 1 (.box 84 (tT 0)), oO 2 (.assign (.const (.bool false)))])
 (.seq (rg [oO 3 (.fieldAddr 84 (tT 1) 0), oO 4 (.load 3 (tT 3)), oO 5 (.binOp .geq 3 (tT 4) (kI 0) 3), oO 6 (.move (tT 5)), oG 7 (.fieldAddr 84 (tT 1) 0) 6 true, oG 8 (.load 3 (tT 7)) 6 true, oG 9 (.binOp .leq 3 (tT 8) (kI 16) 3) 6 true, oO 10 (.pick (tT 6) (tT 9) (.const (.bool false))), oO 11 (.move (tT 10)), oG 12 (.fieldAddr 84 (tT 1) 1) 11 true, oG 13 (.load 3 (tT 12)) 11 true, oG 14 (.binOp .geq 3 (tT 13) (kI 0) 3) 11 true, oO 15 (.pick (tT 11) (tT 14) (.const (.bool false))), oO 16 (.move (tT 15)), oG 17 (.fieldAddr 84 (tT 1) 1) 16 true, oG 18 (.load 3 (tT 17)) 16 true, oG 19 (.binOp .leq 3 (tT 18) (kI 24) 3) 16 true, oO 20 (.pick (tT 16) (tT 19) (.const (.bool false))), oO 21 (.move (tT 20)), oG 22 (.fieldAddr 84 (tT 1) 0) 21 true, oG 23 (.load 3 (tT 22)) 21 true, oG 24 (.fieldAddr 84 (tT 1) 1) 21 true, oG 25 (.load 3 (tT 24)) 21 true, oG 26 (.binOp .add 3 (tT 23) (tT 25) 3) 21 true, oG 27 (.binOp .leq 3 (tT 26) (kI 24) 3) 21 true, oO 28 (.pick (tT 21) (tT 27) (.const (.bool false))), oO 2 (.assign (tT 28))])
 .ret)
theorem F102 : Fun1 Tryz.prog 102 29 c102 [.tmp 2] := mkT Tryz.func102 rfl (by decide +kernel) Tryz.ntmps102 rfl (by kernel_rfl) rfl
def c182 : AC :=
.seq (rg [oO 6 (.assign (.const (.bool false)))])
 (.seq (.seq (rg [oO 7 (.move (tT 2))])
 (.block 0 (.seq (rg [oO 9 (.binOp .eql 81 (tT 7) (kB 255) 81), oO 8 (.assign (tT 9))])
 (.cond (tT 8) (.seq (rg [oO 6 (.assign (.const (.bool true)))])
 (.ret))
 (.seq (rg [oO 11 (.binOp .eql 81 (tT 7) (kB 254) 81), oO 10 (.assign (tT 11))])
 (.cond (tT 10) (.seq (rg [oO 12 (.move (tT 1)), oO 13 (.binOp .neq 81 (tT 12) (kB 0) 81), oO 6 (.assign (tT 13))])
 (.ret))
 (.seq (rg [oO 15 (.binOp .eql 81 (tT 7) (kB 253) 81), oO 14 (.assign (tT 15))])
 (.cond (tT 14) (.seq (rg [oO 16 (.move (tT 1)), oO 17 (cF (.func 132) #[tT 16] #[81]), oO 6 (.assign (tT 17))])
 (.ret))
 (.skip)))))))))
 (.seq (rg [oO 18 (.move (tT 0)), oO 19 (.move (tT 1)), oO 20 (.move (tT 2)), oO 21 (cF (.func 91) #[tT 18, tT 19, tT 20] #[22, 81, 81]), oO 6 (.assign (tT 21))])
 .ret))
theorem F182 : Fun1 Tryz.prog 182 22 c182 [.tmp 6] := mkT Tryz.func182 rfl (by decide +kernel) Tryz.ntmps182 rfl (by kernel_rfl) rfl
def c184 : AC :=
.seq (rg [oO 1 (.box 84 (tT 0)), oO 2 (.alloc 84), oO 3 (.assign (kB 0)), oO 4 (.assign (kI 0))])
 (.seq (.seq (rg [oO 6 (.load 84 (tT 1)), oO 7 (cF (.func 102) #[tT 6] #[84]), oO 8 (.unOp .not 4 (tT 7))])
 (.cond (tT 8) (.seq (rg [oO 9 (.build 84 #[]), oN (.store 84 (tT 2) (tT 9)), oO 3 (.assign (kB 0)), oO 4 (.assign (kI 32))])
 (.ret))
 (.skip)))
 (.seq (.seq (rg [oO 10 (.fieldAddr 84 (tT 1) 1), oO 11 (.load 3 (tT 10)), oO 12 (.binOp .eql 3 (tT 11) (kI 0) 3)])
 (.cond (tT 12) (.seq (rg [oO 13 (.build 84 #[]), oN (.store 84 (tT 2) (tT 13)), oO 3 (.assign (kB 0)), oO 4 (.assign (kI 30))])
 (.ret))
 (.skip)))
 (.seq (rg [oO 14 (.fieldAddr 84 (tT 1) 0), oO 15 (.load 3 (tT 14)), oO 16 (.fieldAddr 84 (tT 1) 1), oO 17 (.load 3 (tT 16)), oO 18 (.binOp .add 3 (tT 15) (tT 17) 3), oO 19 (.binOp .sub 3 (tT 18) (kI 1) 3), oO 20 (.fieldAddr 84 (tT 1) 2), oO 21 (.indexAddr 82 (tT 20) (tT 19)), oO 22 (.load 81 (tT 21)), oO 5 (.assign (tT 22))])
 (.seq (rg [oO 23 (.fieldAddr 84 (tT 1) 1), oO 24 (.load 3 (tT 23)), oO 25 (.binOp .sub 3 (tT 24) (kI 1) 3), oO 26 (.fieldAddr 84 (tT 1) 1), oN (.store 3 (tT 26) (tT 25))])
 (.seq (rg [oO 27 (.load 84 (tT 1)), oO 28 (cF (.func 218) #[tT 27] #[84]), oO 29 (.move (tT 5)), oN (.store 84 (tT 2) (tT 28)), oO 3 (.assign (tT 29)), oO 4 (.assign (kI 0))])
 .ret)))))
theorem F184 : Fun1 Tryz.prog 184 30 c184 [.cell 2 84, .tmp 3, .tmp 4] := mkT Tryz.func184 rfl (by decide +kernel) Tryz.ntmps184 rfl (by kernel_rfl) rfl
def c185 : AC :=
.seq (rg [oO 2 (.box 84 (tT 0)), oO 4 (.alloc 84), oO 5 (.assign (kI 0))])
 (.seq (.seq (rg [oO 7 (.load 84 (tT 2)), oO 8 (cF (.func 102) #[tT 7] #[84]), oO 9 (.unOp .not 4 (tT 8))])
 (.cond (tT 9) (.seq (rg [oO 10 (.build 84 #[]), oN (.store 84 (tT 4) (tT 10)), oO 5 (.assign (kI 32))])
 (.ret))
 (.skip)))
 (.seq (rg [oO 11 (.fieldAddr 84 (tT 2) 0), oO 12 (.load 3 (tT 11)), oO 13 (.fieldAddr 84 (tT 2) 1), oO 14 (.load 3 (tT 13)), oO 15 (.binOp .add 3 (tT 12) (tT 14) 3), oO 6 (.assign (tT 15))])
 (.seq (.seq (rg [oO 16 (.move (tT 6)), oO 17 (.binOp .eql 3 (tT 16) (kI 24) 3)])
 (.cond (tT 17) (.seq (rg [oO 18 (.build 84 #[]), oN (.store 84 (tT 4) (tT 18)), oO 5 (.assign (kI 31))])
 (.ret))
 (.skip)))
 (.seq (rg [oO 19 (.load 84 (tT 2)), oO 20 (cF (.func 218) #[tT 19] #[84]), oN (.store 84 (tT 2) (tT 20))])
 (.seq (rg [oO 21 (.move (tT 6)), oO 22 (.move (tT 1)), oO 23 (.fieldAddr 84 (tT 2) 2), oO 24 (.indexAddr 82 (tT 23) (tT 21)), oN (.store 81 (tT 24) (tT 22))])
 (.seq (rg [oO 25 (.fieldAddr 84 (tT 2) 1), oO 26 (.load 3 (tT 25)), oO 27 (.binOp .add 3 (tT 26) (kI 1) 3), oO 28 (.fieldAddr 84 (tT 2) 1), oN (.store 3 (tT 28) (tT 27))])
 (.seq (rg [oO 29 (.load 84 (tT 2)), oN (.store 84 (tT 4) (tT 29)), oO 5 (.assign (kI 0))])
 .ret)))))))
theorem F185 : Fun1 Tryz.prog 185 30 c185 [.cell 4 84, .tmp 5] := mkT Tryz.func185 rfl (by decide +kernel) Tryz.ntmps185 rfl (by kernel_rfl) rfl
def c132 : AC :=
.seq (rg [oO 2 (.assign (.const (.bool false)))])
 (.seq (rg [oO 3 (.move (tT 0)), oO 4 (.binOp .eql 81 (tT 3) (kB 3) 81), oO 5 (.move (tT 4)), oG 6 (.move (tT 0)) 5 false, oG 7 (.binOp .eql 81 (tT 6) (kB 4) 81) 5 false, oO 8 (.pick (tT 5) (.const (.bool true)) (tT 7)), oO 9 (.move (tT 8)), oG 10 (.move (tT 0)) 9 false, oG 11 (.binOp .eql 81 (tT 10) (kB 5) 81) 9 false, oO 12 (.pick (tT 9) (.const (.bool true)) (tT 11)), oO 13 (.move (tT 12)), oG 14 (.move (tT 0)) 13 false, oG 15 (.binOp .geq 81 (tT 14) (kB 16) 81) 13 false, oO 16 (.pick (tT 13) (.const (.bool true)) (tT 15)), oO 2 (.assign (tT 16))])
 .ret)
theorem F132 : Fun1 Tryz.prog 132 17 c132 [.tmp 2] := mkT Tryz.func132 rfl (by decide +kernel) Tryz.ntmps132 rfl (by kernel_rfl) rfl
def c137 : AC :=
.seq (rg [oO 1 (.box 84 (tT 0)), oO 2 (.assign (.const (.bool false)))])
 (.seq (rg [oO 3 (.fieldAddr 84 (tT 1) 0), oO 4 (.load 3 (tT 3)), oO 5 (.binOp .geq 3 (tT 4) (kI 0) 3), oO 6 (.move (tT 5)), oG 7 (.fieldAddr 84 (tT 1) 0) 6 true, oG 8 (.load 3 (tT 7)) 6 true, oG 9 (.binOp .leq 3 (tT 8) (kI 16) 3) 6 true, oO 10 (.pick (tT 6) (tT 9) (.const (.bool false))), oO 11 (.move (tT 10)), oG 12 (.fieldAddr 84 (tT 1) 1) 11 true, oG 13 (.load 3 (tT 12)) 11 true, oG 14 (.binOp .geq 3 (tT 13) (kI 0) 3) 11 true, oO 15 (.pick (tT 11) (tT 14) (.const (.bool false))), oO 16 (.move (tT 15)), oG 17 (.fieldAddr 84 (tT 1) 1) 16 true, oG 18 (.load 3 (tT 17)) 16 true, oG 19 (.fieldAddr 84 (tT 1) 0) 16 true, oG 20 (.load 3 (tT 19)) 16 true, oG 21 (.binOp .sub 3 (kI 24) (tT 20) 3) 16 true, oG 22 (.binOp .leq 3 (tT 18) (tT 21) 3) 16 true, oO 23 (.pick (tT 16) (tT 22) (.const (.bool false))), oO 2 (.assign (tT 23))])
 .ret)
theorem F137 : Fun1 Tryz.prog 137 24 c137 [.tmp 2] := mkT Tryz.func137 rfl (by decide +kernel) Tryz.ntmps137 rfl (by kernel_rfl) rfl
def c138 : AC :=
.seq (rg [oO 1 (.box 84 (tT 0)), oO 2 (.alloc 84)])
 (.seq (rg [oO 4 (.fieldAddr 84 (tT 1) 0), oO 5 (.load 3 (tT 4)), oO 6 (.fieldAddr 84 (tT 1) 1), oO 7 (.load 3 (tT 6)), oO 8 (.build 84 #[(0, .tmp 5), (1, .tmp 7)]), oO 3 (.alloc 84), oN (.store 84 (tT 3) (tT 8))])
 (.seq (.reg true [] [⟨⟨some 9, .fieldAddr 84 (tT 3) 2, none⟩, false, true⟩, ⟨⟨some 10, .fieldAddr 84 (tT 1) 0, none⟩, false, true⟩, ⟨⟨some 11, .load 3 (tT 10), none⟩, false, true⟩, ⟨⟨some 12, .fieldAddr 84 (tT 1) 1, none⟩, false, true⟩, ⟨⟨some 13, .load 3 (tT 12), none⟩, false, true⟩, ⟨⟨some 14, .binOp .add 3 (tT 11) (tT 13) 3, none⟩, false, true⟩, ⟨⟨some 15, .slice 82 (tT 9) none (some (tT 14)) none, none⟩, false, true⟩, oO 16 (.fieldAddr 84 (tT 1) 2), oO 17 (.slice 82 (tT 16) none none none), oO 18 (cB .copy #[tT 15, tT 17] #[93, 93])])
 (.seq (rg [oO 19 (.load 84 (tT 3)), oN (.store 84 (tT 2) (tT 19))])
 .ret)))
theorem F138 : Fun1 Tryz.prog 138 20 c138 [.cell 2 84] := mkT Tryz.func138 rfl (by decide +kernel) Tryz.ntmps138 rfl (by kernel_rfl) rfl
def c210 : AC :=
.seq (rg [oO 2 (.box 84 (tT 0)), oO 4 (.assign (kB 0)), oO 5 (.assign (kI 0))])
 (.seq (.block 0 (.seq (rg [oO 7 (.load 84 (tT 2)), oO 8 (cF (.func 137) #[tT 7] #[84]), oO 9 (.unOp .not 4 (tT 8)), oO 6 (.assign (tT 9))])
 (.cond (tT 6) (.seq (rg [oO 4 (.assign (kB 0)), oO 5 (.assign (kI 32))])
 (.ret))
 (.seq (rg [oO 11 (.move (tT 1)), oO 12 (.binOp .lss 3 (tT 11) (kI 0) 3), oO 10 (.assign (tT 12))])
 (.cond (tT 10) (.seq (rg [oO 4 (.assign (kB 0)), oO 5 (.assign (kI 1))])
 (.ret))
 (.seq (rg [oO 14 (.move (tT 1)), oO 15 (.fieldAddr 84 (tT 2) 1), oO 16 (.load 3 (tT 15)), oO 17 (.binOp .geq 3 (tT 14) (tT 16) 3), oO 13 (.assign (tT 17))])
 (.cond (tT 13) (.seq (rg [oO 4 (.assign (kB 0)), oO 5 (.assign (kI 30))])
 (.ret))
 (.skip))))))))
 (.seq (rg [oO 18 (.fieldAddr 84 (tT 2) 0), oO 19 (.load 3 (tT 18)), oO 20 (.fieldAddr 84 (tT 2) 1), oO 21 (.load 3 (tT 20)), oO 22 (.binOp .add 3 (tT 19) (tT 21) 3), oO 23 (.binOp .sub 3 (tT 22) (kI 1) 3), oO 24 (.move (tT 1)), oO 25 (.binOp .sub 3 (tT 23) (tT 24) 3), oO 26 (.fieldAddr 84 (tT 2) 2), oO 27 (.indexAddr 82 (tT 26) (tT 25)), oO 28 (.load 81 (tT 27)), oO 4 (.assign (tT 28)), oO 5 (.assign (kI 0))])
 .ret))
theorem F210 : Fun1 Tryz.prog 210 29 c210 [.tmp 4, .tmp 5] := mkT Tryz.func210 rfl (by decide +kernel) Tryz.ntmps210 rfl (by kernel_rfl) rfl
def c211 : AC :=
.seq (rg [oO 5 (.box 266 (tT 1)), oO 8 (.assign (.const (.bool false)))])
 (.seq (.seq (rg [oO 9 (.fieldAddr 266 (tT 5) 0), oO 10 (.load 3 (tT 9))])
 (.block 0 (.seq (rg [oO 12 (.binOp .eql 3 (tT 10) (kI 1) 3), oO 11 (.assign (tT 12))])
 (.cond (tT 11) (.seq (rg [oO 13 (.move (tT 2)), oO 14 (.binOp .neq 81 (tT 13) (kB 0) 81), oO 8 (.assign (tT 14))])
 (.ret))
 (.seq (rg [oO 16 (.binOp .eql 3 (tT 10) (kI 2) 3), oO 15 (.assign (tT 16))])
 (.cond (tT 15) (.seq (rg [oO 17 (.move (tT 2)), oO 18 (cF (.func 227) #[tT 17] #[81]), oO 8 (.assign (tT 18))])
 (.ret))
 (.seq (rg [oO 20 (.binOp .eql 3 (tT 10) (kI 3) 3), oO 19 (.assign (tT 20))])
 (.cond (tT 19) (.seq (rg [oO 21 (.move (tT 2)), oO 22 (.move (tT 3)), oO 23 (.binOp .eql 81 (tT 21) (tT 22) 81), oO 24 (.move (tT 23)), oG 25 (.move (tT 2)) 24 true, oG 26 (.binOp .eql 81 (tT 25) (kB 1) 81) 24 true, oG 27 (.move (tT 26)) 24 true, oG 28 (.move (tT 2)) 27 false, oG 29 (.binOp .eql 81 (tT 28) (kB 2) 81) 27 false, oG 30 (.pick (tT 27) (.const (.bool true)) (tT 29)) 24 true, oO 31 (.pick (tT 24) (tT 30) (.const (.bool false))), oO 8 (.assign (tT 31))])
 (.ret))
 (.seq (rg [oO 33 (.binOp .eql 3 (tT 10) (kI 4) 3), oO 32 (.assign (tT 33))])
 (.cond (tT 32) (.seq (rg [oO 34 (.move (tT 0)), oO 35 (.move (tT 2)), oO 36 (.fieldAddr 266 (tT 5) 1), oO 37 (.load 81 (tT 36)), oO 38 (cF (.func 207) #[tT 34, tT 35, tT 37] #[22, 81, 81]), oO 8 (.assign (tT 38))])
 (.ret))
 (.skip)))))))))))
 (.seq (rg [oO 8 (.assign (.const (.bool true)))])
 .ret))
theorem F211 : Fun1 Tryz.prog 211 39 c211 [.tmp 8] := mkT Tryz.func211 rfl (by decide +kernel) Tryz.ntmps211 rfl (by kernel_rfl) rfl
def c212 : AC :=
.seq (rg [oO 1 (.box 84 (tT 0)), oO 2 (.alloc 84), oO 3 (.assign (kB 0)), oO 4 (.assign (kI 0))])
 (.seq (rg [oO 8 (.load 84 (tT 1)), oO 9 (cF (.func 210) #[tT 8, kI 0] #[84, 3]), oO 7 (.move (tT 9)), oO 10 (.extract (tT 7) 0), oO 11 (.extract (tT 7) 1), oO 5 (.assign (tT 10)), oO 6 (.assign (tT 11))])
 (.seq (.seq (rg [oO 12 (.move (tT 6)), oO 13 (.binOp .neq 32 (tT 12) (kI 0) 32)])
 (.cond (tT 13) (.seq (rg [oO 14 (.build 84 #[]), oO 15 (.move (tT 6)), oN (.store 84 (tT 2) (tT 14)), oO 3 (.assign (kB 0)), oO 4 (.assign (tT 15))])
 (.ret))
 (.skip)))
 (.seq (rg [oO 16 (.fieldAddr 84 (tT 1) 1), oO 17 (.load 3 (tT 16)), oO 18 (.binOp .sub 3 (tT 17) (kI 1) 3), oO 19 (.fieldAddr 84 (tT 1) 1), oN (.store 3 (tT 19) (tT 18))])
 (.seq (rg [oO 20 (.load 84 (tT 1)), oO 21 (cF (.func 138) #[tT 20] #[84]), oO 22 (.move (tT 5)), oN (.store 84 (tT 2) (tT 21)), oO 3 (.assign (tT 22)), oO 4 (.assign (kI 0))])
 .ret))))
theorem F212 : Fun1 Tryz.prog 212 23 c212 [.cell 2 84, .tmp 3, .tmp 4] := mkT Tryz.func212 rfl (by decide +kernel) Tryz.ntmps212 rfl (by kernel_rfl) rfl
def c213 : AC :=
.seq (rg [oO 3 (.box 84 (tT 0)), oO 6 (.alloc 84), oO 7 (.assign (kI 0))])
 (.seq (rg [oO 11 (.load 84 (tT 3)), oO 12 (.move (tT 1)), oO 13 (cF (.func 175) #[tT 11, tT 12] #[84, 3]), oO 10 (.move (tT 13)), oO 14 (.extract (tT 10) 0), oO 15 (.extract (tT 10) 1), oO 8 (.assign (tT 14)), oO 9 (.assign (tT 15))])
 (.seq (.seq (rg [oO 16 (.move (tT 9)), oO 17 (.binOp .neq 32 (tT 16) (kI 0) 32)])
 (.cond (tT 17) (.seq (rg [oO 18 (.build 84 #[]), oO 19 (.move (tT 9)), oN (.store 84 (tT 6) (tT 18)), oO 7 (.assign (tT 19))])
 (.ret))
 (.skip)))
 (.seq (rg [oO 20 (.load 84 (tT 3)), oO 21 (cF (.func 138) #[tT 20] #[84]), oN (.store 84 (tT 3) (tT 21))])
 (.seq (rg [oO 22 (.move (tT 1)), oO 23 (.move (tT 2)), oO 24 (.fieldAddr 84 (tT 3) 2), oO 25 (.indexAddr 82 (tT 24) (tT 22)), oN (.store 81 (tT 25) (tT 23))])
 (.seq (rg [oO 26 (.load 84 (tT 3)), oN (.store 84 (tT 6) (tT 26)), oO 7 (.assign (kI 0))])
 .ret)))))
theorem F213 : Fun1 Tryz.prog 213 27 c213 [.cell 6 84, .tmp 7] := mkT Tryz.func213 rfl (by decide +kernel) Tryz.ntmps213 rfl (by kernel_rfl) rfl
def c214 : AC :=
.seq (rg [oO 2 (.box 84 (tT 0)), oO 4 (.alloc 84), oO 5 (.assign (kI 0))])
 (.seq (.block 0 (.seq (rg [oO 7 (.load 84 (tT 2)), oO 8 (cF (.func 137) #[tT 7] #[84]), oO 9 (.unOp .not 4 (tT 8)), oO 6 (.assign (tT 9))])
 (.cond (tT 6) (.seq (rg [oO 10 (.build 84 #[]), oN (.store 84 (tT 4) (tT 10)), oO 5 (.assign (kI 32))])
 (.ret))
 (.seq (rg [oO 12 (.fieldAddr 84 (tT 2) 0), oO 13 (.load 3 (tT 12)), oO 14 (.fieldAddr 84 (tT 2) 1), oO 15 (.load 3 (tT 14)), oO 16 (.binOp .add 3 (tT 13) (tT 15) 3), oO 17 (.binOp .eql 3 (tT 16) (kI 24) 3), oO 11 (.assign (tT 17))])
 (.cond (tT 11) (.seq (rg [oO 18 (.build 84 #[]), oN (.store 84 (tT 4) (tT 18)), oO 5 (.assign (kI 31))])
 (.ret))
 (.skip))))))
 (.seq (rg [oO 19 (.load 84 (tT 2)), oO 20 (cF (.func 138) #[tT 19] #[84]), oN (.store 84 (tT 2) (tT 20))])
 (.seq (rg [oO 21 (.fieldAddr 84 (tT 2) 0), oO 22 (.load 3 (tT 21)), oO 23 (.fieldAddr 84 (tT 2) 1), oO 24 (.load 3 (tT 23)), oO 25 (.binOp .add 3 (tT 22) (tT 24) 3), oO 26 (.move (tT 1)), oO 27 (.fieldAddr 84 (tT 2) 2), oO 28 (.indexAddr 82 (tT 27) (tT 25)), oN (.store 81 (tT 28) (tT 26))])
 (.seq (rg [oO 29 (.fieldAddr 84 (tT 2) 1), oO 30 (.load 3 (tT 29)), oO 31 (.binOp .add 3 (tT 30) (kI 1) 3), oO 32 (.fieldAddr 84 (tT 2) 1), oN (.store 3 (tT 32) (tT 31))])
 (.seq (rg [oO 33 (.load 84 (tT 2)), oN (.store 84 (tT 4) (tT 33)), oO 5 (.assign (kI 0))])
 .ret)))))
theorem F214 : Fun1 Tryz.prog 214 34 c214 [.cell 4 84, .tmp 5] := mkT Tryz.func214 rfl (by decide +kernel) Tryz.ntmps214 rfl (by kernel_rfl) rfl
def c218 : AC :=
.seq (rg [oO 1 (.box 84 (tT 0)), oO 2 (.alloc 84)])
 (.seq (.seq (rg [oO 4 (.fieldAddr 84 (tT 1) 0), oO 5 (.load 3 (tT 4)), oO 6 (.fieldAddr 84 (tT 1) 1), oO 7 (.load 3 (tT 6)), oO 8 (.binOp .add 3 (tT 5) (tT 7) 3), oO 3 (.assign (tT 8))])
 (.block 0 (.loop (.seq (.seq (rg [oO 9 (.move (tT 3)), oO 10 (.binOp .lss 3 (tT 9) (kI 24) 3)])
 (.cond (tT 10) (.skip)
 (.exit 0)))
 (.seq (.block 1 (rg [oO 13 (.move (tT 3)), oO 14 (.fieldAddr 84 (tT 1) 2), oO 15 (.indexAddr 82 (tT 14) (tT 13)), oN (.store 81 (tT 15) (kB 0))]))
 (rg [oO 11 (.move (tT 3)), oO 12 (.binOp .add 3 (tT 11) (kI 1) 3), oO 3 (.assign (tT 12))]))))))
 (.seq (rg [oO 16 (.load 84 (tT 1)), oN (.store 84 (tT 2) (tT 16))])
 .ret))
theorem F218 : Fun1 Tryz.prog 218 17 c218 [.cell 2 84] := mkT Tryz.func218 rfl (by decide +kernel) Tryz.ntmps218 rfl (by kernel_rfl) rfl
def c227 : AC :=
.seq (rg [oO 2 (.assign (.const (.bool false)))])
 (.seq (rg [oO 3 (.move (tT 0)), oO 4 (.binOp .eql 81 (tT 3) (kB 3) 81), oO 5 (.move (tT 4)), oG 6 (.move (tT 0)) 5 false, oG 7 (.binOp .eql 81 (tT 6) (kB 4) 81) 5 false, oO 8 (.pick (tT 5) (.const (.bool true)) (tT 7)), oO 9 (.move (tT 8)), oG 10 (.move (tT 0)) 9 false, oG 11 (.binOp .eql 81 (tT 10) (kB 5) 81) 9 false, oO 12 (.pick (tT 9) (.const (.bool true)) (tT 11)), oO 13 (.move (tT 12)), oG 14 (.move (tT 0)) 13 false, oG 15 (.binOp .geq 81 (tT 14) (kB 16) 81) 13 false, oO 16 (.pick (tT 13) (.const (.bool true)) (tT 15)), oO 2 (.assign (tT 16))])
 .ret)
theorem F227 : Fun1 Tryz.prog 227 17 c227 [.tmp 2] := mkT Tryz.func227 rfl (by decide +kernel) Tryz.ntmps227 rfl (by kernel_rfl) rfl
def c207 : AC :=
.seq (rg [oO 6 (.assign (.const (.bool false)))])
 (.seq (.seq (rg [oO 9 (.move (tT 0)), oO 10 (.move (tT 1)), oO 11 (cF (.func 139) #[tT 9, tT 10] #[22, 81]), oO 12 (.unOp .not 4 (tT 11)), oO 13 (.move (tT 12)), oG 14 (.move (tT 0)) 13 false, oG 15 (.move (tT 2)) 13 false, oG 16 (cF (.func 139) #[tT 14, tT 15] #[22, 81]) 13 false, oG 17 (.unOp .not 4 (tT 16)) 13 false, oO 18 (.pick (tT 13) (.const (.bool true)) (tT 17))])
 (.cond (tT 18) (.seq (rg [oO 6 (.assign (.const (.bool false)))])
 (.ret))
 (.skip)))
 (.seq (.block 0 (.seq (rg [oO 20 (.move (tT 1)), oO 21 (.move (tT 2)), oO 22 (.binOp .eql 81 (tT 20) (tT 21) 81), oO 23 (.move (tT 22)), oG 24 (.move (tT 2)) 23 false, oG 25 (.binOp .eql 81 (tT 24) (kB 0) 81) 23 false, oO 26 (.pick (tT 23) (.const (.bool true)) (tT 25)), oO 19 (.assign (tT 26))])
 (.cond (tT 19) (.seq (rg [oO 6 (.assign (.const (.bool true)))])
 (.ret))
 (.seq (rg [oO 28 (.move (tT 1)), oO 29 (.binOp .eql 81 (tT 28) (kB 3) 81), oO 30 (.move (tT 29)), oG 31 (.move (tT 2)) 30 false, oG 32 (.binOp .eql 81 (tT 31) (kB 5) 81) 30 false, oO 33 (.pick (tT 30) (.const (.bool true)) (tT 32)), oO 27 (.assign (tT 33))])
 (.cond (tT 27) (.seq (rg [oO 34 (.move (tT 1)), oO 35 (cF (.func 227) #[tT 34] #[81]), oO 36 (.move (tT 35)), oG 37 (.move (tT 2)) 36 true, oG 38 (cF (.func 227) #[tT 37] #[81]) 36 true, oO 39 (.pick (tT 36) (tT 38) (.const (.bool false))), oO 6 (.assign (tT 39))])
 (.ret))
 (.skip))))))
 (.seq (rg [oO 40 (.move (tT 0)), oO 41 (.move (tT 1)), oO 42 (cF (.func 170) #[tT 40, tT 41] #[22, 81]), oO 43 (.move (tT 0)), oO 44 (.move (tT 2)), oO 45 (cF (.func 170) #[tT 43, tT 44] #[22, 81]), oO 7 (.assign (tT 42)), oO 8 (.assign (tT 45))])
 (.seq (rg [oO 46 (.move (tT 7)), oO 47 (.binOp .geq 3 (tT 46) (kI 0) 3), oO 48 (.move (tT 47)), oG 49 (.move (tT 8)) 48 true, oG 50 (.binOp .geq 3 (tT 49) (kI 0) 3) 48 true, oO 51 (.pick (tT 48) (tT 50) (.const (.bool false))), oO 52 (.move (tT 51)), oG 53 (.move (tT 0)) 52 true, oG 54 (.move (tT 7)) 52 true, oG 55 (.move (tT 8)) 52 true, oG 56 (cF (.func 228) #[tT 53, tT 54, tT 55] #[22, 3, 3]) 52 true, oO 57 (.pick (tT 52) (tT 56) (.const (.bool false))), oO 6 (.assign (tT 57))])
 .ret))))
theorem F207 : Fun1 Tryz.prog 207 58 c207 [.tmp 6] := mkT Tryz.func207 rfl (by decide +kernel) Tryz.ntmps207 rfl (by kernel_rfl) rfl
def c228 : AC :=
.seq (rg [oO 5 (.box 3 (tT 2)), oO 6 (.assign (.const (.bool false)))])
 (.seq (rg [oO 7 (.alloc 4), oN (.store 4 (tT 7) (.const (.bool false)))])
 (.seq (rg [oO 8 (.move (tT 0)), oO 9 (.move (tT 1)), oO 10 (.makeFunc (.func 241) #[] #[tT 5, tT 7]), oO 11 (cF (.func 189) #[tT 8, tT 9, tT 10] #[22, 3, 188])])
 (.seq (rg [oO 12 (.load 4 (tT 7)), oO 6 (.assign (tT 12))])
 .ret)))
theorem F228 : Fun1 Tryz.prog 228 13 c228 [.tmp 6] := mkT Tryz.func228 rfl (by decide +kernel) Tryz.ntmps228 rfl (by kernel_rfl) rfl
def c241 : AC :=
.seq (rg [oO 4 (.assign (.const (.bool false)))])
 (.seq (rg [oO 5 (.move (tT 0)), oO 6 (.load 3 (tT 1)), oO 7 (.binOp .eql 3 (tT 5) (tT 6) 3), oN (.store 4 (tT 2) (tT 7))])
 (.seq (rg [oO 8 (.load 4 (tT 2)), oO 9 (.unOp .not 4 (tT 8)), oO 4 (.assign (tT 9))])
 .ret))
theorem F241 : Fun1 Tryz.prog 241 10 c241 [.tmp 4] := mkT Tryz.func241 rfl (by decide +kernel) Tryz.ntmps241 rfl (by kernel_rfl) rfl
end Go.AL
