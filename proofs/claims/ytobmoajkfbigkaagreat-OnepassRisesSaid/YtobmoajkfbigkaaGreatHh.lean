import Derived.Test.YtobmoajkfbigkaaGreatHg
set_option linter.unusedSimpArgs false
set_option linter.unusedVariables false
set_option maxRecDepth 100000
set_option linter.defProp false
namespace Go.AL
open Go.Proofs
def metStep (l : List Cl) (a : List ByteArray × Option Nat) (c : Nat) (b : Bool) (a' : List ByteArray × Option Nat) : Prop := b = true ∧ a'.1 = a.1 ++ (fieldsAt l c).map Fd.name
theorem met_runs {l : List Cl} : ∀ {L : List Nat} {a a' : List ByteArray × Option Nat}, Runs (metStep l) L a a' → a'.1 = a.1 ++ (fieldsOn l L).map Fd.name
  | [], a, a', h => by simp only [Runs] at h; subst h; simp [fieldsOn]
  | c :: L, a, a'', ⟨b, a', ⟨hb, hs⟩, h⟩ => by
    rw [if_pos hb] at h
    rw [met_runs h, hs]
    simp [fieldsOn]
theorem hasN_app {a b : List ByteArray} {x : ByteArray} : hasN (a ++ b) x = (hasN a x || hasN b x) := by simp [hasN]
theorem fields104 (l : List Cl) (o : Own) (c : Nat) (hc : c < l.length) (hw : Wide l) (hr : Right isWordB l c) (hp : l[c].parent < c) :
    PCall Tryz.prog 157 [.slice o (rws eC l), .int .i64 c] (.int .i64 (fieldsErr l.length (namesUp l l[c].parent) [] l[c].fields)) := by
  have hw1 := hw.1
  have hwc := hw.2 l[c] (by simp)
  refine F157.pcall' rfl fun T hT => ?_
  simp -implicitDefEqProofs only [go_sem, c157, hT]
  intro b2 b5 h1 h2
  have hne : b2 ≠ b5 := fun e => by simp [e] at h1 h2
  have hne' : ¬ b5 = b2 := fun e => hne e.symm
  have hne'' : ¬ b2 = b5 := hne
  simp -implicitDefEqProofs only [go_sem, hT, h1, h2, hne', hne'', rws_at hc, eC, eC_len]
  refine ⟨by omega, ?_⟩
  have h0 : namesUp l l[c].parent = (fieldsOn l (upI l l[c].parent)).map Fd.name := rfl
  have h32 := namesUp_len hr l[c].parent hp
  refine callB_all (σ := metS b2 b5 o l ([], none)) (climb144' l o 190 [] [.ptr b2 0, .ptr b5 0] (metS b2 b5 o l) (metStep l) (fun a L => metOk b2 b5 a ∧ a.1.length + (fieldsOn l L).length ≤ 32) (by omega) ?_ ([], none) l[c].parent ?_) ?_
  · rintro a n rest hn ⟨ha, hlen⟩
    have hfa : fieldsOn l (n :: rest) = l[n].fields ++ fieldsOn l rest := by simp [fieldsOn, fieldsAt, hn]
    rw [hfa, List.length_append] at hlen
    refine (names145 l o b2 b5 hne n hn hw a ha (by omega)).mono ?_
    rintro d s' ⟨rfl, ob, rfl, hok⟩
    exact ⟨true, _, rfl, rfl, ⟨rfl, by simp [fieldsAt, hn]⟩, hok, by simp; omega⟩
  · refine ⟨⟨fun _ => rfl, fun b hb => by cases hb⟩, ?_⟩
    rw [h0, List.length_map] at h32
    simpa using h32
  rintro d s' ⟨rfl, ⟨names, ob⟩, r, rfl, hruns, hok, _⟩
  have hnames : names = namesUp l l[c].parent := by simpa [h0] using met_runs hruns
  rw [← hnames] at h32 ⊢
  clear hruns h0 hnames
  simp -implicitDefEqProofs only [go_sem, hT, metS_5, metS_2 hne, rws_at hc, eC, eC_len]
  refine ⟨by omega, ?_⟩
  generalize hF : l[c].fields = F at hwc
  refine loopL F157 (fun x : Nat × Option Nat => [(2, .ptr b2 0), (5, .ptr b5 0), (20, .slice .no (rws eF F)), (21, .int .i64 F.length), (22, .int .i64 x.1)]) (fun x => metS b2 b5 o l (names ++ (F.take x.1).map Fd.name, x.2))
    (fun x => x.1 ≤ F.length ∧ metOk b2 b5 (names ++ (F.take x.1).map Fd.name, x.2) ∧ fieldsErr l.length names [] F = fieldsErr l.length names ((F.take x.1).map Fd.name) (F.drop x.1)) (fun x => F.length - x.1) (0, ob)
    ⟨Nat.zero_le _, by simpa using hok, rfl⟩ ?_ ?_ ?_
  · simp -implicitDefEqProofs only [go_sem, hT, Int.ofNat_zero]
  · simp only [List.take_zero, List.map_nil, List.append_nil]; exact St.le.refl _
  clear hT T hok
  rintro ⟨i, ob⟩ ⟨hi, hok, heq⟩ T hT
  simp only at hi hok heq hT ⊢
  by_cases h : i < F.length
  · have h1 : ((i : Int) < F.length) = True := by simp; omega
    generalize hf : F[i] = f
    have hRf : (rws eF F)[i]?.getD [] = eF f := by rw [rws_at h, hf]
    rw [List.drop_eq_getElem_cons h, hf, fieldsErr] at heq
    have hlen : (names ++ (F.take i).map Fd.name).length ≤ 32 + F.length := by simp; omega
    have htake : names ++ (F.take (i + 1)).map Fd.name = (names ++ (F.take i).map Fd.name) ++ [f.name] := by
      rw [List.take_succ_eq_append_getElem h, hf]; simp
    have hown : (F.take (i + 1)).map Fd.name = (F.take i).map Fd.name ++ [f.name] := by
      rw [List.take_succ_eq_append_getElem h, hf]; simp
    have happ : hasN (names ++ (F.take i).map Fd.name) f.name = (hasN names f.name || hasN ((F.take i).map Fd.name) f.name) := hasN_app
    generalize hN : names ++ (F.take i).map Fd.name = met at *
    simp -implicitDefEqProofs only [go_sem, hT, h1, hRf, eF, eF_len]
    refine ⟨by omega, fun b6 hb6 => ?_⟩
    obtain ⟨f1, f2⟩ := metS_fresh hne hb6
    refine callB_pure (isName99 f.name) ?_
    cases hN2 : isNameB f.name
    · simp -implicitDefEqProofs only [go_sem, hT, f1, f2, metS_5, metS_2 hne]
      exact DLe.of_eq (by rw [heq, hN2]; rfl)
    rw [hN2] at heq
    simp -implicitDefEqProofs only [go_sem, hT, f1, f2, metS_5, metS_2 hne]
    refine callB_pure ((contains100 met .no f.name (by omega)).args (.cons grD_le (.cons (.refl _) .nil))) ?_
    cases hH : hasN met f.name
    case true =>
      simp -implicitDefEqProofs only [go_sem, hT, f1, f2, metS_5, metS_2 hne]
      rw [hH] at happ
      exact DLe.of_eq (by rw [heq, ← happ]; rfl)
    rw [hH] at happ
    rw [← happ] at heq
    simp -implicitDefEqProofs only [go_sem, hT, f1, f2, metS_5, metS_2 hne]
    refine callB_pure (stored146 l o f.ty) ?_
    cases hS : storedN l.length f.ty
    · simp -implicitDefEqProofs only [go_sem, hT, f1, f2, metS_5, metS_2 hne]
      exact DLe.of_eq (by rw [heq, hS]; rfl)
    rw [hS] at heq
    simp -implicitDefEqProofs only [go_sem, hT, f1, f2, metS_5, metS_2 hne, frz]
    refine app_gr' Tryz.sli210 Tryz.sz9 Tryz.by9 Tryz.zero9 rfl (n := met.length) (m := 1) (base := metB b2 b5 o l (met, ob)) (by rw [rws_len]) rfl ?_ (metB_n hok) hok.1 (by simp) (by omega) fun o' σ' hbox hle hn hno => ?_
    · rw [set_set]; exact le_add hb6
    simp -implicitDefEqProofs only [go_sem, hT, hbox, f1, f2, metS_5, metS_2 hne]
    refine ⟨(i + 1, o'), ⟨by omega, ?_, ?_⟩, by omega, ?_, ?_⟩
    · rw [htake]
      exact metB_of hn (by simpa using hno)
    · rw [heq, hown]; rfl
    · rw [wrap_i64 (by omega) (by omega)]; simp
    · rw [htake]
      exact metS_more (a := (met, ob)) (σ := σ') hle
  · have h1 : ((i : Int) < F.length) = False := by simp; omega
    have hi' : i = F.length := by omega
    subst hi'
    rw [List.drop_length, List.take_length, fieldsErr] at heq
    rw [List.take_length] at hok ⊢
    simp -implicitDefEqProofs only [go_sem, hT, h1, metS_5, metS_2 hne]
    have hl : (names ++ F.map Fd.name).length = names.length + (F.map Fd.name).length := by simp
    refine br_split (fun h => ?_) fun h => ?_
    · exact DLe.of_eq (by rw [heq, if_pos (by simp at h ⊢; omega)]; rfl)
    · exact DLe.of_eq (by rw [heq, if_neg (by simp at h ⊢; omega)]; rfl)
set_option maxHeartbeats 2000000 in
theorem check64 (l : List Cl) (o : Own) (hw : Wide l) : PCall Tryz.prog 119 [.slice o (rws eC l)] (.tup [.int .i64 (checkL isWordB l).1, .int .i64 (checkL isWordB l).2]) := by
  have hw1 := hw.1
  refine F119.pcall' rfl fun T hT => ?_
  simp -implicitDefEqProofs only [go_sem, c119, hT]
  refine loopL F119 (fun i : Nat => [(0, .slice o (rws eC l)), (7, .slice o (rws eC l)), (8, .int .i64 l.length), (9, .int .i64 i)]) (fun _ => {}) (fun i => i ≤ l.length ∧ Right isWordB l i ∧ checkL isWordB l = checkFrom isWordB l (l.length - i) i) (fun i => l.length - i) 0
    ⟨Nat.zero_le _, fun i h h' => by omega, rfl⟩ ?_ (St.le.refl _) ?_
  · simp -implicitDefEqProofs only [go_sem, hT, Int.ofNat_zero]
  clear hT T
  rintro i ⟨hi, hr, heq⟩ T hT
  by_cases h : i < l.length
  · have h1 : ((i : Int) < l.length) = True := by simp; omega
    have hwc := hw.2 l[i] (by simp)
    rw [show l.length - i = (l.length - (i + 1)) + 1 by omega, checkFrom, dif_pos h] at heq
    have hf := fields104 l o i h hw hr
    have next : classErr isWordB l i l[i] = 0 → ∃ y : Nat, (y ≤ l.length ∧ Right isWordB l y ∧ checkL isWordB l = checkFrom isWordB l (l.length - y) y) ∧ l.length - y < l.length - i ∧ D.int .i64 (IntKind.wrap .i64 ((i : Int) + 1)) = D.int .i64 (y : Int) := fun he =>
      ⟨i + 1, ⟨by omega, fun j hj hj' => by
        rcases Nat.lt_or_eq_of_le (Nat.le_of_lt_succ hj') with hj' | rfl
        · exact hr j hj hj'
        · exact he, by rw [if_pos he] at heq; exact heq⟩, by omega, by rw [wrap_i64 (by omega) (by omega)]; simp⟩
    have stop : ∀ e : Nat, e ≠ 0 → classErr isWordB l i l[i] = e → DLe (.tup [.int .i64 i, .int .i64 e]) (.tup [.int .i64 (checkL isWordB l).1, .int .i64 (checkL isWordB l).2]) := fun e h0 he => by
      rw [if_neg (by rw [he]; exact h0), he] at heq
      rw [heq]; exact DLe.refl _
    generalize hx : l[i] = x at *
    have hR : (rws eC l)[i]?.getD [] = eC x := by rw [rws_at h, hx]
    simp -implicitDefEqProofs only [go_sem, hT, h1, hR, eC, eC_len]
    refine ⟨by omega, fun b5 => ?_⟩
    by_cases h32 : 32 ≤ i
    · have h2 : ((32 : Int) ≤ i) = True := by simp; omega
      simp -implicitDefEqProofs only [go_sem, hT, h1, hR, eC, h2, set_set]
      exact stop 4 (by decide) (by simp [classErr, h32])
    have h2 : ((32 : Int) ≤ i) = False := by simp; omega
    simp -implicitDefEqProofs only [go_sem, hT, h1, hR, eC, h2, set_set]
    refine ⟨fun _ h => h, callB_pure (isName99 x.name) ?_⟩
    cases hN : isNameB x.name
    · simp -implicitDefEqProofs only [go_sem, hT, h1, eC, h2, set_set]
      exact stop 6 (by decide) (by simp [classErr, h32, hN])
    simp -implicitDefEqProofs only [go_sem, hT, h1, eC, h2, set_set]
    refine callB_pure words101 ?_
    simp -implicitDefEqProofs only [go_sem, hT, h1, eC, h2, set_set]
    refine callB_pure (contains100 wordsL .no x.name (by decide)) ?_
    have hWe : hasN wordsL x.name = isWordB x.name := rfl
    rw [hWe]
    cases hW : isWordB x.name
    case true =>
      simp -implicitDefEqProofs only [go_sem, hT, h1, eC, h2, set_set]
      exact stop 6 (by decide) (by simp [classErr, h32, hW])
    simp -implicitDefEqProofs only [go_sem, hT, h1, eC, h2, set_set, rws_take]
    refine ⟨⟨by omega, by simp [rws, eC_len]⟩, ?_⟩
    have hpre : (l.take i).map (fun t : Cl => eC t) = rws eC (l.take i) := rfl
    refine callB_all (contFunc102 (l.take i) .no 156 [] [.ptr b5 0] (fun t => decide (t.name = x.name)) _ (by simp; omega) fun t _ => same103 t x b5 _ (by simp [St.set_box, eC])) ?_
    rintro d s' ⟨rfl, rfl⟩
    cases hA : (l.take i).any fun t => decide (t.name = x.name)
    case true =>
      simp -implicitDefEqProofs only [go_sem, hT, h1, eC, h2, set_set]
      exact stop 20 (by decide) (by simp [classErr, h32, hN, hW, hA])
    have pre : ∀ e : Nat, (if x.parent < -1 ∨ (i : Int) ≤ x.parent then 21 else fieldsErr l.length (namesUp l x.parent) [] x.fields) = e → classErr isWordB l i x = e := fun e he => by
      rw [classErr, if_neg h32, if_neg (by simp [hN, hW]), if_neg (by simp [hA]), he]
    by_cases hp : x.parent < -1 ∨ (i : Int) ≤ x.parent
    · have hp' : (decide (x.parent < -1) || decide ((i : Int) ≤ x.parent)) = true := by simpa using hp
      simp -implicitDefEqProofs only [go_sem, mmB, hT, h1, eC, h2, set_set, hp']
      exact stop 21 (by decide) (pre 21 (if_pos hp))
    have hp' : (decide (x.parent < -1) || decide ((i : Int) ≤ x.parent)) = false := by simpa using hp
    replace pre := fun e he => pre e ((if_neg hp).trans he)
    simp -implicitDefEqProofs only [go_sem, mmB, hT, h1, eC, h2, set_set, hp']
    refine callB_pure (hf (by omega)) ?_
    by_cases he : fieldsErr l.length (namesUp l x.parent) [] x.fields = 0
    · simp -implicitDefEqProofs only [go_sem, mmB, hT, h1, he]
      obtain ⟨y, h1, h2, h3⟩ := next (pre 0 he)
      exact ⟨y, h1, h2, h3, St.le.nil _⟩
    · have h3 : (((fieldsErr l.length (namesUp l x.parent) [] x.fields : Nat) : Int) = 0) = False := by simp; omega
      simp -implicitDefEqProofs only [go_sem, mmB, hT, h1, h3]
      exact stop _ he (pre _ rfl)
  · have h1 : ((i : Int) < l.length) = False := by simp; omega
    rw [show l.length - i = 0 by omega, checkFrom] at heq
    simp -implicitDefEqProofs only [go_sem, hT, h1]
    rw [heq]
    exact DLe.refl _
theorem clone98 (xs : List Fd) (o : Own) (h0 : nilOk o xs.length) (hl : xs.length * 24 ≤ 140737488355328) : PCall Tryz.prog 89 [.slice o (rws eF xs)] (.slice .no (rws eF xs)) := by
  refine F89.pcall' rfl fun T hT => ?_
  simp -implicitDefEqProofs only [go_sem, c89, hT]
  intro r hr
  refine br_split (fun h => ?_) fun h => ?_
  · exact DLe_nils (nilR_nil hr h fun h => by simpa [rws_nil] using h0 h)
  · simp -implicitDefEqProofs only [go_sem, hT, rws_one eF_len, rws_nil, hl]
    rintro rfl
    exact DLe_nils rfl
theorem classes63 (l : List Cl) (o : Own) (hw : Wide l) : PCall Tryz.prog 56 [.slice o (rws eC l)] (.slice .no (rws eC l)) := by
  have hw1 := hw.1
  refine F56.pcall' rfl fun T hT => ?_
  simp -implicitDefEqProofs only [go_sem, c56, hT]
  refine loopL F56 (fun x : Nat × Option Nat => [(3, grD 3 x.2 (rws eC (l.take x.1))), (6, .slice o (rws eC l)), (7, .int .i64 l.length), (8, .int .i64 x.1)]) (fun x => grS 3 x.1 x.2 {}) (fun x => x.1 ≤ l.length ∧ (x.2 = none → x.1 = 0)) (fun x => l.length - x.1) (0, none)
    ⟨Nat.zero_le _, fun _ => rfl⟩ ?_ (St.le.refl _) ?_
  · simp -implicitDefEqProofs only [go_sem, hT, Int.ofNat_zero]
    rfl
  clear hT T
  rintro ⟨i, ob⟩ ⟨hi, hok⟩ T hT
  simp only at hi hok hT ⊢
  by_cases h : i < l.length
  · have h1 : ((i : Int) < l.length) = True := by simp; omega
    have hwf := hw.2 l[i] (by simp)
    have htake : l.take (i + 1) = l.take i ++ [l[i]] := List.take_succ_eq_append_getElem h
    have hR : (rws eC l)[i]?.getD [] = eC l[i] := rws_at h
    generalize l[i] = x at *
    have htl : (l.take i).length = i := by simp; omega
    simp -implicitDefEqProofs only [go_sem, hT, h1, hR, eC, eC_len]
    refine ⟨by omega, fun b hb => ?_⟩
    simp -implicitDefEqProofs only [go_sem, hT, eC, set_set]
    refine callB_pure (clone98 x.fields .no (by simp [nilOk]) (by omega)) ?_
    simp -implicitDefEqProofs only [go_sem, hT, eC, set_set, frz]
    refine app_gr' Tryz.sli22 Tryz.sz154 Tryz.by154 Tryz.zero154 rfl (n := i) (m := 1) (base := {}) (by rw [rws_len, htl]) rfl (le_add hb) grN_nil hok (by simp) (by omega) fun o' σ' hbox hle _ hno => ?_
    simp -implicitDefEqProofs only [go_sem, hT]
    refine ⟨(i + 1, o'), ⟨by omega, by simpa using hno⟩, by omega, ⟨?_, ?_⟩, hle⟩
    · rw [htake]; simp [rws, eC]
    · rw [wrap_i64 (by omega) (by omega)]; simp
  · have h1 : ((i : Int) < l.length) = False := by simp; omega
    simp -implicitDefEqProofs only [go_sem, hT, h1]
    rw [List.take_of_length_le (by omega)]
    exact grD_le
structure En where
  cs : List Cl
  sgs : List Sg
  fn : Int
  deriving DecidableEq
def eEn (e : En) : List D := [.slice .no (rws eC e.cs), .slice .no (rws eSg e.sgs), .int .i64 e.fn]
theorem eEn_len (e : En) : (eEn e).length = 3 := rfl
def WideE (e : En) : Prop := Wide e.cs ∧ e.sgs.length * 32 ≤ 140737488351232 ∧ ∀ s ∈ e.sgs, s.ps.length ≤ 140737488351232
def envB (b1 b2 b3 : Nat) (e : En) (i : Nat) (ob : Option Nat) : St := ((({} : St).set b1 (eEn e)).set b2 [.slice .nil [], .slice .nil [], .int .i64 0]).set b3 [.slice .no (rws eC e.cs), grD 2 ob (rws eSg (e.sgs.take i)), .int .i64 e.fn]
def envS (b1 b2 b3 : Nat) (e : En) (i : Nat) (ob : Option Nat) : St := grS 2 i ob (envB b1 b2 b3 e i ob)
theorem envS_3 {b1 b2 b3 : Nat} {e : En} {i : Nat} {ob : Option Nat} : (envS b1 b2 b3 e i ob).box b3 = some [.slice .no (rws eC e.cs), grD 2 ob (rws eSg (e.sgs.take i)), .int .i64 e.fn] := by simp [envS, envB, grS_boxa, St.set_box]
theorem envS_2 {b1 b2 b3 : Nat} {e : En} {i : Nat} {ob : Option Nat} (h : b2 ≠ b3) : (envS b1 b2 b3 e i ob).box b2 = some [.slice .nil [], .slice .nil [], .int .i64 0] := by simp [envS, envB, grS_boxa, St.set_box, h]
theorem env30 (e : En) (hw : WideE e) : PCall Tryz.prog 16 [.agg (eEn e)] (.agg (eEn e)) := by
  obtain ⟨hw1, hw2, hw3⟩ := hw
  refine F16.pcall' rfl fun T hT => ?_
  simp -implicitDefEqProofs only [go_sem, c16, hT, eEn]
  intro b1 b2 h1 h2
  have hne : ¬ b1 = b2 := h2
  simp -implicitDefEqProofs only [go_sem, hT, eEn, h1, h2]
  refine ⟨by rintro b rfl; simp, callB_pure (classes63 e.cs .no hw1) ?_⟩
  simp -implicitDefEqProofs only [go_sem, hT, eEn, h1, h2]
  intro b3 n1 n2 n3 n4
  simp -implicitDefEqProofs only [go_sem, hT, eEn, h1, h2, n1, n2, n3, n4, set_set]
  refine loopL F16 (fun x : Nat × Option Nat => [(2, .ptr b2 0), (3, .ptr b3 0), (13, .slice .no (rws eSg e.sgs)), (14, .int .i64 e.sgs.length), (15, .int .i64 x.1)]) (fun x => envS b1 b2 b3 e x.1 x.2)
    (fun x => x.1 ≤ e.sgs.length ∧ (x.2 = none → x.1 = 0) ∧ grN x.2 (envB b1 b2 b3 e x.1 x.2)) (fun x => e.sgs.length - x.1) (0, none)
    ⟨Nat.zero_le _, fun _ => rfl, grN_none⟩ ?_ (St.le.refl _) ?_
  · simp -implicitDefEqProofs only [go_sem, hT, Int.ofNat_zero]
  clear hT T
  rintro ⟨i, ob⟩ ⟨hi, hok, hgr⟩ T hT
  simp only at hi hok hgr hT ⊢
  by_cases h : i < e.sgs.length
  · have h3 : ((i : Int) < e.sgs.length) = True := by simp; omega
    have hwf := hw3 e.sgs[i] (by simp)
    have htake : e.sgs.take (i + 1) = e.sgs.take i ++ [e.sgs[i]] := List.take_succ_eq_append_getElem h
    have hR : (rws eSg e.sgs)[i]?.getD [] = eSg e.sgs[i] := rws_at h
    have htl : (e.sgs.take i).length = i := by simp; omega
    generalize e.sgs[i] = x at *
    simp -implicitDefEqProofs only [go_sem, hT, h3, hR, eSg]
    refine ⟨by omega, fun b5 hb5 => ?_⟩
    have f3 : ¬ b3 = b5 := fun he => by subst he; exact hb5 (.inl (by rw [envS_3]; simp))
    simp -implicitDefEqProofs only [go_sem, hT, f3, envS_3, set_set, eSg]
    refine ⟨by rintro b rfl; simp [envS_3], ?_⟩
    refine callB_pure (sig11 x (by omega)) ?_
    simp -implicitDefEqProofs only [go_sem, hT, f3, envS_3, set_set, eSg, frz]
    refine app_gr' Tryz.sli23 Tryz.sz95 Tryz.by95 Tryz.zero95 rfl (n := i) (m := 1) (base := envB b1 b2 b3 e i ob) (by rw [rws_len, htl]) rfl (le_add hb5) hgr hok (by simp) (by omega) fun o' σ' hbox hle hn hno => ?_
    simp -implicitDefEqProofs only [go_sem, hT, hbox, f3, envS_3, set_set]
    have hle' := le_set (b := b3) (cs := [.slice .no (rws eC e.cs), grD 2 o' (rws eSg (e.sgs.take i) ++ [[.slice .no (rws eT x.ps), .int .u8 x.r.val]]), .int .i64 e.fn]) hle
    rw [grS_set, envB, set_set] at hle'
    have happ : rws eSg (e.sgs.take i) ++ [[.slice .no (rws eT x.ps), .int .u8 x.r.val]] = rws eSg (e.sgs.take (i + 1)) := by rw [htake]; simp [rws, eSg]
    rw [happ] at hle' ⊢
    refine ⟨(i + 1, o'), ⟨by omega, by simpa using hno, fun b hb hin => hn b hb ?_⟩, by omega, ?_, hle'⟩
    · simp only [envB, has_set] at hin ⊢; exact hin
    · rw [wrap_i64 (by omega) (by omega)]; simp
  · have h3 : ((i : Int) < e.sgs.length) = False := by simp; omega
    have hne2 : b2 ≠ b3 := n2
    simp -implicitDefEqProofs only [go_sem, hT, h3, envS_3, envS_2 hne2]
    rw [List.take_of_length_le (by omega)]
    exact DLe.agg (.cons (.refl _) (.cons grD_le (.cons (.refl _) .nil)))
theorem resM_cell {P : Program} {T : Env} {σ : St} {a : Nat} {t : TypeId} {rs : List ResultVar} : resMany P T σ (.cell a t :: rs) = (match resC P t σ (T a) with | some d => (resMany P T σ rs).map (d :: ·) | none => none) := by
  simp only [resMany, resOne, resC]
  cases T a <;> simp
  rename_i b off
  cases σ.box b <;> simp
  rename_i cs
  cases partD P t (cs.drop off) 0 <;> simp
  cases resMany P T σ rs <;> rfl
structure Fr where
  loc : Int
  h : Int
  sl : Vector Ty 24
  deriving DecidableEq
def eFr (f : Fr) : List D := .int .i64 f.loc :: .int .i64 f.h :: f.sl.toList.map fun t => .int .u8 (t.val : Int)
theorem eFr_len (f : Fr) : (eFr f).length = 26 := by simp [eFr]
def fr0 (n : Int) : Fr := ⟨n, 0, Vector.replicate 24 0⟩
def slOf (ts : List Ty) : Vector Ty 24 := Vector.ofFn fun i => (ts[i.val]?).getD 0
theorem eFr_take (f : Fr) : (eFr f).take 26 = eFr f := List.take_of_length_le (by rw [eFr_len]; exact Nat.le_refl _)
theorem eFr_drop (f : Fr) : (eFr f).drop 26 = [] := List.drop_eq_nil_of_le (by rw [eFr_len]; exact Nat.le_refl _)
theorem fr_set {f : Fr} {i : Nat} (h : i < 24) {t : Ty} : (eFr f).take (2 + i) ++ [D.int .u8 (t.val : Int)] ++ (eFr f).drop (2 + i + 1) = eFr ⟨f.loc, f.h, f.sl.set i t⟩ := by
  simp only [eFr]
  rw [show 2 + i = i + 1 + 1 by omega]
  simp only [List.take_succ_cons, List.drop_succ_cons, List.cons_append]
  congr 2
  simp only [Vector.toList_set, List.map_set]
  rw [List.set_eq_take_append_cons_drop, if_pos (by simpa using h)]
  simp
theorem slOf_set {ts : List Ty} {i : Nat} (hi : i < ts.length) (h : i < 24) : (slOf (ts.take i)).set i ts[i] = slOf (ts.take (i + 1)) := by
  apply Vector.ext
  intro j hj
  simp only [slOf, Vector.getElem_set, Vector.getElem_ofFn]
  split
  · rename_i he; subst he; simp [List.getElem?_take, hi]
  · rename_i he
    by_cases hlt : j < i
    · simp [List.getElem?_take, hlt, show j < i + 1 by omega]
    · simp [List.getElem?_take, hlt, show ¬ j < i + 1 by omega]
theorem slOf_nil : slOf [] = Vector.replicate 24 0 := by
  apply Vector.ext
  intro j hj
  simp [slOf]
def emptyF (n : Int) : Fr × Nat := if n < 0 ∨ 16 < n then (fr0 0, 1) else (fr0 n, 0)
theorem empty107 (n : Int) : PCall Tryz.prog 140 [.int .i64 n] (.tup [.agg (eFr (emptyF n).1), .int .i64 (emptyF n).2]) := by
  refine F140.pcall' rfl fun T hT => ?_
  by_cases h : n < 0 ∨ 16 < n
  · have hc : (decide (n < 0) || decide (16 < n)) = true := by simpa using h
    simp -implicitDefEqProofs only [go_sem, mmB, c140, hT, hc, set_set, resM_cell]
    rw [emptyF, if_pos h]
    exact DLe.of_eq rfl
  · have hc : (decide (n < 0) || decide (16 < n)) = false := by simpa using h
    simp -implicitDefEqProofs only [go_sem, mmB, c140, hT, hc, set_set, resM_cell]
    rw [emptyF, if_neg h]
    exact DLe.of_eq rfl
theorem refEmpty110 (n : Int) : PCall Tryz.prog 104 [.int .i64 n] (.tup [.agg (eFr (emptyF n).1), .int .i64 (emptyF n).2]) := by
  refine F104.pcall' rfl fun T hT => ?_
  by_cases h : n < 0 ∨ 16 < n
  · have hc : (decide (n < 0) || decide (16 < n)) = true := by simpa using h
    simp -implicitDefEqProofs only [go_sem, mmB, c104, hT, hc, set_set, resM_cell]
    rw [emptyF, if_pos h]
    exact DLe.of_eq rfl
  · have hc : (decide (n < 0) || decide (16 < n)) = false := by simpa using h
    simp -implicitDefEqProofs only [go_sem, mmB, c104, hT, hc, set_set, resM_cell]
    rw [emptyF, if_neg h]
    exact DLe.of_eq rfl
def startF (c : Nat) (ts : List Ty) (n : Int) : Fr × Nat := if n < 0 ∨ 16 < n ∨ 8 < ts.length ∨ n < ts.length ∨ (ts.any fun t => !storedN c t) = true then (fr0 0, 1) else (⟨n, 0, slOf ts⟩, 0)
def bYcaY0 := aI @set_set (aI @resM_cell (aI @eFr_len (aI @eFr_drop @Int.ofNat_zero)))
def bYcaY1 := aI @set_set (aI @resM_cell (aI @eFr_len (aI @eFr_drop @eFr_take)))
theorem start68 (l : List Cl) (o o2 : Own) (ts : List Ty) (n : Int) (hl : ts.length ≤ 140737488355328) : PCall Tryz.prog 97 [.slice o (rws eC l), .slice o2 (rws eT ts), .int .i64 n] (.tup [.agg (eFr (startF l.length ts n).1), .int .i64 (startF l.length ts n).2]) := by
  refine F97.pcall' rfl fun T hT => ?_
  simp -implicitDefEqProofs only [go_sem, c97, hT]
  intro b6
  refine callB_pure (empty107 n) ?_
  by_cases h : n < 0 ∨ 16 < n
  · rw [startF, if_pos (h.elim (fun h => .inl h) fun h => .inr (.inl h)), emptyF, if_pos h]
    simp -implicitDefEqProofs only [go_sem, hT, eFr_len]
    intro b8 n1 n2
    simp -implicitDefEqProofs only [go_sem, hT, set_set, n1, n2, resM_cell, eFr_len, eFr_drop, Int.ofNat_one]
    exact DLe.of_eq rfl
  rw [emptyF, if_neg h]
  simp -implicitDefEqProofs only [go_sem, hT, eFr_len]
  intro b8 n1 n2
  by_cases h8 : (8 : Int) < ts.length
  · rw [startF, if_pos (.inr (.inr (.inl (by omega))))]
    simp -implicitDefEqProofs only [go_sem, hT, n1, n2, h8, bYcaY0]
    exact DLe.of_eq rfl
  by_cases hn : n < ts.length
  · rw [startF, if_pos (.inr (.inr (.inr (.inl (by omega)))))]
    simp -implicitDefEqProofs only [go_sem, hT, n1, n2, h8, hn, bYcaY0]
    exact DLe.of_eq rfl
  have hs : startF l.length ts n = if (ts.any fun t => !storedN l.length t) = true then (fr0 0, 1) else (⟨n, 0, slOf ts⟩, 0) := by
    cases ha : ts.any fun t => !storedN l.length t
    · rw [startF, ha, if_neg (by simp; omega)]; rfl
    · rw [startF, ha, if_pos (.inr (.inr (.inr (.inr rfl))))]; rfl
  simp -implicitDefEqProofs only [go_sem, hT, n1, n2, h8, hn, bYcaY0]
  generalize hz : (D.int .i64 0 :: D.int .i64 0 :: _ : List D) = z0
  refine loopL F97 (fun i : Nat => [(0, .slice o (rws eC l)), (6, .ptr b6 0), (8, .ptr b8 0), (31, .slice o2 (rws eT ts)), (32, .int .i64 ts.length), (33, .int .i64 i)]) (fun i => (({} : St).set b6 z0).set b8 (eFr ⟨n, 0, slOf (ts.take i)⟩))
    (fun i => i ≤ ts.length ∧ (ts.take i).any (fun t => !storedN l.length t) = false) (fun i => ts.length - i) 0 ⟨Nat.zero_le _, rfl⟩ ?_ ?_ ?_
  · simp -implicitDefEqProofs only [go_sem, hT, Int.ofNat_zero]
  · rw [List.take_zero, slOf_nil]; exact St.le.refl _
  clear hT T
  rintro i ⟨hi, hok⟩ T hT
  have hz26 : z0.length = 26 := by rw [← hz]; rfl
  have hzd : z0.drop 26 = [] := List.drop_eq_nil_of_le (by omega)
  by_cases h2 : i < ts.length
  · have h3 : ((i : Int) < ts.length) = True := by simp; omega
    have htake : ts.take (i + 1) = ts.take i ++ [ts[i]] := List.take_succ_eq_append_getElem h2
    have hR : (rws eT ts)[i]?.getD [] = eT ts[i] := rws_at h2
    have hset := slOf_set h2 (show i < 24 by omega)
    have hin : ts[i] ∈ ts := by simp
    generalize ts[i] = t at *
    simp -implicitDefEqProofs only [go_sem, hT, h3, hR, eT, eT_len, set_set, n1, n2, resM_cell, eFr_len, eFr_drop, eFr_take, hz26, hzd]
    refine ⟨by omega, ?_⟩
    refine callB_pure (valid105 l o t) ?_
    have hsv : storedN l.length t = (validN l.length t && decide (t.val ≠ 0 ∧ t.val ≠ 3)) := rfl
    cases hv : validN l.length t
    · have hst : storedN l.length t = false := by rw [hsv, hv]; rfl
      simp -implicitDefEqProofs only [go_sem, hT, n1, n2, hz26, hzd, bYcaY1]
      rw [hs, if_pos (List.any_eq_true.2 ⟨t, hin, by simp [hst]⟩)]
      exact DLe.of_eq rfl
    by_cases h0 : (t.val : Int) = 0
    · have hst : storedN l.length t = false := by rw [hsv, hv]; simp; omega
      simp -implicitDefEqProofs only [go_sem, hT, h0, n1, n2, hz26, hzd, bYcaY1]
      rw [hs, if_pos (List.any_eq_true.2 ⟨t, hin, by simp [hst]⟩)]
      exact DLe.of_eq rfl
    by_cases h1 : (t.val : Int) = 3
    · have hst : storedN l.length t = false := by rw [hsv, hv]; simp; omega
      simp -implicitDefEqProofs only [go_sem, hT, h0, h1, n1, n2, hz26, hzd, bYcaY1]
      rw [hs, if_pos (List.any_eq_true.2 ⟨t, hin, by simp [hst]⟩)]
      exact DLe.of_eq rfl
    · have hst : storedN l.length t = true := by rw [hsv, hv]; simp; omega
      simp -implicitDefEqProofs only [go_sem, hT, h0, h1, n1, n2, hz26, hzd, Nat.mul_one, fr_set (f := ⟨n, 0, slOf (ts.take i)⟩) (i := i) (by omega), bYcaY1]
      refine ⟨by omega, by omega, ?_⟩
      refine ⟨i + 1, ⟨by omega, ?_⟩, by omega, ?_, ?_⟩
      · rw [htake, List.any_append, hok]; simp [hst]
      · rw [wrap_i64 (by omega) (by omega)]; simp
      · rw [hset]; exact St.le.refl _
  · have h3 : ((i : Int) < ts.length) = False := by simp; omega
    rw [List.take_of_length_le (by omega)] at hok
    simp -implicitDefEqProofs only [go_sem, hT, h3, set_set, n1, n2, resM_cell, eFr_len, eFr_drop, eFr_take, hz26, hzd, Int.ofNat_zero, List.take_of_length_le (show ts.length ≤ i by omega)]
    rw [hs, hok]
    exact DLe.of_eq rfl
theorem refStart71 (l : List Cl) (o o2 : Own) (ts : List Ty) (n : Int) (hl : ts.length ≤ 140737488355328) : PCall Tryz.prog 60 [.slice o (rws eC l), .slice o2 (rws eT ts), .int .i64 n] (.tup [.agg (eFr (startF l.length ts n).1), .int .i64 (startF l.length ts n).2]) := by
  refine F60.pcall' rfl fun T hT => ?_
  simp -implicitDefEqProofs only [go_sem, c60, hT]
  intro b6
  refine callB_pure (refEmpty110 n) ?_
  by_cases h : n < 0 ∨ 16 < n
  · rw [startF, if_pos (h.elim (fun h => .inl h) fun h => .inr (.inl h)), emptyF, if_pos h]
    simp -implicitDefEqProofs only [go_sem, hT, eFr_len]
    intro b8 n1 n2
    simp -implicitDefEqProofs only [go_sem, hT, set_set, n1, n2, resM_cell, eFr_len, eFr_drop, Int.ofNat_one]
    exact DLe.of_eq rfl
  rw [emptyF, if_neg h]
  simp -implicitDefEqProofs only [go_sem, hT, eFr_len]
  intro b8 n1 n2
  by_cases h8 : (8 : Int) < ts.length
  · rw [startF, if_pos (.inr (.inr (.inl (by omega))))]
    simp -implicitDefEqProofs only [go_sem, hT, n1, n2, h8, bYcaY0]
    exact DLe.of_eq rfl
  by_cases hn : n < ts.length
  · rw [startF, if_pos (.inr (.inr (.inr (.inl (by omega)))))]
    simp -implicitDefEqProofs only [go_sem, hT, n1, n2, h8, hn, bYcaY0]
    exact DLe.of_eq rfl
  have hs : startF l.length ts n = if (ts.any fun t => !storedN l.length t) = true then (fr0 0, 1) else (⟨n, 0, slOf ts⟩, 0) := by
    cases ha : ts.any fun t => !storedN l.length t
    · rw [startF, ha, if_neg (by simp; omega)]; rfl
    · rw [startF, ha, if_pos (.inr (.inr (.inr (.inr rfl))))]; rfl
  simp -implicitDefEqProofs only [go_sem, hT, n1, n2, h8, hn, bYcaY0]
  generalize hz : (D.int .i64 0 :: D.int .i64 0 :: _ : List D) = z0
  refine loopL F60 (fun i : Nat => [(0, .slice o (rws eC l)), (6, .ptr b6 0), (8, .ptr b8 0), (31, .slice o2 (rws eT ts)), (32, .int .i64 ts.length), (33, .int .i64 i)]) (fun i => (({} : St).set b6 z0).set b8 (eFr ⟨n, 0, slOf (ts.take i)⟩))
    (fun i => i ≤ ts.length ∧ (ts.take i).any (fun t => !storedN l.length t) = false) (fun i => ts.length - i) 0 ⟨Nat.zero_le _, rfl⟩ ?_ ?_ ?_
  · simp -implicitDefEqProofs only [go_sem, hT, Int.ofNat_zero]
  · rw [List.take_zero, slOf_nil]; exact St.le.refl _
  clear hT T
  rintro i ⟨hi, hok⟩ T hT
  have hz26 : z0.length = 26 := by rw [← hz]; rfl
  have hzd : z0.drop 26 = [] := List.drop_eq_nil_of_le (by omega)
  by_cases h2 : i < ts.length
  · have h3 : ((i : Int) < ts.length) = True := by simp; omega
    have htake : ts.take (i + 1) = ts.take i ++ [ts[i]] := List.take_succ_eq_append_getElem h2
    have hR : (rws eT ts)[i]?.getD [] = eT ts[i] := rws_at h2
    have hset := slOf_set h2 (show i < 24 by omega)
    have hin : ts[i] ∈ ts := by simp
    generalize ts[i] = t at *
    simp -implicitDefEqProofs only [go_sem, hT, h3, hR, eT, eT_len, set_set, n1, n2, resM_cell, eFr_len, eFr_drop, eFr_take, hz26, hzd]
    refine ⟨by omega, ?_⟩
    refine callB_pure (refStored111 l o t) ?_
    cases hst : storedN l.length t
    · simp -implicitDefEqProofs only [go_sem, hT, n1, n2, hz26, hzd, bYcaY1]
      rw [hs, if_pos (List.any_eq_true.2 ⟨t, hin, by simp [hst]⟩)]
      exact DLe.of_eq rfl
    · simp -implicitDefEqProofs only [go_sem, hT, n1, n2, hz26, hzd, Nat.mul_one, fr_set (f := ⟨n, 0, slOf (ts.take i)⟩) (i := i) (by omega), bYcaY1]
      refine ⟨by omega, by omega, ?_⟩
      refine ⟨i + 1, ⟨by omega, ?_⟩, by omega, ?_, ?_⟩
      · rw [htake, List.any_append, hok]; simp [hst]
      · rw [wrap_i64 (by omega) (by omega)]; simp
      · rw [hset]; exact St.le.refl _
  · have h3 : ((i : Int) < ts.length) = False := by simp; omega
    rw [List.take_of_length_le (by omega)] at hok
    simp -implicitDefEqProofs only [go_sem, hT, h3, set_set, n1, n2, resM_cell, eFr_len, eFr_drop, eFr_take, hz26, hzd, Int.ofNat_zero, List.take_of_length_le (show ts.length ≤ i by omega)]
    rw [hs, hok]
    exact DLe.of_eq rfl
end Go.AL
