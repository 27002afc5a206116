import Derived.Test.YtobmoajkfbigkaaGreatJl
import Derived.Test.YtobmoajkfbigkaaGreatJi
set_option linter.unusedSimpArgs false
set_option linter.unusedVariables false
set_option maxRecDepth 100000
set_option maxHeartbeats 4000000
set_option linter.defProp false
namespace Go.AL
open Go.Proofs
def applyR (e : En) (f : Fr) (i : Ins) : Fr × Nat :=
  if canB e = false then (fr0 0, 1)
  else if checkF e.cs.length f ≠ 0 then (fr0 0, checkF e.cs.length f)
  else if 34 ≤ i.op.val then (fr0 0, 40)
  else if locOp i ∧ ¬ (0 ≤ i.a ∧ i.a < f.loc) then (fr0 0, 33)
  else if opndF e i ≠ 0 then (fr0 0, opndF e i)
  else applyIn e f i
def bYebB0 := aI @fr_zero (aI @zFr_len (aI @zFr_take (aI @zFr_drop (aI @eEn_len (aI @eIn_len (aI @eFr_len (aI @eEn_take (aI @eIn_take (aI @eFr_take (aI @eFr_drop (aI @anD (aI @fr_0 (aI @fr_1 (aI @gdD (aI @set_set @resM_cell)))))))))))))))
theorem refApply37 (e : En) (f : Fr) (i : Ins) (hw : WideE e) : PCall Tryz.prog 107 [.agg (eEn e), .agg (eFr f), .agg (eIn i)] (.tup [.agg (eFr (applyR e f i).1), .int .i64 (applyR e f i).2]) := by
  have i1 : (eIn i)[1]? = some (.int .u8 i.op.val) := rfl
  have i2 : (eIn i)[2]? = some (.int .i64 i.a) := rfl
  have e0 : (eEn e)[0]? = some (.slice .no (rws eC e.cs)) := rfl
  refine F107.pcall' rfl fun T hT => ?_
  simp -implicitDefEqProofs only [go_sem, c107, hT, fr_zero, zFr_len, zFr_take, zFr_drop, eEn_len, eIn_len, eFr_len, eEn_take, eIn_take, eFr_take, eFr_drop, anD]
  intro b3 b4 n1 n2 b5 n3 n4 n5 n6 b6 n7 n8 n9 n10 n11 n12
  simp -implicitDefEqProofs only [go_sem, hT, fr_zero, zFr_len, zFr_take, zFr_drop, eEn_len, eIn_len, eFr_len, eEn_take, eIn_take, eFr_take, eFr_drop, anD, n1, n2, n3, n4, n5, n6, n7, n8, n9, n10, n11, n12]
  intro b8 m1 m2 m3 m4 m5 m6 m7 m8
  simp -implicitDefEqProofs only [go_sem, hT, n1, n2, n3, n4, n5, n6, n7, n8, n9, n10, n11, n12, m1, m2, m3, m4, m5, m6, m7, m8, i1, i2, e0, bYebB0]
  refine callB_pure (can73 e hw) ?_
  cases hcan : canB e
  · simp -implicitDefEqProofs only [go_sem, hT, n1, n2, n3, n4, n5, n6, n7, n8, n9, n10, n11, n12, m1, m2, m3, m4, m5, m6, m7, m8, i1, i2, e0, bYebB0]
    rw [applyR, if_pos hcan, fr_fr0]
    exact DLe.refl _
  have hc := canB_can hw hcan
  simp -implicitDefEqProofs only [go_sem, hT, n1, n2, n3, n4, n5, n6, n7, n8, n9, n10, n11, n12, m1, m2, m3, m4, m5, m6, m7, m8, i1, i2, e0, bYebB0]
  refine callB_pure (refCheck40 e.cs .no f) ?_
  by_cases hck : checkF e.cs.length f = 0
  case neg =>
    have hck' : ((checkF e.cs.length f : Int) = 0) = False := by simp; omega
    simp -implicitDefEqProofs only [go_sem, hT, n1, n2, n3, n4, n5, n6, n7, n8, n9, n10, n11, n12, m1, m2, m3, m4, m5, m6, m7, m8, i1, i2, e0, hck', bYebB0]
    rw [applyR, if_neg (by simp [hcan]), if_pos hck, fr_fr0]
    exact DLe.refl _
  have hck' : ((checkF e.cs.length f : Int) = 0) = True := by simp; omega
  have hR : applyR e f i = if 34 ≤ i.op.val then (fr0 0, 40) else if locOp i ∧ ¬ (0 ≤ i.a ∧ i.a < f.loc) then (fr0 0, 33) else if opndF e i ≠ 0 then (fr0 0, opndF e i) else applyIn e f i := by
    rw [applyR, if_neg (by simp [hcan]), if_neg (by simp [hck])]
  simp -implicitDefEqProofs only [go_sem, hT, n1, n2, n3, n4, n5, n6, n7, n8, n9, n10, n11, n12, m1, m2, m3, m4, m5, m6, m7, m8, i1, i2, e0, hck', bYebB0]
  refine callB_pure (refSize74 i.op) ?_
  by_cases h34 : 34 ≤ i.op.val
  · have hs : sizeOp i.op.val = 0 := by rw [sizeOp, if_pos h34]
    simp -implicitDefEqProofs only [go_sem, hT, fr_zero, zFr_len, zFr_take, zFr_drop, eEn_len, eIn_len, eFr_len, eEn_take, eIn_take, eFr_take, eFr_drop, anD, n1, n2, n3, n4, n5, n6, n7, n8, n9, n10, n11, n12, m1, m2, m3, m4, m5, m6, m7, m8, i1, i2, e0, fr_0, fr_1, gdD, set_set, resM_cell, hs, Int.ofNat_zero]
    rw [hR, if_pos h34, fr_fr0]
    exact DLe.refl _
  have hs : ((sizeOp i.op.val : Int) = 0) = False := by
    simp only [eq_iff_iff, iff_false]
    rw [sizeOp, if_neg h34]; omega
  rw [if_neg h34] at hR
  by_cases hl : locOp i ∧ ¬ (0 ≤ i.a ∧ i.a < f.loc)
  · have hq : ((decide ((i.op.val : Int) = 4) || decide ((i.op.val : Int) = 5)) && (decide (i.a < 0) || decide (f.loc ≤ i.a))) = true := by
      simp only [Bool.and_eq_true, Bool.or_eq_true, decide_eq_true_eq]; unfold locOp at hl; omega
    rw [hR, if_pos hl, fr_fr0]
    simp -implicitDefEqProofs only [go_sem, hT, n1, n2, n3, n4, n5, n6, n7, n8, n9, n10, n11, n12, m1, m2, m3, m4, m5, m6, m7, m8, i1, i2, e0, hs, bYebB0]
    simp -implicitDefEqProofs only [go_sem, mmB, hT, n1, n2, n3, n4, n5, n6, n7, n8, n9, n10, n11, n12, m1, m2, m3, m4, m5, m6, m7, m8, i1, i2, e0, hs, hq, bYebB0]
    exact DLe.refl _
  have hq : ((decide ((i.op.val : Int) = 4) || decide ((i.op.val : Int) = 5)) && (decide (i.a < 0) || decide (f.loc ≤ i.a))) = false := by
    rw [← Bool.not_eq_true]
    simp only [Bool.and_eq_true, Bool.or_eq_true, decide_eq_true_eq]; unfold locOp at hl; omega
  rw [if_neg hl] at hR
  simp -implicitDefEqProofs only [go_sem, mmB, hT, n1, n2, n3, n4, n5, n6, n7, n8, n9, n10, n11, n12, m1, m2, m3, m4, m5, m6, m7, m8, i1, i2, e0, hs, hq, bYebB0]
  refine callB_pure (operands75 e i hc) ?_
  by_cases h0 : opndF e i = 0
  case neg =>
    have h0' : ((opndF e i : Int) = 0) = False := by simp; omega
    rw [hR, if_pos h0, fr_fr0]
    simp -implicitDefEqProofs only [go_sem, hT, n1, n2, n3, n4, n5, n6, n7, n8, n9, n10, n11, n12, m1, m2, m3, m4, m5, m6, m7, m8, i1, i2, e0, h0', bYebB0]
    all_goals exact DLe.refl _
  have h0' : ((opndF e i : Int) = 0) = True := by simp; omega
  rw [if_neg (by simp [h0])] at hR
  rw [hR]
  simp -implicitDefEqProofs only [go_sem, hT, n1, n2, n3, n4, n5, n6, n7, n8, n9, n10, n11, n12, m1, m2, m3, m4, m5, m6, m7, m8, i1, i2, e0, h0', bYebB0]
  refine callB_pure (refApply78 e f i hc hck h0 (by omega) hl) ?_
  simp -implicitDefEqProofs only [go_sem, hT, n1, n2, n3, n4, n5, n6, n7, n8, n9, n10, n11, n12, m1, m2, m3, m4, m5, m6, m7, m8, i1, i2, e0, bYebB0]
  all_goals exact DLe.refl _
def Mt (w : Wn) (t : Ty) : Prop := (w.kind = 0 ∧ t.val = 255) ∨ (w.kind = 1 ∧ t.val = 254) ∨ (w.kind = 2 ∧ t.val = 253) ∨ (w.kind = 4 ∧ w.t = t ∧ t.val < 253)
theorem fits_wanted {l : List Cl} {w : Wn} {t : Ty} (h : Mt w t) (x first : Ty) : fitsB l w x first = wantedB l x t := by
  rcases h with ⟨h1, h2⟩ | ⟨h1, h2⟩ | ⟨h1, h2⟩ | ⟨h1, h2, h3⟩
  · simp [fitsB, wantedB, h1, h2]
  · simp [fitsB, wantedB, h1, h2]
  · simp [fitsB, wantedB, h1, h2]
  · subst h2
    rw [fitsB, if_neg (by omega), if_neg (by omega), if_neg (by omega), if_pos h1, wantedB, if_neg (by omega), if_neg (by omega), if_neg (by omega)]
theorem mt_all {l : List Cl} {ws : List Wn} {ts : List Ty} (h : All2 Mt ws ts) (first : Ty) : ∀ had : List Ty, ((ws.zip had).all fun p => fitsB l p.1 p.2 first) = ((ts.zip had).all fun p => wantedB l p.2 p.1) := by
  induction h with
  | nil => intro had; simp
  | cons h1 _ ih =>
    intro had
    cases had with
    | nil => simp
    | cons x had => simp only [List.zip_cons_cons, List.all_cons, fits_wanted h1, ih]
theorem fitsAll_wanted {l : List Cl} {ws : List Wn} {ts : List Ty} (h : All2 Mt ws ts) (had : List Ty) : fitsAll l ws had = wantedAll l ts had := mt_all h _ had
theorem fitsAll_same {l : List Cl} (a b : Ty) : fitsAll l [⟨3, 0⟩, ⟨3, 0⟩] [a, b] = sameB [a, b] := by
  simp only [fitsAll, sameB, List.zip_cons_cons, List.zip_nil_left, List.all_cons, List.all_nil, List.headD_cons, Bool.and_true, fitsB]
  rw [Bool.eq_iff_iff]
  simp only [Fin.ext_iff]
  simp
  omega
theorem wantedAll_any {l : List Cl} (a b : Ty) : wantedAll l [255, 255] [a, b] = true := by
  have h : (255 : Ty).val = 255 := rfl
  simp [wantedAll, wantedB, h]
theorem stored_lt {n : Nat} {t : Ty} (hn : n ≤ 32) (h : storedN n t = true) : t.val < 253 := by
  simp only [storedN, validN, Bool.and_eq_true, decide_eq_true_eq] at h; omega
theorem canB_sig {e : En} (h : canB e = true) {s : Sg} (hs : s ∈ e.sgs) : (∀ t ∈ s.ps, storedN e.cs.length t = true) ∧ (s.r.val = 0 ∨ storedN e.cs.length s.r = true) := by
  simp only [canB, Bool.and_eq_true] at h
  have := List.all_eq_true.1 h.2 s hs
  simp only [sigMayB, Bool.and_eq_true, decide_eq_true_eq, Bool.or_eq_true, Bool.not_eq_true', List.any_eq_false] at this
  exact ⟨fun t ht => by simpa using this.1.2 t ht, this.2⟩
theorem ofClass_lt {e : En} (hc : Can e) {a : Int} (h1 : a < e.cs.length) : (ofClass a).val < 253 := by
  have h32 := hc.cls
  simp only [ofClass, Fin.ofNat]; omega
theorem flds_lt {e : En} {i : Ins} (hc : Can e) {f : Fd} (hf : f ∈ flds e i) : f.ty.val < 253 := by
  have h32 := hc.cls
  simp only [flds, fieldsOn, List.mem_flatMap, List.mem_reverse] at hf
  obtain ⟨k, hk, hf⟩ := hf
  have hlt := upI_lt hk
  simp only [fieldsAt, List.getElem?_eq_getElem hlt, Option.map_some, Option.getD_some] at hf
  exact stored_lt h32 (right_stored hc.right hlt hf)
theorem mt4 {t : Ty} (h : t.val < 253) : Mt ⟨4, t⟩ t := .inr (.inr (.inr ⟨rfl, rfl, h⟩))
theorem mt_map {ts : List Ty} (h : ∀ t ∈ ts, t.val < 253) : All2 Mt (ts.map fun t => (⟨4, t⟩ : Wn)) ts := by
  induction ts with
  | nil => exact .nil
  | cons t ts ih => exact .cons (mt4 (h t (by simp))) (ih fun x hx => h x (by simp [hx]))
theorem mt0 : Mt ⟨0, 0⟩ 255 := .inl ⟨rfl, rfl⟩
theorem mt1 : Mt ⟨1, 0⟩ 254 := .inr (.inl ⟨rfl, rfl⟩)
theorem mt2 : Mt ⟨2, 0⟩ 253 := .inr (.inr (.inl ⟨rfl, rfl⟩))
structure Agree (e : En) (i : Ins) (F : Ef) : Prop where
  takes : i.op.val ≠ 16 → All2 Mt F.takes (takesO e i i.op.val)
  same : i.op.val = 16 → F.takes = [⟨3, 0⟩, ⟨3, 0⟩]
  gives : ∀ had, i.op.val ≠ 4 → givesV F.gives had = (if i.op.val = 7 then [had.headD 0, had.headD 0] else if i.op.val = 8 then [(had[1]?).getD 0, had.headD 0] else givesO e i i.op.val)
theorem opnd_eq_call {e : En} {i : Ins} (h : i.op.val = 21) : opndF e i = if 0 ≤ i.a ∧ i.a.toNat < e.sgs.length then 0 else 71 := by rw [opndF, if_pos h]
theorem opnd_eq_cls {e : En} {i : Ins} (h : i.op.val = 23 ∨ i.op.val = 30 ∨ i.op.val = 31) : opndF e i = if 0 ≤ i.a ∧ i.a < e.cs.length then 0 else 72 := by
  have h1 : ¬ i.op.val = 21 := by omega
  rw [opndF, if_neg h1, if_pos h]
theorem opnd_eq_fld {e : En} {i : Ins} (h : i.op.val = 24 ∨ i.op.val = 25) : opndF e i = if (0 ≤ i.a ∧ i.a < e.cs.length) ∧ 0 ≤ i.b ∧ i.b.toNat < (fieldsOn e.cs (upI e.cs i.a).reverse).length then 0 else 72 := by
  have h1 : ¬ i.op.val = 21 := by omega
  have h2 : ¬ (i.op.val = 23 ∨ i.op.val = 30 ∨ i.op.val = 31) := by omega
  rw [opndF, if_neg h1, if_neg h2, if_pos h]
theorem told_agree (e : En) (i : Ins) (hw : WideE e) (hcan : canB e = true) (h34 : i.op.val < 34) : (toldF e i).2 = opndF e i ∧ (opndF e i = 0 → Agree e i (toldF e i).1) := by
  have hc := canB_can hw hcan
  have h32 := hc.cls
  rw [toldF, if_neg (by omega)]
  have hk34 : i.op.val = 0 ∨ i.op.val = 1 ∨ i.op.val = 2 ∨ i.op.val = 3 ∨ i.op.val = 4 ∨ i.op.val = 5 ∨ i.op.val = 6 ∨ i.op.val = 7 ∨ i.op.val = 8 ∨ i.op.val = 9 ∨ i.op.val = 10 ∨ i.op.val = 11 ∨ i.op.val = 12 ∨ i.op.val = 13 ∨ i.op.val = 14 ∨ i.op.val = 15 ∨ i.op.val = 16 ∨ i.op.val = 17 ∨ i.op.val = 18 ∨ i.op.val = 19 ∨ i.op.val = 20 ∨ i.op.val = 21 ∨ i.op.val = 22 ∨ i.op.val = 23 ∨ i.op.val = 24 ∨ i.op.val = 25 ∨ i.op.val = 26 ∨ i.op.val = 27 ∨ i.op.val = 28 ∨ i.op.val = 29 ∨ i.op.val = 30 ∨ i.op.val = 31 ∨ i.op.val = 32 ∨ i.op.val = 33 := by omega
  have op0 : (¬ i.op.val = 21 ∧ ¬ (i.op.val = 23 ∨ i.op.val = 30 ∨ i.op.val = 31) ∧ ¬ (i.op.val = 24 ∨ i.op.val = 25)) → opndF e i = 0 := fun ⟨h1, h2, h3⟩ => by rw [opndF, if_neg h1, if_neg h2, if_neg h3]
  have fx : ∀ ws g ts gs, tlOf i.op.val = .fixed ws g → (¬ i.op.val = 21 ∧ ¬ (i.op.val = 23 ∨ i.op.val = 30 ∨ i.op.val = 31) ∧ ¬ (i.op.val = 24 ∨ i.op.val = 25)) → i.op.val ≠ 16 → takesO e i i.op.val = ts → givesO e i i.op.val = gs →
      All2 Mt ws ts → (i.op.val ≠ 4 → ∀ had, givesV g had = (if i.op.val = 7 then [had.headD 0, had.headD 0] else if i.op.val = 8 then [(had[1]?).getD 0, had.headD 0] else gs)) →
      (tellF e i (tlOf i.op.val)).2 = opndF e i ∧ (opndF e i = 0 → Agree e i (tellF e i (tlOf i.op.val)).1) := fun ws g ts gs h1 h2 h3 h4 h5 h6 h7 => by
    rw [h1, op0 h2]
    exact ⟨rfl, fun _ => ⟨fun _ => by rw [h4]; exact h6, fun h => absurd h h3, fun had hn => by rw [h5]; exact h7 hn had⟩⟩
  have g1 : Mt wi 1 := mt4 (by decide)
  have g2 : Mt wb 2 := mt4 (by decide)
  have g4 : Mt wr 4 := mt4 (by decide)
  rcases hk34 with h | h | h | h | h | h | h | h | h | h | h | h | h | h | h | h | h | h | h | h | h | h | h | h | h | h | h | h | h | h | h | h | h | h
  · exact fx _ _ _ _ (by rw [h]; rfl) (by omega) (by omega) (by rw [h]) (by rw [h]) (by first | exact .nil | exact .cons g1 .nil | exact .cons g2 .nil | exact .cons g4 .nil | exact .cons g1 (.cons g1 .nil) | exact .cons mt0 .nil | exact .cons mt1 .nil | exact .cons mt0 (.cons mt0 .nil) | exact .cons mt2 (.cons mt2 .nil) | exact .cons g4 (.cons g1 .nil) | exact .cons g4 (.cons g1 (.cons g1 .nil))) (fun hn had => by first | exact absurd h hn | (rw [h]; rfl))
  · exact fx _ _ _ _ (by rw [h]; rfl) (by omega) (by omega) (by rw [h]) (by rw [h]) (by first | exact .nil | exact .cons g1 .nil | exact .cons g2 .nil | exact .cons g4 .nil | exact .cons g1 (.cons g1 .nil) | exact .cons mt0 .nil | exact .cons mt1 .nil | exact .cons mt0 (.cons mt0 .nil) | exact .cons mt2 (.cons mt2 .nil) | exact .cons g4 (.cons g1 .nil) | exact .cons g4 (.cons g1 (.cons g1 .nil))) (fun hn had => by first | exact absurd h hn | (rw [h]; rfl))
  · exact fx _ _ _ _ (by rw [h]; rfl) (by omega) (by omega) (by rw [h]) (by rw [h]) (by first | exact .nil | exact .cons g1 .nil | exact .cons g2 .nil | exact .cons g4 .nil | exact .cons g1 (.cons g1 .nil) | exact .cons mt0 .nil | exact .cons mt1 .nil | exact .cons mt0 (.cons mt0 .nil) | exact .cons mt2 (.cons mt2 .nil) | exact .cons g4 (.cons g1 .nil) | exact .cons g4 (.cons g1 (.cons g1 .nil))) (fun hn had => by first | exact absurd h hn | (rw [h]; rfl))
  · exact fx _ _ _ _ (by rw [h]; rfl) (by omega) (by omega) (by rw [h]) (by rw [h]) (by first | exact .nil | exact .cons g1 .nil | exact .cons g2 .nil | exact .cons g4 .nil | exact .cons g1 (.cons g1 .nil) | exact .cons mt0 .nil | exact .cons mt1 .nil | exact .cons mt0 (.cons mt0 .nil) | exact .cons mt2 (.cons mt2 .nil) | exact .cons g4 (.cons g1 .nil) | exact .cons g4 (.cons g1 (.cons g1 .nil))) (fun hn had => by first | exact absurd h hn | (rw [h]; rfl))
  · exact fx _ _ _ _ (by rw [h]; rfl) (by omega) (by omega) (by rw [h]) (by rw [h]) (by first | exact .nil | exact .cons g1 .nil | exact .cons g2 .nil | exact .cons g4 .nil | exact .cons g1 (.cons g1 .nil) | exact .cons mt0 .nil | exact .cons mt1 .nil | exact .cons mt0 (.cons mt0 .nil) | exact .cons mt2 (.cons mt2 .nil) | exact .cons g4 (.cons g1 .nil) | exact .cons g4 (.cons g1 (.cons g1 .nil))) (fun hn had => by first | exact absurd h hn | (rw [h]; rfl))
  · exact fx _ _ _ _ (by rw [h]; rfl) (by omega) (by omega) (by rw [h]) (by rw [h]) (by first | exact .nil | exact .cons g1 .nil | exact .cons g2 .nil | exact .cons g4 .nil | exact .cons g1 (.cons g1 .nil) | exact .cons mt0 .nil | exact .cons mt1 .nil | exact .cons mt0 (.cons mt0 .nil) | exact .cons mt2 (.cons mt2 .nil) | exact .cons g4 (.cons g1 .nil) | exact .cons g4 (.cons g1 (.cons g1 .nil))) (fun hn had => by first | exact absurd h hn | (rw [h]; rfl))
  · exact fx _ _ _ _ (by rw [h]; rfl) (by omega) (by omega) (by rw [h]) (by rw [h]) (by first | exact .nil | exact .cons g1 .nil | exact .cons g2 .nil | exact .cons g4 .nil | exact .cons g1 (.cons g1 .nil) | exact .cons mt0 .nil | exact .cons mt1 .nil | exact .cons mt0 (.cons mt0 .nil) | exact .cons mt2 (.cons mt2 .nil) | exact .cons g4 (.cons g1 .nil) | exact .cons g4 (.cons g1 (.cons g1 .nil))) (fun hn had => by first | exact absurd h hn | (rw [h]; rfl))
  · exact fx _ _ _ _ (by rw [h]; rfl) (by omega) (by omega) (by rw [h]) (by rw [h]) (by first | exact .nil | exact .cons g1 .nil | exact .cons g2 .nil | exact .cons g4 .nil | exact .cons g1 (.cons g1 .nil) | exact .cons mt0 .nil | exact .cons mt1 .nil | exact .cons mt0 (.cons mt0 .nil) | exact .cons mt2 (.cons mt2 .nil) | exact .cons g4 (.cons g1 .nil) | exact .cons g4 (.cons g1 (.cons g1 .nil))) (fun hn had => by first | exact absurd h hn | (rw [h]; rfl))
  · exact fx _ _ _ _ (by rw [h]; rfl) (by omega) (by omega) (by rw [h]) (by rw [h]) (by first | exact .nil | exact .cons g1 .nil | exact .cons g2 .nil | exact .cons g4 .nil | exact .cons g1 (.cons g1 .nil) | exact .cons mt0 .nil | exact .cons mt1 .nil | exact .cons mt0 (.cons mt0 .nil) | exact .cons mt2 (.cons mt2 .nil) | exact .cons g4 (.cons g1 .nil) | exact .cons g4 (.cons g1 (.cons g1 .nil))) (fun hn had => by first | exact absurd h hn | (rw [h]; rfl))
  · exact fx _ _ _ _ (by rw [h]; rfl) (by omega) (by omega) (by rw [h]) (by rw [h]) (by first | exact .nil | exact .cons g1 .nil | exact .cons g2 .nil | exact .cons g4 .nil | exact .cons g1 (.cons g1 .nil) | exact .cons mt0 .nil | exact .cons mt1 .nil | exact .cons mt0 (.cons mt0 .nil) | exact .cons mt2 (.cons mt2 .nil) | exact .cons g4 (.cons g1 .nil) | exact .cons g4 (.cons g1 (.cons g1 .nil))) (fun hn had => by first | exact absurd h hn | (rw [h]; rfl))
  · exact fx _ _ _ _ (by rw [h]; rfl) (by omega) (by omega) (by rw [h]) (by rw [h]) (by first | exact .nil | exact .cons g1 .nil | exact .cons g2 .nil | exact .cons g4 .nil | exact .cons g1 (.cons g1 .nil) | exact .cons mt0 .nil | exact .cons mt1 .nil | exact .cons mt0 (.cons mt0 .nil) | exact .cons mt2 (.cons mt2 .nil) | exact .cons g4 (.cons g1 .nil) | exact .cons g4 (.cons g1 (.cons g1 .nil))) (fun hn had => by first | exact absurd h hn | (rw [h]; rfl))
  · exact fx _ _ _ _ (by rw [h]; rfl) (by omega) (by omega) (by rw [h]) (by rw [h]) (by first | exact .nil | exact .cons g1 .nil | exact .cons g2 .nil | exact .cons g4 .nil | exact .cons g1 (.cons g1 .nil) | exact .cons mt0 .nil | exact .cons mt1 .nil | exact .cons mt0 (.cons mt0 .nil) | exact .cons mt2 (.cons mt2 .nil) | exact .cons g4 (.cons g1 .nil) | exact .cons g4 (.cons g1 (.cons g1 .nil))) (fun hn had => by first | exact absurd h hn | (rw [h]; rfl))
  · exact fx _ _ _ _ (by rw [h]; rfl) (by omega) (by omega) (by rw [h]) (by rw [h]) (by first | exact .nil | exact .cons g1 .nil | exact .cons g2 .nil | exact .cons g4 .nil | exact .cons g1 (.cons g1 .nil) | exact .cons mt0 .nil | exact .cons mt1 .nil | exact .cons mt0 (.cons mt0 .nil) | exact .cons mt2 (.cons mt2 .nil) | exact .cons g4 (.cons g1 .nil) | exact .cons g4 (.cons g1 (.cons g1 .nil))) (fun hn had => by first | exact absurd h hn | (rw [h]; rfl))
  · exact fx _ _ _ _ (by rw [h]; rfl) (by omega) (by omega) (by rw [h]) (by rw [h]) (by first | exact .nil | exact .cons g1 .nil | exact .cons g2 .nil | exact .cons g4 .nil | exact .cons g1 (.cons g1 .nil) | exact .cons mt0 .nil | exact .cons mt1 .nil | exact .cons mt0 (.cons mt0 .nil) | exact .cons mt2 (.cons mt2 .nil) | exact .cons g4 (.cons g1 .nil) | exact .cons g4 (.cons g1 (.cons g1 .nil))) (fun hn had => by first | exact absurd h hn | (rw [h]; rfl))
  · exact fx _ _ _ _ (by rw [h]; rfl) (by omega) (by omega) (by rw [h]) (by rw [h]) (by first | exact .nil | exact .cons g1 .nil | exact .cons g2 .nil | exact .cons g4 .nil | exact .cons g1 (.cons g1 .nil) | exact .cons mt0 .nil | exact .cons mt1 .nil | exact .cons mt0 (.cons mt0 .nil) | exact .cons mt2 (.cons mt2 .nil) | exact .cons g4 (.cons g1 .nil) | exact .cons g4 (.cons g1 (.cons g1 .nil))) (fun hn had => by first | exact absurd h hn | (rw [h]; rfl))
  · exact fx _ _ _ _ (by rw [h]; rfl) (by omega) (by omega) (by rw [h]) (by rw [h]) (by first | exact .nil | exact .cons g1 .nil | exact .cons g2 .nil | exact .cons g4 .nil | exact .cons g1 (.cons g1 .nil) | exact .cons mt0 .nil | exact .cons mt1 .nil | exact .cons mt0 (.cons mt0 .nil) | exact .cons mt2 (.cons mt2 .nil) | exact .cons g4 (.cons g1 .nil) | exact .cons g4 (.cons g1 (.cons g1 .nil))) (fun hn had => by first | exact absurd h hn | (rw [h]; rfl))
  · have ht : tlOf i.op.val = .fixed [⟨3, 0⟩, ⟨3, 0⟩] (.const [2]) := by rw [h]; rfl
    rw [ht, op0 (by omega)]
    exact ⟨rfl, fun _ => ⟨fun h' => absurd h h', fun _ => rfl, fun had _ => by rw [h]; rfl⟩⟩
  · exact fx _ _ _ _ (by rw [h]; rfl) (by omega) (by omega) (by rw [h]) (by rw [h]) (by first | exact .nil | exact .cons g1 .nil | exact .cons g2 .nil | exact .cons g4 .nil | exact .cons g1 (.cons g1 .nil) | exact .cons mt0 .nil | exact .cons mt1 .nil | exact .cons mt0 (.cons mt0 .nil) | exact .cons mt2 (.cons mt2 .nil) | exact .cons g4 (.cons g1 .nil) | exact .cons g4 (.cons g1 (.cons g1 .nil))) (fun hn had => by first | exact absurd h hn | (rw [h]; rfl))
  · exact fx _ _ _ _ (by rw [h]; rfl) (by omega) (by omega) (by rw [h]) (by rw [h]) (by first | exact .nil | exact .cons g1 .nil | exact .cons g2 .nil | exact .cons g4 .nil | exact .cons g1 (.cons g1 .nil) | exact .cons mt0 .nil | exact .cons mt1 .nil | exact .cons mt0 (.cons mt0 .nil) | exact .cons mt2 (.cons mt2 .nil) | exact .cons g4 (.cons g1 .nil) | exact .cons g4 (.cons g1 (.cons g1 .nil))) (fun hn had => by first | exact absurd h hn | (rw [h]; rfl))
  · exact fx _ _ _ _ (by rw [h]; rfl) (by omega) (by omega) (by rw [h]) (by rw [h]) (by first | exact .nil | exact .cons g1 .nil | exact .cons g2 .nil | exact .cons g4 .nil | exact .cons g1 (.cons g1 .nil) | exact .cons mt0 .nil | exact .cons mt1 .nil | exact .cons mt0 (.cons mt0 .nil) | exact .cons mt2 (.cons mt2 .nil) | exact .cons g4 (.cons g1 .nil) | exact .cons g4 (.cons g1 (.cons g1 .nil))) (fun hn had => by first | exact absurd h hn | (rw [h]; rfl))
  · exact fx _ _ _ _ (by rw [h]; rfl) (by omega) (by omega) (by rw [h]) (by rw [h]) (by first | exact .nil | exact .cons g1 .nil | exact .cons g2 .nil | exact .cons g4 .nil | exact .cons g1 (.cons g1 .nil) | exact .cons mt0 .nil | exact .cons mt1 .nil | exact .cons mt0 (.cons mt0 .nil) | exact .cons mt2 (.cons mt2 .nil) | exact .cons g4 (.cons g1 .nil) | exact .cons g4 (.cons g1 (.cons g1 .nil))) (fun hn had => by first | exact absurd h hn | (rw [h]; rfl))
  · have ht : tlOf i.op.val = .call := by rw [h]; rfl
    rw [ht]
    simp only [tellF]
    by_cases hq : 0 ≤ i.a ∧ i.a.toNat < e.sgs.length
    · rw [dif_pos hq, opnd_eq_call h, if_pos hq]
      have hget : e.sgs[i.a.toNat]? = some e.sgs[i.a.toNat] := List.getElem?_eq_getElem hq.2
      have hsg := canB_sig hcan (List.getElem_mem hq.2)
      generalize e.sgs[i.a.toNat] = s at *
      refine ⟨rfl, fun _ => ⟨fun _ => ?_, fun h' => by omega, fun had _ => ?_⟩⟩
      · rw [h, show takesO e i 21 = ((e.sgs[i.a.toNat]?).map Sg.ps).getD [] from rfl, hget]
        exact mt_map fun t ht => stored_lt h32 (hsg.1 t ht)
      · rw [h, if_neg (show ¬ (21 : Nat) = 7 by omega), if_neg (show ¬ (21 : Nat) = 8 by omega), show givesO e i 21 = ((e.sgs[i.a.toNat]?).map fun s => someR s.r).getD [] from rfl, hget]
        simp only [givesV, Option.map_some, Option.getD_some, someR]
    · rw [dif_neg hq, opnd_eq_call h, if_neg hq]
      exact ⟨rfl, fun h' => by cases h'⟩
  · have ht : tlOf i.op.val = .ret := by rw [h]; rfl
    rw [ht, op0 (by omega)]
    simp only [tellF, dif_pos hc.fn1]
    have hget : e.sgs[e.fn.toNat]? = some (e.sgs[e.fn.toNat]'hc.fn1) := List.getElem?_eq_getElem hc.fn1
    have hsg := canB_sig hcan (List.getElem_mem hc.fn1)
    generalize e.sgs[e.fn.toNat]'hc.fn1 = s at *
    refine ⟨trivial, fun _ => ⟨fun _ => ?_, fun h' => by omega, fun had _ => by rw [h]; rfl⟩⟩
    rw [h, show takesO e i 22 = ((e.sgs[e.fn.toNat]?).map fun s => someR s.r).getD [] from rfl, hget]
    simp only [Option.map_some, Option.getD_some, someR]
    split
    · exact .nil
    · rename_i h0
      exact .cons (mt4 (stored_lt h32 (hsg.2.resolve_left h0))) .nil
  · have ht : tlOf i.op.val = .classed [] true := by rw [h]; rfl
    rw [ht]
    simp only [tellF]
    by_cases hq : 0 ≤ i.a ∧ i.a < e.cs.length
    · rw [if_neg (show ¬ (i.a < 0 ∨ (e.cs.length : Int) ≤ i.a) by omega), opnd_eq_cls (by omega), if_pos hq]
      exact ⟨rfl, fun _ => ⟨fun _ => by rw [h]; exact .nil, fun h' => by omega, fun had _ => by rw [h]; rfl⟩⟩
    · rw [if_pos (show i.a < 0 ∨ (e.cs.length : Int) ≤ i.a by omega), opnd_eq_cls (by omega), if_neg hq]
      exact ⟨rfl, fun h' => by cases h'⟩
  · have ht : tlOf i.op.val = .field false := by rw [h]; rfl
    rw [ht]
    simp only [tellF]
    by_cases hq : (0 ≤ i.a ∧ i.a < e.cs.length) ∧ 0 ≤ i.b ∧ i.b.toNat < (fieldsOn e.cs (upI e.cs i.a).reverse).length
    · rw [dif_pos hq, opnd_eq_fld (by omega), if_pos hq]
      have hmem : (fieldsOn e.cs (upI e.cs i.a).reverse)[i.b.toNat]'hq.2.2 ∈ flds e i := List.getElem_mem _
      have hget : (flds e i)[i.b.toNat]? = some ((fieldsOn e.cs (upI e.cs i.a).reverse)[i.b.toNat]'hq.2.2) := List.getElem?_eq_getElem hq.2.2
      have hlt := flds_lt hc hmem
      have hne := flds_stored hc hmem
      generalize (fieldsOn e.cs (upI e.cs i.a).reverse)[i.b.toNat]'hq.2.2 = fd at *
      refine ⟨rfl, fun _ => ⟨fun _ => ?_, fun h' => by omega, fun had _ => ?_⟩⟩
      · rw [h]; exact .cons (mt4 (ofClass_lt hc hq.1.2)) .nil
      · rw [h]; rw [show givesO e i 24 = (((flds e i)[i.b.toNat]?).map fun f => someR f.ty).getD [] from rfl, hget]
        simp only [Bool.false_eq_true, if_false, givesV, Option.map_some, Option.getD_some, someR]
        rw [if_neg hne]; rfl
    · rw [dif_neg hq, opnd_eq_fld (by omega), if_neg hq]
      exact ⟨rfl, fun h' => by cases h'⟩
  · have ht : tlOf i.op.val = .field true := by rw [h]; rfl
    rw [ht]
    simp only [tellF]
    by_cases hq : (0 ≤ i.a ∧ i.a < e.cs.length) ∧ 0 ≤ i.b ∧ i.b.toNat < (fieldsOn e.cs (upI e.cs i.a).reverse).length
    · rw [dif_pos hq, opnd_eq_fld (by omega), if_pos hq]
      have hmem : (fieldsOn e.cs (upI e.cs i.a).reverse)[i.b.toNat]'hq.2.2 ∈ flds e i := List.getElem_mem _
      have hget : (flds e i)[i.b.toNat]? = some ((fieldsOn e.cs (upI e.cs i.a).reverse)[i.b.toNat]'hq.2.2) := List.getElem?_eq_getElem hq.2.2
      have hlt := flds_lt hc hmem
      have hne := flds_stored hc hmem
      generalize (fieldsOn e.cs (upI e.cs i.a).reverse)[i.b.toNat]'hq.2.2 = fd at *
      refine ⟨rfl, fun _ => ⟨fun _ => ?_, fun h' => by omega, fun had _ => ?_⟩⟩
      · rw [h]; rw [show takesO e i 25 = [ofClass i.a, (((flds e i)[i.b.toNat]?).map Fd.ty).getD 0] from rfl, hget]
        exact .cons (mt4 (ofClass_lt hc hq.1.2)) (.cons (mt4 hlt) .nil)
      · rw [h]; rfl
    · rw [dif_neg hq, opnd_eq_fld (by omega), if_neg hq]
      exact ⟨rfl, fun h' => by cases h'⟩
  · exact fx _ _ _ _ (by rw [h]; rfl) (by omega) (by omega) (by rw [h]) (by rw [h]) (by first | exact .nil | exact .cons g1 .nil | exact .cons g2 .nil | exact .cons g4 .nil | exact .cons g1 (.cons g1 .nil) | exact .cons mt0 .nil | exact .cons mt1 .nil | exact .cons mt0 (.cons mt0 .nil) | exact .cons mt2 (.cons mt2 .nil) | exact .cons g4 (.cons g1 .nil) | exact .cons g4 (.cons g1 (.cons g1 .nil))) (fun hn had => by first | exact absurd h hn | (rw [h]; rfl))
  · exact fx _ _ _ _ (by rw [h]; rfl) (by omega) (by omega) (by rw [h]) (by rw [h]) (by first | exact .nil | exact .cons g1 .nil | exact .cons g2 .nil | exact .cons g4 .nil | exact .cons g1 (.cons g1 .nil) | exact .cons mt0 .nil | exact .cons mt1 .nil | exact .cons mt0 (.cons mt0 .nil) | exact .cons mt2 (.cons mt2 .nil) | exact .cons g4 (.cons g1 .nil) | exact .cons g4 (.cons g1 (.cons g1 .nil))) (fun hn had => by first | exact absurd h hn | (rw [h]; rfl))
  · exact fx _ _ _ _ (by rw [h]; rfl) (by omega) (by omega) (by rw [h]) (by rw [h]) (by first | exact .nil | exact .cons g1 .nil | exact .cons g2 .nil | exact .cons g4 .nil | exact .cons g1 (.cons g1 .nil) | exact .cons mt0 .nil | exact .cons mt1 .nil | exact .cons mt0 (.cons mt0 .nil) | exact .cons mt2 (.cons mt2 .nil) | exact .cons g4 (.cons g1 .nil) | exact .cons g4 (.cons g1 (.cons g1 .nil))) (fun hn had => by first | exact absurd h hn | (rw [h]; rfl))
  · exact fx _ _ _ _ (by rw [h]; rfl) (by omega) (by omega) (by rw [h]) (by rw [h]) (by first | exact .nil | exact .cons g1 .nil | exact .cons g2 .nil | exact .cons g4 .nil | exact .cons g1 (.cons g1 .nil) | exact .cons mt0 .nil | exact .cons mt1 .nil | exact .cons mt0 (.cons mt0 .nil) | exact .cons mt2 (.cons mt2 .nil) | exact .cons g4 (.cons g1 .nil) | exact .cons g4 (.cons g1 (.cons g1 .nil))) (fun hn had => by first | exact absurd h hn | (rw [h]; rfl))
  · have ht : tlOf i.op.val = .classed [⟨2, 0⟩] true := by rw [h]; rfl
    rw [ht]
    simp only [tellF]
    by_cases hq : 0 ≤ i.a ∧ i.a < e.cs.length
    · rw [if_neg (show ¬ (i.a < 0 ∨ (e.cs.length : Int) ≤ i.a) by omega), opnd_eq_cls (by omega), if_pos hq]
      exact ⟨rfl, fun _ => ⟨fun _ => by rw [h]; exact .cons mt2 .nil, fun h' => by omega, fun had _ => by rw [h]; rfl⟩⟩
    · rw [if_pos (show i.a < 0 ∨ (e.cs.length : Int) ≤ i.a by omega), opnd_eq_cls (by omega), if_neg hq]
      exact ⟨rfl, fun h' => by cases h'⟩
  · have ht : tlOf i.op.val = .classed [⟨2, 0⟩] false := by rw [h]; rfl
    rw [ht]
    simp only [tellF]
    by_cases hq : 0 ≤ i.a ∧ i.a < e.cs.length
    · rw [if_neg (show ¬ (i.a < 0 ∨ (e.cs.length : Int) ≤ i.a) by omega), opnd_eq_cls (by omega), if_pos hq]
      exact ⟨rfl, fun _ => ⟨fun _ => by rw [h]; exact .cons mt2 .nil, fun h' => by omega, fun had _ => by rw [h]; rfl⟩⟩
    · rw [if_pos (show i.a < 0 ∨ (e.cs.length : Int) ≤ i.a by omega), opnd_eq_cls (by omega), if_neg hq]
      exact ⟨rfl, fun h' => by cases h'⟩
  · exact fx _ _ _ _ (by rw [h]; rfl) (by omega) (by omega) (by rw [h]) (by rw [h]) (by first | exact .nil | exact .cons g1 .nil | exact .cons g2 .nil | exact .cons g4 .nil | exact .cons g1 (.cons g1 .nil) | exact .cons mt0 .nil | exact .cons mt1 .nil | exact .cons mt0 (.cons mt0 .nil) | exact .cons mt2 (.cons mt2 .nil) | exact .cons g4 (.cons g1 .nil) | exact .cons g4 (.cons g1 (.cons g1 .nil))) (fun hn had => by first | exact absurd h hn | (rw [h]; rfl))
  · exact fx _ _ _ _ (by rw [h]; rfl) (by omega) (by omega) (by rw [h]) (by rw [h]) (by first | exact .nil | exact .cons g1 .nil | exact .cons g2 .nil | exact .cons g4 .nil | exact .cons g1 (.cons g1 .nil) | exact .cons mt0 .nil | exact .cons mt1 .nil | exact .cons mt0 (.cons mt0 .nil) | exact .cons mt2 (.cons mt2 .nil) | exact .cons g4 (.cons g1 .nil) | exact .cons g4 (.cons g1 (.cons g1 .nil))) (fun hn had => by first | exact absurd h hn | (rw [h]; rfl))
theorem apply_eq (e : En) (f : Fr) (i : Ins) (hw : WideE e) : applyF e f i = applyR e f i := by
  unfold applyF applyR
  cases hcan : canB e
  · rfl
  simp only [Bool.true_eq_false, if_false]
  by_cases hck : checkF e.cs.length f = 0
  case neg => rw [if_pos hck, if_pos hck]
  have nck : ¬ checkF e.cs.length f ≠ 0 := fun h => h hck
  rw [if_neg nck, if_neg nck]
  by_cases h34 : 34 ≤ i.op.val
  · have : (toldF e i).2 = 40 := by rw [toldF, if_pos h34]
    rw [if_pos (show (toldF e i).2 ≠ 0 by omega), if_pos h34, this]
  obtain ⟨h1, h2⟩ := told_agree e i hw hcan (by omega)
  rw [if_neg h34, h1]
  have hop : locOp i → opndF e i = 0 := fun h => by unfold locOp at h; rw [opndF, if_neg (by omega), if_neg (by omega), if_neg (by omega)]
  by_cases hl : locOp i ∧ ¬ (0 ≤ i.a ∧ i.a < f.loc)
  · rw [if_neg (show ¬ opndF e i ≠ 0 from fun h => h (hop hl.1)), if_pos hl, if_pos hl]
  rw [if_neg hl, if_neg hl]
  by_cases h0 : opndF e i = 0
  case neg => rw [if_pos h0, if_pos h0]
  have n0 : ¬ opndF e i ≠ 0 := fun h => h h0
  rw [if_neg n0, if_neg n0]
  have ha := h2 h0
  generalize (toldF e i).1 = F at *
  have hlen : F.takes.length = (takesO e i i.op.val).length := by
    by_cases h16 : i.op.val = 16
    · rw [ha.same h16, h16]; rfl
    · exact (ha.takes h16).length_eq
  unfold applyIn
  by_cases hh : f.h < (takesO e i i.op.val).length
  · have : takenF e.cs f F.takes = ([], 30) := by rw [takenF, hlen, if_pos hh]
    rw [this, if_pos hh, if_pos (by simp)]
  rw [if_neg hh]
  have htk : takenF e.cs f F.takes = if fitsAll e.cs F.takes (hadL f F.takes.length) = false then ([], 70) else (hadL f F.takes.length, 0) := by rw [takenF, hlen, if_neg hh]
  have hfw : fitsAll e.cs F.takes (hadL f F.takes.length) = true ↔ wantedAll e.cs (takesO e i i.op.val) (hadL f (takesO e i i.op.val).length) = true ∧ ¬ (i.op.val = 16 ∧ sameB (hadL f 2) = false) := by
    by_cases h16 : i.op.val = 16
    · rw [ha.same h16, h16, show takesO e i 16 = [255, 255] from rfl]
      have e1 : fitsAll e.cs [⟨3, 0⟩, ⟨3, 0⟩] (hadL f 2) = sameB (hadL f 2) := fitsAll_same _ _
      have e2 : wantedAll e.cs [255, 255] (hadL f 2) = true := wantedAll_any _ _
      simp only [List.length_cons, List.length_nil, e1, e2]
      simp
    · rw [fitsAll_wanted (ha.takes h16), hlen]; simp [h16]
  by_cases hf : fitsAll e.cs F.takes (hadL f F.takes.length) = true
  case neg =>
    have hf' : fitsAll e.cs F.takes (hadL f F.takes.length) = false := by simpa using hf
    rw [htk, if_pos hf', if_pos (by simp)]
    by_cases hwa : wantedAll e.cs (takesO e i i.op.val) (hadL f (takesO e i i.op.val).length) = false
    · rw [if_pos hwa]
    · rw [if_neg hwa, if_pos (Classical.byContradiction fun hn => hf (hfw.2 ⟨by simpa using hwa, hn⟩))]
  obtain ⟨w1, w2⟩ := hfw.1 hf
  have nf : ¬ fitsAll e.cs F.takes (hadL f F.takes.length) = false := fun h => by rw [hf] at h; cases h
  have nw : ¬ wantedAll e.cs (takesO e i i.op.val) (hadL f (takesO e i i.op.val).length) = false := fun h => by rw [w1] at h; cases h
  rw [if_neg nf, hlen] at htk
  rw [htk]
  rw [if_neg nw, if_neg w2]
  simp only [ne_eq, not_true_eq_false, if_false]
  by_cases o4 : i.op.val = 4
  · rw [if_pos o4]
    by_cases hz : slAt f i.a.toNat = 0
    · rw [if_pos hz, if_pos ⟨o4, hz⟩]
    · rw [if_neg hz, if_neg (fun h => hz h.2), givesR, if_pos o4]
  · rw [if_neg o4, if_neg (fun h => o4 h.1), ha.gives _ o4, givesR, if_neg o4]
def subFr (l : List Cl) (a b : Fr) : Bool := decide (checkF l.length a = 0 ∧ checkF l.length b = 0 ∧ a.loc = b.loc ∧ a.h = b.h) && (List.range 24).all fun i => subB l (slAt a i) (slAt b i)
theorem subB_zero (l : List Cl) : subB l 0 0 = true := by simp [subB, validN]
def bYebG0 := aI @eFr_len (aI @eFr_take (aI @fr_0 (aI @fr_1 @gdD)))
theorem refSub38 (l : List Cl) (o : Own) (a b : Fr) (hf : Falls l l.length) (hl : l.length * 48 ≤ 140737488355328) : PCall Tryz.prog 50 [.slice o (rws eC l), .agg (eFr a), .agg (eFr b)] (.bool (subFr l a b)) := by
  refine F50.pcall' rfl fun T hT => ?_
  simp -implicitDefEqProofs only [go_sem, c50, hT, bYebG0]
  intro b4 b5 n1 n2
  simp -implicitDefEqProofs only [go_sem, hT, n1, n2, bYebG0]
  refine callB_pure (refCheck40 l o a) ?_
  by_cases h1 : checkF l.length a = 0
  case neg =>
    have h1' : ((checkF l.length a : Int) = 0) = False := by simp; omega
    simp -implicitDefEqProofs only [go_sem, hT, n1, n2, h1', bYebG0]
    exact DLe_bool (by rw [subFr, decide_eq_false (fun h => h1 h.1)]; rfl)
  have h1' : ((checkF l.length a : Int) = 0) = True := by simp; omega
  simp -implicitDefEqProofs only [go_sem, hT, n1, n2, h1', bYebG0]
  refine callB_pure (refCheck40 l o b) ?_
  by_cases h2 : checkF l.length b = 0
  case neg =>
    have h2' : ((checkF l.length b : Int) = 0) = False := by simp; omega
    simp -implicitDefEqProofs only [go_sem, hT, n1, n2, h2', bYebG0]
    exact DLe_bool (by rw [subFr, decide_eq_false (fun h => h2 h.2.1)]; rfl)
  have h2' : ((checkF l.length b : Int) = 0) = True := by simp; omega
  by_cases h3 : a.loc = b.loc
  case neg =>
    have h3' : (a.loc = b.loc) = False := by simp [h3]
    simp -implicitDefEqProofs only [go_sem, hT, n1, n2, h2', h3', bYebG0]
    exact DLe_bool (by rw [subFr, decide_eq_false (fun h => h3 h.2.2.1)]; rfl)
  have h3' : (a.loc = b.loc) = True := by simp [h3]
  by_cases h4 : a.h = b.h
  case neg =>
    have h4' : (a.h = b.h) = False := by simp [h4]
    simp -implicitDefEqProofs only [go_sem, hT, n1, n2, h2', h3', h4', bYebG0]
    exact DLe_bool (by rw [subFr, decide_eq_false (fun h => h4 h.2.2.2)]; rfl)
  have h4' : (a.h = b.h) = True := by simp [h4]
  have hsub : subFr l a b = (List.range 24).all fun i => subB l (slAt a i) (slAt b i) := by rw [subFr, decide_eq_true ⟨h1, h2, h3, h4⟩, Bool.true_and]
  obtain ⟨R, hR⟩ : ∃ R, ((List.range 24).all fun i => subB l (slAt a i) (slAt b i)) = R := ⟨_, rfl⟩
  rw [hsub, hR]
  have sa := checkF_shape h1
  have ba := bare_iff.1 (checkF_bare h1)
  have bb := bare_iff.1 (checkF_bare h2)
  rw [← h3, ← h4] at bb
  obtain ⟨s1, s2, s3, s4⟩ := shaped_of sa
  obtain ⟨n, hn⟩ : ∃ n : Nat, a.loc + a.h = n := ⟨_, (Int.toNat_of_nonneg (by omega)).symm⟩
  have w1 : IntKind.wrap .i64 (a.loc + a.h) = n := by rw [wrap_i64 (by omega) (by omega), hn]
  simp -implicitDefEqProofs only [go_sem, hT, eFr_len, eFr_take, fr_0, fr_1, gdD, n1, n2, h2', h3', h4', Int.ofNat_zero]
  refine loopL F50 (fun i : Nat => [(0, .slice o (rws eC l)), (4, .ptr b4 0), (5, .ptr b5 0), (7, .int .i64 i)]) (fun _ => (({} : St).set b4 (eFr a)).set b5 (eFr b)) (fun i => i ≤ n ∧ ∀ j : Nat, j < i → subB l (slAt a j) (slAt b j) = true) (fun i => 24 - i) 0 ⟨by omega, fun j hj => by omega⟩ ?_ (St.le.refl _) ?_
  · simp -implicitDefEqProofs only [go_sem, hT, Int.ofNat_zero]
  clear hT T
  rintro k ⟨hk, hv⟩ T hT
  by_cases hkn : k < n
  · have h1 : ((k : Int) < n) = True := by simp; omega
    have hx := fr_slAt a (show k < 24 by omega)
    have hy := fr_slAt b (show k < 24 by omega)
    have hd : ∀ j : Nat, j < k + 1 → j = k ∨ j < k := fun j hj => by omega
    have hkm : 24 - (k + 1) < 24 - k := by omega
    have hk24 : k < 24 := by omega
    simp -implicitDefEqProofs only [go_sem, hT, h1, w1, hx, hy, Nat.mul_one, n1, n2, bYebG0]
    refine ⟨by omega, by omega, callB_pure (refSub79 l o _ _ hf hl) ?_⟩
    cases hb : subB l (slAt a k) (slAt b k)
    · obtain rfl : R = false := hR.symm.trans (List.all_eq_false.2 ⟨k, List.mem_range.2 hk24, by simp [hb]⟩)
      simp -implicitDefEqProofs only [go_sem, hT]
    · simp -implicitDefEqProofs only [go_sem, hT]
      refine ⟨k + 1, ⟨hkn, fun j hj => ?_⟩, hkm, ?_, St.le.refl _⟩
      · rcases hd j hj with rfl | h
        · exact hb
        · exact hv j h
      · rw [wrap_i64 (by omega) (by omega)]; simp
  · have h1 : ((k : Int) < n) = False := by simp; omega
    have hall : ((List.range 24).all fun i => subB l (slAt a i) (slAt b i)) = true := List.all_eq_true.2 fun j hj => by
      have hj24 := List.mem_range.1 hj
      by_cases hjk : j < k
      · exact hv j hjk
      · rw [ba j hj24 (by omega), bb j hj24 (by omega)]; exact subB_zero l
    obtain rfl : R = true := hR.symm.trans hall
    simp -implicitDefEqProofs only [go_sem, hT, h1, w1, n1, n2, bYebG0]
def c21 : AC :=
.seq (rg [oO 2 (.assign (.const (.bool false)))])
 (.seq (rg [oO 3 (.move (tT 0)), oO 4 (.binOp .eql 5 (tT 3) (kB 19) 5), oO 5 (.move (tT 4)), oG 6 (.move (tT 0)) 5 false, oG 7 (.binOp .eql 5 (tT 6) (kB 22) 5) 5 false, oO 8 (.pick (tT 5) (.const (.bool true)) (tT 7)), oO 9 (.move (tT 8)), oG 10 (.move (tT 0)) 9 false, oG 11 (.binOp .eql 5 (tT 10) (kB 32) 5) 9 false, oO 12 (.pick (tT 9) (.const (.bool true)) (tT 11)), oO 2 (.assign (tT 12))])
 .ret)
theorem F21 : Fun1 Tryz.prog 21 13 c21 [.tmp 2] := mkT Tryz.func21 rfl (by decide +kernel) Tryz.ntmps21 rfl (by kernel_rfl) rfl
def c85 : AC :=
.seq (rg [oO 2 (.assign (.const (.bool false)))])
 (.seq (rg [oO 3 (.move (tT 0)), oO 4 (.binOp .eql 5 (tT 3) (kB 19) 5), oO 5 (.move (tT 4)), oG 6 (.move (tT 0)) 5 false, oG 7 (.binOp .eql 5 (tT 6) (kB 22) 5) 5 false, oO 8 (.pick (tT 5) (.const (.bool true)) (tT 7)), oO 9 (.move (tT 8)), oG 10 (.move (tT 0)) 9 false, oG 11 (.binOp .eql 5 (tT 10) (kB 32) 5) 9 false, oO 12 (.pick (tT 9) (.const (.bool true)) (tT 11)), oO 2 (.assign (tT 12))])
 .ret)
theorem F85 : Fun1 Tryz.prog 85 13 c85 [.tmp 2] := mkT Tryz.func85 rfl (by decide +kernel) Tryz.ntmps85 rfl (by kernel_rfl) rfl
def endsB (op : Nat) : Bool := decide (op = 19 ∨ op = 22 ∨ op = 32)
theorem refEnds41 (t : Ty) : PCall Tryz.prog 21 [.int .u8 t.val] (.bool (endsB t.val)) := by
  refine F21.pcall' rfl fun T hT => ?_
  simp -implicitDefEqProofs only [go_sem, mmB, c21, hT]
  exact DLe_bool (by rw [Bool.eq_iff_iff]; simp [endsB]; omega)
theorem ends88 (t : Ty) : PCall Tryz.prog 85 [.int .u8 t.val] (.bool (endsB t.val)) := by
  refine F85.pcall' rfl fun T hT => ?_
  simp -implicitDefEqProofs only [go_sem, mmB, c85, hT]
  exact DLe_bool (by rw [Bool.eq_iff_iff]; simp [endsB]; omega)
def c206 : AC :=
.seq (rg [oO 4 (.box 84 (tT 1)), oO 5 (.box 84 (tT 2)), oO 6 (.assign (kI 0))])
 (.seq (rg [oO 8 (.move (tT 0)), oO 9 (.load 84 (tT 4)), oO 10 (cF (.func 96) #[tT 8, tT 9] #[22, 84]), oO 7 (.assign (tT 10))])
 (.seq (.seq (rg [oO 11 (.move (tT 7)), oO 12 (.binOp .eql 32 (tT 11) (kI 0) 32)])
 (.cond (tT 12) (rg [oO 13 (.move (tT 0)), oO 14 (.load 84 (tT 5)), oO 15 (cF (.func 96) #[tT 13, tT 14] #[22, 84]), oO 7 (.assign (tT 15))])
 (.skip)))
 (.seq (.seq (rg [oO 16 (.move (tT 7)), oO 17 (.binOp .eql 32 (tT 16) (kI 0) 32), oO 18 (.move (tT 17)), oG 19 (.fieldAddr 84 (tT 4) 0) 18 true, oG 20 (.load 3 (tT 19)) 18 true, oG 21 (.fieldAddr 84 (tT 5) 0) 18 true, oG 22 (.load 3 (tT 21)) 18 true, oG 23 (.binOp .neq 3 (tT 20) (tT 22) 3) 18 true, oG 24 (.move (tT 23)) 18 true, oG 25 (.fieldAddr 84 (tT 4) 1) 24 false, oG 26 (.load 3 (tT 25)) 24 false, oG 27 (.fieldAddr 84 (tT 5) 1) 24 false, oG 28 (.load 3 (tT 27)) 24 false, oG 29 (.binOp .neq 3 (tT 26) (tT 28) 3) 24 false, oG 30 (.pick (tT 24) (.const (.bool true)) (tT 29)) 18 true, oO 31 (.pick (tT 18) (tT 30) (.const (.bool false)))])
 (.cond (tT 31) (rg [oO 7 (.assign (kI 32))])
 (.skip)))
 (.seq (rg [oO 32 (.move (tT 7)), oO 6 (.assign (tT 32))])
 .ret))))
theorem F206 : Fun1 Tryz.prog 206 33 c206 [.tmp 6] := mkT Tryz.func206 rfl (by decide +kernel) Tryz.ntmps206 rfl (by kernel_rfl) rfl
def c171 : AC :=
.seq (rg [oO 4 (.box 84 (tT 1)), oO 5 (.box 84 (tT 2)), oO 6 (.assign (.const (.bool false)))])
 (.seq (.seq (rg [oO 8 (.move (tT 0)), oO 9 (.load 84 (tT 4)), oO 10 (.load 84 (tT 5)), oO 11 (cF (.func 206) #[tT 8, tT 9, tT 10] #[22, 84, 84]), oO 12 (.binOp .neq 32 (tT 11) (kI 0) 32)])
 (.cond (tT 12) (.seq (rg [oO 6 (.assign (.const (.bool false)))])
 (.ret))
 (.skip)))
 (.seq (.seq (rg [oO 13 (.move (kI 0))])
 (.block 0 (.loop (.seq (rg [oO 14 (.binOp .lss 3 (tT 13) (kI 24) 3)])
 (.seq (.cond (tT 14) (.skip)
 (.exit 0))
 (.seq (.block 1 (.seq (rg [oO 15 (.move (tT 13)), oO 7 (.assign (tT 15))])
 (.seq (.reg true [] [⟨⟨some 16, .move (tT 0), none⟩, false, true⟩, ⟨⟨some 17, .move (tT 7), none⟩, false, true⟩, ⟨⟨some 18, .fieldAddr 84 (tT 4) 2, none⟩, false, true⟩, ⟨⟨some 19, .indexAddr 82 (tT 18) (tT 17), none⟩, false, true⟩, ⟨⟨some 20, .load 81 (tT 19), none⟩, false, true⟩, ⟨⟨some 21, .move (tT 7), none⟩, false, true⟩, oO 22 (.fieldAddr 84 (tT 5) 2), oO 23 (.indexAddr 82 (tT 22) (tT 21)), oO 24 (.load 81 (tT 23)), oO 25 (cF (.func 207) #[tT 16, tT 20, tT 24] #[22, 81, 81]), oO 26 (.unOp .not 4 (tT 25))])
 (.cond (tT 26) (.seq (rg [oO 6 (.assign (.const (.bool false)))])
 (.ret))
 (.skip)))))
 (rg [oO 27 (.binOp .add 3 (tT 13) (kI 1) 3), oO 13 (.move (tT 27))])))))))
 (.seq (rg [oO 6 (.assign (.const (.bool true)))])
 .ret)))
theorem F171 : Fun1 Tryz.prog 171 28 c171 [.tmp 6] := mkT Tryz.func171 rfl (by decide +kernel) Tryz.ntmps171 rfl (by kernel_rfl) rfl
def c82 : AC :=
.seq (rg [oO 4 (.alloc 38), oO 5 (.assign (kI 0))])
 (.seq (rg [oO 12 (.build 38 #[]), oO 6 (.alloc 38), oN (.store 38 (tT 6) (tT 12))])
 (.seq (.block 0 (.seq (rg [oO 14 (.move (tT 1)), oO 15 (.binOp .lss 3 (tT 14) (kI 0) 3), oO 16 (.move (tT 15)), oG 17 (.move (tT 1)) 16 false, oG 18 (.move (tT 0)) 16 false, oG 19 (cB .len #[tT 18] #[26]) 16 false, oG 20 (.binOp .gtr 3 (tT 17) (tT 19) 3) 16 false, oO 21 (.pick (tT 16) (.const (.bool true)) (tT 20)), oO 13 (.assign (tT 21))])
 (.cond (tT 13) (.seq (rg [oO 22 (.load 38 (tT 6)), oN (.store 38 (tT 4) (tT 22)), oO 5 (.assign (kI 1))])
 (.ret))
 (.seq (rg [oO 24 (.move (tT 1)), oO 25 (.move (tT 0)), oO 26 (cB .len #[tT 25] #[26]), oO 27 (.binOp .eql 3 (tT 24) (tT 26) 3), oO 23 (.assign (tT 27))])
 (.cond (tT 23) (.seq (rg [oO 28 (.load 38 (tT 6)), oN (.store 38 (tT 4) (tT 28)), oO 5 (.assign (kI 2))])
 (.ret))
 (.seq (rg [oO 30 (.move (tT 0)), oO 31 (.move (tT 1)), oO 32 (.indexAddr 26 (tT 30) (tT 31)), oO 33 (.load 5 (tT 32)), oO 34 (cF (.func 84) #[tT 33] #[5]), oO 35 (.binOp .eql 3 (tT 34) (kI 0) 3), oO 29 (.assign (tT 35))])
 (.cond (tT 29) (.seq (rg [oO 36 (.load 38 (tT 6)), oN (.store 38 (tT 4) (tT 36)), oO 5 (.assign (kI 40))])
 (.ret))
 (.seq (rg [oO 38 (.move (tT 0)), oO 39 (cB .len #[tT 38] #[26]), oO 40 (.move (tT 1)), oO 41 (.binOp .sub 3 (tT 39) (tT 40) 3), oO 42 (.move (tT 0)), oO 43 (.move (tT 1)), oO 44 (.indexAddr 26 (tT 42) (tT 43)), oO 45 (.load 5 (tT 44)), oO 46 (cF (.func 84) #[tT 45] #[5]), oO 47 (.binOp .lss 3 (tT 41) (tT 46) 3), oO 37 (.assign (tT 47))])
 (.cond (tT 37) (.seq (rg [oO 48 (.load 38 (tT 6)), oN (.store 38 (tT 4) (tT 48)), oO 5 (.assign (kI 2))])
 (.ret))
 (.skip))))))))))
 (.seq (rg [oO 49 (.move (tT 1)), oO 50 (.move (tT 0)), oO 51 (.move (tT 1)), oO 52 (.indexAddr 26 (tT 50) (tT 51)), oO 53 (.load 5 (tT 52)), oO 54 (.build 38 #[(0, .tmp 49), (1, .tmp 53)]), oO 7 (.alloc 38), oN (.store 38 (tT 7) (tT 54))])
 (.seq (rg [oO 55 (.move (tT 0)), oO 56 (.move (tT 1)), oO 57 (.binOp .add 3 (tT 56) (kI 1) 3), oO 58 (.slice 26 (tT 55) (some (tT 57)) none none), oO 8 (.alloc 26), oN (.store 26 (tT 8) (tT 58))])
 (.seq (rg [oO 59 (.makeFunc (.func 127) #[] #[tT 8]), oO 9 (.assign (tT 59))])
 (.seq (rg [oO 61 (.fieldAddr 38 (tT 7) 1), oO 62 (.load 5 (tT 61)), oO 63 (cF (.func 128) #[tT 62] #[5]), oO 60 (.move (tT 63)), oO 64 (.extract (tT 60) 0), oO 65 (.extract (tT 60) 1), oO 10 (.assign (tT 64)), oO 11 (.assign (tT 65))])
 (.seq (rg [oO 66 (.move (tT 9)), oO 67 (.move (tT 10)), oO 68 (cF (tT 66) #[tT 67] #[3]), oO 69 (.fieldAddr 38 (tT 7) 2), oN (.store 3 (tT 69) (tT 68))])
 (.seq (rg [oO 70 (.move (tT 9)), oO 71 (.move (tT 11)), oO 72 (cF (tT 70) #[tT 71] #[3]), oO 73 (.fieldAddr 38 (tT 7) 3), oN (.store 3 (tT 73) (tT 72))])
 (.seq (.seq (rg [oO 74 (.fieldAddr 38 (tT 7) 1), oO 75 (.load 5 (tT 74)), oO 76 (.binOp .eql 5 (tT 75) (kB 2) 5), oO 77 (.move (tT 76)), oG 78 (.fieldAddr 38 (tT 7) 2) 77 true, oG 79 (.load 3 (tT 78)) 77 true, oG 80 (.binOp .gtr 3 (tT 79) (kI 1) 3) 77 true, oO 81 (.pick (tT 77) (tT 80) (.const (.bool false)))])
 (.cond (tT 81) (.seq (rg [oO 82 (.load 38 (tT 6)), oN (.store 38 (tT 4) (tT 82)), oO 5 (.assign (kI 5))])
 (.ret))
 (.skip)))
 (.seq (rg [oO 83 (.load 38 (tT 7)), oN (.store 38 (tT 4) (tT 83)), oO 5 (.assign (kI 0))])
 .ret))))))))))
theorem F82 : Fun1 Tryz.prog 82 84 c82 [.cell 4 38, .tmp 5] := mkT Tryz.func82 rfl (by decide +kernel) Tryz.ntmps82 rfl (by kernel_rfl) rfl
def c127 : AC :=
.seq (rg [oO 3 (.assign (kI 0))])
 (.seq (rg [oO 4 (.assign (kI 0))])
 (.seq (.seq (rg [oO 7 (.load 26 (tT 1)), oO 8 (.move (tT 0)), oO 9 (.slice 26 (tT 7) none (some (tT 8)) none), oO 10 (cB .len #[tT 9] #[26]), oO 11 (.move (kI 0))])
 (.block 0 (.loop (.seq (rg [oO 12 (.binOp .lss 3 (tT 11) (tT 10) 3)])
 (.seq (.cond (tT 12) (.skip)
 (.exit 0))
 (.seq (.block 1 (.seq (rg [oO 13 (.indexAddr 26 (tT 9) (tT 11)), oO 14 (.load 5 (tT 13)), oO 6 (.assign (tT 14))])
 (rg [oO 15 (.move (tT 4)), oO 16 (.binOp .shl 3 (tT 15) (.const (.int .u64 8)) 67), oO 17 (.move (tT 6)), oO 18 (.convert 5 3 (tT 17)), oO 19 (.binOp .or 3 (tT 16) (tT 18) 3), oO 4 (.assign (tT 19))])))
 (rg [oO 20 (.binOp .add 3 (tT 11) (kI 1) 3), oO 11 (.move (tT 20))])))))))
 (.seq (rg [oO 21 (.load 26 (tT 1)), oO 22 (.move (tT 0)), oO 23 (.slice 26 (tT 21) (some (tT 22)) none none), oN (.store 26 (tT 1) (tT 23))])
 (.seq (.seq (rg [oO 24 (.move (tT 0)), oO 25 (.binOp .eql 3 (tT 24) (kI 4) 3)])
 (.cond (tT 25) (.seq (rg [oO 26 (.move (tT 4)), oO 27 (.convert 3 21 (tT 26)), oO 28 (.convert 21 3 (tT 27)), oO 3 (.assign (tT 28))])
 (.ret))
 (.skip)))
 (.seq (rg [oO 29 (.move (tT 4)), oO 3 (.assign (tT 29))])
 .ret)))))
theorem F127 : Fun1 Tryz.prog 127 30 c127 [.tmp 3] := mkT Tryz.func127 rfl (by decide +kernel) Tryz.ntmps127 rfl (by kernel_rfl) rfl
def c83 : AC :=
.seq (rg [oO 2 (.assign (.const (.bool false)))])
 (.seq (rg [oO 3 (.move (tT 0)), oO 4 (.binOp .eql 5 (tT 3) (kB 19) 5), oO 5 (.move (tT 4)), oG 6 (.move (tT 0)) 5 false, oG 7 (.binOp .eql 5 (tT 6) (kB 20) 5) 5 false, oO 8 (.pick (tT 5) (.const (.bool true)) (tT 7)), oO 2 (.assign (tT 8))])
 .ret)
theorem F83 : Fun1 Tryz.prog 83 9 c83 [.tmp 2] := mkT Tryz.func83 rfl (by decide +kernel) Tryz.ntmps83 rfl (by kernel_rfl) rfl
def c19 : AC :=
.seq (rg [oO 4 (.alloc 38), oO 5 (.assign (kI 0))])
 (.seq (rg [oO 6 (.alloc 38)])
 (.seq (.seq (rg [oO 12 (.move (tT 1)), oO 13 (.binOp .lss 3 (tT 12) (kI 0) 3), oO 14 (.move (tT 13)), oG 15 (.move (tT 1)) 14 false, oG 16 (.move (tT 0)) 14 false, oG 17 (cB .len #[tT 16] #[26]) 14 false, oG 18 (.binOp .gtr 3 (tT 15) (tT 17) 3) 14 false, oO 19 (.pick (tT 14) (.const (.bool true)) (tT 18))])
 (.cond (tT 19) (.seq (rg [oO 20 (.load 38 (tT 6)), oN (.store 38 (tT 4) (tT 20)), oO 5 (.assign (kI 1))])
 (.ret))
 (.skip)))
 (.seq (.seq (rg [oO 21 (.move (tT 1)), oO 22 (.move (tT 0)), oO 23 (cB .len #[tT 22] #[26]), oO 24 (.binOp .eql 3 (tT 21) (tT 23) 3)])
 (.cond (tT 24) (.seq (rg [oO 25 (.load 38 (tT 6)), oN (.store 38 (tT 4) (tT 25)), oO 5 (.assign (kI 2))])
 (.ret))
 (.skip)))
 (.seq (rg [oO 26 (.move (tT 0)), oO 27 (.move (tT 1)), oO 28 (.indexAddr 26 (tT 26) (tT 27)), oO 29 (.load 5 (tT 28)), oO 7 (.assign (tT 29))])
 (.seq (rg [oO 30 (.move (tT 7)), oO 31 (cF (.func 20) #[tT 30] #[5]), oO 8 (.assign (tT 31))])
 (.seq (.seq (rg [oO 32 (.move (tT 8)), oO 33 (.binOp .eql 3 (tT 32) (kI 0) 3)])
 (.cond (tT 33) (.seq (rg [oO 34 (.load 38 (tT 6)), oN (.store 38 (tT 4) (tT 34)), oO 5 (.assign (kI 40))])
 (.ret))
 (.skip)))
 (.seq (.seq (rg [oO 35 (.move (tT 0)), oO 36 (cB .len #[tT 35] #[26]), oO 37 (.move (tT 1)), oO 38 (.binOp .sub 3 (tT 36) (tT 37) 3), oO 39 (.move (tT 8)), oO 40 (.binOp .lss 3 (tT 38) (tT 39) 3)])
 (.cond (tT 40) (.seq (rg [oO 41 (.load 38 (tT 6)), oN (.store 38 (tT 4) (tT 41)), oO 5 (.assign (kI 2))])
 (.ret))
 (.skip)))
 (.seq (rg [oO 43 (.move (tT 7)), oO 44 (cF (.func 63) #[tT 43] #[5]), oO 42 (.move (tT 44)), oO 45 (.extract (tT 42) 0), oO 46 (.extract (tT 42) 1), oO 9 (.assign (tT 45)), oO 10 (.assign (tT 46))])
 (.seq (.reg true [] [⟨⟨some 47, .move (tT 1), none⟩, true, true⟩, ⟨⟨some 48, .move (tT 7), none⟩, true, true⟩, ⟨⟨some 49, .move (tT 0), none⟩, false, true⟩, ⟨⟨some 50, .move (tT 1), none⟩, false, true⟩, ⟨⟨some 51, .binOp .add 3 (tT 50) (kI 1) 3, none⟩, false, true⟩, ⟨⟨some 52, .slice 26 (tT 49) (some (tT 51)) none none, none⟩, false, true⟩, ⟨⟨some 53, .move (tT 9), none⟩, false, true⟩, ⟨⟨some 54, cF (.func 64) #[tT 52, tT 53] #[26, 3], none⟩, false, true⟩, ⟨⟨some 55, .move (tT 0), none⟩, true, true⟩, ⟨⟨some 56, .move (tT 1), none⟩, true, true⟩, ⟨⟨some 57, .binOp .add 3 (tT 56) (kI 1) 3, none⟩, true, true⟩, ⟨⟨some 58, .move (tT 9), none⟩, true, true⟩, ⟨⟨some 59, .binOp .add 3 (tT 57) (tT 58) 3, none⟩, true, true⟩, ⟨⟨some 60, .slice 26 (tT 55) (some (tT 59)) none none, none⟩, true, true⟩, ⟨⟨some 61, .move (tT 10), none⟩, true, true⟩, ⟨⟨some 62, cF (.func 64) #[tT 60, tT 61] #[26, 3], none⟩, false, true⟩, ⟨⟨some 63, .build 38 #[(0, .tmp 47), (1, .tmp 48), (2, .tmp 54), (3, .tmp 62)], none⟩, false, true⟩, ⟨⟨some 11, .alloc 38, none⟩, true, false⟩, oN (.store 38 (tT 11) (tT 63))])
 (.seq (.seq (rg [oO 64 (.move (tT 7)), oO 65 (.binOp .eql 5 (tT 64) (kB 2) 5), oO 66 (.move (tT 65)), oG 67 (.fieldAddr 38 (tT 11) 2) 66 true, oG 68 (.load 3 (tT 67)) 66 true, oG 69 (.binOp .gtr 3 (tT 68) (kI 1) 3) 66 true, oO 70 (.pick (tT 66) (tT 69) (.const (.bool false)))])
 (.cond (tT 70) (.seq (rg [oO 71 (.load 38 (tT 6)), oN (.store 38 (tT 4) (tT 71)), oO 5 (.assign (kI 5))])
 (.ret))
 (.skip)))
 (.seq (rg [oO 72 (.load 38 (tT 11)), oN (.store 38 (tT 4) (tT 72)), oO 5 (.assign (kI 0))])
 .ret)))))))))))
theorem F19 : Fun1 Tryz.prog 19 73 c19 [.cell 4 38, .tmp 5] := mkT Tryz.func19 rfl (by decide +kernel) Tryz.ntmps19 rfl (by kernel_rfl) rfl
def c64 : AC :=
.seq (rg [oO 4 (.assign (kI 0))])
 (.seq (rg [oO 5 (.assign (kI 0))])
 (.seq (.seq (rg [oO 6 (.assign (kI 0))])
 (.block 0 (.loop (.seq (.seq (rg [oO 7 (.move (tT 6)), oO 8 (.move (tT 1)), oO 9 (.binOp .lss 3 (tT 7) (tT 8) 3)])
 (.cond (tT 9) (.skip)
 (.exit 0)))
 (.seq (.block 1 (rg [oO 12 (.move (tT 5)), oO 13 (.binOp .mul 3 (kI 256) (tT 12) 3), oO 14 (.move (tT 0)), oO 15 (.move (tT 6)), oO 16 (.indexAddr 26 (tT 14) (tT 15)), oO 17 (.load 5 (tT 16)), oO 18 (.convert 5 3 (tT 17)), oO 19 (.binOp .add 3 (tT 13) (tT 18) 3), oO 5 (.assign (tT 19))]))
 (rg [oO 10 (.move (tT 6)), oO 11 (.binOp .add 3 (tT 10) (kI 1) 3), oO 6 (.assign (tT 11))]))))))
 (.seq (.seq (rg [oO 20 (.move (tT 1)), oO 21 (.binOp .eql 3 (tT 20) (kI 4) 3), oO 22 (.move (tT 21)), oG 23 (.move (tT 5)) 22 true, oG 24 (.binOp .gtr 3 (tT 23) (kI 2147483647) 3) 22 true, oO 25 (.pick (tT 22) (tT 24) (.const (.bool false)))])
 (.cond (tT 25) (rg [oO 26 (.move (tT 5)), oO 27 (.binOp .sub 3 (tT 26) (kI 4294967296) 3), oO 5 (.assign (tT 27))])
 (.skip)))
 (.seq (rg [oO 28 (.move (tT 5)), oO 4 (.assign (tT 28))])
 .ret))))
theorem F64 : Fun1 Tryz.prog 64 29 c64 [.tmp 4] := mkT Tryz.func64 rfl (by decide +kernel) Tryz.ntmps64 rfl (by kernel_rfl) rfl
def c22 : AC :=
.seq (rg [oO 2 (.assign (.const (.bool false)))])
 (.seq (rg [oO 3 (.move (tT 0)), oO 4 (.binOp .eql 5 (tT 3) (kB 19) 5), oO 5 (.move (tT 4)), oG 6 (.move (tT 0)) 5 false, oG 7 (.binOp .eql 5 (tT 6) (kB 20) 5) 5 false, oO 8 (.pick (tT 5) (.const (.bool true)) (tT 7)), oO 2 (.assign (tT 8))])
 .ret)
theorem F22 : Fun1 Tryz.prog 22 9 c22 [.tmp 2] := mkT Tryz.func22 rfl (by decide +kernel) Tryz.ntmps22 rfl (by kernel_rfl) rfl
def jumpsB (op : Nat) : Bool := decide (op = 19 ∨ op = 20)
theorem jumps83 (t : Ty) : PCall Tryz.prog 83 [.int .u8 t.val] (.bool (jumpsB t.val)) := by
  refine F83.pcall' rfl fun T hT => ?_
  simp -implicitDefEqProofs only [go_sem, mmB, c83, hT]
  exact DLe_bool (by rw [Bool.eq_iff_iff]; simp [jumpsB]; omega)
theorem refJumps22 (t : Ty) : PCall Tryz.prog 22 [.int .u8 t.val] (.bool (jumpsB t.val)) := by
  refine F22.pcall' rfl fun T hT => ?_
  simp -implicitDefEqProofs only [go_sem, mmB, c22, hT]
  exact DLe_bool (by rw [Bool.eq_iff_iff]; simp [jumpsB]; omega)
def numB : List Ty → Nat → Nat
  | [], n => n
  | b :: r, n => numB r (256 * n + b.val)
theorem numB_lt : ∀ (l : List Ty) (n : Nat), numB l n < 256 ^ l.length * (n + 1)
  | [], n => by simp [numB]
  | b :: r, n => by
    have := numB_lt r (256 * n + b.val)
    have hb := b.isLt
    rw [numB, List.length_cons, Nat.pow_succ]
    have h2 : 256 ^ r.length * (256 * n + b.val + 1) ≤ 256 ^ r.length * (256 * (n + 1)) := Nat.mul_le_mul_left _ (by omega)
    rw [Nat.mul_assoc]
    omega
theorem numB_snoc : ∀ (l : List Ty) (b : Ty) (n : Nat), numB (l ++ [b]) n = 256 * numB l n + b.val
  | [], b, n => rfl
  | a :: r, b, n => by rw [List.cons_append, numB, numB_snoc r b]; rfl
def opdB (l : List Ty) : Int := if l.length = 4 ∧ 2147483647 < numB l 0 then (numB l 0 : Int) - 4294967296 else numB l 0
theorem refTake64 (l : List Ty) (o : Own) (k : Nat) (hk : k ≤ 4) (hl : k ≤ l.length) : PCall Tryz.prog 64 [.slice o (rws eT l), .int .i64 k] (.int .i64 (opdB (l.take k))) := by
  refine F64.pcall' rfl fun T hT => ?_
  simp -implicitDefEqProofs only [go_sem, c64, hT]
  have hp : ∀ i : Nat, i ≤ 4 → (256 : Nat) ^ i ≤ 4294967296 := fun i hi => by
    have : i = 0 ∨ i = 1 ∨ i = 2 ∨ i = 3 ∨ i = 4 := by omega
    rcases this with rfl | rfl | rfl | rfl | rfl <;> decide
  refine loopL F64 (fun i : Nat => [(0, .slice o (rws eT l)), (1, .int .i64 k), (5, .int .i64 (numB (l.take i) 0)), (6, .int .i64 i)]) (fun _ => {}) (fun i => i ≤ k) (fun i => k - i) 0 (Nat.zero_le _) ?_ (St.le.nil _) ?_
  · simp -implicitDefEqProofs only [go_sem, hT, Int.ofNat_zero]
    all_goals rfl
  clear hT T
  rintro i hi T hT
  by_cases h : i < k
  · have h1 : ((i : Int) < k) = True := by simp; omega
    have hil : i < l.length := by omega
    have hR : (rws eT l)[i]?.getD [] = eT l[i] := rws_at hil
    have htk : l.take (i + 1) = l.take i ++ [l[i]] := List.take_succ_eq_append_getElem hil
    have hlt := numB_lt (l.take i) 0
    have hpi := hp i (by omega)
    rw [List.length_take, Nat.min_eq_left (by omega)] at hlt
    have hlt2 : numB (l.take i) 0 < 4294967296 := by omega
    have hns := numB_snoc (l.take i) l[i] 0
    rw [← htk] at hns
    have hb := l[i].isLt
    generalize l[i] = b at *
    have w1 : IntKind.wrap .i64 (256 * (numB (l.take i) 0 : Int)) = 256 * (numB (l.take i) 0 : Int) := wrap_i64 (by omega) (by omega)
    have w2 : IntKind.wrap .i64 (b.val : Int) = b.val := wrap_i64 (by omega) (by omega)
    have w3 : IntKind.wrap .i64 (256 * (numB (l.take i) 0 : Int) + b.val) = (numB (l.take (i + 1)) 0 : Int) := by rw [wrap_i64 (by omega) (by omega), hns]; simp
    have w4 : IntKind.wrap .i64 ((i : Int) + 1) = ((i + 1 : Nat) : Int) := by rw [wrap_i64 (by omega) (by omega)]; simp
    have hm : k - (i + 1) < k - i := by omega
    simp -implicitDefEqProofs only [go_sem, hT, h1, hR, eT, eT_len, w1, w2, w3]
    refine ⟨by omega, i + 1, h, hm, ⟨rfl, ?_⟩, St.le.refl _⟩
    rw [w4]
  · obtain rfl : i = k := by omega
    have h1 : ((i : Int) < i) = False := by simp
    have hlt := numB_lt (l.take i) 0
    have hpi := hp i hk
    have hlen : (l.take i).length = i := by rw [List.length_take, Nat.min_eq_left hl]
    rw [hlen] at hlt
    obtain ⟨n, hn⟩ : ∃ n, numB (l.take i) 0 = n := ⟨_, rfl⟩
    have hod : opdB (l.take i) = if i = 4 ∧ 2147483647 < n then (n : Int) - 4294967296 else n := by rw [opdB, hlen, hn]
    rw [hn] at hlt hT
    rw [hod]
    by_cases h4 : i = 4
    · subst h4
      have c4 : (((4 : Nat) : Int) = 4) = True := by simp
      by_cases hbig : 2147483647 < n
      · have hq : ((2147483647 : Int) < n) = True := by simp; omega
        have w5 : IntKind.wrap .i64 ((n : Int) - 4294967296) = (n : Int) - 4294967296 := wrap_i64 (by omega) (by omega)
        rw [if_pos ⟨rfl, hbig⟩]
        simp -implicitDefEqProofs only [go_sem, hT, h1, hq, w5, c4]
      · have hq : ((2147483647 : Int) < n) = False := by simp; omega
        rw [if_neg (fun h => hbig h.2)]
        simp -implicitDefEqProofs only [go_sem, hT, h1, hq, c4]
    · have hq : ((i : Int) = 4) = False := by simp; omega
      rw [if_neg (fun h => h4 h.1)]
      simp -implicitDefEqProofs only [go_sem, hT, h1, hq]
theorem or_byte (n b : Nat) (hn : n < 16777216) (hb : b < 256) : IntKind.wrap .i64 ((BitVec.ofInt 64 (256 * (n : Int)) ||| BitVec.ofInt 64 (b : Int)).toNat : Int) = ((256 * n + b : Nat) : Int) := by
  have e1 : BitVec.ofInt 64 (256 * (n : Int)) = BitVec.ofNat 64 (256 * n) := by
    rw [show (256 * (n : Int)) = ((256 * n : Nat) : Int) by simp]; exact BitVec.ofInt_natCast _ _
  have e2 : BitVec.ofInt 64 (b : Int) = BitVec.ofNat 64 b := BitVec.ofInt_natCast _ _
  rw [e1, e2, BitVec.toNat_or, BitVec.toNat_ofNat, BitVec.toNat_ofNat]
  rw [Nat.mod_eq_of_lt (show 256 * n < 2 ^ 64 by omega), Nat.mod_eq_of_lt (show b < 2 ^ 64 by omega)]
  have : 256 * n ||| b = 256 * n + b := by
    have := Nat.two_pow_add_eq_or_of_lt (i := 8) (b := b) (show b < 2 ^ 8 by omega) n
    rw [show (2 : Nat) ^ 8 = 256 from rfl] at this
    exact this.symm
  rw [this, wrap_i64 (by omega) (by omega)]
theorem wrap_i32n (n : Nat) (h : n < 4294967296) : IntKind.wrap .i32 (n : Int) = if 2147483647 < n then (n : Int) - 4294967296 else n := by
  have e : IntKind.wrap .i32 (n : Int) = if 2147483648 ≤ (n : Int) % 4294967296 then (n : Int) % 4294967296 - 4294967296 else (n : Int) % 4294967296 := by simp [IntKind.wrap, IntKind.bits, IntKind.signed]
  rw [e]; split <;> split <;> omega
theorem rws_drop {α : Type} {enc : α → List D} {l : List α} {k : Nat} : (rws enc l).drop k = rws enc (l.drop k) := by simp [rws]
theorem rows_len {α : Type} {enc : α → List D} {n : Nat} (h : ∀ a, (enc a).length = n) (l : List α) : ∀ e ∈ rws enc l, e.length = n := fun e he => by
  simp only [rws, List.mem_map] at he
  obtain ⟨a, _, rfl⟩ := he; exact h a
theorem take127 (l : List Ty) (o : Own) (k b : Nat) (hk : k = 0 ∨ k = 1 ∨ k = 2 ∨ k = 4) (hl : k ≤ l.length) :
    RCall Tryz.prog 127 [.int .i64 k, .ptr b 0] (({} : St).set b [.slice o (rws eT l)]) fun d s' => d = .int .i64 (opdB (l.take k)) ∧ s' = (({} : St).set b [.slice .no (rws eT (l.drop k))]) := by
  refine F127.rcall rfl fun T hT => ?_
  simp -implicitDefEqProofs only [go_sem, c127, hT]
  refine ⟨⟨by omega, rows_len eT_len l⟩, ?_⟩
  have hlen : (l.take k).length = k := by rw [List.length_take, Nat.min_eq_left hl]
  have hp : ∀ i : Nat, i ≤ 4 → (256 : Nat) ^ i ≤ 4294967296 := fun i hi => by
    have : i = 0 ∨ i = 1 ∨ i = 2 ∨ i = 3 ∨ i = 4 := by omega
    rcases this with rfl | rfl | rfl | rfl | rfl <;> decide
  have hp3 : ∀ i : Nat, i ≤ 3 → (256 : Nat) ^ i ≤ 16777216 := fun i hi => by
    have : i = 0 ∨ i = 1 ∨ i = 2 ∨ i = 3 := by omega
    rcases this with rfl | rfl | rfl | rfl <;> decide
  have hk4 : k ≤ 4 := by omega
  refine loopL F127 (fun i : Nat => [(0, .int .i64 k), (1, .ptr b 0), (4, .int .i64 (numB (l.take i) 0)), (9, .slice .no (rws eT (l.take k))), (10, .int .i64 k), (11, .int .i64 i)]) (fun _ => ({} : St).set b [.slice o (rws eT l)]) (fun i => i ≤ k) (fun i => k - i) 0 (Nat.zero_le _) ?_ (St.le.refl _) ?_
  · simp -implicitDefEqProofs only [go_sem, hT, Int.ofNat_zero, rws_take, rws_drop, List.drop_zero, hlen]
    all_goals rfl
  clear hT T
  rintro i hi T hT
  by_cases h : i < k
  · have h1 : ((i : Int) < k) = True := by simp; omega
    have hil : i < l.length := by omega
    have hik : i < (l.take k).length := by omega
    have hR : (rws eT (l.take k))[i]?.getD [] = eT l[i] := by rw [rws_at hik]; simp
    have htk : l.take (i + 1) = l.take i ++ [l[i]] := List.take_succ_eq_append_getElem hil
    have hlt := numB_lt (l.take i) 0
    have hpi := hp3 i (by omega)
    rw [List.length_take, Nat.min_eq_left (by omega)] at hlt
    have hns := numB_snoc (l.take i) l[i] 0
    rw [← htk] at hns
    have hb := l[i].isLt
    have hor := or_byte (numB (l.take i) 0) l[i].val (by omega) hb
    generalize l[i] = x at *
    have w0 : IntKind.wrap .i64 ((numB (l.take i) 0 : Int) * 256) = 256 * (numB (l.take i) 0 : Int) := by rw [wrap_i64 (by omega) (by omega)]; omega
    have w2 : IntKind.wrap .i64 (x.val : Int) = x.val := wrap_i64 (by omega) (by omega)
    have w4 : IntKind.wrap .i64 ((i : Int) + 1) = ((i + 1 : Nat) : Int) := by rw [wrap_i64 (by omega) (by omega)]; simp
    have hm : k - (i + 1) < k - i := by omega
    have h28 : (2 : Int) ^ min 8 64 = 256 := by decide
    rw [← hns] at hor
    simp -implicitDefEqProofs only [go_sem, hT, h1, hR, eT, eT_len, hlen, h28, w0, w2, hor]
    refine ⟨by omega, i + 1, h, hm, ?_, St.le.refl _⟩
    exact ⟨congrArg (D.int .i64) hor, by rw [w4]⟩
  · obtain rfl : i = k := by omega
    have h1 : ((i : Int) < i) = False := by simp
    have hlt := numB_lt (l.take i) 0
    have hpi := hp i hk4
    rw [hlen] at hlt
    obtain ⟨n, hn⟩ : ∃ n, numB (l.take i) 0 = n := ⟨_, rfl⟩
    have hod : opdB (l.take i) = if i = 4 ∧ 2147483647 < n then (n : Int) - 4294967296 else n := by rw [opdB, hlen, hn]
    rw [hn] at hlt hT
    rw [hod]
    have hdl : ((i : Int)).toNat = i := by simp
    by_cases h4 : i = 4
    · subst h4
      have c4 : (((4 : Nat) : Int) = 4) = True := by simp
      have hw32 := wrap_i32n n (by omega)
      have hw64 : IntKind.wrap .i64 (if 2147483647 < n then (n : Int) - 4294967296 else n) = if 2147483647 < n then (n : Int) - 4294967296 else n := by
        refine wrap_i64 ?_ ?_ <;> split <;> omega
      simp -implicitDefEqProofs only [go_sem, hT, h1, c4, rws_take, rws_drop, hw32, hw64, set_set]
      refine ⟨⟨by omega, rows_len eT_len l⟩, _, _, DLe.refl _, St.le.refl _, ?_, ?_⟩
      · simp
      · simp [rws_take, rws_drop, rws_len]
    · have hq : ((i : Int) = 4) = False := by simp; omega
      rw [if_neg (fun h => h4 h.1)]
      simp -implicitDefEqProofs only [go_sem, hT, h1, hq, rws_take, rws_drop, set_set]
      refine ⟨⟨by omega, rows_len eT_len l⟩, _, _, DLe.refl _, St.le.refl _, rfl, ?_⟩
      simp [rws_take, rws_drop, rws_len]
def ins0 : Ins := ⟨0, 0, 0, 0⟩
def decIn (b : List Ty) (at' : Nat) (op : Ty) : Ins := ⟨at', op, opdB ((b.drop (at' + 1)).take (wid op.val).1), opdB ((b.drop (at' + 1 + (wid op.val).1)).take (wid op.val).2)⟩
def decF (b : List Ty) (at' : Nat) : Ins × Nat :=
  if b.length < at' then (ins0, 1)
  else if b.length = at' then (ins0, 2)
  else if sizeOp ((b[at']?).getD 0).val = 0 then (ins0, 40)
  else if b.length - at' < sizeOp ((b[at']?).getD 0).val then (ins0, 2)
  else if ((b[at']?).getD 0).val = 2 ∧ 1 < (decIn b at' ((b[at']?).getD 0)).a then (ins0, 5)
  else (decIn b at' ((b[at']?).getD 0), 0)
theorem eIn_zero : [D.int .i64 0, D.int .u8 0, D.int .i64 0, D.int .i64 0] = eIn ins0 := rfl
theorem sizeOp_le (n : Nat) : sizeOp n ≤ 6 := by
  have := wid_le n
  unfold sizeOp; split <;> omega
theorem wid_vals (n : Nat) : ((wid n).1 = 0 ∨ (wid n).1 = 1 ∨ (wid n).1 = 2 ∨ (wid n).1 = 4) ∧ ((wid n).2 = 0 ∨ (wid n).2 = 1) := by
  unfold wid; repeat' split
  all_goals simp
def bYfaD0 := aI @eIn_len (aI @eIn_take (aI @set_set (aI @resM_cell @eIn_zero)))
theorem refDecode19 (b : List Ty) (o : Own) (at' : Nat) (hl : b.length ≤ 140737488355328) (ha : at' ≤ 140737488355328) : PCall Tryz.prog 19 [.slice o (rws eT b), .int .i64 at'] (.tup [.agg (eIn (decF b at').1), .int .i64 (decF b at').2]) := by
  have g0 : ((at' : Int) < 0) = False := by simp
  refine F19.pcall' rfl fun T hT => ?_
  simp -implicitDefEqProofs only [go_sem, c19, hT, bYfaD0]
  intro b4 b6 n1 n2
  by_cases h1 : b.length < at'
  · have q1 : ((b.length : Int) < at') = True := by simp; omega
    rw [decF, if_pos h1]
    simp -implicitDefEqProofs only [go_sem, hT, n1, n2, g0, q1, bYfaD0]
    all_goals exact DLe.refl _
  have q1 : ((b.length : Int) < at') = False := by simp; omega
  by_cases h2 : b.length = at'
  · have q2 : ((at' : Int) = b.length) = True := by simp; omega
    rw [decF, if_neg h1, if_pos h2]
    simp -implicitDefEqProofs only [go_sem, hT, n1, n2, g0, q1, q2, bYfaD0]
    all_goals exact DLe.refl _
  have q2 : ((at' : Int) = b.length) = False := by simp; omega
  have hlt : at' < b.length := by omega
  have hR : (rws eT b)[at']?.getD [] = eT b[at'] := rws_at hlt
  have hget : (b[at']?).getD 0 = b[at'] := by rw [List.getElem?_eq_getElem hlt]; rfl
  have hd : decF b at' = if sizeOp b[at'].val = 0 then (ins0, 40) else if b.length - at' < sizeOp b[at'].val then (ins0, 2) else if b[at'].val = 2 ∧ 1 < (decIn b at' b[at']).a then (ins0, 5) else (decIn b at' b[at'], 0) := by
    rw [decF, if_neg h1, if_neg h2, hget]
  rw [hd]
  clear hd hget
  generalize b[at'] = op at *
  have hsz := sizeOp_le op.val
  have hso : sizeOp op.val ≠ 0 → sizeOp op.val = 1 + (wid op.val).1 + (wid op.val).2 := fun h => by
    unfold sizeOp at h ⊢; split
    · rename_i h'; rw [if_pos h'] at h; exact absurd rfl h
    · rfl
  have hwl := wid_le op.val
  have wS : IntKind.wrap .i64 ((b.length : Int) - at') = (b.length : Int) - at' := wrap_i64 (by omega) (by omega)
  have b0 : (0 : Int) ≤ at' ∧ (at' : Int) < b.length := by omega
  simp -implicitDefEqProofs only [go_sem, hT, eIn_len, eIn_take, set_set, resM_cell, n1, n2, g0, q1, q2, hR, eT, eT_len]
  refine ⟨b0, ?_⟩
  refine callB_pure (refSize74 op) ?_
  by_cases h3 : sizeOp op.val = 0
  · have q3 : ((sizeOp op.val : Int) = 0) = True := by simp; omega
    rw [if_pos h3]
    simp -implicitDefEqProofs only [go_sem, hT, n1, n2, q3, bYfaD0]
    all_goals exact DLe.refl _
  have q3 : ((sizeOp op.val : Int) = 0) = False := by simp; omega
  rw [if_neg h3]
  by_cases h4 : b.length - at' < sizeOp op.val
  · have q4 : ((b.length : Int) - at' < sizeOp op.val) = True := by simp; omega
    rw [if_pos h4]
    simp -implicitDefEqProofs only [go_sem, hT, n1, n2, q3, wS, q4, bYfaD0]
    all_goals exact DLe.refl _
  have q4 : ((b.length : Int) - at' < sizeOp op.val) = False := by simp; omega
  rw [if_neg h4]
  have hs := hso h3
  have w1 : IntKind.wrap .i64 ((at' : Int) + 1) = ((at' + 1 : Nat) : Int) := by rw [wrap_i64 (by omega) (by omega)]; simp
  have w2 : IntKind.wrap .i64 (((at' + 1 : Nat) : Int) + (wid op.val).1) = ((at' + 1 + (wid op.val).1 : Nat) : Int) := by rw [wrap_i64 (by omega) (by omega)]; simp
  have t1 := refTake64 (b.drop (at' + 1)) .no (wid op.val).1 hwl.1 (by rw [List.length_drop]; omega)
  have t2 := refTake64 (b.drop (at' + 1 + (wid op.val).1)) .no (wid op.val).2 (by omega) (by rw [List.length_drop]; omega)
  have b1 : (0 : Int) ≤ ((at' + 1 : Nat) : Int) ∧ ((at' + 1 : Nat) : Int) ≤ b.length := by omega
  have b2 : (0 : Int) ≤ ((at' + 1 + (wid op.val).1 : Nat) : Int) ∧ ((at' + 1 + (wid op.val).1 : Nat) : Int) ≤ b.length := by omega
  obtain ⟨A, hA⟩ : ∃ A, opdB ((b.drop (at' + 1)).take (wid op.val).1) = A := ⟨_, rfl⟩
  obtain ⟨B, hB⟩ : ∃ B, opdB ((b.drop (at' + 1 + (wid op.val).1)).take (wid op.val).2) = B := ⟨_, rfl⟩
  have hdi : decIn b at' op = ⟨at', op, A, B⟩ := by rw [decIn, hA, hB]
  rw [hdi]
  rw [hA] at t1
  rw [hB] at t2
  simp -implicitDefEqProofs only [go_sem, hT, eIn_len, eIn_take, set_set, resM_cell, n1, n2, q3, wS, q4]
  refine callB_pure (wide113 op) ?_
  simp -implicitDefEqProofs only [go_sem, hT, eIn_len, eIn_take, set_set, resM_cell, n1, n2, w1, w2, rws_take, rws_drop, List.take_length]
  refine ⟨⟨by omega, rows_len eT_len b⟩, callB_pure t1 ?_⟩
  simp -implicitDefEqProofs only [go_sem, hT, eIn_len, eIn_take, set_set, resM_cell, n1, n2, w1, w2, rws_take, rws_drop, List.take_length]
  refine ⟨⟨by omega, rows_len eT_len b⟩, callB_pure t2 ?_⟩
  have j2 : (eIn ⟨at', op, A, B⟩)[2]? = some (.int .i64 A) := rfl
  simp -implicitDefEqProofs only [go_sem, hT, eIn_len, eIn_take, set_set, resM_cell, n1, n2]
  intro b11 m1 m2 m3 m4
  have hfold : [D.int .i64 at', D.int .u8 op.val, D.int .i64 A, D.int .i64 B] = eIn ⟨at', op, A, B⟩ := rfl
  by_cases h5 : op.val = 2
  · have q5 : ((op.val : Int) = 2) = True := by simp; omega
    by_cases h6 : 1 < A
    · have q6 : (1 < A) = True := by simp [h6]
      rw [if_pos ⟨h5, h6⟩]
      simp -implicitDefEqProofs only [go_sem, hT, eIn_len, eIn_take, set_set, resM_cell, n1, n2, m1, m2, m3, m4, q5, q6, hfold, j2, gdD]
      all_goals exact DLe.refl _
    · have q6 : (1 < A) = False := by simp; omega
      rw [if_neg (fun h => h6 h.2)]
      simp -implicitDefEqProofs only [go_sem, hT, eIn_len, eIn_take, set_set, resM_cell, n1, n2, m1, m2, m3, m4, q5, q6, hfold, j2, gdD]
      all_goals exact DLe.refl _
  · have q5 : ((op.val : Int) = 2) = False := by simp; omega
    rw [if_neg (fun h => h5 h.1)]
    simp -implicitDefEqProofs only [go_sem, hT, eIn_len, eIn_take, set_set, resM_cell, n1, n2, m1, m2, m3, m4, q5, hfold, j2, gdD]
    all_goals exact DLe.refl _
end Go.AL
